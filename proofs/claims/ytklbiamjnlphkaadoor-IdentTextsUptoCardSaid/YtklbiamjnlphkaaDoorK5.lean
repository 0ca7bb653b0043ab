/-
  '==' on flat composites is cell by cell.
-/
import Derived.Test.YtklbiamjnlphkaaDoorK4
set_option linter.unusedVariables false
set_option linter.unusedSimpArgs false
namespace Go.PM
open Go

section
variable {P : Program}

/-- The cells from 'off' on, so many. -/
def seg (X : List Value) (off n : Nat) : List PCell := ((X.drop off).take n).map .sc

theorem seg_append (X : List Value) (off a b : Nat) (h : off + a ≤ X.length) : seg X off (a + b) = seg X off a ++ seg X (off + a) b := by
  unfold seg
  rw [List.take_add, List.map_append, List.drop_drop]

theorem length_seg (X : List Value) (off n : Nat) (h : off + n ≤ X.length) : (seg X off n).length = n := by
  simp [seg]; omega

theorem seg_extract (X : Array Value) (o n off k : Nat) (h : off + k ≤ n) (h2 : o + n ≤ X.size) : seg (X.extract o (o + n)).toList off k = seg X.toList (o + off) k := by
  unfold seg
  congr 1
  rw [Array.toList_extract]
  apply List.ext_getElem?
  intro j
  simp only [List.getElem?_take, List.getElem?_drop, List.extract_eq_take_drop]
  split
  · rename_i hj
    rw [if_pos (by omega)]
    congr 1
    omega
  · rfl

theorem eqIn_sound : ∀ (d : Nat) (t : TypeId) (ks : List FK), flatT P d t = some ks → ∀ (D : Nat) (w : World) (X Y : Array Value) (off : Nat) (b : Bool), d ≤ D → off + ks.length ≤ X.size → off + ks.length ≤ Y.size →
    eqCells ks (seg X.toList off ks.length) (seg Y.toList off ks.length) = some b →
    ∃ x y, (part t X off).run P w = .ok x w ∧ (part t Y off).run P w = .ok y w ∧ (Op.equalIn D t x y).run P w = .ok b w := by
  intro d
  induction d with
  | zero => intro t ks h; simp [flatT] at h
  | succ d ih =>
    intro t ks h D w X Y off b hD hX hY he
    obtain ⟨D, rfl⟩ : ∃ D', D = D' + 1 := ⟨D - 1, by omega⟩
    simp only [flatT] at h
    cases hi : P.info? t with
    | none => simp [hi] at h
    | some i =>
      simp only [hi] at h
      cases hu : P.underlying t with
      | none => simp [hu] at h
      | some dd =>
        simp only [hu] at h
        cases dd <;> try (simp at h; done)
        all_goals try dsimp only at h
        case bool =>
          split at h
          · simp only [Option.some.injEq] at h; subst h
            simp only [List.length_singleton] at hX hY he
            have hx : off < X.size := by omega
            have hy : off < Y.size := by omega
            have sx : seg X.toList off 1 = [.sc X[off]] := by simp [seg, List.take_one, List.head?_drop, hx]
            have sy : seg Y.toList off 1 = [.sc Y[off]] := by simp [seg, List.take_one, List.head?_drop, hy]
            rw [sx, sy] at he
            refine ⟨X[off], Y[off], run_part_one t X off _ (by simp [hx]) hu rfl, run_part_one t Y off _ (by simp [hy]) hu rfl, ?_⟩
            revert he
            generalize X[off] = x
            generalize Y[off] = y
            intro he
            cases x <;> cases y <;> simp [eqCells] at he
            subst he
            exact run_equalIn_bool' w D t _ _ hu
          · cases h
        case int k0 =>
          split at h
          · simp only [Option.some.injEq] at h; subst h
            simp only [List.length_singleton] at hX hY he
            have hx : off < X.size := by omega
            have hy : off < Y.size := by omega
            have sx : seg X.toList off 1 = [.sc X[off]] := by simp [seg, List.take_one, List.head?_drop, hx]
            have sy : seg Y.toList off 1 = [.sc Y[off]] := by simp [seg, List.take_one, List.head?_drop, hy]
            rw [sx, sy] at he
            refine ⟨X[off], Y[off], run_part_one t X off _ (by simp [hx]) hu rfl, run_part_one t Y off _ (by simp [hy]) hu rfl, ?_⟩
            revert he
            generalize X[off] = x
            generalize Y[off] = y
            intro he
            cases x <;> cases y <;> simp [eqCells] at he
            obtain ⟨rfl, rfl⟩ := he
            exact run_equalIn_int w D t _ k0 _ _ hu
          · cases h
        case string =>
          split at h
          · simp only [Option.some.injEq] at h; subst h
            simp only [List.length_singleton] at hX hY he
            have hx : off < X.size := by omega
            have hy : off < Y.size := by omega
            have sx : seg X.toList off 1 = [.sc X[off]] := by simp [seg, List.take_one, List.head?_drop, hx]
            have sy : seg Y.toList off 1 = [.sc Y[off]] := by simp [seg, List.take_one, List.head?_drop, hy]
            rw [sx, sy] at he
            refine ⟨X[off], Y[off], run_part_one t X off _ (by simp [hx]) hu rfl, run_part_one t Y off _ (by simp [hy]) hu rfl, ?_⟩
            revert he
            generalize X[off] = x
            generalize Y[off] = y
            intro he
            cases x <;> cases y <;> simp [eqCells] at he
            subst he
            rw [beq_toListBytes]
            exact run_equalIn_string w D t _ _ hu
          · cases h
        case struct fs =>
          split at h
          · cases h
          · rename_i hst
            simp only [Bool.not_eq_true] at hst
            cases hf : flatFields (flatT P d) fs.toList 0 with
            | none => simp [hf] at h
            | some kf =>
              simp only [hf] at h
              split at h
              · rename_i hsz
                simp only [Option.some.injEq] at h; subst h
                have hagg : (P.underlying t).any isAggD = true := by simp [hu, isAggD]
                refine ⟨_, _, run_part_agg t X off _ hi hsz hagg, run_part_agg t Y off _ hi hsz hagg, ?_⟩
                have hfo : P.fieldsOf t = fs := by simp [Program.fieldsOf, hu]
                rw [run_equalIn_struct w D t _ _ (by rw [hfo]; exact hu) hst, hfo]
                -- the fields, one by one
                have key : ∀ (l : List Field) (o : Nat) (kl : List FK) (b : Bool), flatFields (flatT P d) l o = some kl → o + kl.length ≤ kf.length →
                    eqCells kl (seg X.toList (off + o) kl.length) (seg Y.toList (off + o) kl.length) = some b →
                    (Op.eqFields D (X.extract off (off + kf.length)) (Y.extract off (off + kf.length)) l).run P w = .ok b w := by
                  intro l
                  induction l with
                  | nil =>
                    intro o kl b hl _ hb
                    simp only [flatFields, Option.some.injEq] at hl
                    subst hl
                    simp [eqCells, seg] at hb
                    subst hb
                    simp [Op.eqFields]
                  | cons f l ihl =>
                    intro o kl b hl ho hb
                    simp only [flatFields] at hl
                    split at hl
                    · rename_i hc
                      simp only [Bool.and_eq_true, decide_eq_true_eq, bne_iff_ne, ne_eq] at hc
                      cases hk : flatT P d f.type with
                      | none => simp [hk] at hl
                      | some k =>
                        simp only [hk] at hl
                        cases hr : flatFields (flatT P d) l (o + k.length) with
                        | none => simp [hr] at hl
                        | some kr =>
                          simp only [hr, Option.map_some, Option.some.injEq] at hl
                          subst hl
                          simp only [List.length_append] at ho hb
                          rw [seg_append _ _ _ _ (by simp; omega), seg_append _ _ _ _ (by simp; omega)] at hb
                          obtain ⟨b1, b2, h1, h2, rfl⟩ := eqCells_append k kr _ _ _ _ b (length_seg _ _ _ (by simp; omega)) (length_seg _ _ _ (by simp; omega)) hb
                          obtain ⟨x, y, hx, hy, hxy⟩ := ih f.type k hk D w (X.extract off (off + kf.length)) (Y.extract off (off + kf.length)) f.offset b1 (by omega)
                            (by simp [hc.1]; omega) (by simp [hc.1]; omega) (by rw [seg_extract _ _ _ _ _ (by omega) (by omega), seg_extract _ _ _ _ _ (by omega) (by omega), hc.1]; exact h1)
                          have hr2 := ihl (o + k.length) kr b2 hr (by omega) (by rw [← Nat.add_assoc]; exact h2)
                          simp only [Op.eqFields]
                          rw [if_pos hc.2]
                          simp only [Sem.run_bind, hx, hy, hxy, Result.andThen_ok, Sem.run_ite]
                          cases b1
                          · simp
                          · simpa using hr2
                    · cases hl
                exact key fs.toList 0 kf b hf (by omega) (by simpa using he)
              · cases h
        case array n e =>
          cases hf : flatT P d e with
          | none => simp [hf] at h
          | some ke =>
            simp only [hf] at h
            split at h
            · rename_i hsz
              simp only [Option.some.injEq] at h
              have hkl : ks.length = n * ke.length := by rw [← h]; simp
              have hagg : (P.underlying t).any isAggD = true := by simp [hu, isAggD]
              have hsz' : i.size = ks.length := by omega
              refine ⟨_, _, run_part_agg t X off _ hi hsz' hagg, run_part_agg t Y off _ hi hsz' hagg, ?_⟩
              -- an element's cells
              have hesz : ∃ ie, P.info? e = some ie ∧ ie.size = ke.length := by
                cases d with
                | zero => simp [flatT] at hf
                | succ d =>
                  simp only [flatT] at hf
                  cases hie : P.info? e with
                  | none => simp [hie] at hf
                  | some ie =>
                    refine ⟨ie, rfl, ?_⟩
                    simp only [hie] at hf
                    cases hue : P.underlying e with
                    | none => simp [hue] at hf
                    | some de =>
                      simp only [hue] at hf
                      cases de <;> try (simp at hf; done)
                      all_goals try dsimp only at hf
                      case struct fs =>
                        split at hf
                        · cases hf
                        · cases hff : flatFields (flatT P d) fs.toList 0 with
                          | none => simp [hff] at hf
                          | some kf => simp only [hff] at hf; split at hf <;> simp at hf; subst hf; assumption
                      case array n2 e2 =>
                        cases hff : flatT P d e2 with
                        | none => simp [hff] at hf
                        | some kf => simp only [hff] at hf; split at hf <;> simp at hf; subst hf; simpa using ‹ie.size = n2 * kf.length›
                      all_goals (split at hf <;> simp at hf; subst hf; simpa using ‹ie.size = 1›)
              obtain ⟨ie, hie, hies⟩ := hesz
              simp only [Op.equalIn, Sem.run_bind, run_underlying hu, Result.andThen_ok]
              have hso : (sizeOf e).run P w = .ok ke.length w := by simp [sizeOf, typeInfo, hie, hies]
              simp only [hso, Result.andThen_ok]
              subst h
              rw [Std.Legacy.Range.forIn_eq_forIn_range']
              have hrange : List.range' ([:n] : Std.Legacy.Range).start ([:n] : Std.Legacy.Range).size ([:n] : Std.Legacy.Range).step = List.range' 0 n := by simp [Std.Legacy.Range.size]
              rw [hrange]
              have key : ∀ (m k : Nat) (b : Bool), k + m = n → eqCells (List.replicate m ke).flatten (seg X.toList (off + k * ke.length) (m * ke.length)) (seg Y.toList (off + k * ke.length) (m * ke.length)) = some b →
                  ((forIn (List.range' k m) (none, ()) fun i (__s : Option Bool × Unit) => (do
                    let a ← part e (X.extract off (off + (List.replicate n ke).flatten.length)) (i * ke.length)
                    let b ← part e (Y.extract off (off + (List.replicate n ke).flatten.length)) (i * ke.length)
                    let r ← Op.equalIn D e a b
                    if (!r) = true then pure (ForInStep.done (some false, ())) else pure (ForInStep.yield (none, ())) : Sem (ForInStep (Option Bool × Unit)))) : Sem (Option Bool × Unit)).run P w =
                    .ok (if b then none else some false, ()) w := by
                intro m
                induction m with
                | zero =>
                  intro k b _ hb
                  simp [eqCells, seg] at hb
                  subst hb
                  simp
                | succ m ihm =>
                  intro k b hk hb
                  have hkn : (k + 1) * ke.length ≤ n * ke.length := Nat.mul_le_mul_right _ (by omega)
                  have hkm : (k + 1 + m) * ke.length = n * ke.length := by rw [show k + 1 + m = n by omega]
                  rw [Nat.succ_mul] at hkn
                  simp only [Nat.add_mul, Nat.one_mul] at hkm
                  rw [List.replicate_succ, List.flatten_cons, Nat.succ_mul, Nat.add_comm (m * ke.length), seg_append _ _ _ _ (by simp; omega), seg_append _ _ _ _ (by simp; omega)] at hb
                  obtain ⟨b1, b2, h1, h2, rfl⟩ := eqCells_append ke _ _ _ _ _ b (length_seg _ _ _ (by simp; omega)) (length_seg _ _ _ (by simp; omega)) hb
                  obtain ⟨x, y, hx, hy, hxy⟩ := ih e ke hf D w (X.extract off (off + (List.replicate n ke).flatten.length)) (Y.extract off (off + (List.replicate n ke).flatten.length)) (k * ke.length) b1 (by omega)
                    (by simp at hkl ⊢; omega) (by simp at hkl ⊢; omega) (by rw [seg_extract _ _ _ _ _ (by rw [hkl]; omega) (by omega), seg_extract _ _ _ _ _ (by rw [hkl]; omega) (by omega)]; exact h1)
                  have hr2 := ihm (k + 1) b2 (by omega) (by rw [Nat.succ_mul, ← Nat.add_assoc]; exact h2)
                  simp only [List.range'_succ, List.forIn_cons, Sem.run_bind, hx, hy, hxy, Result.andThen_ok, Sem.run_ite]
                  cases b1
                  · simp
                  · simpa using hr2
              have := key n 0 b (by omega) (by simpa [hkl] using he)
              rw [this]
              cases b <;> simp
            · cases h

end
end Go.PM
