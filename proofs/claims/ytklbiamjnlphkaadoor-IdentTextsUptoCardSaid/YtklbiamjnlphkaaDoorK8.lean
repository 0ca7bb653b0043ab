/-
  All operations that yield a value at once.
-/
import Derived.Test.YtklbiamjnlphkaaDoorK7
set_option linter.unusedVariables false
set_option linter.unusedSimpArgs false
namespace Go.PM
open Go

section
variable {P : Program} {w : World} {M : Nat → Prop} {ρ : Place}

theorem intOf_sound {v : PVal} {n : Int} {x : Value} (hx : VV w M ρ v x) (h : intOf? v = some n) : ∃ k, x = .int k n := by
  unfold intOf? at h
  split at h
  · simp only [Option.some.injEq] at h; subst h
    exact ⟨_, hx.inv_sc.1⟩
  · cases h

theorem aggN_spec {t : TypeId} {k : Option Nat} (h : aggN P t = some k) : ∃ i d, P.info? t = some i ∧ P.underlying t = some d ∧
    i.size = k.getD 1 ∧ isAggD d = k.isSome := by
  unfold aggN at h
  cases hi : P.info? t with
  | none => simp [hi] at h
  | some i =>
    simp only [hi] at h
    cases hu : P.underlying t with
    | none => simp [hu] at h
    | some d =>
      simp only [hu] at h
      refine ⟨i, d, rfl, rfl, ?_⟩
      cases d <;> simp only [Option.some.injEq] at h <;> first
        | (subst h; exact ⟨rfl, rfl⟩)
        | (split at h
           · rename_i h1
             simp only [Option.some.injEq] at h; subst h
             exact ⟨h1, rfl⟩
           · cases h)

theorem run_isAgg {t : TypeId} {d : TypeDesc} (hu : P.underlying t = some d) : (isAgg t).run P w = .ok (isAggD d) w := by
  unfold isAgg
  simp only [Sem.run_bind, run_underlying hu, Result.andThen_ok]
  cases d <;> rfl

theorem partP_sound {cs : List PCell} {X : List Value} (hX : VCs w M ρ cs X) {t : TypeId} {k : Option Nat} (hk : aggN P t = some k) {off : Nat} {v : PVal} (h : partP cs off k = some v) :
    ∃ x, (part t X.toArray off).run P w = .ok x w ∧ VV w M ρ v x := by
  obtain ⟨i, d, hi, hu, hd⟩ := aggN_spec hk
  cases k with
  | none =>
    simp only [partP] at h
    cases hc : cs[off]? with
    | none => simp [hc] at h
    | some c =>
      simp only [hc, Option.map_some, Option.some.injEq] at h
      subst h
      obtain ⟨x, hx, hv⟩ := hX.get hc
      exact ⟨x, run_part_one t X.toArray off x (by simpa using hx) hu hd.2, .c _ _ hv⟩
  | some n =>
    simp only [partP] at h
    split at h
    · rename_i hn
      simp only [Option.some.injEq] at h
      subst h
      refine ⟨_, run_part_agg t X.toArray off n hi hd.1 (by simp [hu, hd.2]), ?_⟩
      have : X.toArray.extract off (off + n) = ((X.drop off).take n).toArray := by simp
      rw [this]
      exact .agg _ _ ((hX.drop off).take n)
    · cases h

/-- A variable that nobody writes to is read. -/
theorem loadTp_sound {cs : List PCell} {off : Nat} {X : Value} (hX : VC w M ρ (.tp cs off) X) {t : TypeId} {k : Option Nat} (hk : aggN P t = some k) {v : PVal} (h : partP cs off k = some v) :
    ∃ x, (Instr.loadAt t X).run P w = .ok x w ∧ VV w M ρ v x := by
  cases hX with
  | tp _ _ b o xs hb hw hc =>
    obtain ⟨i, d, hi, hu, hd⟩ := aggN_spec hk
    cases k with
    | none =>
      simp only [partP] at h
      cases hcc : cs[off]? with
      | none => simp [hcc] at h
      | some c =>
        simp only [hcc, Option.map_some, Option.some.injEq] at h
        subst h
        have hlt : off < cs.length := (List.getElem?_eq_some_iff.1 hcc).1
        refine ⟨xs off, ?_, .c _ _ (hc off c hcc)⟩
        simp only [Instr.loadAt, Instr.sureAddr, Sem.run_bind, Sem.run_pure, Result.andThen_ok, loadVar, run_isAgg hu, hd.2, Option.isSome_none, Bool.false_eq_true, if_false]
        rw [run_load, hw off hlt]
    | some n =>
      simp only [partP] at h
      split at h
      · rename_i hn
        simp only [Option.some.injEq] at h
        subst h
        refine ⟨.agg ((List.range n).map fun j => xs (off + j)).toArray, ?_, .agg _ _ ?_⟩
        · have hl := run_loadCells (P := P) w ⟨b, o + off, none⟩ n (fun j => xs (off + j)) (fun j hj => by rw [add_at, Nat.add_assoc]; exact hw _ (by omega))
          simp only [Instr.loadAt, Instr.sureAddr, Sem.run_bind, Sem.run_pure, Result.andThen_ok, loadVar, run_isAgg hu, hd.2, Option.isSome_some, if_true]
          have hs : (sizeOf t).run P w = .ok n w := by simp [sizeOf, typeInfo, hi, hd.1]
          simp [hs, hl]
        · refine ⟨by simp; omega, fun j c hj => ?_⟩
          rw [List.getElem?_take] at hj
          split at hj
          · rename_i hjn
            rw [List.getElem?_drop] at hj
            have := hc _ c hj
            simpa [List.getD, hjn] using this
          · cases hj
      · cases h

theorem indexAddrP_sound {t : TypeId} {x i v : PVal} {X I : Value} (hx : VV w M ρ x X) (hi : VV w M ρ i I) (h : indexAddrP P t x i = some v) :
    ∃ V, (Instr.indexAt t X I).run P w = .ok V w ∧ VV w M ρ v V := by
  unfold indexAddrP at h
  split at h
  · cases h
  · rename_i n hn
    obtain ⟨k, rfl⟩ := intOf_sound hi hn
    split at h
    · -- a row's array
      rename_i r ver off
      split at h
      · rename_i len sz ha
        split at h
        · rename_i hr
          simp only [Option.some.injEq] at h; subst h
          obtain ⟨e, ie, hu, hie, hs⟩ := arrOf_spec ha
          cases hx.inv_c with
          | ptr _ _ _ b v0 a hl hv hh =>
            refine ⟨.pointer (some (a.add (n.toNat * sz))), ?_, .c _ _ (.ptr r ver _ b v0 _ hl hv fun e => by rw [hh e, add_at])⟩
            have hso : (sizeOf e).run P w = .ok sz w := by simp [sizeOf, typeInfo, hie, hs]
            simp [Instr.indexAt, asIntOf, run_underlying hu, Instr.sureAddr, hr, hso]
        · cases h
      · cases h
    · -- a tree's array
      rename_i cs off
      split at h
      · rename_i len sz ha
        split at h
        · rename_i hr
          simp only [Option.some.injEq] at h; subst h
          obtain ⟨e, ie, hu, hie, hs⟩ := arrOf_spec ha
          cases hx.inv_c with
          | tp _ _ b o xs hb hw hc =>
            refine ⟨.pointer (some ((⟨b, o + off, none⟩ : Addr).add (n.toNat * sz))), ?_, .c _ _ ?_⟩
            · have hso : (sizeOf e).run P w = .ok sz w := by simp [sizeOf, typeInfo, hie, hs]
              simp [Instr.indexAt, asIntOf, run_underlying hu, Instr.sureAddr, hr, hso]
            · rw [add_at, Nat.add_assoc]
              exact .tp cs _ b o xs hb hw hc
        · cases h
      · cases h
    · -- a row
      rename_i r ver off sz len
      split at h
      · rename_i e sz' bytes he
        split at h
        · rename_i hr
          obtain ⟨rfl, hr⟩ := hr
          simp only [Option.some.injEq] at h; subst h
          obtain ⟨hu, ie, hie, hs, _⟩ := slOf_spec he
          cases hx.inv_c with
          | sl _ _ _ _ _ b v0 a cap hl hv hcap hh =>
            refine ⟨.pointer (some (a.add (n.toNat * sz'))), ?_, .c _ _ (.ptr r ver _ b v0 _ hl hv fun e => by rw [(hh e).1, add_at])⟩
            have hso : (sizeOf e).run P w = .ok sz' w := by simp [sizeOf, typeInfo, hie, hs]
            simp [Instr.indexAt, asIntOf, run_underlying hu, Instr.sureAddr, hr, hso]
        · cases h
      · cases h
    · -- a tree
      rename_i tt sz els
      split at h
      · rename_i e sz' bytes he
        split at h
        · rename_i hr
          obtain ⟨rfl, hr⟩ := hr
          cases hel : els[n.toNat]? with
          | none => simp [hel] at h
          | some c =>
            simp only [hel, Option.map_some, Option.some.injEq] at h; subst h
            obtain ⟨hu, ie, hie, hs, _⟩ := slOf_spec he
            have hlt : n.toNat < els.length := (List.getElem?_eq_some_iff.1 hel).1
            cases hx.inv_c with
            | tr _ _ _ a cap xs h1 h2 h3 h4 h5 =>
              rcases h4 with h4 | ⟨b, o, rfl, hM, hb, hw⟩
              · subst h4; simp at hlt
              · refine ⟨.pointer (some ((⟨b, o, none⟩ : Addr).add (n.toNat * sz'))), ?_, .c _ _ ?_⟩
                · have hso : (sizeOf e).run P w = .ok sz' w := by simp [sizeOf, typeInfo, hie, hs]
                  have hr2 : n < (els.length : Int) := by omega
                  simp [Instr.indexAt, asIntOf, run_underlying hu, Instr.sureAddr, hr, hr2, hso]
                · rw [add_at]
                  have hcl : c.length = sz' := h3 c (List.mem_of_getElem? hel)
                  have hmul : (n.toNat + 1) * sz' ≤ els.length * sz' := Nat.mul_le_mul_right _ (by omega)
                  rw [Nat.succ_mul] at hmul
                  refine .tp c 0 b (o + n.toNat * sz') (fun j => xs (n.toNat * sz' + j)) ⟨hM, hb⟩ (fun j hj => ?_) (fun j c' hj => ?_)
                  · rw [Nat.add_assoc]
                    exact hw _ (by rw [length_flatten_sz els h3]; omega)
                  · exact h5 _ _ (by rw [flatten_get_sz els h3 hel j (by rw [← hcl]; exact (List.getElem?_eq_some_iff.1 hj).1)]; exact hj)
        · cases h
      · cases h
    · cases h

theorem fieldAddr_sound {s : TypeId} {f off : Nat} (hf : fOff P s f = some off) {a : Addr} : (Instr.fieldAt s (.pointer (some a)) f).run P w = .ok (.pointer (some (a.add off))) w := by
  unfold fOff at hf
  split at hf
  · rename_i fs hu
    split at hf
    · rename_i fd hfd
      split at hf
      · rename_i i hi
        split at hf
        · cases hf
        · rename_i hs
          simp only [Option.some.injEq] at hf; subst hf
          have hso : (sizeOf fd.type).run P w = .ok i.size w := by simp [sizeOf, typeInfo, hi]
          simp [Instr.fieldAt, run_underlying hu, hfd, Instr.sureAddr, fieldPlace, hso, hs]
      · cases hf
    · cases hf
  · cases hf

theorem field_sound {t : TypeId} {f off : Nat} {k : Option Nat} (hf : fPart P t f = some (off, k)) {cs : List PCell} {X : List Value} (hX : VCs w M ρ cs X) {v : PVal} (h : partP cs off k = some v) :
    ∃ x, (Instr.field t (.agg X.toArray) f).run P w = .ok x w ∧ VV w M ρ v x := by
  unfold fPart at hf
  split at hf
  · rename_i fs hu
    split at hf
    · rename_i fd hfd
      cases hn : aggN P fd.type with
      | none => simp [hn] at hf
      | some k' =>
        simp only [hn, Option.map_some, Option.some.injEq, Prod.mk.injEq] at hf
        obtain ⟨rfl, rfl⟩ := hf
        obtain ⟨x, hx, hv⟩ := partP_sound hX hn h
        exact ⟨x, by simp [Instr.field, run_underlying hu, hfd, asAgg, hx], hv⟩
    · cases hf
  · cases hf

end
end Go.PM
