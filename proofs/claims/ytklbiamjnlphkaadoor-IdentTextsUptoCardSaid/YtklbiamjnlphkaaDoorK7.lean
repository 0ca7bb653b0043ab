/-
  Slices, places, parts.
-/
import Derived.Test.YtklbiamjnlphkaaDoorK6
set_option linter.unusedVariables false
set_option linter.unusedSimpArgs false
namespace Go.PM
open Go

/-! ### Rows of elements -/
theorem length_flatten_sz {α : Type} {sz : Nat} : ∀ (els : List (List α)), (∀ e ∈ els, e.length = sz) → els.flatten.length = els.length * sz
  | [], _ => by simp
  | e :: els, h => by
    rw [List.flatten_cons, List.length_append, h e (by simp), length_flatten_sz els fun x hx => h x (by simp [hx])]
    simp [Nat.succ_mul, Nat.add_comm]

theorem flatten_drop_sz {α : Type} {sz : Nat} : ∀ (els : List (List α)) (l : Nat), (∀ e ∈ els, e.length = sz) → (els.drop l).flatten = els.flatten.drop (l * sz)
  | [], l, _ => by simp
  | e :: els, 0, _ => by simp
  | e :: els, l + 1, h => by
    have := flatten_drop_sz els l fun x hx => h x (by simp [hx])
    rw [List.drop_succ_cons, this, List.flatten_cons, Nat.succ_mul, Nat.add_comm (l * sz) sz, ← List.drop_drop, List.drop_append_of_le_length (by rw [h e (by simp)]; exact Nat.le_refl _)]
    rw [show e.drop sz = [] from List.drop_of_length_le (by rw [h e (by simp)]; exact Nat.le_refl _)]
    simp

theorem flatten_take_sz {α : Type} {sz : Nat} : ∀ (els : List (List α)) (l : Nat), (∀ e ∈ els, e.length = sz) → (els.take l).flatten = els.flatten.take (l * sz)
  | [], l, _ => by simp
  | e :: els, 0, _ => by simp
  | e :: els, l + 1, h => by
    have := flatten_take_sz els l fun x hx => h x (by simp [hx])
    rw [List.take_succ_cons, List.flatten_cons, this, List.flatten_cons, Nat.succ_mul, Nat.add_comm (l * sz) sz, List.take_append, h e (by simp)]
    rw [show e.take (sz + l * sz) = e from List.take_of_length_le (by rw [h e (by simp)]; omega)]
    congr 2
    omega

theorem flatten_get_sz {α : Type} {sz : Nat} (els : List (List α)) (h : ∀ e ∈ els, e.length = sz) {i : Nat} {e : List α} (hi : els[i]? = some e) (j : Nat) (hj : j < sz) : els.flatten[i * sz + j]? = e[j]? := by
  have h1 : (els.drop i).flatten = els.flatten.drop (i * sz) := flatten_drop_sz els i h
  have hlt : i < els.length := (List.getElem?_eq_some_iff.1 hi).1
  have h2 : els.drop i = e :: els.drop (i + 1) := by
    rw [List.drop_eq_getElem_cons hlt]
    congr 1
    exact Option.some.inj ((List.getElem?_eq_getElem hlt).symm.trans hi)
  rw [← List.getElem?_drop, ← h1, h2, List.flatten_cons, List.getElem?_append_left]
  rw [h e (List.mem_of_getElem? hi)]; exact hj

section
variable {P : Program} {w : World} {M : Nat → Prop} {ρ : Place}

theorem add_at (b o n : Nat) : (⟨b, o, none⟩ : Addr).add n = ⟨b, o + n, none⟩ := by
  unfold Addr.add
  split
  · rename_i h; subst h; rfl
  · rfl

/-- A bound and its operand. -/
def IntOpt (lo : Option Int) (v : Option Value) : Prop :=
  (lo = none ∧ v = none) ∨ ∃ k n, lo = some n ∧ v = some (.int k n)

theorem bnd_sound {ts : List PVal} {a : Act} (hT : VVs w M ρ ts a.tmps.toList) {x : Option Operand} {lo : Option Int} (h : bnd (evP ts) x = some lo) : IntOpt lo (x.map a.eval) := by
  cases x with
  | none => simp only [bnd, Option.some.injEq] at h; exact .inl ⟨h.symm, rfl⟩
  | some x =>
    simp only [bnd] at h
    have hx := VV.ev hT x
    revert h hx
    generalize evP ts x = v
    intro h hx
    unfold intOf? at h
    split at h
    · rename_i k n
      simp only [Option.map_some, Option.some.injEq] at h
      obtain ⟨hx', _⟩ := hx.inv_sc
      exact .inr ⟨k, n, h.symm, by simp [hx']⟩
    · simp at h

theorem bounds_sound {n cap : Nat} {lo hi mx : Option Int} {l h : Nat} {e : Bool} (hb : bounds n lo hi mx = some (l, h, e)) (hc : n ≤ cap) {vlo vhi vmx : Option Value}
    (h1 : IntOpt lo vlo) (h2 : IntOpt hi vhi) (h3 : IntOpt mx vmx) (s : Bool) :
    ∃ m : Nat, (Instr.sliceBounds s n cap vlo vhi vmx).run P w = .ok (l, h, m) w ∧ l ≤ h ∧ h ≤ n ∧ h ≤ m ∧ m ≤ cap ∧ (mx = none → m = cap) ∧ (e = true → m = h) := by
  unfold bounds at hb
  simp only [Bool.and_eq_true] at hb
  split at hb
  · cases hb
  · rename_i hm
    split at hb
    · rename_i hr
      simp only [Option.some.injEq, Prod.mk.injEq] at hb
      obtain ⟨rfl, rfl, rfl⟩ := hb
      obtain ⟨r1, r2, r3, r4⟩ := hr
      unfold Instr.sliceBounds
      rcases h3 with ⟨rfl, rfl⟩ | ⟨k3, m3, rfl, rfl⟩
      · refine ⟨cap, ?_, by omega, by simp at r3 r4; omega, by simp at r3 r4; omega, Nat.le_refl _, fun _ => rfl, fun he => by simp at he⟩
        rcases h2 with ⟨rfl, rfl⟩ | ⟨k2, m2, rfl, rfl⟩
        · rcases h1 with ⟨rfl, rfl⟩ | ⟨k1, m1, rfl, rfl⟩
          · simp
          · simp at r1 r2
            simp [run_sliceBound w k1 m1 n _ r1 r2]
        · simp at r2 r3 r4
          rcases h1 with ⟨rfl, rfl⟩ | ⟨k1, m1, rfl, rfl⟩
          · simp at r2
            simp [run_sliceBound w k2 m2 cap _ r2 (by omega)]
          · simp at r1 r2
            simp [run_sliceBound w k2 m2 cap _ (by omega) (by omega), run_sliceBound w k1 m1 m2.toNat _ r1 (by omega)]
      · rcases h2 with ⟨rfl, rfl⟩ | ⟨k2, m2, rfl, rfl⟩
        · simp at hm
        · simp at r2 r3 r4
          refine ⟨m3.toNat, ?_, by simp only [Option.getD_some]; omega, by simp only [Option.getD_some]; omega, by simp only [Option.getD_some]; omega, by omega, fun e => by simp at e, fun he => by simp at he; rw [he]; rfl⟩
          rcases h1 with ⟨rfl, rfl⟩ | ⟨k1, m1, rfl, rfl⟩
          · simp at r2
            simp [run_sliceBound w k3 m3 cap _ (by omega) (by omega), run_sliceBound w k2 m2 m3.toNat _ r2 (by omega)]
          · simp at r1 r2
            simp [run_sliceBound w k3 m3 cap _ (by omega) (by omega), run_sliceBound w k2 m2 m3.toNat _ (by omega) (by omega), run_sliceBound w k1 m1 m2.toNat _ r1 (by omega)]
    · cases hb

theorem slOf_spec {t : TypeId} {e : TypeId} {sz bytes : Nat} (h : slOf P t = some (e, sz, bytes)) : P.underlying t = some (.slice e) ∧ ∃ i, P.info? e = some i ∧ i.size = sz ∧ i.bytes = bytes := by
  unfold slOf at h
  split at h
  · rename_i e' hu
    split at h
    · rename_i i hi
      simp only [Option.some.injEq, Prod.mk.injEq] at h
      obtain ⟨rfl, rfl, rfl⟩ := h
      exact ⟨hu, i, hi, rfl, rfl⟩
    · cases h
  · cases h

theorem arrOf_spec {t : TypeId} {n sz : Nat} (h : arrOf P t = some (n, sz)) : ∃ e i, P.underlying t = some (.array n e) ∧ P.info? e = some i ∧ i.size = sz := by
  unfold arrOf at h
  split at h
  · rename_i n' e' hu
    split at h
    · rename_i i hi
      simp only [Option.some.injEq, Prod.mk.injEq] at h
      obtain ⟨rfl, rfl⟩ := h
      exact ⟨e', i, hu, hi, rfl⟩
    · cases h
  · cases h

/-- A part of a tree. -/
theorem VC.tr_sub {t t' : Bool} {sz : Nat} {els : List (List PCell)} {x : Value} (h : VC w M ρ (.tr t sz els) x) (l k : Nat) (hl : l + k ≤ els.length) :
    ∃ a cap, x = .slice a els.length cap ∧ els.length ≤ cap ∧ (t = true → cap = els.length) ∧
      ∀ (m : Nat), l + k ≤ m → m ≤ cap → (t' = true → m = l + k) → VC w M ρ (.tr t' sz ((els.drop l).take k)) (.slice (if m = l then a else a.map (·.add (l * sz))) k (m - l)) := by
  cases h with
  | tr _ _ _ a cap xs hn ht hsz ha hc =>
    refine ⟨a, cap, rfl, hn, ht, fun m h1 h2 h3 => ?_⟩
    have hlen : ((els.drop l).take k).length = k := by simp; omega
    have hfl : ((els.drop l).take k).flatten = (els.flatten.drop (l * sz)).take (k * sz) := by
      rw [flatten_take_sz _ _ fun e he => hsz e (List.mem_of_mem_drop he), flatten_drop_sz _ _ hsz]
    have hmk := VC.tr (w := w) (M := M) (ρ := ρ) t' sz ((els.drop l).take k) (if m = l then a else a.map (·.add (l * sz))) (m - l) (fun j => xs (l * sz + j)) (by rw [hlen]; omega)
      (fun e => by rw [hlen]; have := h3 e; omega) (fun e he => hsz e (List.mem_of_mem_drop (List.mem_of_mem_take he))) ?_ ?_
    · rwa [hlen] at hmk
    · rcases ha with ha | ⟨b, o, rfl, hM, hb, hw⟩
      · left; subst ha; simp
      · rcases Nat.eq_zero_or_pos k with hk | hk
        · left; subst hk; simp
        · right
          refine ⟨b, o + l * sz, ?_, hM, hb, fun j hj => ?_⟩
          · rw [if_neg (by omega)]; simp [add_at]
          · rw [hfl] at hj
            simp only [List.length_take, List.length_drop] at hj
            rw [Nat.add_assoc]
            exact hw _ (by omega)
    · intro j c hj
      rw [hfl, List.getElem?_take] at hj
      split at hj
      · rw [List.getElem?_drop] at hj
        exact hc _ _ hj
      · cases hj

theorem sliceP_sound {t : TypeId} {x v : PVal} {X : Value} {lo hi mx : Option Int} (hx : VV w M ρ x X) (h : sliceP P t x lo hi mx = some v) {vlo vhi vmx : Option Value}
    (h1 : IntOpt lo vlo) (h2 : IntOpt hi vhi) (h3 : IntOpt mx vmx) : ∃ V, (Instr.sliceAt t X vlo vhi vmx).run P w = .ok V w ∧ VV w M ρ v V := by
  unfold sliceP at h
  split at h
  · -- a text
    rename_i s
    obtain ⟨rfl, _⟩ := hx.inv_sc
    split at h
    · rename_i hu
      split at h
      · cases h
      · rename_i hmx
        cases hb : bounds s.size lo hi none with
        | none => simp [hb] at h
        | some r =>
          obtain ⟨l, hh, e⟩ := r
          simp only [hb, Option.map_some, Option.some.injEq] at h
          subst h
          have hmx' : mx = none := by cases mx <;> simp at hmx ⊢
          subst hmx'
          rcases h3 with ⟨_, rfl⟩ | ⟨_, _, h3, _⟩
          · obtain ⟨m, hm, _⟩ := bounds_sound (P := P) (w := w) hb (Nat.le_refl _) h1 h2 (.inl ⟨rfl, rfl⟩) false
            refine ⟨_, ?_, .c _ _ (.sc _ rfl)⟩
            simp [Instr.sliceAt, run_underlying hu, Instr.slice, hm]
          · cases h3
    · cases h
  · -- nil
    obtain ⟨rfl, _⟩ := hx.inv_sc
    split at h
    · rename_i e0 he
      obtain ⟨e, sz, bytes⟩ := e0
      obtain ⟨hu, i, hi', hs, _⟩ := slOf_spec he
      cases hb : bounds 0 lo hi mx with
      | none => simp [hb] at h
      | some r =>
        obtain ⟨l, hh, e'⟩ := r
        simp only [hb, Option.map_some, Option.some.injEq] at h
        subst h
        obtain ⟨m, hm, q1, q2, q3, q4, q5, q6⟩ := bounds_sound (P := P) (w := w) hb (Nat.le_refl _) h1 h2 h3 true
        have hl0 : l = 0 := by omega
        have hh0 : hh = 0 := by omega
        have hm0 : m = 0 := by omega
        subst hl0; subst hh0; subst hm0
        refine ⟨.slice none 0 0, ?_, .c _ _ (.sc _ rfl)⟩
        simp [Instr.sliceAt, run_underlying hu, Instr.slice, hm, sizeOf, typeInfo, hi']
    · cases h
  · -- a tree
    rename_i tt sz els
    split at h
    · rename_i e sz' bytes he
      split at h
      · rename_i hsz
        subst hsz
        obtain ⟨hu, i, hi', hs, _⟩ := slOf_spec he
        cases hb : bounds els.length lo hi mx with
        | none => simp [hb] at h
        | some r =>
          obtain ⟨l, hh, e'⟩ := r
          simp only [hb, Option.map_some, Option.some.injEq] at h
          subst h
          have hl : l ≤ hh ∧ hh ≤ els.length := by
            obtain ⟨m, _, q1, q2, _⟩ := bounds_sound (P := P) (w := w) (cap := els.length) hb (Nat.le_refl _) h1 h2 h3 true
            exact ⟨q1, q2⟩
          obtain ⟨a, cap, rfl, hcap, htt, hsub⟩ := VC.tr_sub (t' := e' || (tt && mx.isNone && decide (hh = els.length))) hx.inv_c l (hh - l) (by omega)
          obtain ⟨m, hm, q1, q2, q3, q4, q5, q6⟩ := bounds_sound (P := P) (w := w) hb hcap h1 h2 h3 true
          refine ⟨_, ?_, .c _ _ (hsub m (by omega) q4 fun e => ?_)⟩
          · simp [Instr.sliceAt, run_underlying hu, Instr.slice, hm, sizeOf, typeInfo, hi', hs]
          · simp only [Bool.or_eq_true, Bool.and_eq_true, decide_eq_true_eq, Option.isNone_iff_eq_none] at e
            rcases e with e | ⟨⟨e1, e2⟩, e3⟩
            · rw [q6 e]; omega
            · rw [q5 e2, htt e1]; omega
      · cases h
    · cases h
  · -- a row
    rename_i r ver off sz len
    split at h
    · rename_i e sz' bytes he
      split at h
      · rename_i hsz
        subst hsz
        obtain ⟨hu, i, hi', hs, _⟩ := slOf_spec he
        cases hb : bounds len lo hi mx with
        | none => simp [hb] at h
        | some r0 =>
          obtain ⟨l, hh, e'⟩ := r0
          simp only [hb, Option.map_some, Option.some.injEq] at h
          have hx' := hx.inv_c
          cases hx' with
          | sl _ _ _ _ _ b v0 a cap hl hv hcap ha =>
              obtain ⟨m, hm, q1, q2, q3, q4, q5, q6⟩ := bounds_sound (P := P) (w := w) hb hcap h1 h2 h3 true
              have hrun : (Instr.sliceAt t (.slice (some a) len cap) vlo vhi vmx).run P w = .ok (.slice (if m = l then some a else (some a).map (·.add (l * sz'))) (hh - l) (m - l)) w := by
                simp [Instr.sliceAt, run_underlying hu, Instr.slice, hm, sizeOf, typeInfo, hi', hs]
              split at h
              · rename_i hcase
                simp only [Bool.or_eq_true, decide_eq_true_eq] at hcase
                subst h
                refine ⟨_, hrun, .c _ _ ?_⟩
                have hadr : (if m = l then some a else (some a).map (·.add (l * sz'))) = some (a.add (l * sz')) := by
                  split
                  · rename_i hml
                    have : l = 0 := by omega
                    subst this
                    simp [Addr.add]
                  · rfl
                rw [hadr]
                refine .sl r ver _ _ _ b v0 _ _ hl hv (by omega) fun e => ?_
                obtain ⟨rfl, g3⟩ := ha e
                refine ⟨add_at _ _ _, ?_⟩
                obtain ⟨cs, el, fr, g4, g5⟩ := g3
                refine ⟨cs, el, fr, g4, ?_⟩
                have : (l + (m - l)) * sz' ≤ cap * sz' := Nat.mul_le_mul_right _ (by omega)
                rw [Nat.add_mul] at this
                omega
              · rename_i hcase
                simp only [Bool.or_eq_true, decide_eq_true_eq, not_or] at hcase
                subst h
                have hhl : hh - l = 0 := by omega
                refine ⟨_, hrun, .c _ _ ?_⟩
                rw [hhl]
                exact .tr e' sz' [] _ _ (fun _ => undef) (by simp) (fun e => by rw [q6 e]; simp; omega) (fun e he => by simp at he) (.inl rfl) (fun j c hj => by simp at hj)
      · cases h
    · cases h
  · cases h

end
end Go.PM
