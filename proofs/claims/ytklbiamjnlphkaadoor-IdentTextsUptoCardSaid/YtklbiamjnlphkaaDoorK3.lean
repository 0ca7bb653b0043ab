/-
  The small machine's operations that leave memory alone, held against the model's.
-/
import Derived.Test.YtklbiamjnlphkaaDoorK2
set_option linter.unusedVariables false
set_option linter.unusedSimpArgs false
namespace Go.PM
open Go

section
variable {P : Program} {w : World} {M : Nat → Prop} {ρ : Place}

theorem VCs.nil : VCs w M ρ [] [] := ⟨rfl, fun j c h => by simp at h⟩

theorem VCs.cons {c : PCell} {x : Value} {cs : List PCell} {xs : List Value} (h : VC w M ρ c x) (k : VCs w M ρ cs xs) : VCs w M ρ (c :: cs) (x :: xs) := by
  refine ⟨by simp [k.1], fun j c' hj => ?_⟩
  cases j with
  | zero => simp at hj; subst hj; simpa using h
  | succ j => simp at hj; simpa using k.2 j c' hj

theorem VCs.uncons {c : PCell} {cs : List PCell} {xs : List Value} (h : VCs w M ρ (c :: cs) xs) : ∃ x ys, xs = x :: ys ∧ VC w M ρ c x ∧ VCs w M ρ cs ys := by
  obtain ⟨hl, hc⟩ := h
  match xs, hl with
  | x :: ys, hl =>
    refine ⟨x, ys, rfl, by simpa using hc 0 c rfl, by simpa using hl, fun j c' hj => by simpa using hc (j + 1) c' (by simpa using hj)⟩

theorem VCs.of_nil {xs : List Value} (h : VCs w M ρ [] xs) : xs = [] := List.eq_nil_of_length_eq_zero h.1

theorem VCs.append {a b : List PCell} {xs ys : List Value} (h : VCs w M ρ a xs) (k : VCs w M ρ b ys) : VCs w M ρ (a ++ b) (xs ++ ys) := by
  induction a generalizing xs with
  | nil => rw [h.of_nil]; simpa using k
  | cons c a ih =>
    obtain ⟨x, xs', rfl, hx, hr⟩ := h.uncons
    exact (ih hr).cons hx |> fun r => r

theorem VCs.drop {a : List PCell} {xs : List Value} (h : VCs w M ρ a xs) (n : Nat) : VCs w M ρ (a.drop n) (xs.drop n) := by
  refine ⟨by simp [h.1], fun j c hj => ?_⟩
  rw [List.getElem?_drop] at hj
  have := h.2 _ c hj
  simpa [List.getD, List.getElem?_drop] using this

theorem VCs.take {a : List PCell} {xs : List Value} (h : VCs w M ρ a xs) (n : Nat) : VCs w M ρ (a.take n) (xs.take n) := by
  refine ⟨by simp [h.1], fun j c hj => ?_⟩
  rw [List.getElem?_take] at hj
  split at hj
  · rename_i hlt
    have := h.2 _ c hj
    simpa [List.getD, List.getElem?_take, hlt] using this
  · simp at hj

theorem VCs.set {a : List PCell} {xs : List Value} (h : VCs w M ρ a xs) (n : Nat) {c : PCell} {x : Value} (k : VC w M ρ c x) : VCs w M ρ (a.set n c) (xs.set n x) := by
  refine ⟨by simp [h.1], fun j c' hj => ?_⟩
  rw [List.getElem?_set] at hj
  split at hj
  · rename_i e
    split at hj
    · subst e
      have hc' : c = c' := by simpa using hj
      subst hc'
      rename_i hlt
      rw [← h.1] at hlt
      simpa [List.getD, List.getElem?_set, hlt] using k
    · simp at hj
  · rename_i e
    have := h.2 j c' hj
    simpa [List.getD, List.getElem?_set, e] using this

theorem VCs.one {a : List PCell} {xs : List Value} (h : VCs w M ρ a xs) : ∀ x ∈ xs, x.oneCell' = true := by
  intro x hx
  obtain ⟨j, hj, rfl⟩ := List.getElem_of_mem hx
  have hja : j < a.length := by rw [← h.1]; exact hj
  have := h.2 j a[j] (List.getElem?_eq_getElem hja)
  simpa [List.getD, List.getElem?_eq_getElem hj] using this.one

theorem VCs.sc {l : List Value} (h : ∀ x ∈ l, x.oneCell' = true) : VCs w M ρ (l.map .sc) l := by
  induction l with
  | nil => exact VCs.nil
  | cons x l ih => exact (ih fun y hy => h y (by simp [hy])).cons (.sc x (h x (by simp)))

theorem VCs.get {a : List PCell} {xs : List Value} (h : VCs w M ρ a xs) {j : Nat} {c : PCell} (hj : a[j]? = some c) : ∃ x, xs[j]? = some x ∧ VC w M ρ c x := by
  have hja : j < xs.length := by rw [h.1]; exact (List.getElem?_eq_some_iff.1 hj).1
  exact ⟨xs[j], List.getElem?_eq_getElem hja, by simpa [List.getD, List.getElem?_eq_getElem hja] using h.2 j c hj⟩

theorem VCs.flatten {ls : List (List PCell)} {xss : List (List Value)} (hl : ls.length = xss.length) (h : ∀ (j : Nat) l xs, ls[j]? = some l → xss[j]? = some xs → VCs w M ρ l xs) : VCs w M ρ ls.flatten xss.flatten := by
  induction ls generalizing xss with
  | nil => cases xss with
    | nil => exact VCs.nil
    | cons a b => simp at hl
  | cons l ls ih =>
    cases xss with
    | nil => simp at hl
    | cons xs xss =>
      simp only [List.flatten_cons]
      exact (h 0 l xs rfl rfl).append (ih (by simpa using hl) fun j l' xs' h1 h2 => h (j + 1) l' xs' (by simpa using h1) (by simpa using h2))

/-! ### Operands -/
theorem VV.const (v : Value) : VV w M ρ (ofConst v) v := by
  cases v
  case agg cs =>
    simp only [ofConst]
    split
    · rename_i h
      have := VV.agg (w := w) (M := M) (ρ := ρ) _ _ (VCs.sc (l := cs.toList) (fun x hx => List.all_eq_true.1 h x hx))
      simpa using this
    · exact .un _
  case tuple vs => exact .un _
  all_goals exact .c _ _ (.sc _ rfl)

def evP (ts : List PVal) : Operand → PVal
  | .tmp t => ts.getD t .und
  | .const v => ofConst v
  | .global g => .c (.sc (.pointer (some ⟨g, 0, none⟩)))
  | .func f => .c (.fn f [])

theorem VVs.get {vs : List PVal} {xs : List Value} (h : VVs w M ρ vs xs) (j : Nat) : VV w M ρ (vs.getD j .und) (xs.getD j undef) := by
  rcases Nat.lt_or_ge j vs.length with hj | hj
  · have := h.2 j vs[j] (List.getElem?_eq_getElem hj)
    simpa [List.getD, List.getElem?_eq_getElem hj] using this
  · have h1 : vs.getD j .und = .und := by simp [List.getD, List.getElem?_eq_none hj]
    have h2 : xs.getD j undef = undef := by simp [List.getD, List.getElem?_eq_none (show xs.length ≤ j by rw [h.1]; exact hj)]
    rw [h1, h2]; exact .und

theorem VV.ev {ts : List PVal} {a : Act} (h : VVs w M ρ ts a.tmps.toList) (x : Operand) : VV w M ρ (evP ts x) (a.eval x) := by
  cases x with
  | tmp t => have := h.get t; simpa [evP, Act.eval, List.getD] using this
  | const v => exact VV.const v
  | global g => exact .c _ _ (.sc _ rfl)
  | func f => exact .c _ _ (.fn f [] [] rfl fun j c hj => by simp at hj)

theorem VVs.put {ts : List PVal} {a : Act} (h : VVs w M ρ ts a.tmps.toList) (d : Option Tmp) {v : PVal} {x : Value} (k : VV w M ρ v x) :
    VVs w M ρ (match d with | some t => ts.set t v | none => ts) (a.put d x).tmps.toList := by
  cases d with
  | none => exact h
  | some t =>
    refine ⟨by simp [Act.put, h.1], fun j v' hj => ?_⟩
    simp only [Act.put, Array.toList_setIfInBounds]
    rw [List.getElem?_set] at hj
    split at hj
    · rename_i e
      subst e
      split at hj
      · rename_i hlt
        have : v = v' := by simpa using hj
        subst this
        rw [← h.1] at hlt
        have hlt' : t < a.tmps.size := by simpa using hlt
        simpa [List.getD, List.getElem?_set, hlt'] using k
      · simp at hj
    · rename_i e
      have := h.2 j v' hj
      simpa [List.getD, List.getElem?_set, e] using this

/-! ### What a related value is -/
theorem VV.inv_int {k : IntKind} {n : Int} {x : Value} (h : VV w M ρ (.c (.sc (.int k n))) x) : x = .int k n := by
  cases h with | c _ _ h => cases h with | sc _ h => rfl

theorem VV.inv_sc {v : Value} {x : Value} (h : VV w M ρ (.c (.sc v)) x) : x = v ∧ v.oneCell' = true := by
  cases h with | c _ _ h => cases h with | sc _ h => exact ⟨rfl, h⟩

theorem VV.inv_c {c : PCell} {x : Value} (h : VV w M ρ (.c c) x) : VC w M ρ c x := by
  cases h with | c _ _ h => exact h

theorem VV.inv_agg {cs : List PCell} {x : Value} (h : VV w M ρ (.agg cs) x) : ∃ xs : List Value, x = .agg xs.toArray ∧ VCs w M ρ cs xs := by
  cases h with | agg _ xs h => exact ⟨xs, rfl, h⟩

theorem VV.inv_tup {vs : List PVal} {x : Value} (h : VV w M ρ (.tup vs) x) : ∃ xs : List Value, x = .tuple xs.toArray ∧ VVs w M ρ vs xs := by
  cases h with | tup _ xs hl h => exact ⟨xs, rfl, hl, h⟩

theorem VV.cells {v : PVal} {cs : List PCell} {x : Value} (h : VV w M ρ v x) (hc : cellsOf v = some cs) : VCs w M ρ cs x.cells.toList := by
  cases v <;> simp only [cellsOf, Option.some.injEq, reduceCtorEq] at hc
  · subst hc
    have h' := h.inv_c
    have : x.cells = #[x] := by
      have := h'.one
      cases x <;> first | rfl | simp [Value.oneCell'] at this
    rw [this]
    exact VCs.nil.cons h'
  · subst hc
    obtain ⟨xs, rfl, h'⟩ := h.inv_agg
    simpa [Value.cells] using h'

/-! ### Composites -/
theorem setFrom_sound {cells : List PCell} {X : List Value} (h : VCs w M ρ cells X) : ∀ {cs : List PCell} {ys : List Value} (off : Nat), VCs w M ρ cs ys →
    VCs w M ρ (setFrom cells off cs) ((ys.zipIdx off).foldl (fun l p => l.set p.2 p.1) X) := by
  intro cs
  induction cs generalizing cells X with
  | nil => intro ys off k; rw [k.of_nil]; simpa [setFrom] using h
  | cons c cs ih =>
    intro ys off k
    obtain ⟨y, ys', rfl, hy, hr⟩ := k.uncons
    simp only [setFrom, List.zipIdx_cons, List.foldl_cons]
    exact ih (h.set off hy) (off + 1) hr

theorem length_setFrom (cs : List PCell) : ∀ (cells : List PCell) (off : Nat), (setFrom cells off cs).length = cells.length := by
  induction cs with
  | nil => intros; rfl
  | cons c cs ih => intro cells off; simp [setFrom, ih]

theorem foldl_set_toArray (ys : Array Value) (X : Array Value) (off : Nat) :
    (ys.zipIdx.foldl (fun cs (p : Value × Nat) => cs.setIfInBounds (off + p.2) p.1) X) = ((ys.toList.zipIdx off).foldl (fun l p => l.set p.2 p.1) X.toList).toArray := by
  obtain ⟨ys⟩ := ys
  obtain ⟨X⟩ := X
  rw [← Array.foldl_toList, Array.toList_zipIdx]
  have key : ∀ (l : List Value) (k : Nat) (X : List Value), List.foldl (fun (cs : Array Value) (p : Value × Nat) => cs.setIfInBounds (off + p.2) p.1) X.toArray (l.zipIdx k) =
      (List.foldl (fun l (p : Value × Nat) => l.set p.2 p.1) X (l.zipIdx (off + k))).toArray := by
    intro l
    induction l with
    | nil => intros; rfl
    | cons y l ih =>
      intro k X
      simp only [List.zipIdx_cons, List.foldl_cons, List.setIfInBounds_toArray]
      rw [ih (k + 1), Nat.add_assoc]
  simpa using key ys 0 X

theorem fill_sound {place : Nat → Option (Nat × Nat)} : ∀ (parts : List (Nat × PVal)) (vparts : List (Nat × Value)) (cells cs : List PCell) (X : Array Value),
    VCs w M ρ cells X.toList → parts.length = vparts.length → (∀ (j : Nat) p q, parts[j]? = some p → vparts[j]? = some q → p.1 = q.1 ∧ VV w M ρ p.2 q.2) →
    fillP place cells parts = some cs → ∃ Y, Instr.fill place X vparts = some Y ∧ VCs w M ρ cs Y.toList
  | [], [], cells, cs, X, h, _, _, hf => by
    simp only [fillP, Option.some.injEq] at hf
    subst hf
    exact ⟨X, rfl, h⟩
  | (i, v) :: parts, (i', x) :: vparts, cells, cs, X, h, hl, hp, hf => by
    obtain ⟨rfl, hv⟩ := hp 0 _ _ rfl rfl
    simp only [fillP] at hf
    split at hf
    · rename_i off size cs1 hpl hcs
      split at hf
      · cases hf
      · rename_i hno
        have hcells := hv.cells hcs
        have hlen : x.cells.size = cs1.length := by have := hcells.1; simpa using this
        have hXl : X.size = cells.length := by have := h.1; simpa using this
        have h2 := setFrom_sound h off hcells
        obtain ⟨Y, hY, hYc⟩ := fill_sound (place := place) parts vparts (setFrom cells off cs1) cs (x.cells.zipIdx.foldl (fun cs (p : Value × Nat) => cs.setIfInBounds (off + p.2) p.1) X)
          (by rw [foldl_set_toArray]; simpa using h2) (by simpa using hl) (fun j p q h1 h2 => hp (j + 1) p q (by simpa using h1) (by simpa using h2)) hf
        refine ⟨Y, ?_, hYc⟩
        simp only [Instr.fill, hpl]
        have hno' : cs1.length = size ∧ off + cs1.length ≤ cells.length := by
          have := hno
          simp only [Bool.or_eq_true, decide_eq_true_eq, not_or, Decidable.not_not, Nat.not_lt] at this
          exact this
        rw [if_neg]
        · exact hY
        · rw [hlen, hXl]
          simp only [Bool.or_eq_true, decide_eq_true_eq]
          omega
    · cases hf

end
end Go.PM
