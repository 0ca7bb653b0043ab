/-
  Rows: read, written, laid anew.
-/
import Derived.Test.YtklbiamjnlphkaaDoorK10
import Derived.Laws.CopyRow
set_option linter.unusedVariables false
set_option linter.unusedSimpArgs false
namespace Go.PM
open Go

section
variable {P : Program} {w : World} {M0 : Own} {ρ : Place} {H : Heap}

theorem setFrom_eq (cs : List PCell) : ∀ (cells : List PCell) (off : Nat), off + cs.length ≤ cells.length → setFrom cells off cs = cells.take off ++ (cs ++ cells.drop (off + cs.length)) := by
  induction cs with
  | nil => intro cells off h; simp [setFrom]
  | cons c cs ih =>
    intro cells off h
    simp only [List.length_cons] at h
    simp only [setFrom]
    rw [ih _ _ (by simp; omega)]
    rw [List.drop_set_of_lt (by omega)]
    have h1 : (cells.set off c).take (off + 1) = cells.take off ++ [c] := by
      rw [List.take_set, List.take_succ_eq_append_getElem (by omega), List.set_append_right _ _ (by simp; omega)]
      simp [Nat.min_eq_left (show off ≤ cells.length by omega)]
    rw [h1]
    simp [Nat.add_assoc, Nat.add_comm 1]

theorem HR.fits (h : HR w M0 ρ H) {r b v : Nat} (hr : ρ r = some (b, v)) : ∃ R xs ys, H[r]? = some (some R) ∧ R.ver = v ∧ w.heap[b]? = some (.cells (xs ++ ys : List Value).toArray R.elem (0, 0)) ∧ VCs w (Mu M0 ρ) ρ R.cells xs := by
  obtain ⟨R, hR⟩ := h.dom r b v hr
  obtain ⟨b', xs, ys, h1, h2, h3⟩ := h.row r R hR
  rw [hr] at h1
  simp only [Option.some.injEq, Prod.mk.injEq] at h1
  obtain ⟨rfl, rfl⟩ := h1
  exact ⟨R, xs, ys, hR, rfl, h2, h3⟩

theorem HR.lt (h : HR w M0 ρ H) {r b v : Nat} (hr : ρ r = some (b, v)) : b < w.heap.size := by
  obtain ⟨R, xs, ys, _, _, h2, _⟩ := h.fits hr
  exact (Array.getElem?_eq_some_iff.1 h2).1

/-- The rows of a later world: as they were, or as told. -/
theorem HR.step {w' : World} {ρ' : Place} {H' : Heap} (h : HR w M0 ρ H) (t : Tr w ρ w' ρ')
    (hrow : ∀ r R, H'[r]? = some (some R) → (H[r]? = some (some R) ∧ ρ' r = ρ r ∧ ∀ b v, ρ r = some (b, v) → w'.heap[b]? = w.heap[b]?) ∨
      ∃ b xs ys, ρ' r = some (b, R.ver) ∧ w'.heap[b]? = some (.cells (xs ++ ys : List Value).toArray R.elem (0, 0)) ∧ VCs w' (Mu M0 ρ') ρ' R.cells xs)
    (hdom : ∀ r b v, ρ' r = some (b, v) → ∃ R, H'[r]? = some (some R)) (hinj : ∀ r r' b v v', ρ' r = some (b, v) → ρ' r' = some (b, v') → r = r') : HR w' M0 ρ' H' where
  m0 := h.m0.tr t
  dom := hdom
  row r R hR := by
    rcases hrow r R hR with ⟨h1, h2, h3⟩ | h1
    · obtain ⟨b, xs, ys, q1, q2, q3⟩ := h.row r R h1
      exact ⟨b, xs, ys, by rw [h2]; exact q1, by rw [h3 b _ q1]; exact q2, q3.tr' t⟩
    · exact h1
  inj := hinj

theorem tr_drew (w : World) (ρ : Place) : Tr w ρ w.drew ρ :=
  ⟨rfl, rfl, rfl, Nat.le_refl _, fun _ _ _ => rfl, fun _ _ h => h, fun r b v h => ⟨b, v, h, Nat.le_refl _, fun _ => rfl⟩, fun _ _ v h => .inl ⟨v, h⟩⟩

theorem HR.drew (h : HR w M0 ρ H) : HR w.drew M0 ρ H :=
  h.step (tr_drew w ρ) (fun r R hR => .inl ⟨hR, rfl, fun _ _ _ => rfl⟩) h.dom h.inj

/-- A row's block is written. -/
theorem tr_setRow {r b v : Nat} (hr : ρ r = some (b, v)) {cur cs : Array Value} {e : TypeId} {fr : Nat × Nat} (hb : w.heap[b]? = some (.cells cur e fr)) (hs : cs.size = cur.size) : Tr w ρ (w.setRow b cs) ρ where
  os := rfl
  tape := rfl
  output := rfl
  size := by simp
  keep b' _ hn := setRow_other w b b' cs fun e => hn r v (e ▸ hr)
  fits b' n hf := by
    obtain ⟨c, e', fr', h1, h2⟩ := hf
    by_cases hbb : b' = b
    · subst hbb
      rw [hb] at h1
      simp only [Option.some.injEq, Obj.cells.injEq] at h1
      obtain ⟨rfl, rfl, rfl⟩ := h1
      exact ⟨cs, e, fr, setRow_heap w b' cur cs e fr hb, by omega⟩
    · exact ⟨c, e', fr', by rw [setRow_other w b b' cs hbb]; exact h1, h2⟩
  live r b v h := ⟨b, v, h, Nat.le_refl _, fun _ => rfl⟩
  news _ _ v h := .inl ⟨v, h⟩

/-- A row is written: what its block holds now. -/
theorem HR.setRow (h : HR w M0 ρ H) {r b : Nat} {R R' : PRow} (hr : ρ r = some (b, R.ver)) (hR : H[r]? = some (some R)) {cur : Array Value} (hb : w.heap[b]? = some (.cells cur R.elem (0, 0)))
    {xs ys : List Value} (hs : (xs ++ ys).length = cur.size) (hv : R'.ver = R.ver) (he : R'.elem = R.elem) (hx : VCs w (Mu M0 ρ) ρ R'.cells xs) :
    Tr w ρ (w.setRow b (xs ++ ys).toArray) ρ ∧ HR (w.setRow b (xs ++ ys).toArray) M0 ρ (H.set r (some R')) := by
  have t : Tr w ρ (w.setRow b (xs ++ ys).toArray) ρ := tr_setRow hr hb (by simpa using hs)
  refine ⟨t, h.step t (fun r' R1 hR1 => ?_) (fun r' b' v' hr' => ?_) h.inj⟩
  · rw [List.getElem?_set] at hR1
    split at hR1
    · rename_i e
      subst e
      split at hR1
      · simp only [Option.some.injEq] at hR1
        subst hR1
        exact .inr ⟨b, xs, ys, by rw [hv]; exact hr, by rw [he]; exact setRow_heap w b cur _ _ _ hb, hx.tr' t⟩
      · cases hR1
    · rename_i e
      refine .inl ⟨hR1, rfl, fun b' v' hr' => setRow_other w b b' _ fun eb => ?_⟩
      subst eb
      exact e (h.inj _ _ _ _ _ hr hr')
  · obtain ⟨R1, hR1⟩ := h.dom r' b' v' hr'
    by_cases e : r = r'
    · subst e
      exact ⟨R', by rw [List.getElem?_set]; simp [(List.getElem?_eq_some_iff.1 hR).1]⟩
    · exact ⟨R1, by rw [List.getElem?_set]; simp [e, hR1]⟩

/-- A row's next version. -/
def nextVer (H : Heap) (q : Nat) : Nat :=
  match H[q]? with
  | some (some R) => R.ver + 1
  | _ => 0

def upd (ρ : Place) (q : Nat) (x : Nat × Nat) : Place := fun r => if r = q then some x else ρ r

/-- A new block for a row. -/
theorem HR.new (h : HR w M0 ρ H) {q ver : Nat} {e : TypeId} {cs : List PCell} {xs ys : List Value} (hq : q < H.length) (hver : ∀ R, H[q]? = some (some R) → R.ver < ver)
    (hx : VCs w (Mu M0 ρ) ρ cs xs) : Tr w ρ (w.alloc (.cells (xs ++ ys).toArray e)) (upd ρ q (w.heap.size, ver)) ∧ HR (w.alloc (.cells (xs ++ ys).toArray e)) M0 (upd ρ q (w.heap.size, ver)) (H.set q (some ⟨ver, e, cs⟩)) := by
  have t : Tr w ρ (w.alloc (.cells (xs ++ ys).toArray e)) (upd ρ q (w.heap.size, ver)) := by
    refine ⟨rfl, rfl, rfl, by simp, fun b hb _ => heap_alloc_old w _ b hb, fun b n hf => ?_, fun r b v hr => ?_, fun r b v hr => ?_⟩
    · obtain ⟨c, e', fr', h1, h2⟩ := hf
      exact ⟨c, e', fr', by rw [heap_alloc_old w _ b (Array.getElem?_eq_some_iff.1 h1).1]; exact h1, h2⟩
    · by_cases e : r = q
      · subst e
        obtain ⟨R, xs', ys', hR, hv, _, _⟩ := h.fits hr
        have := hver R hR
        exact ⟨w.heap.size, ver, by simp [upd], by omega, fun e => by omega⟩
      · exact ⟨b, v, by simp [upd, e, hr], Nat.le_refl _, fun _ => rfl⟩
    · by_cases e : r = q
      · subst e
        simp only [upd, if_true, Option.some.injEq, Prod.mk.injEq] at hr
        exact .inr (by omega)
      · simp only [upd, e, if_false] at hr
        exact .inl ⟨v, hr⟩
  refine ⟨t, h.step t (fun r R hR => ?_) (fun r b v hr => ?_) (fun r r' b v v' hr hr' => ?_)⟩
  · rw [List.getElem?_set] at hR
    split at hR
    · rename_i e
      subst e
      simp only [Option.some.injEq] at hR
      subst hR
      exact .inr ⟨w.heap.size, xs, ys, by simp [upd], heap_alloc_new w _, hx.tr' t⟩
    · rename_i e
      have e' : r ≠ q := fun h => e h.symm
      exact .inl ⟨hR, by simp [upd, e'], fun b v hr => heap_alloc_old w _ b (h.lt hr)⟩
  · by_cases e : r = q
    · subst e
      exact ⟨_, by rw [List.getElem?_set]; simp [hq]; rfl⟩
    · simp only [upd, e, if_false] at hr
      obtain ⟨R, hR⟩ := h.dom r b v hr
      exact ⟨R, by rw [List.getElem?_set]; simp [Ne.symm e, hR]⟩
  · by_cases e : r = q <;> by_cases e' : r' = q <;> simp only [upd, e, e', if_true, if_false, Option.some.injEq, Prod.mk.injEq] at hr hr'
    · rw [e, e']
    · have := h.lt hr'; omega
    · have := h.lt hr; omega
    · exact h.inj _ _ _ _ _ hr hr'

/-- A row goes on in its block: its version goes up. -/
theorem HR.bump (h : HR w M0 ρ H) {r b : Nat} {R R' : PRow} (hr : ρ r = some (b, R.ver)) (hR : H[r]? = some (some R)) {cur : Array Value} (hb : w.heap[b]? = some (.cells cur R.elem (0, 0)))
    {xs ys : List Value} (hs : (xs ++ ys).length = cur.size) (hv : R'.ver = R.ver + 1) (he : R'.elem = R.elem) (hx : VCs w (Mu M0 ρ) ρ R'.cells xs) :
    Tr w ρ (w.setRow b (xs ++ ys).toArray) (upd ρ r (b, R'.ver)) ∧ HR (w.setRow b (xs ++ ys).toArray) M0 (upd ρ r (b, R'.ver)) (H.set r (some R')) := by
  have t0 : Tr w ρ (w.setRow b (xs ++ ys).toArray) ρ := tr_setRow hr hb (by simpa using hs)
  have t : Tr w ρ (w.setRow b (xs ++ ys).toArray) (upd ρ r (b, R'.ver)) := by
    refine ⟨rfl, rfl, rfl, t0.size, t0.keep, t0.fits, fun r1 b1 v1 h1 => ?_, fun r1 b1 v1 h1 => ?_⟩
    · by_cases e : r1 = r
      · subst e
        rw [hr] at h1
        simp only [Option.some.injEq, Prod.mk.injEq] at h1
        obtain ⟨rfl, rfl⟩ := h1
        exact ⟨b, R'.ver, by simp [upd], by omega, fun _ => rfl⟩
      · exact ⟨b1, v1, by simp [upd, e, h1], Nat.le_refl _, fun _ => rfl⟩
    · by_cases e : r1 = r
      · subst e
        simp only [upd, if_true, Option.some.injEq, Prod.mk.injEq] at h1
        obtain ⟨rfl, rfl⟩ := h1
        exact .inl ⟨R.ver, hr⟩
      · simp only [upd, e, if_false] at h1
        exact .inl ⟨v1, h1⟩
  refine ⟨t, h.step t (fun r' R1 hR1 => ?_) (fun r' b' v' hr' => ?_) (fun r1 r2 b1 v1 v2 h1 h2 => ?_)⟩
  · rw [List.getElem?_set] at hR1
    split at hR1
    · rename_i e
      subst e
      split at hR1
      · simp only [Option.some.injEq] at hR1
        subst hR1
        exact .inr ⟨b, xs, ys, by simp [upd], by rw [he]; exact setRow_heap w b cur _ _ _ hb, hx.tr' t⟩
      · cases hR1
    · rename_i e
      have e' : r' ≠ r := fun h => e h.symm
      refine .inl ⟨hR1, by simp [upd, e'], fun b' v' hr' => setRow_other w b b' _ fun eb => ?_⟩
      subst eb
      exact e (h.inj _ _ _ _ _ hr hr')
  · by_cases e : r' = r
    · subst e
      exact ⟨R', by rw [List.getElem?_set]; simp [(List.getElem?_eq_some_iff.1 hR).1]⟩
    · simp only [upd, e, if_false] at hr'
      obtain ⟨R1, hR1⟩ := h.dom r' b' v' hr'
      exact ⟨R1, by rw [List.getElem?_set]; simp [Ne.symm e, hR1]⟩
  · by_cases e1 : r1 = r <;> by_cases e2 : r2 = r <;> simp only [upd, e1, e2, if_true, if_false, Option.some.injEq, Prod.mk.injEq] at h1 h2
    · rw [e1, e2]
    · obtain ⟨rfl, _⟩ := h1
      exact absurd (h.inj _ _ _ _ _ h2 hr) e2
    · obtain ⟨rfl, _⟩ := h2
      exact absurd (h.inj _ _ _ _ _ h1 hr) e1
    · exact h.inj _ _ _ _ _ h1 h2

/-- A block that nobody writes to. -/
theorem HR.lit (h : HR w M0 ρ H) (o : Obj) : Tr w ρ (w.alloc o) ρ ∧ HR (w.alloc o) M0 ρ H ∧ ¬ Mu M0 ρ w.heap.size := by
  have t : Tr w ρ (w.alloc o) ρ := by
    refine ⟨rfl, rfl, rfl, by simp, fun b hb _ => heap_alloc_old w _ b hb, fun b n hf => ?_, fun r b v h => ⟨b, v, h, Nat.le_refl _, fun _ => rfl⟩, fun _ _ v h => .inl ⟨v, h⟩⟩
    obtain ⟨c, e', fr', h1, h2⟩ := hf
    exact ⟨c, e', fr', by rw [heap_alloc_old w _ b (Array.getElem?_eq_some_iff.1 h1).1]; exact h1, h2⟩
  refine ⟨t, h.step t (fun r R hR => .inl ⟨hR, rfl, fun b v hr => heap_alloc_old w _ b (h.lt hr)⟩) h.dom h.inj, ?_⟩
  rintro (hm | ⟨r, v, hr⟩)
  · have := (h.m0.1 _ hm).1; omega
  · have := h.lt hr; omega

end
end Go.PM
