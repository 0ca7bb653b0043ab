/-
  Contracts of Go's library, as the small machine sees them.
-/
import Derived.Test.YtklbiamjnlphkaaDoorK24
import Derived.Below
import Derived.WalkSmall
import Derived.Lib.LaidTab
import Derived.Lib.ItoaNum
import Derived.Sort.Grow
import Derived.Deep.Draws
set_option linter.unusedVariables false
set_option linter.unusedSimpArgs false
namespace Go.PM
open Go Go.RowKit Go.Sort

section
variable {P : Program} {w w' : World} {M0 : Own} {ρ : Place} {H : Heap}

theorem tr_below (h : Below w.heap.size w w') : Tr w ρ w' ρ :=
  ⟨h.os, h.tape, h.output, h.size, fun b hb _ => h.block b hb, fun b n hf => by
    obtain ⟨cs, e, fr, h1, h2⟩ := hf
    exact ⟨cs, e, fr, by rw [h.block b (Array.getElem?_eq_some_iff.1 h1).1]; exact h1, h2⟩, fun r b v h => ⟨b, v, h, Nat.le_refl _, fun _ => rfl⟩, fun _ _ v h => .inl ⟨v, h⟩⟩

theorem HR.below (hH : HR w M0 ρ H) (h : Below w.heap.size w w') : HR w' M0 ρ H :=
  hH.step (tr_below h) (fun r R hR => .inl ⟨hR, rfl, fun b v hr => h.block b (hH.lt hr)⟩) hH.dom hH.inj

theorem below_drawn (w : World) (n : Nat) : Below w.heap.size w (w.drewN n) := ⟨rfl, rfl, rfl, Nat.le_refl _, fun _ _ => rfl⟩

theorem below_grown (w : World) (k : Nat) (os : Array Obj) : Below w.heap.size w (grow (w.drewN k) os) :=
  ⟨rfl, rfl, rfl, by simp [grow, World.drewN], fun b hb => by
    show (w.heap ++ os)[b]? = w.heap[b]?
    rw [Array.getElem?_append_left hb]⟩

/-- A call that leaves all that was there. -/
theorem sim_lib {f : FuncId} (he : enters P f = true) {args : List PVal} {v : PVal}
    (h : ∀ (w : World) (M0 : Own) (ρ : Place) (xs : List Value), Known P M0.fix → M0ok M0 w ρ → VVs w (Mu M0 ρ) ρ args xs →
      Calls P f xs.toArray w fun e w' => ∃ x, e = .returned x ∧ Below w.heap.size w w' ∧ VV w' (Mu M0 ρ) ρ v x) : SimCall P f args H [] (.ret v) H where
  enters := he
  len := Nat.le_refl _
  same _ _ _ := rfl
  run w M0 ρ xs hA hH hxs := (h w M0 ρ xs hA hH.m0 hxs).mono fun e w' ⟨x, he, hb, hv⟩ => ⟨ρ, tr_below hb, hH.below hb, x, he, hv⟩

theorem known_cell (hM : M0ok M0 w ρ) {b : Nat} {cs : Array Value} {ty : TypeId} {fr : Nat × Nat} (h : M0.fix b = some (.cells cs ty fr)) (j : Nat) : w.cell? ⟨b, j, none⟩ = cs[j]? := by
  simp [World.cell?, (hM.2 b _ h).1]

theorem known_tab (hA : Known P M0.fix) (hM : M0ok M0 w ρ) {g : Nat} (hg : P.globalNamed "internal/strconv.uint64pow10" = some g) : Lib.TabIs P w "internal/strconv.uint64pow10" .u64 Lib.pow10Tab := by
  obtain ⟨ty, fr, h⟩ := hA.pow10 g hg
  unfold Lib.TabIs World.var?
  rw [hg]
  simp only [Option.bind_some, (hM.2 g _ h).1]
  simp [Lib.pow10Tab, List.map_map, Function.comp_def]

theorem VVs.one {M : Nat → Prop} {v : Value} {xs : List Value} (h : VVs w M ρ [.c (.sc v)] xs) : xs = [v] := by
  match xs, h.1 with
  | [x], _ =>
    have := (h.2 0 _ rfl)
    simp only [List.getD, List.getElem?_cons_zero, Option.getD_some] at this
    rw [this.inv_sc.1]

theorem VVs.two {M : Nat → Prop} {v u : Value} {xs : List Value} (h : VVs w M ρ [.c (.sc v), .c (.sc u)] xs) : xs = [v, u] := by
  match xs, h.1 with
  | [x, y], _ =>
    have h0 := (h.2 0 _ rfl)
    have h1 := (h.2 1 _ rfl)
    simp only [List.getD, List.getElem?_cons_zero, List.getElem?_cons_succ, Option.getD_some] at h0 h1
    rw [h0.inv_sc.1, h1.inv_sc.1]

theorem VVs.three {M : Nat → Prop} {v u t : Value} {xs : List Value} (h : VVs w M ρ [.c (.sc v), .c (.sc u), .c (.sc t)] xs) : xs = [v, u, t] := by
  match xs, h.1 with
  | [x, y, z], _ =>
    have h0 := (h.2 0 _ rfl)
    have h1 := (h.2 1 _ rfl)
    have h2 := (h.2 2 _ rfl)
    simp only [List.getD, List.getElem?_cons_zero, List.getElem?_cons_succ, Option.getD_some] at h0 h1 h2
    rw [h0.inv_sc.1, h1.inv_sc.1, h2.inv_sc.1]
end
end Go.PM
