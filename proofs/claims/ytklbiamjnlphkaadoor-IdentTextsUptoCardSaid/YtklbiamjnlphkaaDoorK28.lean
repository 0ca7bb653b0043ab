/-
  From a contract to the row: what a law's call leaves.
-/
import Derived.Test.YtklbiamjnlphkaaDoorK27
import Derived.Carry
import Derived.ChangeSame
import Derived.RowKit
set_option linter.unusedVariables false
set_option linter.unusedSimpArgs false
namespace Go.PM
open Go Go.RowKit Go.ChangeShapes Go.WideShapes

section
variable {H : Type} {enc : TypeId × Value → H} {P : Program}

/-- No rows, nothing of anybody's; all blocks that are there stay. -/
def own0 (W : World) : Own := ⟨fun _ => False, fun b => W.heap[b]?⟩

theorem mu0 {W : World} {b : Nat} : ¬ Mu (own0 W) (fun _ => none) b := by
  rintro (h | ⟨_, _, h⟩)
  · exact h
  · cases h

/-- A contract over no rows, as a call. -/
theorem calls_of_sim {f : FuncId} {args : List PVal} {wr : List Nat} {v : PVal} (h : SimCall P f args [] wr (.ret v) []) (W : World) (xs : List Value) (hA : Known P fun b => W.heap[b]?)
    (hx : VVs W (fun _ => False) (fun _ => none) args xs) : Calls P f xs.toArray W fun e W' => Below W.heap.size W W' ∧ ∃ x, e = .returned x ∧ VV W' (fun _ => False) (fun _ => none) v x := by
  have e1 : Mu (own0 W) (fun _ => none) = fun _ => False := funext fun b => propext ⟨fun h => mu0 h, fun h => h.elim⟩
  have hH : HR W (own0 W) (fun _ => none) [] := ⟨⟨fun b hb => hb.elim, fun b o hb => ⟨hb, fun _ _ h => nomatch h⟩⟩, (fun _ _ _ h => nomatch h), (fun r R hR => by simp at hR), (fun _ _ _ _ _ h => nomatch h)⟩
  refine (h.run W (own0 W) (fun _ => none) xs hA hH (by rw [e1]; exact hx)).mono ?_
  rintro e W' ⟨ρ', t, hH', x, he, hv⟩
  have hnone : ρ' = fun _ => none := funext fun r => by
    cases hr : ρ' r with
    | none => rfl
    | some p =>
      obtain ⟨R, hR⟩ := hH'.dom r p.1 p.2 hr
      simp at hR
  subst hnone
  rw [e1] at hv
  exact ⟨⟨t.os, t.tape, t.output, t.size, fun b hb => t.keep b hb fun r v hr => by cases hr⟩, x, he, hv⟩

theorem trodAll_stays (hl : laidOutB P = true) {W W' : World} (hb : Below W.heap.size W W') {sp : Nat → Bool} : ∀ (ts : List TypeId) (vs : List Value) (ds : List (DataW H)) (ps : List MemPlace),
    (ts.all fun t => P.readableRec t && decide (t < P.types.size)) = true → DataW.TrodAll enc P W 0 (fun _ => true) true ts vs ds ps → (∀ p ∈ ps, p.block < W.heap.size) → (∀ p ∈ ps, sp p.block = true) → DataW.TrodAll enc P W' 0 sp true ts vs ds ps
  | [], vs, ds, ps, _, h, _, _ => by
    obtain ⟨rfl, rfl, rfl⟩ := trodAll_nil h
    exact trodAll_mk0
  | t :: ts, vs, ds, ps, hr, h, hlt, hs => by
    simp only [List.all_cons, Bool.and_eq_true, decide_eq_true_eq] at hr
    obtain ⟨v, vs', d, ds', p, q, rfl, rfl, rfl, h1, h2⟩ := trodAll_cons h
    exact ⟨p, q, WideElems.Trod_stays hl hr.1.1 hr.1.2 h1 (fun x hx => hb.same (hlt x (List.mem_append_left _ hx))) (fun x hx => hs x (List.mem_append_left _ hx)),
      trodAll_stays hl hb ts vs' ds' q hr.2 h2 (fun x hx => hlt x (List.mem_append_right _ hx)) (fun x hx => hs x (List.mem_append_right _ hx)), rfl⟩

/-- A law: it answers true, and all that was there is as it was. -/
theorem law_post {fn : Func} {s : ChangeSpec} {t : TypeId} {apart fresh handsOn again : Bool} {W W' : World} {args : Array Value} {v : Value} {ds gs : List (DataW H)} {before : List MemPlace}
    (hl : laidOutB P = true) (hp : (fn.params.toList.all fun t => P.readableRec t && decide (t < P.types.size)) = true) (hr : fn.resultTypes = #[t]) (ht : P.underlying t = some .bool) (hs : s.vars = [])
    (hW : DataW.Whole enc P fn.params.toList s.vars apart W args.toList ds gs before)
    (hfn : s.fn H ds = { results := [.lit (.bool true)], args := ds })
    (hb : Below W.heap.size W W') (hv : v = .bool true) : s.post enc P fn apart fresh handsOn again W args v W' := by
  have hlt := hW.lt
  have hW' := hW
  obtain ⟨p, q, hA, hV, rfl, hz, hn⟩ := hW'
  rw [hs] at hV
  obtain ⟨rfl, rfl⟩ := trodVars_none hV
  simp only [List.append_nil] at *
  subst hv
  have hargs : ∀ sp : Nat → Bool, (∀ x ∈ p, sp x.block = true) → DataW.TrodAll enc P W' 0 sp true fn.params.toList args.toList ds p := fun sp hsp => trodAll_stays hl hb _ _ _ _ hp hA hlt hsp
  have hres : ∀ (b : Nat) (sp : Nat → Bool) (hd : Bool), DataW.TrodAll enc P W' b sp hd fn.resultTypes.toList ((Value.bool true).resultList fn.resultTypes.size) [.lit (.bool true)] [] := fun b sp hd => by
    rw [hr]
    exact ⟨[], [], ⟨1, by simp [DataW.trod, Value.cells, ht]⟩, rfl, rfl⟩
  have hold : ∀ x ∈ p, (fun b => decide (b < W.heap.size)) x.block = true := fun x hx => by simpa using hlt x hx
  have hvars : ∀ sp : Nat → Bool, DataW.TrodVars enc P W' sp s.vars [] [] := fun sp => by rw [hs]; rfl
  refine ⟨ds, [], p, [], p, [], hW, ?_, ?_, ?_, World.keptBut_mono (fun x hx => ⟨hx, ?_⟩) (hb.frame (· ∈ p)), fun _ => ?_⟩
  all_goals try simp only [List.append_nil, hfn]
  · exact hres _ _ _
  · exact hargs _ hold
  · exact hvars _
  · simpa using hx
  · refine ⟨ok_one hr rfl (okWide_bool_mk ht _), _, _, ([] ++ p) ++ [], ⟨[] ++ p, [], trodAll_append (hargs _ (fun _ _ => rfl)) (hres _ _ _), hvars _, rfl, ?_, ?_⟩, ?_⟩
    · intro b off hp'
      have hp'' : MemPlace.cell b off ∈ p := by simpa using hp'
      rw [hb.frozen (p := ⟨b, off, none⟩) (hlt _ hp'')]
      exact hz b off hp''
    · intro ha
      simpa using hn ha
    · intro x hx _
      simpa using hx
end
end Go.PM
