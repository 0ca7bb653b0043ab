/-
  A function, from what its body comes to (any road through loops); its own rows are left behind.
-/
import Derived.Test.YtklbiamjnlphkaaDoorK29
set_option linter.unusedVariables false
set_option linter.unusedSimpArgs false
namespace Go.PM
open Go

section
variable {P : Program} {Γ : Ctx}

theorem post_keep {w : World} {M0 : Own} {ρ : Place} {H H' : Heap} {wr : List Nat} {o : Out} {e : Ending} {w' : World} (hH : HR w M0 ρ H) (h : CallPost w M0 ρ o H' e w')
    (hsame : ∀ r, r < H.length → r ∉ wr → H'[r]? = H[r]?) {m : Nat} (hm : H.length ≤ m) (hk : keepOk m H wr o H' = true) : CallPost w M0 ρ o (H'.take m) e w' := by
  simp only [keepOk, Bool.and_eq_true, List.all_eq_true, List.mem_range, Bool.or_eq_true, decide_eq_true_eq, Bool.not_eq_true'] at hk
  obtain ⟨ho, hrows⟩ := hk
  obtain ⟨ρ', t, hH', hout⟩ := h
  have hMu : ∀ b, Mu M0 (ρ'.upto m) b → Mu M0 ρ' b := by
    rintro b (hb | ⟨r, v, hb⟩)
    · exact .inl hb
    · exact .inr ⟨r, v, (upto_some.1 hb).2⟩
  refine ⟨ρ'.upto m, ⟨t.os, t.tape, t.output, t.size, t.keep, t.fits, fun r b v hr => ?_, fun r b v hr => t.news r b v (upto_some.1 hr).2⟩, ⟨⟨fun b hb => ⟨(hH'.m0.1 b hb).1, fun r v hr => (hH'.m0.1 b hb).2 r v (upto_some.1 hr).2⟩, fun b o hb => ⟨(hH'.m0.2 b o hb).1, fun r v hr => (hH'.m0.2 b o hb).2 r v (upto_some.1 hr).2⟩⟩, fun r b v hr => ?_, fun r R hR => ?_, fun r r' b v v' hr hr' => hH'.inj r r' b v v' (upto_some.1 hr).2 (upto_some.1 hr').2⟩, ?_⟩
  · obtain ⟨b', v', h1, h2, h3⟩ := t.live r b v hr
    exact ⟨b', v', upto_some.2 ⟨Nat.lt_of_lt_of_le (hH.lim r b v hr) hm, h1⟩, h2, h3⟩
  · obtain ⟨h1, h2⟩ := upto_some.1 hr
    obtain ⟨R, hR⟩ := hH'.dom r b v h2
    exact ⟨R, by rw [List.getElem?_take_of_lt h1]; exact hR⟩
  · have hlt : r < m := by
      have := (List.getElem?_eq_some_iff.1 hR).1
      simp at this; omega
    rw [List.getElem?_take_of_lt hlt] at hR
    obtain ⟨b, xs', ys, q1, q2, q3⟩ := hH'.row r R hR
    refine ⟨b, xs', ys, upto_some.2 ⟨hlt, q1⟩, q2, q3.upto hMu ?_⟩
    rcases hrows r hlt with ⟨hr, hw⟩ | hb
    · have hs := hsame r hr (by simpa using hw)
      rw [hR] at hs
      obtain ⟨b0, xs0, ys0, p1, p2, p3⟩ := hH.row r R hs.symm
      exact p3.bel fun r b v hr => Nat.lt_of_lt_of_le (hH.lim r b v hr) hm
    · simpa [hR] using hb
  · cases o with
    | ret v =>
      obtain ⟨x, rfl, hv⟩ := hout
      exact ⟨x, rfl, hv.upto hMu (by simpa [Out.bel] using ho)⟩
    | pan v => exact hout

/-- What the body's end must be. -/
def endP (P : Program) (fn : Func) (H : Heap) (wr : List Nat) (v : PVal) (H' : Heap) : PEx → St → Prop := fun e s =>
  (e = .normal ∨ e = .ret) ∧ (∃ own, s.heap = H' ++ own) ∧ resP P fn s.tmps s.heap = some v ∧ keepOk H'.length H wr (.ret v) s.heap = true

/-- A FUNCTION, FROM ITS BODY, whatever way it goes. -/
theorem sim_pwp {Γ : Ctx} (sites : List Tmp) (hm : P.follows .mixedOrders = true) (hΓ : CtxOk P Γ) {f : FuncId} {fn : Func} {c : Code} (hf : P.funcs[f]? = some fn) (hb : fn.body = some c) (he : enters P f = true)
    {args : List PVal} {H : Heap} {wr : List Nat} {v : PVal} {H' : Heap} (hlen : H.length ≤ H'.length) (hsame : ∀ r, r < H.length → r ∉ wr → H'[r]? = H[r]?)
    (h : pwp P Γ (svOf sites H.length) c ⟨args ++ List.replicate (fn.ntmps - args.length) .und, H ++ List.replicate sites.length none, []⟩ (endP P fn H wr v H')) : SimCall P f args H wr (.ret v) H' where
  enters := he
  len := hlen
  same := hsame
  run w M0 ρ xs hA hH hxs := by
    refine calls_of_wp hf hb (pwp_sound hΓ hA hm c _ _ _ w ρ _ h ⟨?_, hH.reserve sites.length, rfl⟩ ?_)
    · simp only [List.size_toArray, Array.toList_append, Array.toList_replicate]
      rw [hxs.1]
      refine hxs.append ⟨by simp, fun j v hj => ?_⟩
      rw [List.getElem?_replicate] at hj
      split at hj
      · rename_i hlt
        simp only [Option.some.injEq] at hj; subst hj
        have : (List.replicate (fn.ntmps - args.length) undef).getD j undef = undef := by
          simp [List.getD, List.getElem?_replicate, hlt]
        rw [this]; exact .und
      · cases hj
    · rintro e s' a' w' ρ' ⟨hex, ⟨own, hheap⟩, hres, hkeep⟩ t hR'
      have hfin : a'.defers = [] ∧ ∃ x, (results fn a'.tmps).run P w' = .ok x w' ∧ CallPost w M0 ρ (.ret v) H' (.returned x) w' := by
        obtain ⟨x, h1, h2⟩ := res_sound (P := P) hR' hres
        refine ⟨hR'.defers, x, h1, ?_⟩
        have hp : CallPost w M0 ρ (.ret v) s'.heap (.returned x) w' := ⟨ρ', t, hR'.heap, x, rfl, h2⟩
        have := post_keep hH hp (wr := wr) (fun r hr hw => by rw [hheap, List.getElem?_append_left (by omega)]; exact hsame r hr hw) hlen hkeep
        rw [hheap, List.take_left' rfl] at this
        exact this
      cases e with
      | normal => exact hfin
      | ret => exact hfin
      | pan x => rcases hex with h | h <;> cases h
      | exit id => rcases hex with h | h <;> cases h

/-- The end of a body that changes nothing of the caller's. -/
theorem endP_same {fn : Func} {H : Heap} {v : PVal} {e : PEx} {s : St} (he : e = .normal ∨ e = .ret) (hh : ∃ own, s.heap = H ++ own) (hr : resP P fn s.tmps s.heap = some v) (hb : belV H.length v = true) : endP P fn H [] v H e s := by
  refine ⟨he, hh, hr, ?_⟩
  simp only [keepOk, Out.bel, hb, Bool.true_and, List.all_eq_true, List.mem_range, Bool.or_eq_true, Bool.and_eq_true, decide_eq_true_eq]
  intro r hr
  exact .inl ⟨hr, by simp⟩

/-- What a piece of code ends in, one way: the values of what is used behind it. -/
theorem pwp_end {sv : Tmp → Option Nat} {c : Code} {s : St} {K : PEx → St → Prop} (n : Nat) {r : PEx × St} (h : codeE P Γ sv n c s = some r) (hk : K r.1 r.2) : pwp P Γ sv c s K := codeE_sound c s r.1 r.2 K h hk

end
end Go.PM
