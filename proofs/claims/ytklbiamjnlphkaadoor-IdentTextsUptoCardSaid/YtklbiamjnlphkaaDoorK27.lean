/-
  What needs no row goes beside any rows.
-/
import Derived.Test.YtklbiamjnlphkaaDoorK26
set_option linter.unusedVariables false
set_option linter.unusedSimpArgs false
namespace Go.PM
open Go Go.RowKit

section
variable {P : Program} {w : World} {M0 : Own} {ρ : Place}

theorem VC.lift {M M' : Nat → Prop} {ρ0 : Place} (hρ : ∀ r, ρ0 r = none) (hM : ∀ b, M' b → M b) {c : PCell} {x : Value} (h : VC w M ρ0 c x) : VC w M' ρ c x := by
  induction h with
  | sc v h => exact .sc v h
  | ptr r ver off b v a hl hv h => rw [hρ r] at hl; cases hl
  | sl r ver off sz len b v a cap hl hv hc h => rw [hρ r] at hl; cases hl
  | tr t sz els a cap xs hn ht hsz ha hc ih =>
    refine .tr t sz els a cap xs hn ht hsz ?_ ih
    rcases ha with ha | ⟨b, o, ha, hMb, hlt, hw⟩
    · exact .inl ha
    · exact .inr ⟨b, o, ha, fun h => hMb (hM b h), hlt, hw⟩
  | tp cells off b o xs hbb hw hc ih => exact .tp cells off b o xs ⟨fun h => hbb.1 (hM b h), hbb.2⟩ hw ih
  | fn f caps xs hl hc ih => exact .fn f caps xs hl ih

theorem VV.lift {M M' : Nat → Prop} {ρ0 : Place} (hρ : ∀ r, ρ0 r = none) (hM : ∀ b, M' b → M b) {v : PVal} {x : Value} (h : VV w M ρ0 v x) : VV w M' ρ v x := by
  induction h with
  | un x => exact .un x
  | und => exact .und
  | c x v h => exact .c x v (h.lift hρ hM)
  | agg cs xs h => exact .agg cs xs ⟨h.1, fun j c hj => (h.2 j c hj).lift hρ hM⟩
  | tup vs xs hl hc ih => exact .tup vs xs hl ih

/-- The rows become blocks of the caller's. -/
def Own.with (M0 : Own) (ρ : Place) : Own := ⟨Mu M0 ρ, M0.fix⟩

theorem SimCall.frame {f : FuncId} {args : List PVal} {wr : List Nat} {v : PVal} (h : SimCall P f args [] wr (.ret v) []) (hb : belVs 0 args = true) (H : Heap) : SimCall P f args H [] (.ret v) H where
  enters := h.enters
  len := Nat.le_refl _
  same _ _ _ := rfl
  run w M0 ρ xs hA hH hxs := by
    have hempty : ∀ r, (Place.upto ρ 0) r = none := fun r => by simp [Place.upto]
    have hMu : ∀ b, Mu (M0.with ρ) (Place.upto ρ 0) b → Mu M0 ρ b := by
      rintro b (hb | ⟨r, v, hb⟩)
      · exact hb
      · rw [hempty] at hb; cases hb
    have hH0 : HR w (M0.with ρ) (Place.upto ρ 0) [] := by
      refine ⟨⟨fun b hb => ⟨?_, fun r v hr => ?_⟩, fun b o hb => ⟨(hH.m0.2 b o hb).1, fun r v hr => ?_⟩⟩, fun r b v hr => ?_, fun r R hR => by simp at hR, fun r r' b v v' hr => ?_⟩
      · rcases hb with hb | ⟨r, v, hb⟩
        · exact (hH.m0.1 b hb).1
        · exact hH.lt hb
      all_goals (rw [hempty] at hr; cases hr)
    have hxs0 : VVs w (Mu (M0.with ρ) (Place.upto ρ 0)) (Place.upto ρ 0) args xs := ⟨hxs.1, fun j v hj => (hxs.2 j v hj).upto hMu (belVs_iff.1 hb v (List.mem_of_getElem? hj))⟩
    refine (h.run w (M0.with ρ) (Place.upto ρ 0) xs hA hH0 hxs0).mono ?_
    rintro e w' ⟨ρ', t, hH', x, he, hv⟩
    have hnone : ∀ r, ρ' r = none := fun r => by
      cases hr : ρ' r with
      | none => rfl
      | some p =>
        obtain ⟨R, hR⟩ := hH'.dom r p.1 p.2 hr
        simp at hR
    have hbel : Below w.heap.size w w' := ⟨t.os, t.tape, t.output, t.size, fun b hb => t.keep b hb fun r v hr => by rw [hempty] at hr; cases hr⟩
    exact ⟨ρ, tr_below hbel, hH.below hbel, x, he, hv.lift hnone fun b hb => .inl hb⟩

def evalIs (v : PVal) : Option (List Nat × Out × Heap) → Bool
  | some (_, .ret u, []) => eqV u v
  | _ => false

/-- A closed call, run. -/
theorem sim_eval {Γ : Ctx} (hm : P.follows .mixedOrders = true) (hΓ : CtxOk P Γ) {sites : FuncId → List Tmp} {rounds n : Nat} {f : FuncId} {args : List PVal} {v : PVal}
    (h : evalIs v (callE P Γ sites rounds n f args []) = true) (hb : belVs 0 args = true) (H : Heap) : SimCall P f args H [] (.ret v) H := by
  cases hc : callE P Γ sites rounds n f args [] with
  | none => rw [hc] at h; cases h
  | some r =>
    obtain ⟨wr, o, H'⟩ := r
    rw [hc] at h
    unfold evalIs at h
    split at h
    · rename_i wr' u heq
      simp only [Option.some.injEq, Prod.mk.injEq] at heq
      obtain ⟨rfl, rfl, rfl⟩ := heq
      have := eqV_eq _ _ h
      subst this
      exact (callE_ok hm hΓ n f args [] _ _ _ hc).frame hb H
    · cases h
end
end Go.PM
