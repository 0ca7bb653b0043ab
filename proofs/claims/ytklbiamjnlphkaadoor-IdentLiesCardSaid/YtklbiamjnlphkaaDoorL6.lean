/-
  Seat a: what the statement IdentLies comes to.
-/
import Derived.Test.YtklbiamjnlphkaaDoorL5
set_option linter.unusedVariables false
set_option linter.unusedSimpArgs false
set_option maxRecDepth 10000
set_option maxHeartbeats 4000000
namespace Go.PM
open Go Go.Proofs

theorem may_same (r q : Int) : mayI r q = refMayI r q := by
  have : decide (r < 4) = decide (r ≤ 3) := by simp only [decide_eq_decide]; omega
  unfold mayI refMayI; rw [this]
theorem mayK_same (r q o : Int) : mayKI r q o = refMayKI r q o := by unfold mayKI refMayKI; rw [may_same]
theorem less_same (r1 q1 r2 q2 : Int) : lessI r1 q1 r2 q2 = refLessI r1 q1 r2 q2 := by
  rw [Bool.eq_iff_iff]
  unfold lessI refLessI
  rw [decide_eq_true_iff, (ordI_spec r1 q1 r2 q2).1]
  simp
theorem lessK_same (r1 q1 o1 : Int) (u1 : Bool) (r2 q2 o2 : Int) (u2 : Bool) : lessKI r1 q1 o1 u1 r2 q2 o2 u2 = refLessKI r1 q1 o1 u1 r2 q2 o2 u2 := by
  rw [Bool.eq_iff_iff, lessKI_iff]
  unfold KL refLessKI refLessI
  split
  · rename_i h
    obtain ⟨rfl, rfl⟩ := h
    cases u1 <;> cases u2 <;> simp
  · rename_i h
    simp
    intro h1 h2
    exact (h ⟨h2, h1⟩).elim

theorem c5 (r1 q1 o1 : Int) (u1 : Bool) (r2 q2 o2 : Int) (u2 : Bool) (H : Heap) : SimCall Tryd.prog 5 [keyP r1 q1 o1 u1, keyP r2 q2 o2 u2] H [] (.ret (sB true)) H := by
  have e1 := may_same r1 q1
  have e2 := mayK_same r1 q1 o1
  have e3 := less_same r1 q1 r2 q2
  have e4 := lessK_same r1 q1 o1 u1 r2 q2 o2 u2
  refine sim_run (n := 8) amixed Γ6_ok Tryd.func5 rfl (by kernel_rfl) (.ret, _) (by
      simp [wrapI, iterE, codeE_loop, codeE_skip, codeE_ret, codeE_exit, codeE_seq, codeE_cond, codeE_block, codeE_seqr, seqE, planE, goE, freeE, freeOp, coreE, actOf, evP, putT, perform, guardV, binP, unP, intBin, strBin, isShift, List.replicate, ofConst, cellsOf, sv0, partP, unAll, eqCells, indexAddrP, intOf?, lenP, fillP, placeAt, setFrom, chunks, sI, sS, sB, t_aggN_2, t_aggN_3, t_aggN_4, t_aggN_5, t_aggN_9, t_aggN_23, t_aggN_25, t_arrOf_9, t_arrOf_103, t_eqKinds_2, t_eqKinds_3, t_eqKinds_4, t_eqKinds_5, t_eqKinds_9, t_eqKinds_23, t_eqKinds_25, t_fOff_23_0, t_fOff_23_1, t_fOff_25_0, t_fOff_25_1, t_fOff_25_2, t_fPart_25_2, t_placesOf_23, t_placesOf_25, t_slOf_9, t_slOf_81, t_slOf_103, t_under_2, t_under_3, t_under_4, t_under_5, t_under_9, t_under_23, t_under_25, t_under_81, t_under_103, t_zeroOf_3, t_zeroOf_5, t_zeroOf_23, t_zeroOf_25, pl5, Tryd.f5, keyP, idP, Γ6, Γ5, Γ4, Γ3, Γ2, e1, e2, e3, e4]
      rw [codeE_draw pl5]
      rotate_left
      · kernel_rfl
      · kernel_rfl
      simp [wrapI, iterE, codeE_loop, codeE_skip, codeE_ret, codeE_exit, codeE_seq, codeE_cond, codeE_block, codeE_seqr, seqE, planE, goE, freeE, freeOp, coreE, actOf, evP, putT, perform, guardV, binP, unP, intBin, strBin, isShift, List.replicate, ofConst, cellsOf, sv0, partP, unAll, eqCells, indexAddrP, intOf?, lenP, fillP, placeAt, setFrom, chunks, sI, sS, sB, t_aggN_2, t_aggN_3, t_aggN_4, t_aggN_5, t_aggN_9, t_aggN_23, t_aggN_25, t_arrOf_9, t_arrOf_103, t_eqKinds_2, t_eqKinds_3, t_eqKinds_4, t_eqKinds_5, t_eqKinds_9, t_eqKinds_23, t_eqKinds_25, t_fOff_23_0, t_fOff_23_1, t_fOff_25_0, t_fOff_25_1, t_fOff_25_2, t_fPart_25_2, t_placesOf_23, t_placesOf_25, t_slOf_9, t_slOf_81, t_slOf_103, t_under_2, t_under_3, t_under_4, t_under_5, t_under_9, t_under_23, t_under_25, t_under_81, t_under_103, t_zeroOf_3, t_zeroOf_5, t_zeroOf_23, t_zeroOf_25, pl5, Tryd.f5, keyP, idP, Γ6, Γ5, Γ4, Γ3, Γ2, e1, e2, e3, e4]
      rfl) ⟨rfl, by simp [e1, e2, e3, e4], by simp [resP, oneP, sB, sI, sS, Tryd.f5, e1, e2, e3, e4]⟩

end Go.PM
