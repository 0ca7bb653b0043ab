/-
  Seat a: what the statements IdentOrders and IdentLies come to.
-/
import Derived.Test.YtklbiamjnlphkaaDoorL4
set_option linter.unusedVariables false
set_option linter.unusedSimpArgs false
set_option maxRecDepth 10000
set_option maxHeartbeats 4000000
namespace Go.PM
open Go Go.Proofs

def Γ6 : Ctx := fun f args H => match f, args with
  | 9, [] => some ([], .ret (sB true), H)
  | 17, [.agg [.sc (.int .i64 r1), .sc (.int .i64 q1), .sc (.int .i64 o1), .sc (.bool u1)], .agg [.sc (.int .i64 r2), .sc (.int .i64 q2), .sc (.int .i64 o2), .sc (.bool u2)]] => some ([], .ret (sB (lessKI r1 q1 o1 u1 r2 q2 o2 u2)), H)
  | 20, [.agg [.sc (.int .i64 r), .sc (.int .i64 q), .sc (.int .i64 o), .sc (.bool u)]] => some ([], .ret (sB (refMayKI r q o)), H)
  | 25, [.agg [.sc (.int .i64 r), .sc (.int .i64 q), .sc (.int .i64 o), .sc (.bool u)]] => some ([], .ret (keyP r q o (!u)), H)
  | 23, [.agg [.sc (.int .i64 r1), .sc (.int .i64 q1), .sc (.int .i64 o1), .sc (.bool u1)], .agg [.sc (.int .i64 r2), .sc (.int .i64 q2), .sc (.int .i64 o2), .sc (.bool u2)]] => some ([], .ret (sB (refLessKI r1 q1 o1 u1 r2 q2 o2 u2)), H)
  | f, args => Γ5 f args H
theorem Γ6_ok : CtxOk Tryd.prog Γ6 := by
  intro f args H wr o H' h
  unfold Γ6 at h
  split at h
  · simp only [Option.some.injEq, Prod.mk.injEq] at h; obtain ⟨rfl, rfl, rfl⟩ := h; exact c9 _
  · simp only [Option.some.injEq, Prod.mk.injEq] at h; obtain ⟨rfl, rfl, rfl⟩ := h; exact c17 _ _ _ _ _ _ _ _ _
  · simp only [Option.some.injEq, Prod.mk.injEq] at h; obtain ⟨rfl, rfl, rfl⟩ := h; exact c20 _ _ _ _ _
  · simp only [Option.some.injEq, Prod.mk.injEq] at h; obtain ⟨rfl, rfl, rfl⟩ := h; exact c25 _ _ _ _ _
  · simp only [Option.some.injEq, Prod.mk.injEq] at h; obtain ⟨rfl, rfl, rfl⟩ := h; exact c23 _ _ _ _ _ _ _ _ _
  · exact Γ5_ok _ _ _ _ _ _ h


theorem cmpI_spec (a b : Int) : (cmpI a b < 0 ↔ a < b) ∧ (cmpI a b = 0 ↔ a = b) := by
  unfold cmpI; constructor <;> constructor <;> (intro h; (repeat' split at *) <;> omega)
theorem orI_spec (a b : Int) : (orI a b < 0 ↔ a < 0 ∨ (a = 0 ∧ b < 0)) ∧ (orI a b = 0 ↔ a = 0 ∧ b = 0) := by
  unfold orI; constructor <;> constructor <;> (intro h; split at * <;> omega)
theorem ordI_spec (r1 q1 r2 q2 : Int) : (ordI r1 q1 r2 q2 < 0 ↔ q1 < q2 ∨ (q1 = q2 ∧ r1 < r2)) ∧ (ordI r1 q1 r2 q2 = 0 ↔ q1 = q2 ∧ r1 = r2) := by
  have h1 := cmpI_spec q1 q2; have h2 := cmpI_spec r1 r2; have h3 := orI_spec (cmpI q1 q2) (cmpI r1 r2)
  unfold ordI; constructor
  · rw [h3.1, h1.1, h1.2, h2.1]
  · rw [h3.2, h1.2, h2.2]
/-- One key lies ahead of another. -/
def KL (r1 q1 o1 : Int) (u1 : Bool) (r2 q2 o2 : Int) (u2 : Bool) : Prop :=
  (q1 < q2 ∨ (q1 = q2 ∧ r1 < r2)) ∨ ((q1 = q2 ∧ r1 = r2) ∧ (o1 < o2 ∨ (o1 = o2 ∧ (u1 = false ∧ u2 = true))))
theorem lessKI_iff (r1 q1 o1 : Int) (u1 : Bool) (r2 q2 o2 : Int) (u2 : Bool) : lessKI r1 q1 o1 u1 r2 q2 o2 u2 = true ↔ KL r1 q1 o1 u1 r2 q2 o2 u2 := by
  have h1 := ordI_spec r1 q1 r2 q2; have h2 := cmpI_spec o1 o2; have h3 := orI_spec (ordI r1 q1 r2 q2) (cmpI o1 o2)
  unfold lessKI KL
  split
  · rename_i h
    rw [h3.2, h1.2, h2.2] at h
    obtain ⟨⟨ha, hb⟩, hc⟩ := h
    subst ha; subst hb; subst hc
    cases u1 <;> cases u2 <;> simp
  · rename_i h
    rw [h3.2, h1.2, h2.2] at h
    rw [decide_eq_true_iff, h3.1, h1.1, h1.2, h2.1]
    constructor
    · rintro (h' | ⟨h', h''⟩)
      · exact .inl h'
      · exact .inr ⟨h', .inl h''⟩
    · rintro (h' | ⟨h', h'' | ⟨h'', _⟩⟩)
      · exact .inl h'
      · exact .inr ⟨h', h''⟩
      · exact (h ⟨h', h''⟩).elim

theorem c4_1 (r1 q1 o1 : Int) (u1 : Bool) (r2 q2 o2 : Int) (u2 : Bool) (r3 q3 o3 : Int) (u3 : Bool) (H : Heap) (hne : (r1 = r2 → q1 = q2 → o1 = o2 → ¬u1 = u2) = True) (hn2 : (r1 = r2 ∧ q1 = q2 ∧ o1 = o2 ∧ u1 = u2) = False) (hn3 : (r1 == r2 && (q1 == q2 && (o1 == o2 && u1 == u2))) = false) (hab : lessKI r1 q1 o1 u1 r2 q2 o2 u2 = true) (hba : lessKI r2 q2 o2 u2 r1 q1 o1 u1 = false) (hbc : lessKI r2 q2 o2 u2 r3 q3 o3 u3 = true) (hac : lessKI r1 q1 o1 u1 r3 q3 o3 u3 = true) : SimCall Tryd.prog 4 [keyP r1 q1 o1 u1, keyP r2 q2 o2 u2, keyP r3 q3 o3 u3] H [] (.ret (sB true)) H := by
  refine sim_run (n := 8) amixed Γ6_ok Tryd.func4 rfl (by kernel_rfl) (.ret, _) (by
      simp [wrapI, iterE, codeE_loop, codeE_skip, codeE_ret, codeE_exit, codeE_seq, codeE_cond, codeE_block, codeE_seqr, seqE, planE, goE, freeE, freeOp, coreE, actOf, evP, putT, perform, guardV, binP, unP, intBin, strBin, isShift, List.replicate, ofConst, cellsOf, sv0, partP, unAll, eqCells, indexAddrP, intOf?, lenP, fillP, placeAt, setFrom, chunks, sI, sS, sB, t_aggN_2, t_aggN_3, t_aggN_4, t_aggN_5, t_aggN_9, t_aggN_23, t_aggN_25, t_arrOf_9, t_arrOf_103, t_eqKinds_2, t_eqKinds_3, t_eqKinds_4, t_eqKinds_5, t_eqKinds_9, t_eqKinds_23, t_eqKinds_25, t_fOff_23_0, t_fOff_23_1, t_fOff_25_0, t_fOff_25_1, t_fOff_25_2, t_fPart_25_2, t_placesOf_23, t_placesOf_25, t_slOf_9, t_slOf_81, t_slOf_103, t_under_2, t_under_3, t_under_4, t_under_5, t_under_9, t_under_23, t_under_25, t_under_81, t_under_103, t_zeroOf_3, t_zeroOf_5, t_zeroOf_23, t_zeroOf_25, pl4, Tryd.f4, keyP, Γ6, hne, hn2, hn3, hab, hba, hbc, hac]
      rw [codeE_draw pl4]
      rotate_left
      · kernel_rfl
      · kernel_rfl
      simp [wrapI, iterE, codeE_loop, codeE_skip, codeE_ret, codeE_exit, codeE_seq, codeE_cond, codeE_block, codeE_seqr, seqE, planE, goE, freeE, freeOp, coreE, actOf, evP, putT, perform, guardV, binP, unP, intBin, strBin, isShift, List.replicate, ofConst, cellsOf, sv0, partP, unAll, eqCells, indexAddrP, intOf?, lenP, fillP, placeAt, setFrom, chunks, sI, sS, sB, t_aggN_2, t_aggN_3, t_aggN_4, t_aggN_5, t_aggN_9, t_aggN_23, t_aggN_25, t_arrOf_9, t_arrOf_103, t_eqKinds_2, t_eqKinds_3, t_eqKinds_4, t_eqKinds_5, t_eqKinds_9, t_eqKinds_23, t_eqKinds_25, t_fOff_23_0, t_fOff_23_1, t_fOff_25_0, t_fOff_25_1, t_fOff_25_2, t_fPart_25_2, t_placesOf_23, t_placesOf_25, t_slOf_9, t_slOf_81, t_slOf_103, t_under_2, t_under_3, t_under_4, t_under_5, t_under_9, t_under_23, t_under_25, t_under_81, t_under_103, t_zeroOf_3, t_zeroOf_5, t_zeroOf_23, t_zeroOf_25, pl4, Tryd.f4, keyP, Γ6, hne, hn2, hn3, hab, hba, hbc, hac]
      rfl) ⟨rfl, by simp [hne, hn2, hn3, hab, hba, hbc, hac], by simp [resP, oneP, sB, sI, sS, Tryd.f4, hne, hn2, hn3, hab, hba, hbc, hac]⟩

theorem c4_2 (r1 q1 o1 : Int) (u1 : Bool) (r2 q2 o2 : Int) (u2 : Bool) (r3 q3 o3 : Int) (u3 : Bool) (H : Heap) (hne : (r1 = r2 → q1 = q2 → o1 = o2 → ¬u1 = u2) = True) (hn2 : (r1 = r2 ∧ q1 = q2 ∧ o1 = o2 ∧ u1 = u2) = False) (hn3 : (r1 == r2 && (q1 == q2 && (o1 == o2 && u1 == u2))) = false) (hab : lessKI r1 q1 o1 u1 r2 q2 o2 u2 = true) (hba : lessKI r2 q2 o2 u2 r1 q1 o1 u1 = false) (hbc : lessKI r2 q2 o2 u2 r3 q3 o3 u3 = false) : SimCall Tryd.prog 4 [keyP r1 q1 o1 u1, keyP r2 q2 o2 u2, keyP r3 q3 o3 u3] H [] (.ret (sB true)) H := by
  refine sim_run (n := 8) amixed Γ6_ok Tryd.func4 rfl (by kernel_rfl) (.ret, _) (by
      simp [wrapI, iterE, codeE_loop, codeE_skip, codeE_ret, codeE_exit, codeE_seq, codeE_cond, codeE_block, codeE_seqr, seqE, planE, goE, freeE, freeOp, coreE, actOf, evP, putT, perform, guardV, binP, unP, intBin, strBin, isShift, List.replicate, ofConst, cellsOf, sv0, partP, unAll, eqCells, indexAddrP, intOf?, lenP, fillP, placeAt, setFrom, chunks, sI, sS, sB, t_aggN_2, t_aggN_3, t_aggN_4, t_aggN_5, t_aggN_9, t_aggN_23, t_aggN_25, t_arrOf_9, t_arrOf_103, t_eqKinds_2, t_eqKinds_3, t_eqKinds_4, t_eqKinds_5, t_eqKinds_9, t_eqKinds_23, t_eqKinds_25, t_fOff_23_0, t_fOff_23_1, t_fOff_25_0, t_fOff_25_1, t_fOff_25_2, t_fPart_25_2, t_placesOf_23, t_placesOf_25, t_slOf_9, t_slOf_81, t_slOf_103, t_under_2, t_under_3, t_under_4, t_under_5, t_under_9, t_under_23, t_under_25, t_under_81, t_under_103, t_zeroOf_3, t_zeroOf_5, t_zeroOf_23, t_zeroOf_25, pl4, Tryd.f4, keyP, Γ6, hne, hn2, hn3, hab, hba, hbc]
      rw [codeE_draw pl4]
      rotate_left
      · kernel_rfl
      · kernel_rfl
      simp [wrapI, iterE, codeE_loop, codeE_skip, codeE_ret, codeE_exit, codeE_seq, codeE_cond, codeE_block, codeE_seqr, seqE, planE, goE, freeE, freeOp, coreE, actOf, evP, putT, perform, guardV, binP, unP, intBin, strBin, isShift, List.replicate, ofConst, cellsOf, sv0, partP, unAll, eqCells, indexAddrP, intOf?, lenP, fillP, placeAt, setFrom, chunks, sI, sS, sB, t_aggN_2, t_aggN_3, t_aggN_4, t_aggN_5, t_aggN_9, t_aggN_23, t_aggN_25, t_arrOf_9, t_arrOf_103, t_eqKinds_2, t_eqKinds_3, t_eqKinds_4, t_eqKinds_5, t_eqKinds_9, t_eqKinds_23, t_eqKinds_25, t_fOff_23_0, t_fOff_23_1, t_fOff_25_0, t_fOff_25_1, t_fOff_25_2, t_fPart_25_2, t_placesOf_23, t_placesOf_25, t_slOf_9, t_slOf_81, t_slOf_103, t_under_2, t_under_3, t_under_4, t_under_5, t_under_9, t_under_23, t_under_25, t_under_81, t_under_103, t_zeroOf_3, t_zeroOf_5, t_zeroOf_23, t_zeroOf_25, pl4, Tryd.f4, keyP, Γ6, hne, hn2, hn3, hab, hba, hbc]
      rfl) ⟨rfl, by simp [hne, hn2, hn3, hab, hba, hbc], by simp [resP, oneP, sB, sI, sS, Tryd.f4, hne, hn2, hn3, hab, hba, hbc]⟩

theorem c4_3 (r1 q1 o1 : Int) (u1 : Bool) (r2 q2 o2 : Int) (u2 : Bool) (r3 q3 o3 : Int) (u3 : Bool) (H : Heap) (hne : (r1 = r2 → q1 = q2 → o1 = o2 → ¬u1 = u2) = True) (hn2 : (r1 = r2 ∧ q1 = q2 ∧ o1 = o2 ∧ u1 = u2) = False) (hn3 : (r1 == r2 && (q1 == q2 && (o1 == o2 && u1 == u2))) = false) (hab : lessKI r1 q1 o1 u1 r2 q2 o2 u2 = false) (hba : lessKI r2 q2 o2 u2 r1 q1 o1 u1 = true) : SimCall Tryd.prog 4 [keyP r1 q1 o1 u1, keyP r2 q2 o2 u2, keyP r3 q3 o3 u3] H [] (.ret (sB true)) H := by
  refine sim_run (n := 8) amixed Γ6_ok Tryd.func4 rfl (by kernel_rfl) (.ret, _) (by
      simp [wrapI, iterE, codeE_loop, codeE_skip, codeE_ret, codeE_exit, codeE_seq, codeE_cond, codeE_block, codeE_seqr, seqE, planE, goE, freeE, freeOp, coreE, actOf, evP, putT, perform, guardV, binP, unP, intBin, strBin, isShift, List.replicate, ofConst, cellsOf, sv0, partP, unAll, eqCells, indexAddrP, intOf?, lenP, fillP, placeAt, setFrom, chunks, sI, sS, sB, t_aggN_2, t_aggN_3, t_aggN_4, t_aggN_5, t_aggN_9, t_aggN_23, t_aggN_25, t_arrOf_9, t_arrOf_103, t_eqKinds_2, t_eqKinds_3, t_eqKinds_4, t_eqKinds_5, t_eqKinds_9, t_eqKinds_23, t_eqKinds_25, t_fOff_23_0, t_fOff_23_1, t_fOff_25_0, t_fOff_25_1, t_fOff_25_2, t_fPart_25_2, t_placesOf_23, t_placesOf_25, t_slOf_9, t_slOf_81, t_slOf_103, t_under_2, t_under_3, t_under_4, t_under_5, t_under_9, t_under_23, t_under_25, t_under_81, t_under_103, t_zeroOf_3, t_zeroOf_5, t_zeroOf_23, t_zeroOf_25, pl4, Tryd.f4, keyP, Γ6, hne, hn2, hn3, hab, hba]
      rw [codeE_draw pl4]
      rotate_left
      · kernel_rfl
      · kernel_rfl
      simp [wrapI, iterE, codeE_loop, codeE_skip, codeE_ret, codeE_exit, codeE_seq, codeE_cond, codeE_block, codeE_seqr, seqE, planE, goE, freeE, freeOp, coreE, actOf, evP, putT, perform, guardV, binP, unP, intBin, strBin, isShift, List.replicate, ofConst, cellsOf, sv0, partP, unAll, eqCells, indexAddrP, intOf?, lenP, fillP, placeAt, setFrom, chunks, sI, sS, sB, t_aggN_2, t_aggN_3, t_aggN_4, t_aggN_5, t_aggN_9, t_aggN_23, t_aggN_25, t_arrOf_9, t_arrOf_103, t_eqKinds_2, t_eqKinds_3, t_eqKinds_4, t_eqKinds_5, t_eqKinds_9, t_eqKinds_23, t_eqKinds_25, t_fOff_23_0, t_fOff_23_1, t_fOff_25_0, t_fOff_25_1, t_fOff_25_2, t_fPart_25_2, t_placesOf_23, t_placesOf_25, t_slOf_9, t_slOf_81, t_slOf_103, t_under_2, t_under_3, t_under_4, t_under_5, t_under_9, t_under_23, t_under_25, t_under_81, t_under_103, t_zeroOf_3, t_zeroOf_5, t_zeroOf_23, t_zeroOf_25, pl4, Tryd.f4, keyP, Γ6, hne, hn2, hn3, hab, hba]
      rfl) ⟨rfl, by simp [hne, hn2, hn3, hab, hba], by simp [resP, oneP, sB, sI, sS, Tryd.f4, hne, hn2, hn3, hab, hba]⟩

theorem c4_4 (r1 q1 o1 : Int) (u1 : Bool) (r2 q2 o2 : Int) (u2 : Bool) (r3 q3 o3 : Int) (u3 : Bool) (H : Heap) (haa : lessKI r1 q1 o1 u1 r1 q1 o1 u1 = false) : SimCall Tryd.prog 4 [keyP r1 q1 o1 u1, keyP r1 q1 o1 u1, keyP r3 q3 o3 u3] H [] (.ret (sB true)) H := by
  refine sim_run (n := 8) amixed Γ6_ok Tryd.func4 rfl (by kernel_rfl) (.ret, _) (by
      simp [wrapI, iterE, codeE_loop, codeE_skip, codeE_ret, codeE_exit, codeE_seq, codeE_cond, codeE_block, codeE_seqr, seqE, planE, goE, freeE, freeOp, coreE, actOf, evP, putT, perform, guardV, binP, unP, intBin, strBin, isShift, List.replicate, ofConst, cellsOf, sv0, partP, unAll, eqCells, indexAddrP, intOf?, lenP, fillP, placeAt, setFrom, chunks, sI, sS, sB, t_aggN_2, t_aggN_3, t_aggN_4, t_aggN_5, t_aggN_9, t_aggN_23, t_aggN_25, t_arrOf_9, t_arrOf_103, t_eqKinds_2, t_eqKinds_3, t_eqKinds_4, t_eqKinds_5, t_eqKinds_9, t_eqKinds_23, t_eqKinds_25, t_fOff_23_0, t_fOff_23_1, t_fOff_25_0, t_fOff_25_1, t_fOff_25_2, t_fPart_25_2, t_placesOf_23, t_placesOf_25, t_slOf_9, t_slOf_81, t_slOf_103, t_under_2, t_under_3, t_under_4, t_under_5, t_under_9, t_under_23, t_under_25, t_under_81, t_under_103, t_zeroOf_3, t_zeroOf_5, t_zeroOf_23, t_zeroOf_25, pl4, Tryd.f4, keyP, Γ6, haa]
      rw [codeE_draw pl4]
      rotate_left
      · kernel_rfl
      · kernel_rfl
      simp [wrapI, iterE, codeE_loop, codeE_skip, codeE_ret, codeE_exit, codeE_seq, codeE_cond, codeE_block, codeE_seqr, seqE, planE, goE, freeE, freeOp, coreE, actOf, evP, putT, perform, guardV, binP, unP, intBin, strBin, isShift, List.replicate, ofConst, cellsOf, sv0, partP, unAll, eqCells, indexAddrP, intOf?, lenP, fillP, placeAt, setFrom, chunks, sI, sS, sB, t_aggN_2, t_aggN_3, t_aggN_4, t_aggN_5, t_aggN_9, t_aggN_23, t_aggN_25, t_arrOf_9, t_arrOf_103, t_eqKinds_2, t_eqKinds_3, t_eqKinds_4, t_eqKinds_5, t_eqKinds_9, t_eqKinds_23, t_eqKinds_25, t_fOff_23_0, t_fOff_23_1, t_fOff_25_0, t_fOff_25_1, t_fOff_25_2, t_fPart_25_2, t_placesOf_23, t_placesOf_25, t_slOf_9, t_slOf_81, t_slOf_103, t_under_2, t_under_3, t_under_4, t_under_5, t_under_9, t_under_23, t_under_25, t_under_81, t_under_103, t_zeroOf_3, t_zeroOf_5, t_zeroOf_23, t_zeroOf_25, pl4, Tryd.f4, keyP, Γ6, haa]
      rfl) ⟨rfl, by simp [haa], by simp [resP, oneP, sB, sI, sS, Tryd.f4, haa]⟩

theorem KL_cases (r1 q1 o1 : Int) (u1 : Bool) (r2 q2 o2 : Int) (u2 : Bool) : (r1 = r2 ∧ q1 = q2 ∧ o1 = o2 ∧ u1 = u2 ∧ ¬ KL r1 q1 o1 u1 r2 q2 o2 u2) ∨
    ((r1 = r2 → q1 = q2 → o1 = o2 → ¬u1 = u2) ∧ ((KL r1 q1 o1 u1 r2 q2 o2 u2 ∧ ¬ KL r2 q2 o2 u2 r1 q1 o1 u1) ∨ (¬ KL r1 q1 o1 u1 r2 q2 o2 u2 ∧ KL r2 q2 o2 u2 r1 q1 o1 u1))) := by
  unfold KL
  cases u1 <;> cases u2 <;> simp <;> omega
theorem KL_trans {r1 q1 o1 : Int} {u1 : Bool} {r2 q2 o2 : Int} {u2 : Bool} {r3 q3 o3 : Int} {u3 : Bool} (h : KL r1 q1 o1 u1 r2 q2 o2 u2) (k : KL r2 q2 o2 u2 r3 q3 o3 u3) : KL r1 q1 o1 u1 r3 q3 o3 u3 := by
  unfold KL at *
  cases u1 <;> cases u2 <;> cases u3 <;> simp at * <;> omega
theorem not_lessKI {r1 q1 o1 : Int} {u1 : Bool} {r2 q2 o2 : Int} {u2 : Bool} (h : ¬ KL r1 q1 o1 u1 r2 q2 o2 u2) : lessKI r1 q1 o1 u1 r2 q2 o2 u2 = false := by
  rw [← Bool.not_eq_true, lessKI_iff]; exact h

theorem c4 (r1 q1 o1 : Int) (u1 : Bool) (r2 q2 o2 : Int) (u2 : Bool) (r3 q3 o3 : Int) (u3 : Bool) (H : Heap) : SimCall Tryd.prog 4 [keyP r1 q1 o1 u1, keyP r2 q2 o2 u2, keyP r3 q3 o3 u3] H [] (.ret (sB true)) H := by
  rcases KL_cases r1 q1 o1 u1 r2 q2 o2 u2 with ⟨rfl, rfl, rfl, rfl, h⟩ | ⟨hne, ⟨h1, h2⟩ | ⟨h1, h2⟩⟩
  · exact c4_4 r1 q1 o1 u1 r1 q1 o1 u1 r3 q3 o3 u3 H (not_lessKI h)
  · by_cases h3 : KL r2 q2 o2 u2 r3 q3 o3 u3
    · exact c4_1 _ _ _ _ _ _ _ _ _ _ _ _ H (eq_true hne) (eq_false (fun e => hne e.1 e.2.1 e.2.2.1 e.2.2.2)) (by simpa using hne) ((lessKI_iff ..).2 h1) (not_lessKI h2) ((lessKI_iff ..).2 h3) ((lessKI_iff ..).2 (KL_trans h1 h3))
    · exact c4_2 _ _ _ _ _ _ _ _ _ _ _ _ H (eq_true hne) (eq_false (fun e => hne e.1 e.2.1 e.2.2.1 e.2.2.2)) (by simpa using hne) ((lessKI_iff ..).2 h1) (not_lessKI h2) (not_lessKI h3)
  · exact c4_3 _ _ _ _ _ _ _ _ _ _ _ _ H (eq_true hne) (eq_false (fun e => hne e.1 e.2.1 e.2.2.1 e.2.2.2)) (by simpa using hne) (not_lessKI h1) ((lessKI_iff ..).2 h2)

end Go.PM
