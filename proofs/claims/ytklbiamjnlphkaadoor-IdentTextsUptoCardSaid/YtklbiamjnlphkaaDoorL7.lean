/-
  Seat a: countermandplain.Decimal.
-/
import Derived.Test.YtklbiamjnlphkaaDoorL3
import Derived.Test.YtklbiamjnlphkaaDoorK31
import Derived.Test.YtklbiamjnlphkaaDoorP1
set_option linter.unusedVariables false
set_option linter.unusedSimpArgs false
set_option maxRecDepth 10000
set_option maxHeartbeats 4000000
namespace Go.PM
open Go Go.Proofs Go.Lib

theorem t_info_5 : Tryd.prog.info? 5 = some { desc := TypeDesc.int IntKind.u8, str := "uint8", size := 1, bytes := 1, hasPointers := false, align := 1, fieldAlign := 1, zero := some (Value.int IntKind.u8 (Int.ofNat 0)), comparable := true, methods := { toList := [] } } := by kernel_rfl
theorem step40 (m : Int) : ∃ q r : Int, m.tmod 10 = r ∧ m.tdiv 10 = q ∧ q.natAbs = m.natAbs / 10 ∧ r.natAbs = m.natAbs % 10 ∧ (0 ≤ m → 0 ≤ q) ∧ (m ≤ 0 → q ≤ 0) := by
  rcases Int.lt_or_le m 0 with h | h
  · obtain ⟨u, rfl⟩ : ∃ u : Nat, m = -(u : Int) := ⟨m.natAbs, by omega⟩
    refine ⟨-((u / 10 : Nat) : Int), -((u % 10 : Nat) : Int), ?_, ?_, ?_, ?_, ?_, ?_⟩
    · rw [Int.neg_tmod]; rfl
    · rw [Int.neg_tdiv]; rfl
    all_goals omega
  · obtain ⟨u, rfl⟩ : ∃ u : Nat, m = (u : Int) := ⟨m.natAbs, by omega⟩
    refine ⟨((u / 10 : Nat) : Int), ((u % 10 : Nat) : Int), ?_, ?_, ?_, ?_, ?_, ?_⟩
    · rfl
    · rfl
    all_goals omega

/-- Between the rounds. -/
def I40 (n : Int) (H : Heap) (k : Nat) (st : St) : Prop := ∃ (m : Int) (s : List UInt8) (x1 x2 x5 x6 x7 x8 x9 x10 x11 x12 x13 x14 x15 x16 x17 x18 x19 x20 x21 x22 x23 x24 x25 x26 x27 x28 x29 x30 : PVal), st = ⟨[sI n, x1, x2, sT s, sI m, x5, x6, x7, x8, x9, x10, x11, x12, x13, x14, x15, x16, x17, x18, x19, x20, x21, x22, x23, x24, x25, x26, x27, x28, x29, x30], H, []⟩ ∧
  k = m.natAbs ∧ (0 ≤ n → 0 ≤ m) ∧ (n ≤ 0 → m ≤ 0) ∧ -9223372036854775808 ≤ m ∧ m ≤ 9223372036854775807 ∧ (m = 0 → s = decDigits n.natAbs) ∧ (m ≠ 0 → decDigits m.natAbs ++ s = decDigits n.natAbs)

theorem c40 (n : Int) (h0 : -9223372036854775808 ≤ n) (h1 : n ≤ 9223372036854775807) (H : Heap) : SimCall Tryd.prog 40 [sI n] H [] (.ret (sT (itoa n))) H := by
  refine sim_pwp0 amixed Γ0_ok Tryd.func40 rfl (by kernel_rfl) rfl ?_
  by_cases hn : n = 0
  · subst hn
    refine pwp_end 8 (by simp [wrapI, codeE_skip, codeE_ret, codeE_exit, codeE_seq, codeE_cond, codeE_block, codeE_seqr, seqE, planE, goE, freeE, freeOp, coreE, actOf, evP, putT, perform, guardV, binP, unP, intBin, strAdd, strEql, strNeq, strLss, strGtr, isShift, List.replicate, ofConst, cellsOf, sv0, partP, unAll, eqCells, indexAddrP, intOf?, lenP, fillP, placeAt, setFrom, chunks, sI, sS, sB, sT, tl_size, ↓tl_get, tl_getE, tl_ext, bnd, bounds, sliceP, convP, bytesOfCells, t_info_5, t_aggN_2, t_aggN_3, t_aggN_4, t_aggN_5, t_aggN_9, t_aggN_23, t_aggN_25, t_arrOf_9, t_arrOf_103, t_eqKinds_2, t_eqKinds_3, t_eqKinds_4, t_eqKinds_5, t_eqKinds_9, t_eqKinds_23, t_eqKinds_25, t_fOff_23_0, t_fOff_23_1, t_fOff_25_0, t_fOff_25_1, t_fOff_25_2, t_fPart_25_2, t_placesOf_23, t_placesOf_25, t_slOf_9, t_slOf_81, t_slOf_103, t_under_2, t_under_3, t_under_4, t_under_5, t_under_9, t_under_23, t_under_25, t_under_81, t_under_103, t_zeroOf_3, t_zeroOf_5, t_zeroOf_23, t_zeroOf_25, Tryd.f40]; rfl) ?_
    exact ⟨rfl, rfl, by rw [show itoa 0 = [48] by simp [Lib.itoa, Lib.decDigits]]; rfl⟩
  · refine pwp_seq_run 8 (by simp [wrapI, codeE_skip, codeE_ret, codeE_exit, codeE_seq, codeE_cond, codeE_block, codeE_seqr, seqE, planE, goE, freeE, freeOp, coreE, actOf, evP, putT, perform, guardV, binP, unP, intBin, strAdd, strEql, strNeq, strLss, strGtr, isShift, List.replicate, ofConst, cellsOf, sv0, partP, unAll, eqCells, indexAddrP, intOf?, lenP, fillP, placeAt, setFrom, chunks, sI, sS, sB, sT, tl_size, ↓tl_get, tl_getE, tl_ext, bnd, bounds, sliceP, convP, bytesOfCells, t_info_5, t_aggN_2, t_aggN_3, t_aggN_4, t_aggN_5, t_aggN_9, t_aggN_23, t_aggN_25, t_arrOf_9, t_arrOf_103, t_eqKinds_2, t_eqKinds_3, t_eqKinds_4, t_eqKinds_5, t_eqKinds_9, t_eqKinds_23, t_eqKinds_25, t_fOff_23_0, t_fOff_23_1, t_fOff_25_0, t_fOff_25_1, t_fOff_25_2, t_fPart_25_2, t_placesOf_23, t_placesOf_25, t_slOf_9, t_slOf_81, t_slOf_103, t_under_2, t_under_3, t_under_4, t_under_5, t_under_9, t_under_23, t_under_25, t_under_81, t_under_103, t_zeroOf_3, t_zeroOf_5, t_zeroOf_23, t_zeroOf_25, Tryd.f40, hn]; rfl) ?_
    refine pwp_seq_run 8 (by simp [wrapI, codeE_skip, codeE_ret, codeE_exit, codeE_seq, codeE_cond, codeE_block, codeE_seqr, seqE, planE, goE, freeE, freeOp, coreE, actOf, evP, putT, perform, guardV, binP, unP, intBin, strAdd, strEql, strNeq, strLss, strGtr, isShift, List.replicate, ofConst, cellsOf, sv0, partP, unAll, eqCells, indexAddrP, intOf?, lenP, fillP, placeAt, setFrom, chunks, sI, sS, sB, sT, tl_size, ↓tl_get, tl_getE, tl_ext, bnd, bounds, sliceP, convP, bytesOfCells, t_info_5, t_aggN_2, t_aggN_3, t_aggN_4, t_aggN_5, t_aggN_9, t_aggN_23, t_aggN_25, t_arrOf_9, t_arrOf_103, t_eqKinds_2, t_eqKinds_3, t_eqKinds_4, t_eqKinds_5, t_eqKinds_9, t_eqKinds_23, t_eqKinds_25, t_fOff_23_0, t_fOff_23_1, t_fOff_25_0, t_fOff_25_1, t_fOff_25_2, t_fPart_25_2, t_placesOf_23, t_placesOf_25, t_slOf_9, t_slOf_81, t_slOf_103, t_under_2, t_under_3, t_under_4, t_under_5, t_under_9, t_under_23, t_under_25, t_under_81, t_under_103, t_zeroOf_3, t_zeroOf_5, t_zeroOf_23, t_zeroOf_25, Tryd.f40, hn]; rfl) ?_
    refine pwp_seq_run 8 (by simp [wrapI, codeE_skip, codeE_ret, codeE_exit, codeE_seq, codeE_cond, codeE_block, codeE_seqr, seqE, planE, goE, freeE, freeOp, coreE, actOf, evP, putT, perform, guardV, binP, unP, intBin, strAdd, strEql, strNeq, strLss, strGtr, isShift, List.replicate, ofConst, cellsOf, sv0, partP, unAll, eqCells, indexAddrP, intOf?, lenP, fillP, placeAt, setFrom, chunks, sI, sS, sB, sT, tl_size, ↓tl_get, tl_getE, tl_ext, bnd, bounds, sliceP, convP, bytesOfCells, t_info_5, t_aggN_2, t_aggN_3, t_aggN_4, t_aggN_5, t_aggN_9, t_aggN_23, t_aggN_25, t_arrOf_9, t_arrOf_103, t_eqKinds_2, t_eqKinds_3, t_eqKinds_4, t_eqKinds_5, t_eqKinds_9, t_eqKinds_23, t_eqKinds_25, t_fOff_23_0, t_fOff_23_1, t_fOff_25_0, t_fOff_25_1, t_fOff_25_2, t_fPart_25_2, t_placesOf_23, t_placesOf_25, t_slOf_9, t_slOf_81, t_slOf_103, t_under_2, t_under_3, t_under_4, t_under_5, t_under_9, t_under_23, t_under_25, t_under_81, t_under_103, t_zeroOf_3, t_zeroOf_5, t_zeroOf_23, t_zeroOf_25, Tryd.f40, hn]; rfl) ?_
    refine pwp_seq (pwp_seq_run 8 (by simp [wrapI, codeE_skip, codeE_ret, codeE_exit, codeE_seq, codeE_cond, codeE_block, codeE_seqr, seqE, planE, goE, freeE, freeOp, coreE, actOf, evP, putT, perform, guardV, binP, unP, intBin, strAdd, strEql, strNeq, strLss, strGtr, isShift, List.replicate, ofConst, cellsOf, sv0, partP, unAll, eqCells, indexAddrP, intOf?, lenP, fillP, placeAt, setFrom, chunks, sI, sS, sB, sT, tl_size, ↓tl_get, tl_getE, tl_ext, bnd, bounds, sliceP, convP, bytesOfCells, t_info_5, t_aggN_2, t_aggN_3, t_aggN_4, t_aggN_5, t_aggN_9, t_aggN_23, t_aggN_25, t_arrOf_9, t_arrOf_103, t_eqKinds_2, t_eqKinds_3, t_eqKinds_4, t_eqKinds_5, t_eqKinds_9, t_eqKinds_23, t_eqKinds_25, t_fOff_23_0, t_fOff_23_1, t_fOff_25_0, t_fOff_25_1, t_fOff_25_2, t_fPart_25_2, t_placesOf_23, t_placesOf_25, t_slOf_9, t_slOf_81, t_slOf_103, t_under_2, t_under_3, t_under_4, t_under_5, t_under_9, t_under_23, t_under_25, t_under_81, t_under_103, t_zeroOf_3, t_zeroOf_5, t_zeroOf_23, t_zeroOf_25, Tryd.f40, hn]; rfl) ?_)
    refine pwp_block (pwp_loop (I40 n H) ?_ (n := n.natAbs) ⟨n, [], _, _, _, _, _, _, _, _, _, _, _, _, _, _, _, _, _, _, _, _, _, _, _, _, _, _, _, _, rfl, rfl, fun h => h, fun h => h, h0, h1, fun h => (hn h).elim, fun _ => by simp⟩)
    rintro k st ⟨m, s, x1, x2, x5, x6, x7, x8, x9, x10, x11, x12, x13, x14, x15, x16, x17, x18, x19, x20, x21, x22, x23, x24, x25, x26, x27, x28, x29, x30, rfl, rfl, hp, hq, hm0, hm1, hz, hnz⟩
    by_cases hm : m = 0
    · subst hm
      have hs := hz rfl
      refine pwp_end 8 (by simp [wrapI, codeE_skip, codeE_ret, codeE_exit, codeE_seq, codeE_cond, codeE_block, codeE_seqr, seqE, planE, goE, freeE, freeOp, coreE, actOf, evP, putT, perform, guardV, binP, unP, intBin, strAdd, strEql, strNeq, strLss, strGtr, isShift, List.replicate, ofConst, cellsOf, sv0, partP, unAll, eqCells, indexAddrP, intOf?, lenP, fillP, placeAt, setFrom, chunks, sI, sS, sB, sT, tl_size, ↓tl_get, tl_getE, tl_ext, bnd, bounds, sliceP, convP, bytesOfCells, t_info_5, t_aggN_2, t_aggN_3, t_aggN_4, t_aggN_5, t_aggN_9, t_aggN_23, t_aggN_25, t_arrOf_9, t_arrOf_103, t_eqKinds_2, t_eqKinds_3, t_eqKinds_4, t_eqKinds_5, t_eqKinds_9, t_eqKinds_23, t_eqKinds_25, t_fOff_23_0, t_fOff_23_1, t_fOff_25_0, t_fOff_25_1, t_fOff_25_2, t_fPart_25_2, t_placesOf_23, t_placesOf_25, t_slOf_9, t_slOf_81, t_slOf_103, t_under_2, t_under_3, t_under_4, t_under_5, t_under_9, t_under_23, t_under_25, t_under_81, t_under_103, t_zeroOf_3, t_zeroOf_5, t_zeroOf_23, t_zeroOf_25, Tryd.f40]; rfl) ?_
      simp only [thenK, blockK, if_true]
      by_cases hneg : n < 0
      · have hf : FitsT [45] s := by
          unfold FitsT; rw [hs]
          have := dd_len n.natAbs (by omega)
          simp; omega
        have hi : itoa n = 45 :: s := by
          obtain ⟨u, rfl⟩ : ∃ u : Nat, n = -(u : Int) := ⟨n.natAbs, by omega⟩
          rw [itoa_neg u (by omega), hs]; simp
        refine pwp_end 8 (by simp [wrapI, codeE_skip, codeE_ret, codeE_exit, codeE_seq, codeE_cond, codeE_block, codeE_seqr, seqE, planE, goE, freeE, freeOp, coreE, actOf, evP, putT, perform, guardV, binP, unP, intBin, strAdd, strEql, strNeq, strLss, strGtr, isShift, List.replicate, ofConst, cellsOf, sv0, partP, unAll, eqCells, indexAddrP, intOf?, lenP, fillP, placeAt, setFrom, chunks, sI, sS, sB, sT, tl_size, ↓tl_get, tl_getE, tl_ext, bnd, bounds, sliceP, convP, bytesOfCells, t_info_5, t_aggN_2, t_aggN_3, t_aggN_4, t_aggN_5, t_aggN_9, t_aggN_23, t_aggN_25, t_arrOf_9, t_arrOf_103, t_eqKinds_2, t_eqKinds_3, t_eqKinds_4, t_eqKinds_5, t_eqKinds_9, t_eqKinds_23, t_eqKinds_25, t_fOff_23_0, t_fOff_23_1, t_fOff_25_0, t_fOff_25_1, t_fOff_25_2, t_fPart_25_2, t_placesOf_23, t_placesOf_25, t_slOf_9, t_slOf_81, t_slOf_103, t_under_2, t_under_3, t_under_4, t_under_5, t_under_9, t_under_23, t_under_25, t_under_81, t_under_103, t_zeroOf_3, t_zeroOf_5, t_zeroOf_23, t_zeroOf_25, Tryd.f40, hneg, hf]; rfl) ?_
        exact ⟨rfl, rfl, by rw [hi]; rfl⟩
      · have hi : itoa n = s := by
          obtain ⟨u, rfl⟩ : ∃ u : Nat, n = (u : Int) := ⟨n.toNat, by omega⟩
          rw [itoa_nonneg, hs]; simp
        refine pwp_end 8 (by simp [wrapI, codeE_skip, codeE_ret, codeE_exit, codeE_seq, codeE_cond, codeE_block, codeE_seqr, seqE, planE, goE, freeE, freeOp, coreE, actOf, evP, putT, perform, guardV, binP, unP, intBin, strAdd, strEql, strNeq, strLss, strGtr, isShift, List.replicate, ofConst, cellsOf, sv0, partP, unAll, eqCells, indexAddrP, intOf?, lenP, fillP, placeAt, setFrom, chunks, sI, sS, sB, sT, tl_size, ↓tl_get, tl_getE, tl_ext, bnd, bounds, sliceP, convP, bytesOfCells, t_info_5, t_aggN_2, t_aggN_3, t_aggN_4, t_aggN_5, t_aggN_9, t_aggN_23, t_aggN_25, t_arrOf_9, t_arrOf_103, t_eqKinds_2, t_eqKinds_3, t_eqKinds_4, t_eqKinds_5, t_eqKinds_9, t_eqKinds_23, t_eqKinds_25, t_fOff_23_0, t_fOff_23_1, t_fOff_25_0, t_fOff_25_1, t_fOff_25_2, t_fPart_25_2, t_placesOf_23, t_placesOf_25, t_slOf_9, t_slOf_81, t_slOf_103, t_under_2, t_under_3, t_under_4, t_under_5, t_under_9, t_under_23, t_under_25, t_under_81, t_under_103, t_zeroOf_3, t_zeroOf_5, t_zeroOf_23, t_zeroOf_25, Tryd.f40, hneg]; rfl) ?_
        exact ⟨rfl, rfl, by rw [hi]; rfl⟩
    · have hs := hnz hm
      have hlen : s.length ≤ 19 := by
        have := congrArg List.length hs
        have h2 := dd_len n.natAbs (by omega)
        simp at this; omega
      obtain ⟨q, r, e1, e2, hqa, hra, hqp, hqn⟩ := step40 m
      obtain ⟨c, hc⟩ : ∃ c, c = UInt8.ofNat (48 + m.natAbs % 10) := ⟨_, rfl⟩
      have hf : FitsT [c] s := by unfold FitsT; simp; omega
      have w1 : IntKind.i64.wrap q = q := wrapI (by omega) (by omega)
      have hfin : ∃ k', k' < m.natAbs ∧ (k' = q.natAbs ∧ (0 ≤ n → 0 ≤ q) ∧ (n ≤ 0 → q ≤ 0) ∧ -9223372036854775808 ≤ q ∧ q ≤ 9223372036854775807 ∧ (q = 0 → c :: s = decDigits n.natAbs) ∧ (q ≠ 0 → decDigits q.natAbs ++ (c :: s) = decDigits n.natAbs)) := by
        refine ⟨q.natAbs, by omega, rfl, fun h => hqp (hp h), fun h => hqn (hq h), by omega, by omega, fun h => ?_, fun h => ?_⟩
        · rw [← hs, decDigits, dif_pos (by omega), hc, Nat.mod_eq_of_lt (by omega)]; rfl
        · rw [← hs, decDigits.eq_def m.natAbs, dif_neg (by omega), hqa, hc]; simp
      obtain ⟨k', hk', hfin⟩ := hfin
      by_cases hr : r < 0
      · have w2 : IntKind.i64.wrap (-r) = -r := wrapI (by omega) (by omega)
        obtain ⟨z, hz1⟩ : ∃ z, z = 48 + -r := ⟨_, rfl⟩
        have w3 : IntKind.i64.wrap (48 + -r) = z := by rw [wrapI (by omega) (by omega), hz1]
        have w4 : IntKind.u8.wrap z = z := wrapU8 (by omega) (by omega)
        have hb : UInt8.ofNat z.toNat = c := by rw [hc]; congr 1; omega
        refine pwp_end 8 (by simp [wrapI, codeE_skip, codeE_ret, codeE_exit, codeE_seq, codeE_cond, codeE_block, codeE_seqr, seqE, planE, goE, freeE, freeOp, coreE, actOf, evP, putT, perform, guardV, binP, unP, intBin, strAdd, strEql, strNeq, strLss, strGtr, isShift, List.replicate, ofConst, cellsOf, sv0, partP, unAll, eqCells, indexAddrP, intOf?, lenP, fillP, placeAt, setFrom, chunks, sI, sS, sB, sT, tl_size, ↓tl_get, tl_getE, tl_ext, bnd, bounds, sliceP, convP, bytesOfCells, t_info_5, t_aggN_2, t_aggN_3, t_aggN_4, t_aggN_5, t_aggN_9, t_aggN_23, t_aggN_25, t_arrOf_9, t_arrOf_103, t_eqKinds_2, t_eqKinds_3, t_eqKinds_4, t_eqKinds_5, t_eqKinds_9, t_eqKinds_23, t_eqKinds_25, t_fOff_23_0, t_fOff_23_1, t_fOff_25_0, t_fOff_25_1, t_fOff_25_2, t_fPart_25_2, t_placesOf_23, t_placesOf_25, t_slOf_9, t_slOf_81, t_slOf_103, t_under_2, t_under_3, t_under_4, t_under_5, t_under_9, t_under_23, t_under_25, t_under_81, t_under_103, t_zeroOf_3, t_zeroOf_5, t_zeroOf_23, t_zeroOf_25, Tryd.f40, hm, e1, e2, hr, w1, w2, w3, w4, hb, hf]; rfl) ?_
        exact ⟨k', hk', q, c :: s, _, _, _, _, _, _, _, _, _, _, _, _, _, _, _, _, _, _, _, _, _, _, _, _, _, _, _, _, rfl, hfin⟩
      · obtain ⟨z, hz1⟩ : ∃ z, z = 48 + r := ⟨_, rfl⟩
        have w3 : IntKind.i64.wrap (48 + r) = z := by rw [wrapI (by omega) (by omega), hz1]
        have w4 : IntKind.u8.wrap z = z := wrapU8 (by omega) (by omega)
        have hb : UInt8.ofNat z.toNat = c := by rw [hc]; congr 1; omega
        refine pwp_end 8 (by simp [wrapI, codeE_skip, codeE_ret, codeE_exit, codeE_seq, codeE_cond, codeE_block, codeE_seqr, seqE, planE, goE, freeE, freeOp, coreE, actOf, evP, putT, perform, guardV, binP, unP, intBin, strAdd, strEql, strNeq, strLss, strGtr, isShift, List.replicate, ofConst, cellsOf, sv0, partP, unAll, eqCells, indexAddrP, intOf?, lenP, fillP, placeAt, setFrom, chunks, sI, sS, sB, sT, tl_size, ↓tl_get, tl_getE, tl_ext, bnd, bounds, sliceP, convP, bytesOfCells, t_info_5, t_aggN_2, t_aggN_3, t_aggN_4, t_aggN_5, t_aggN_9, t_aggN_23, t_aggN_25, t_arrOf_9, t_arrOf_103, t_eqKinds_2, t_eqKinds_3, t_eqKinds_4, t_eqKinds_5, t_eqKinds_9, t_eqKinds_23, t_eqKinds_25, t_fOff_23_0, t_fOff_23_1, t_fOff_25_0, t_fOff_25_1, t_fOff_25_2, t_fPart_25_2, t_placesOf_23, t_placesOf_25, t_slOf_9, t_slOf_81, t_slOf_103, t_under_2, t_under_3, t_under_4, t_under_5, t_under_9, t_under_23, t_under_25, t_under_81, t_under_103, t_zeroOf_3, t_zeroOf_5, t_zeroOf_23, t_zeroOf_25, Tryd.f40, hm, e1, e2, hr, w1, w3, w4, hb, hf]; rfl) ?_
        exact ⟨k', hk', q, c :: s, _, _, _, _, _, _, _, _, _, _, _, _, _, _, _, _, _, _, _, _, _, _, _, _, _, _, _, _, rfl, hfin⟩

end Go.PM
