/-
  Seat a: the texts of Ids and keys, and their readers.
-/
import Derived.Test.YtklbiamjnlphkaaDoorL8
import Derived.Test.YtklbiamjnlphkaaDoorP2
set_option linter.unusedVariables false
set_option linter.unusedSimpArgs false
set_option maxRecDepth 10000
set_option maxHeartbeats 4000000
namespace Go.PM
open Go Go.Proofs Go.Lib

theorem itoaFit (n : Int) (h0 : -9223372036854775808 ≤ n) (h1 : n ≤ 9223372036854775807) {l : List UInt8} (hl : l.length ≤ 100) : FitsT (Lib.itoa n) l ∧ FitsT l (Lib.itoa n) := by
  have a := itoa_length_le n h0 h1
  unfold FitsT; omega

theorem c38b (s : ByteArray) (H : Heap) : SimCall Tryd.prog 38 [sS s] H [] (.ret (.tup [sI (pParse s.data.toList).1, sB (pParse s.data.toList).2])) H := c38 s.data.toList H

def Γ7 : Ctx := fun f args H => match f, args with
  | 39, [.c (.sc (.int .i64 n))] => if -9223372036854775808 ≤ n ∧ n ≤ 9223372036854775807 then some ([], .ret (sT (Lib.itoa n)), H) else none
  | 40, [.c (.sc (.int .i64 n))] => if -9223372036854775808 ≤ n ∧ n ≤ 9223372036854775807 then some ([], .ret (sT (Lib.itoa n)), H) else none
  | 38, [.c (.sc (.string s))] => some ([], .ret (.tup [sI (pParse s.data.toList).1, sB (pParse s.data.toList).2]), H)
  | 37, [.c (.sc (.string s))] => if s.size ≤ 281474976710656 then some ([], .ret (.tup [sI (atoiV s), .un]), H) else none
  | 36, [.c (.sc (.string s)), .c (.sc (.string t))] => if s.size < 4294967281 then some ([], .ret (.tup [sT (Lib.cut s.data.toList t.data.toList).1, sT (Lib.cut s.data.toList t.data.toList).2.1, sB (Lib.cut s.data.toList t.data.toList).2.2]), H) else none
  | f, args => Γ5 f args H
theorem Γ7_ok : CtxOk Tryd.prog Γ7 := by
  intro f args H wr o H' h
  unfold Γ7 at h
  split at h
  · split at h
    · rename_i hc
      simp only [Option.some.injEq, Prod.mk.injEq] at h; obtain ⟨rfl, rfl, rfl⟩ := h; exact c39 _ hc.1 hc.2 _
    · cases h
  · split at h
    · rename_i hc
      simp only [Option.some.injEq, Prod.mk.injEq] at h; obtain ⟨rfl, rfl, rfl⟩ := h; exact c40 _ hc.1 hc.2 _
    · cases h
  · simp only [Option.some.injEq, Prod.mk.injEq] at h; obtain ⟨rfl, rfl, rfl⟩ := h; exact c38b _ _
  · split at h
    · rename_i hc
      simp only [Option.some.injEq, Prod.mk.injEq] at h; obtain ⟨rfl, rfl, rfl⟩ := h; exact c37 _ hc _
    · cases h
  · split at h
    · rename_i hc
      simp only [Option.some.injEq, Prod.mk.injEq] at h; obtain ⟨rfl, rfl, rfl⟩ := h; exact c36 _ _ hc _
    · cases h
  · exact Γ5_ok _ _ _ _ _ _ h

theorem c12 (r q : Int) (h0 : -9223372036854775808 ≤ r) (h1 : r ≤ 9223372036854775807) (k0 : -9223372036854775808 ≤ q) (k1 : q ≤ 9223372036854775807) (H : Heap) : SimCall Tryd.prog 12 [idP r q] H [] (.ret (sT (textL r q))) H := by
  have f1 : FitsT (Lib.itoa r) [46] := (itoaFit r h0 h1 (by decide)).1
  have f2 : FitsT (Lib.itoa r ++ [46]) (Lib.itoa q) := (itoaFit q k0 k1 (by have := itoa_length_le r h0 h1; simp; omega)).2
  refine sim_run (n := 8) amixed Γ7_ok Tryd.func12 rfl (by kernel_rfl) (.ret, _) (by
      simp [wrapI, codeE_skip, codeE_ret, codeE_exit, codeE_seq, codeE_cond, codeE_block, codeE_seqr, seqE, planE, goE, freeE, freeOp, coreE, actOf, evP, putT, perform, guardV, binP, unP, intBin, strAdd, strEql, strNeq, strLss, strGtr, isShift, List.replicate, ofConst, cellsOf, sv0, partP, unAll, eqCells, indexAddrP, intOf?, lenP, fillP, placeAt, setFrom, chunks, sI, sS, sB, sT, tl_size, ↓tl_get, tl_getE, tl_ext, bnd, bounds, sliceP, convP, bytesOfCells, t_info_5, t_aggN_2, t_aggN_3, t_aggN_4, t_aggN_5, t_aggN_9, t_aggN_23, t_aggN_25, t_arrOf_9, t_arrOf_103, t_eqKinds_2, t_eqKinds_3, t_eqKinds_4, t_eqKinds_5, t_eqKinds_9, t_eqKinds_23, t_eqKinds_25, t_fOff_23_0, t_fOff_23_1, t_fOff_25_0, t_fOff_25_1, t_fOff_25_2, t_fPart_25_2, t_placesOf_23, t_placesOf_25, t_slOf_9, t_slOf_81, t_slOf_103, t_under_2, t_under_3, t_under_4, t_under_5, t_under_9, t_under_23, t_under_25, t_under_81, t_under_103, t_zeroOf_3, t_zeroOf_5, t_zeroOf_23, t_zeroOf_25, pl12, Tryd.f12, Γ7, idP, h0, h1, k0, k1, f1, f2]; rw [codeE_draw pl12]; rotate_left; kernel_rfl; kernel_rfl; simp [wrapI, codeE_skip, codeE_ret, codeE_exit, codeE_seq, codeE_cond, codeE_block, codeE_seqr, seqE, planE, goE, freeE, freeOp, coreE, actOf, evP, putT, perform, guardV, binP, unP, intBin, strAdd, strEql, strNeq, strLss, strGtr, isShift, List.replicate, ofConst, cellsOf, sv0, partP, unAll, eqCells, indexAddrP, intOf?, lenP, fillP, placeAt, setFrom, chunks, sI, sS, sB, sT, tl_size, ↓tl_get, tl_getE, tl_ext, bnd, bounds, sliceP, convP, bytesOfCells, t_info_5, t_aggN_2, t_aggN_3, t_aggN_4, t_aggN_5, t_aggN_9, t_aggN_23, t_aggN_25, t_arrOf_9, t_arrOf_103, t_eqKinds_2, t_eqKinds_3, t_eqKinds_4, t_eqKinds_5, t_eqKinds_9, t_eqKinds_23, t_eqKinds_25, t_fOff_23_0, t_fOff_23_1, t_fOff_25_0, t_fOff_25_1, t_fOff_25_2, t_fPart_25_2, t_placesOf_23, t_placesOf_25, t_slOf_9, t_slOf_81, t_slOf_103, t_under_2, t_under_3, t_under_4, t_under_5, t_under_9, t_under_23, t_under_25, t_under_81, t_under_103, t_zeroOf_3, t_zeroOf_5, t_zeroOf_23, t_zeroOf_25, pl12, Tryd.f12, Γ7, idP, h0, h1, k0, k1, f1, f2]; rfl) ⟨rfl, by simp [], by simp [resP, oneP, sB, sI, sS, sT, Tryd.f12, textL]⟩

theorem c14 (r q : Int) (h0 : -9223372036854775808 ≤ r) (h1 : r ≤ 9223372036854775807) (k0 : -9223372036854775808 ≤ q) (k1 : q ≤ 9223372036854775807) (H : Heap) : SimCall Tryd.prog 14 [idP r q] H [] (.ret (sT (textL r q))) H := by
  have f1 : FitsT (Lib.itoa r) [46] := (itoaFit r h0 h1 (by decide)).1
  have f2 : FitsT (Lib.itoa r ++ [46]) (Lib.itoa q) := (itoaFit q k0 k1 (by have := itoa_length_le r h0 h1; simp; omega)).2
  refine sim_run (n := 8) amixed Γ7_ok Tryd.func14 rfl (by kernel_rfl) (.ret, _) (by
      simp [wrapI, codeE_skip, codeE_ret, codeE_exit, codeE_seq, codeE_cond, codeE_block, codeE_seqr, seqE, planE, goE, freeE, freeOp, coreE, actOf, evP, putT, perform, guardV, binP, unP, intBin, strAdd, strEql, strNeq, strLss, strGtr, isShift, List.replicate, ofConst, cellsOf, sv0, partP, unAll, eqCells, indexAddrP, intOf?, lenP, fillP, placeAt, setFrom, chunks, sI, sS, sB, sT, tl_size, ↓tl_get, tl_getE, tl_ext, bnd, bounds, sliceP, convP, bytesOfCells, t_info_5, t_aggN_2, t_aggN_3, t_aggN_4, t_aggN_5, t_aggN_9, t_aggN_23, t_aggN_25, t_arrOf_9, t_arrOf_103, t_eqKinds_2, t_eqKinds_3, t_eqKinds_4, t_eqKinds_5, t_eqKinds_9, t_eqKinds_23, t_eqKinds_25, t_fOff_23_0, t_fOff_23_1, t_fOff_25_0, t_fOff_25_1, t_fOff_25_2, t_fPart_25_2, t_placesOf_23, t_placesOf_25, t_slOf_9, t_slOf_81, t_slOf_103, t_under_2, t_under_3, t_under_4, t_under_5, t_under_9, t_under_23, t_under_25, t_under_81, t_under_103, t_zeroOf_3, t_zeroOf_5, t_zeroOf_23, t_zeroOf_25, pl14, Tryd.f14, Γ7, idP, h0, h1, k0, k1, f1, f2]; rw [codeE_draw pl14]; rotate_left; kernel_rfl; kernel_rfl; simp [wrapI, codeE_skip, codeE_ret, codeE_exit, codeE_seq, codeE_cond, codeE_block, codeE_seqr, seqE, planE, goE, freeE, freeOp, coreE, actOf, evP, putT, perform, guardV, binP, unP, intBin, strAdd, strEql, strNeq, strLss, strGtr, isShift, List.replicate, ofConst, cellsOf, sv0, partP, unAll, eqCells, indexAddrP, intOf?, lenP, fillP, placeAt, setFrom, chunks, sI, sS, sB, sT, tl_size, ↓tl_get, tl_getE, tl_ext, bnd, bounds, sliceP, convP, bytesOfCells, t_info_5, t_aggN_2, t_aggN_3, t_aggN_4, t_aggN_5, t_aggN_9, t_aggN_23, t_aggN_25, t_arrOf_9, t_arrOf_103, t_eqKinds_2, t_eqKinds_3, t_eqKinds_4, t_eqKinds_5, t_eqKinds_9, t_eqKinds_23, t_eqKinds_25, t_fOff_23_0, t_fOff_23_1, t_fOff_25_0, t_fOff_25_1, t_fOff_25_2, t_fPart_25_2, t_placesOf_23, t_placesOf_25, t_slOf_9, t_slOf_81, t_slOf_103, t_under_2, t_under_3, t_under_4, t_under_5, t_under_9, t_under_23, t_under_25, t_under_81, t_under_103, t_zeroOf_3, t_zeroOf_5, t_zeroOf_23, t_zeroOf_25, pl14, Tryd.f14, Γ7, idP, h0, h1, k0, k1, f1, f2]; rfl) ⟨rfl, by simp [], by simp [resP, oneP, sB, sI, sS, sT, Tryd.f14, textL]⟩

def Γ8 : Ctx := fun f args H => match f, args with
  | 12, [.agg [.sc (.int .i64 r), .sc (.int .i64 q)]] => if -9223372036854775808 ≤ r ∧ r ≤ 9223372036854775807 ∧ -9223372036854775808 ≤ q ∧ q ≤ 9223372036854775807 then some ([], .ret (sT (textL r q)), H) else none
  | 14, [.agg [.sc (.int .i64 r), .sc (.int .i64 q)]] => if -9223372036854775808 ≤ r ∧ r ≤ 9223372036854775807 ∧ -9223372036854775808 ≤ q ∧ q ≤ 9223372036854775807 then some ([], .ret (sT (textL r q)), H) else none
  | f, args => Γ7 f args H
theorem Γ8_ok : CtxOk Tryd.prog Γ8 := by
  intro f args H wr o H' h
  unfold Γ8 at h
  split at h
  · split at h
    · rename_i hc
      simp only [Option.some.injEq, Prod.mk.injEq] at h; obtain ⟨rfl, rfl, rfl⟩ := h; exact c12 _ _ hc.1 hc.2.1 hc.2.2.1 hc.2.2.2 _
    · cases h
  · split at h
    · rename_i hc
      simp only [Option.some.injEq, Prod.mk.injEq] at h; obtain ⟨rfl, rfl, rfl⟩ := h; exact c14 _ _ hc.1 hc.2.1 hc.2.2.1 hc.2.2.2 _
    · cases h
  · exact Γ7_ok _ _ _ _ _ _ h

theorem c15 (r q o : Int) (u : Bool) (h0 : -9223372036854775808 ≤ r) (h1 : r ≤ 9223372036854775807) (k0 : -9223372036854775808 ≤ q) (k1 : q ≤ 9223372036854775807) (o0 : -9223372036854775808 ≤ o) (o1 : o ≤ 9223372036854775807) (H : Heap) : SimCall Tryd.prog 15 [keyP r q o u] H [] (.ret (sT (keyL r q o u))) H := by
  have hl := textL_len r q h0 h1 k0 k1
  have ol := itoa_length_le o o0 o1
  have f1 : FitsT (textL r q) [47] := by unfold FitsT; simp; omega
  have f2 : FitsT (textL r q ++ [47]) (Lib.itoa o) := by unfold FitsT; simp; omega
  have f3 : FitsT (textL r q ++ 47 :: Lib.itoa o) [45] := by unfold FitsT; simp; omega
  cases u
  all_goals
    refine sim_run (n := 8) amixed Γ8_ok Tryd.func15 rfl (by kernel_rfl) (.ret, _) (by
        simp [wrapI, codeE_skip, codeE_ret, codeE_exit, codeE_seq, codeE_cond, codeE_block, codeE_seqr, seqE, planE, goE, freeE, freeOp, coreE, actOf, evP, putT, perform, guardV, binP, unP, intBin, strAdd, strEql, strNeq, strLss, strGtr, isShift, List.replicate, ofConst, cellsOf, sv0, partP, unAll, eqCells, indexAddrP, intOf?, lenP, fillP, placeAt, setFrom, chunks, sI, sS, sB, sT, tl_size, ↓tl_get, tl_getE, tl_ext, bnd, bounds, sliceP, convP, bytesOfCells, t_info_5, t_aggN_2, t_aggN_3, t_aggN_4, t_aggN_5, t_aggN_9, t_aggN_23, t_aggN_25, t_arrOf_9, t_arrOf_103, t_eqKinds_2, t_eqKinds_3, t_eqKinds_4, t_eqKinds_5, t_eqKinds_9, t_eqKinds_23, t_eqKinds_25, t_fOff_23_0, t_fOff_23_1, t_fOff_25_0, t_fOff_25_1, t_fOff_25_2, t_fPart_25_2, t_placesOf_23, t_placesOf_25, t_slOf_9, t_slOf_81, t_slOf_103, t_under_2, t_under_3, t_under_4, t_under_5, t_under_9, t_under_23, t_under_25, t_under_81, t_under_103, t_zeroOf_3, t_zeroOf_5, t_zeroOf_23, t_zeroOf_25, pl15, Tryd.f15, Γ8, Γ7, keyP, h0, h1, k0, k1, o0, o1, f1, f2, f3]; rw [codeE_draw pl15]; rotate_left; kernel_rfl; kernel_rfl; simp [wrapI, codeE_skip, codeE_ret, codeE_exit, codeE_seq, codeE_cond, codeE_block, codeE_seqr, seqE, planE, goE, freeE, freeOp, coreE, actOf, evP, putT, perform, guardV, binP, unP, intBin, strAdd, strEql, strNeq, strLss, strGtr, isShift, List.replicate, ofConst, cellsOf, sv0, partP, unAll, eqCells, indexAddrP, intOf?, lenP, fillP, placeAt, setFrom, chunks, sI, sS, sB, sT, tl_size, ↓tl_get, tl_getE, tl_ext, bnd, bounds, sliceP, convP, bytesOfCells, t_info_5, t_aggN_2, t_aggN_3, t_aggN_4, t_aggN_5, t_aggN_9, t_aggN_23, t_aggN_25, t_arrOf_9, t_arrOf_103, t_eqKinds_2, t_eqKinds_3, t_eqKinds_4, t_eqKinds_5, t_eqKinds_9, t_eqKinds_23, t_eqKinds_25, t_fOff_23_0, t_fOff_23_1, t_fOff_25_0, t_fOff_25_1, t_fOff_25_2, t_fPart_25_2, t_placesOf_23, t_placesOf_25, t_slOf_9, t_slOf_81, t_slOf_103, t_under_2, t_under_3, t_under_4, t_under_5, t_under_9, t_under_23, t_under_25, t_under_81, t_under_103, t_zeroOf_3, t_zeroOf_5, t_zeroOf_23, t_zeroOf_25, pl15, Tryd.f15, Γ8, Γ7, keyP, h0, h1, k0, k1, o0, o1, f1, f2, f3]; rfl) ⟨rfl, by simp [], by simp [resP, oneP, sB, sI, sS, sT, Tryd.f15, keyL]⟩

theorem c16 (r q o : Int) (u : Bool) (h0 : -9223372036854775808 ≤ r) (h1 : r ≤ 9223372036854775807) (k0 : -9223372036854775808 ≤ q) (k1 : q ≤ 9223372036854775807) (o0 : -9223372036854775808 ≤ o) (o1 : o ≤ 9223372036854775807) (H : Heap) : SimCall Tryd.prog 16 [keyP r q o u] H [] (.ret (sT (keyL r q o u))) H := by
  have hl := textL_len r q h0 h1 k0 k1
  have ol := itoa_length_le o o0 o1
  have f1 : FitsT (textL r q) [47] := by unfold FitsT; simp; omega
  have f2 : FitsT (textL r q ++ [47]) (Lib.itoa o) := by unfold FitsT; simp; omega
  have f3 : FitsT (textL r q ++ 47 :: Lib.itoa o) [45] := by unfold FitsT; simp; omega
  cases u
  all_goals
    refine sim_run (n := 8) amixed Γ8_ok Tryd.func16 rfl (by kernel_rfl) (.ret, _) (by
        simp [wrapI, codeE_skip, codeE_ret, codeE_exit, codeE_seq, codeE_cond, codeE_block, codeE_seqr, seqE, planE, goE, freeE, freeOp, coreE, actOf, evP, putT, perform, guardV, binP, unP, intBin, strAdd, strEql, strNeq, strLss, strGtr, isShift, List.replicate, ofConst, cellsOf, sv0, partP, unAll, eqCells, indexAddrP, intOf?, lenP, fillP, placeAt, setFrom, chunks, sI, sS, sB, sT, tl_size, ↓tl_get, tl_getE, tl_ext, bnd, bounds, sliceP, convP, bytesOfCells, t_info_5, t_aggN_2, t_aggN_3, t_aggN_4, t_aggN_5, t_aggN_9, t_aggN_23, t_aggN_25, t_arrOf_9, t_arrOf_103, t_eqKinds_2, t_eqKinds_3, t_eqKinds_4, t_eqKinds_5, t_eqKinds_9, t_eqKinds_23, t_eqKinds_25, t_fOff_23_0, t_fOff_23_1, t_fOff_25_0, t_fOff_25_1, t_fOff_25_2, t_fPart_25_2, t_placesOf_23, t_placesOf_25, t_slOf_9, t_slOf_81, t_slOf_103, t_under_2, t_under_3, t_under_4, t_under_5, t_under_9, t_under_23, t_under_25, t_under_81, t_under_103, t_zeroOf_3, t_zeroOf_5, t_zeroOf_23, t_zeroOf_25, pl16, Tryd.f16, Γ8, Γ7, keyP, h0, h1, k0, k1, o0, o1, f1, f2, f3]; rw [codeE_draw pl16]; rotate_left; kernel_rfl; kernel_rfl; simp [wrapI, codeE_skip, codeE_ret, codeE_exit, codeE_seq, codeE_cond, codeE_block, codeE_seqr, seqE, planE, goE, freeE, freeOp, coreE, actOf, evP, putT, perform, guardV, binP, unP, intBin, strAdd, strEql, strNeq, strLss, strGtr, isShift, List.replicate, ofConst, cellsOf, sv0, partP, unAll, eqCells, indexAddrP, intOf?, lenP, fillP, placeAt, setFrom, chunks, sI, sS, sB, sT, tl_size, ↓tl_get, tl_getE, tl_ext, bnd, bounds, sliceP, convP, bytesOfCells, t_info_5, t_aggN_2, t_aggN_3, t_aggN_4, t_aggN_5, t_aggN_9, t_aggN_23, t_aggN_25, t_arrOf_9, t_arrOf_103, t_eqKinds_2, t_eqKinds_3, t_eqKinds_4, t_eqKinds_5, t_eqKinds_9, t_eqKinds_23, t_eqKinds_25, t_fOff_23_0, t_fOff_23_1, t_fOff_25_0, t_fOff_25_1, t_fOff_25_2, t_fPart_25_2, t_placesOf_23, t_placesOf_25, t_slOf_9, t_slOf_81, t_slOf_103, t_under_2, t_under_3, t_under_4, t_under_5, t_under_9, t_under_23, t_under_25, t_under_81, t_under_103, t_zeroOf_3, t_zeroOf_5, t_zeroOf_23, t_zeroOf_25, pl16, Tryd.f16, Γ8, Γ7, keyP, h0, h1, k0, k1, o0, o1, f1, f2, f3]; rfl) ⟨rfl, by simp [], by simp [resP, oneP, sB, sI, sS, sT, Tryd.f16, keyL]⟩

end Go.PM
