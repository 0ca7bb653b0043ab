/-
  Seat a: what the statement IdentTexts comes to.
-/
import Derived.Test.YtklbiamjnlphkaaDoorL10
import Derived.Test.YtklbiamjnlphkaaDoorL5
set_option linter.unusedVariables false
set_option linter.unusedSimpArgs false
set_option maxRecDepth 10000
set_option maxHeartbeats 4000000
namespace Go.PM
open Go Go.Proofs Go.Lib

theorem c10b (s : ByteArray) (hl : s.size < 4294967281) (H : Heap) : SimCall Tryd.prog 10 [sS s] H [] (.ret (.tup [idP (identP s.data.toList).1 (identP s.data.toList).2, sB (identOk s.data.toList)])) H := c10 s.data.toList (by rw [Array.length_toList]; exact hl) H
theorem c11b (s : ByteArray) (hl : s.size < 4294967281) (H : Heap) : SimCall Tryd.prog 11 [sS s] H [] (.ret (.tup [idP (refP s.data.toList).1 (refP s.data.toList).2, sB (refOk s.data.toList)])) H := c11 s.data.toList (by rw [Array.length_toList]; exact hl) H

def Γ10 : Ctx := fun f args H => match f, args with
  | 9, [] => some ([], .ret (sB true), H)
  | 10, [.c (.sc (.string s))] => if s.size < 4294967281 then some ([], .ret (.tup [idP (identP s.data.toList).1 (identP s.data.toList).2, sB (identOk s.data.toList)]), H) else none
  | 11, [.c (.sc (.string s))] => if s.size < 4294967281 then some ([], .ret (.tup [idP (refP s.data.toList).1 (refP s.data.toList).2, sB (refOk s.data.toList)]), H) else none
  | f, args => Γ9 f args H
theorem Γ10_ok : CtxOk Tryd.prog Γ10 := by
  intro f args H wr o H' h
  unfold Γ10 at h
  split at h
  · simp only [Option.some.injEq, Prod.mk.injEq] at h; obtain ⟨rfl, rfl, rfl⟩ := h; exact c9 _
  · split at h
    · rename_i hc
      simp only [Option.some.injEq, Prod.mk.injEq] at h; obtain ⟨rfl, rfl, rfl⟩ := h; exact c10b _ hc _
    · cases h
  · split at h
    · rename_i hc
      simp only [Option.some.injEq, Prod.mk.injEq] at h; obtain ⟨rfl, rfl, rfl⟩ := h; exact c11b _ hc _
    · cases h
  · exact Γ9_ok _ _ _ _ _ _ h

theorem c3 (r q o : Int) (u : Bool) (h0 : -9223372036854775808 ≤ r) (h1 : r ≤ 9223372036854775807) (k0 : -9223372036854775808 ≤ q) (k1 : q ≤ 9223372036854775807) (o0 : -9223372036854775808 ≤ o) (o1 : o ≤ 9223372036854775807) (l : List UInt8) (hl : l.length < 4294967281) (H : Heap) : SimCall Tryd.prog 3 [keyP r q o u, sT l] H [] (.ret (sB true)) H := by
  obtain ⟨a1, e1⟩ : ∃ a1, (identP l).1 = a1 := ⟨_, rfl⟩
  obtain ⟨a2, e2⟩ : ∃ a2, (identP l).2 = a2 := ⟨_, rfl⟩
  obtain ⟨b, e3⟩ : ∃ b, identOk l = b := ⟨_, rfl⟩
  obtain ⟨g1, g2⟩ := ident_ref l
  have e4 : (refP l).1 = a1 := by rw [← g2, e1]
  have e5 : (refP l).2 = a2 := by rw [← g2, e2]
  have e6 : refOk l = b := by rw [← g1, e3]
  obtain ⟨g3, g4⟩ := ident_text r q h0 h1 k0 k1
  have htl : (textL r q).length < 4294967281 := by have := textL_len r q h0 h1 k0 k1; omega
  cases hm : refMayI r q
  · have f1 : identOk (textL r q) = false := by rw [g3, hm]
    obtain ⟨p1, f2⟩ : ∃ a1, (identP (textL r q)).1 = a1 := ⟨_, rfl⟩
    obtain ⟨p2, f3⟩ : ∃ a1, (identP (textL r q)).2 = a1 := ⟨_, rfl⟩
    refine sim_own (n := 8) [5, 7, 9] amixed Γ10_ok Tryd.func3 rfl (by kernel_rfl) (.ret, _) (by
        simp [wrapI, codeE_skip, codeE_ret, codeE_exit, codeE_seq, codeE_cond, codeE_block, codeE_seqr, seqE, planE, goE, freeE, freeOp, coreE, actOf, evP, putT, perform, guardV, binP, unP, intBin, strAdd, strEql, strNeq, strLss, strGtr, isShift, List.replicate, ofConst, cellsOf, sv0, partP, unAll, eqCells, indexAddrP, intOf?, lenP, fillP, placeAt, setFrom, chunks, sI, sS, sB, sT, tl_size, ↓tl_get, tl_getE, tl_ext, bnd, bounds, sliceP, convP, bytesOfCells, t_info_5, t_aggN_2, t_aggN_3, t_aggN_4, t_aggN_5, t_aggN_9, t_aggN_23, t_aggN_25, t_arrOf_9, t_arrOf_103, t_eqKinds_2, t_eqKinds_3, t_eqKinds_4, t_eqKinds_5, t_eqKinds_9, t_eqKinds_23, t_eqKinds_25, t_fOff_23_0, t_fOff_23_1, t_fOff_25_0, t_fOff_25_1, t_fOff_25_2, t_fPart_25_2, t_placesOf_23, t_placesOf_25, t_slOf_9, t_slOf_81, t_slOf_103, t_under_2, t_under_3, t_under_4, t_under_5, t_under_9, t_under_23, t_under_25, t_under_81, t_under_103, t_zeroOf_3, t_zeroOf_5, t_zeroOf_23, t_zeroOf_25, pl3, Tryd.f3, Γ10, Γ9, Γ8, Γ7, Γ5, Γ4, Γ3, Γ2, idP, keyP, hl, h0, h1, k0, k1, o0, o1, htl, e1, e2, e3, e4, e5, e6, f1, f2, f3, hm, svOf, List.idxOf?, List.findIdx?_cons, own_get, own_get0, own_set, own_set0, own_lt, own_rowAt, own_rowAt0, own_next, own_next0, rowAt, nextVer, loadR, lkOf]; rw [codeE_draw pl3]; rotate_left; kernel_rfl; kernel_rfl; simp [wrapI, codeE_skip, codeE_ret, codeE_exit, codeE_seq, codeE_cond, codeE_block, codeE_seqr, seqE, planE, goE, freeE, freeOp, coreE, actOf, evP, putT, perform, guardV, binP, unP, intBin, strAdd, strEql, strNeq, strLss, strGtr, isShift, List.replicate, ofConst, cellsOf, sv0, partP, unAll, eqCells, indexAddrP, intOf?, lenP, fillP, placeAt, setFrom, chunks, sI, sS, sB, sT, tl_size, ↓tl_get, tl_getE, tl_ext, bnd, bounds, sliceP, convP, bytesOfCells, t_info_5, t_aggN_2, t_aggN_3, t_aggN_4, t_aggN_5, t_aggN_9, t_aggN_23, t_aggN_25, t_arrOf_9, t_arrOf_103, t_eqKinds_2, t_eqKinds_3, t_eqKinds_4, t_eqKinds_5, t_eqKinds_9, t_eqKinds_23, t_eqKinds_25, t_fOff_23_0, t_fOff_23_1, t_fOff_25_0, t_fOff_25_1, t_fOff_25_2, t_fPart_25_2, t_placesOf_23, t_placesOf_25, t_slOf_9, t_slOf_81, t_slOf_103, t_under_2, t_under_3, t_under_4, t_under_5, t_under_9, t_under_23, t_under_25, t_under_81, t_under_103, t_zeroOf_3, t_zeroOf_5, t_zeroOf_23, t_zeroOf_25, pl3, Tryd.f3, Γ10, Γ9, Γ8, Γ7, Γ5, Γ4, Γ3, Γ2, idP, keyP, hl, h0, h1, k0, k1, o0, o1, htl, e1, e2, e3, e4, e5, e6, f1, f2, f3, hm, svOf, List.idxOf?, List.findIdx?_cons, own_get, own_get0, own_set, own_set0, own_lt, own_rowAt, own_rowAt0, own_next, own_next0, rowAt, nextVer, loadR, lkOf]; rfl) ⟨rfl, ⟨_, rfl⟩, by simp [hl, h0, h1, k0, k1, o0, o1, htl, e1, e2, e3, e4, e5, e6, f1, f2, f3, hm], by simp [resP, oneP, sB, sI, sS, sT, Tryd.f3, svOf, List.idxOf?, List.findIdx?_cons, own_get, own_get0, own_set, own_set0, own_lt, own_rowAt, own_rowAt0, own_next, own_next0, rowAt, nextVer, loadR, lkOf, t_aggN_2, t_aggN_3, t_aggN_4, t_aggN_5, t_aggN_9, t_aggN_23, t_aggN_25, t_arrOf_9, t_arrOf_103, t_eqKinds_2, t_eqKinds_3, t_eqKinds_4, t_eqKinds_5, t_eqKinds_9, t_eqKinds_23, t_eqKinds_25, t_fOff_23_0, t_fOff_23_1, t_fOff_25_0, t_fOff_25_1, t_fOff_25_2, t_fPart_25_2, t_placesOf_23, t_placesOf_25, t_slOf_9, t_slOf_81, t_slOf_103, t_under_2, t_under_3, t_under_4, t_under_5, t_under_9, t_under_23, t_under_25, t_under_81, t_under_103, t_zeroOf_3, t_zeroOf_5, t_zeroOf_23, t_zeroOf_25, partP, idP, keyP, hl, h0, h1, k0, k1, o0, o1, htl, e1, e2, e3, e4, e5, e6, f1, f2, f3, hm], by simp [belV, belC, belL, belVs, sB, sI, sS, sT, idP, keyP]⟩
  · have f1 : identOk (textL r q) = true := by rw [g3, hm]
    have f2 : (identP (textL r q)).1 = r := by rw [g4 hm]
    have f3 : (identP (textL r q)).2 = q := by rw [g4 hm]
    refine sim_own (n := 8) [5, 7, 9] amixed Γ10_ok Tryd.func3 rfl (by kernel_rfl) (.ret, _) (by
        simp [wrapI, codeE_skip, codeE_ret, codeE_exit, codeE_seq, codeE_cond, codeE_block, codeE_seqr, seqE, planE, goE, freeE, freeOp, coreE, actOf, evP, putT, perform, guardV, binP, unP, intBin, strAdd, strEql, strNeq, strLss, strGtr, isShift, List.replicate, ofConst, cellsOf, sv0, partP, unAll, eqCells, indexAddrP, intOf?, lenP, fillP, placeAt, setFrom, chunks, sI, sS, sB, sT, tl_size, ↓tl_get, tl_getE, tl_ext, bnd, bounds, sliceP, convP, bytesOfCells, t_info_5, t_aggN_2, t_aggN_3, t_aggN_4, t_aggN_5, t_aggN_9, t_aggN_23, t_aggN_25, t_arrOf_9, t_arrOf_103, t_eqKinds_2, t_eqKinds_3, t_eqKinds_4, t_eqKinds_5, t_eqKinds_9, t_eqKinds_23, t_eqKinds_25, t_fOff_23_0, t_fOff_23_1, t_fOff_25_0, t_fOff_25_1, t_fOff_25_2, t_fPart_25_2, t_placesOf_23, t_placesOf_25, t_slOf_9, t_slOf_81, t_slOf_103, t_under_2, t_under_3, t_under_4, t_under_5, t_under_9, t_under_23, t_under_25, t_under_81, t_under_103, t_zeroOf_3, t_zeroOf_5, t_zeroOf_23, t_zeroOf_25, pl3, Tryd.f3, Γ10, Γ9, Γ8, Γ7, Γ5, Γ4, Γ3, Γ2, idP, keyP, hl, h0, h1, k0, k1, o0, o1, htl, e1, e2, e3, e4, e5, e6, f1, f2, f3, hm, svOf, List.idxOf?, List.findIdx?_cons, own_get, own_get0, own_set, own_set0, own_lt, own_rowAt, own_rowAt0, own_next, own_next0, rowAt, nextVer, loadR, lkOf]; rw [codeE_draw pl3]; rotate_left; kernel_rfl; kernel_rfl; simp [wrapI, codeE_skip, codeE_ret, codeE_exit, codeE_seq, codeE_cond, codeE_block, codeE_seqr, seqE, planE, goE, freeE, freeOp, coreE, actOf, evP, putT, perform, guardV, binP, unP, intBin, strAdd, strEql, strNeq, strLss, strGtr, isShift, List.replicate, ofConst, cellsOf, sv0, partP, unAll, eqCells, indexAddrP, intOf?, lenP, fillP, placeAt, setFrom, chunks, sI, sS, sB, sT, tl_size, ↓tl_get, tl_getE, tl_ext, bnd, bounds, sliceP, convP, bytesOfCells, t_info_5, t_aggN_2, t_aggN_3, t_aggN_4, t_aggN_5, t_aggN_9, t_aggN_23, t_aggN_25, t_arrOf_9, t_arrOf_103, t_eqKinds_2, t_eqKinds_3, t_eqKinds_4, t_eqKinds_5, t_eqKinds_9, t_eqKinds_23, t_eqKinds_25, t_fOff_23_0, t_fOff_23_1, t_fOff_25_0, t_fOff_25_1, t_fOff_25_2, t_fPart_25_2, t_placesOf_23, t_placesOf_25, t_slOf_9, t_slOf_81, t_slOf_103, t_under_2, t_under_3, t_under_4, t_under_5, t_under_9, t_under_23, t_under_25, t_under_81, t_under_103, t_zeroOf_3, t_zeroOf_5, t_zeroOf_23, t_zeroOf_25, pl3, Tryd.f3, Γ10, Γ9, Γ8, Γ7, Γ5, Γ4, Γ3, Γ2, idP, keyP, hl, h0, h1, k0, k1, o0, o1, htl, e1, e2, e3, e4, e5, e6, f1, f2, f3, hm, svOf, List.idxOf?, List.findIdx?_cons, own_get, own_get0, own_set, own_set0, own_lt, own_rowAt, own_rowAt0, own_next, own_next0, rowAt, nextVer, loadR, lkOf]; rfl) ⟨rfl, ⟨_, rfl⟩, by simp [hl, h0, h1, k0, k1, o0, o1, htl, e1, e2, e3, e4, e5, e6, f1, f2, f3, hm], by simp [resP, oneP, sB, sI, sS, sT, Tryd.f3, svOf, List.idxOf?, List.findIdx?_cons, own_get, own_get0, own_set, own_set0, own_lt, own_rowAt, own_rowAt0, own_next, own_next0, rowAt, nextVer, loadR, lkOf, t_aggN_2, t_aggN_3, t_aggN_4, t_aggN_5, t_aggN_9, t_aggN_23, t_aggN_25, t_arrOf_9, t_arrOf_103, t_eqKinds_2, t_eqKinds_3, t_eqKinds_4, t_eqKinds_5, t_eqKinds_9, t_eqKinds_23, t_eqKinds_25, t_fOff_23_0, t_fOff_23_1, t_fOff_25_0, t_fOff_25_1, t_fOff_25_2, t_fPart_25_2, t_placesOf_23, t_placesOf_25, t_slOf_9, t_slOf_81, t_slOf_103, t_under_2, t_under_3, t_under_4, t_under_5, t_under_9, t_under_23, t_under_25, t_under_81, t_under_103, t_zeroOf_3, t_zeroOf_5, t_zeroOf_23, t_zeroOf_25, partP, idP, keyP, hl, h0, h1, k0, k1, o0, o1, htl, e1, e2, e3, e4, e5, e6, f1, f2, f3, hm], by simp [belV, belC, belL, belVs, sB, sI, sS, sT, idP, keyP]⟩

end Go.PM
