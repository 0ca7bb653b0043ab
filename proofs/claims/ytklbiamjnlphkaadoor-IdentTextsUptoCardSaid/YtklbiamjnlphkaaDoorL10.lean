/-
  Seat a: the readers of Ids.
-/
import Derived.Test.YtklbiamjnlphkaaDoorL9
set_option linter.unusedVariables false
set_option linter.unusedSimpArgs false
set_option maxRecDepth 10000
set_option maxHeartbeats 4000000
namespace Go.PM
open Go Go.Proofs Go.Lib

def Γ9 : Ctx := fun f args H => match f, args with
  | 15, [.agg [.sc (.int .i64 r), .sc (.int .i64 q), .sc (.int .i64 o), .sc (.bool u)]] => if -9223372036854775808 ≤ r ∧ r ≤ 9223372036854775807 ∧ -9223372036854775808 ≤ q ∧ q ≤ 9223372036854775807 ∧ -9223372036854775808 ≤ o ∧ o ≤ 9223372036854775807 then some ([], .ret (sT (keyL r q o u)), H) else none
  | 16, [.agg [.sc (.int .i64 r), .sc (.int .i64 q), .sc (.int .i64 o), .sc (.bool u)]] => if -9223372036854775808 ≤ r ∧ r ≤ 9223372036854775807 ∧ -9223372036854775808 ≤ q ∧ q ≤ 9223372036854775807 ∧ -9223372036854775808 ≤ o ∧ o ≤ 9223372036854775807 then some ([], .ret (sT (keyL r q o u)), H) else none
  | f, args => Γ8 f args H
theorem Γ9_ok : CtxOk Tryd.prog Γ9 := by
  intro f args H wr o H' h
  unfold Γ9 at h
  split at h
  · split at h
    · rename_i hc
      simp only [Option.some.injEq, Prod.mk.injEq] at h; obtain ⟨rfl, rfl, rfl⟩ := h; exact c15 _ _ _ _ hc.1 hc.2.1 hc.2.2.1 hc.2.2.2.1 hc.2.2.2.2.1 hc.2.2.2.2.2 _
    · cases h
  · split at h
    · rename_i hc
      simp only [Option.some.injEq, Prod.mk.injEq] at h; obtain ⟨rfl, rfl, rfl⟩ := h; exact c16 _ _ _ _ hc.1 hc.2.1 hc.2.2.1 hc.2.2.2.1 hc.2.2.2.2.1 hc.2.2.2.2.2 _
    · cases h
  · exact Γ8_ok _ _ _ _ _ _ h

theorem c10 (l : List UInt8) (hl : l.length < 4294967281) (H : Heap) : SimCall Tryd.prog 10 [sT l] H [] (.ret (.tup [idP (identP l).1 (identP l).2, sB (identOk l)])) H := by
  have hlen := cut_len l
  obtain ⟨L, hL⟩ : ∃ L, (Lib.cut l [46]).1 = L := ⟨_, rfl⟩
  obtain ⟨R, hR⟩ : ∃ R, (Lib.cut l [46]).2.1 = R := ⟨_, rfl⟩
  obtain ⟨b3, h3⟩ : ∃ b3, (Lib.cut l [46]).2.2 = b3 := ⟨_, rfl⟩
  obtain ⟨a, ha⟩ : ∃ a, atoiV ⟨L.toArray⟩ = a := ⟨_, rfl⟩
  obtain ⟨b, hb⟩ : ∃ b, atoiV ⟨R.toArray⟩ = b := ⟨_, rfl⟩
  rw [hL, hR] at hlen
  have hA : identA l = a := by unfold identA; rw [hL, ha]
  have hB : identB l = b := by unfold identB; rw [hR, hb]
  have sL : L.length ≤ 281474976710656 := by omega
  have sR : R.length ≤ 281474976710656 := by omega
  cases hm : mayI a b
  · have ho : identOk l = false := by unfold identOk; rw [hA, hB, hm]; rfl
    have hp : identP l = (0, 0) := by unfold identP; rw [ho]; rfl
    rw [ho, hp]
    refine sim_own (n := 8) [2, 11] amixed Γ9_ok Tryd.func10 rfl (by kernel_rfl) (.ret, _) (by
        simp [wrapI, codeE_skip, codeE_ret, codeE_exit, codeE_seq, codeE_cond, codeE_block, codeE_seqr, seqE, planE, goE, freeE, freeOp, coreE, actOf, evP, putT, perform, guardV, binP, unP, intBin, strAdd, strEql, strNeq, strLss, strGtr, isShift, List.replicate, ofConst, cellsOf, sv0, partP, unAll, eqCells, indexAddrP, intOf?, lenP, fillP, placeAt, setFrom, chunks, sI, sS, sB, sT, tl_size, ↓tl_get, tl_getE, tl_ext, bnd, bounds, sliceP, convP, bytesOfCells, t_info_5, t_aggN_2, t_aggN_3, t_aggN_4, t_aggN_5, t_aggN_9, t_aggN_23, t_aggN_25, t_arrOf_9, t_arrOf_103, t_eqKinds_2, t_eqKinds_3, t_eqKinds_4, t_eqKinds_5, t_eqKinds_9, t_eqKinds_23, t_eqKinds_25, t_fOff_23_0, t_fOff_23_1, t_fOff_25_0, t_fOff_25_1, t_fOff_25_2, t_fPart_25_2, t_placesOf_23, t_placesOf_25, t_slOf_9, t_slOf_81, t_slOf_103, t_under_2, t_under_3, t_under_4, t_under_5, t_under_9, t_under_23, t_under_25, t_under_81, t_under_103, t_zeroOf_3, t_zeroOf_5, t_zeroOf_23, t_zeroOf_25, Tryd.f10, Γ9, Γ8, Γ7, Γ5, Γ4, Γ3, Γ2, idP, hl, hL, hR, h3, ha, hb, sL, sR, hm, svOf, List.idxOf?, List.findIdx?_cons, own_get, own_get0, own_set, own_set0, own_lt, own_rowAt, own_rowAt0, own_next, own_next0, rowAt, nextVer, loadR, lkOf]; rfl) ⟨rfl, ⟨_, rfl⟩, by simp [hl, hL, hR, h3, ha, hb, sL, sR, hm], by simp [resP, oneP, sB, sI, sS, sT, Tryd.f10, svOf, List.idxOf?, List.findIdx?_cons, own_get, own_get0, own_set, own_set0, own_lt, own_rowAt, own_rowAt0, own_next, own_next0, rowAt, nextVer, loadR, lkOf, t_aggN_2, t_aggN_3, t_aggN_4, t_aggN_5, t_aggN_9, t_aggN_23, t_aggN_25, t_arrOf_9, t_arrOf_103, t_eqKinds_2, t_eqKinds_3, t_eqKinds_4, t_eqKinds_5, t_eqKinds_9, t_eqKinds_23, t_eqKinds_25, t_fOff_23_0, t_fOff_23_1, t_fOff_25_0, t_fOff_25_1, t_fOff_25_2, t_fPart_25_2, t_placesOf_23, t_placesOf_25, t_slOf_9, t_slOf_81, t_slOf_103, t_under_2, t_under_3, t_under_4, t_under_5, t_under_9, t_under_23, t_under_25, t_under_81, t_under_103, t_zeroOf_3, t_zeroOf_5, t_zeroOf_23, t_zeroOf_25, partP, idP, hl, hL, hR, h3, ha, hb, sL, sR, hm], by simp [belV, belC, belL, belVs, sB, sI, sS, sT, idP]⟩
  · have hbd := may_bounds hm
    have b1 : -9223372036854775808 ≤ a := by omega
    have b2 : a ≤ 9223372036854775807 := by omega
    have b4 : -9223372036854775808 ≤ b := by omega
    have b5 : b ≤ 9223372036854775807 := by omega
    cases ht : textL a b == l
    · have ho : identOk l = false := by unfold identOk; rw [hA, hB, hm, ht]; rfl
      have hp : identP l = (0, 0) := by unfold identP; rw [ho]; rfl
      rw [ho, hp]
      refine sim_own (n := 8) [2, 11] amixed Γ9_ok Tryd.func10 rfl (by kernel_rfl) (.ret, _) (by
        simp [wrapI, codeE_skip, codeE_ret, codeE_exit, codeE_seq, codeE_cond, codeE_block, codeE_seqr, seqE, planE, goE, freeE, freeOp, coreE, actOf, evP, putT, perform, guardV, binP, unP, intBin, strAdd, strEql, strNeq, strLss, strGtr, isShift, List.replicate, ofConst, cellsOf, sv0, partP, unAll, eqCells, indexAddrP, intOf?, lenP, fillP, placeAt, setFrom, chunks, sI, sS, sB, sT, tl_size, ↓tl_get, tl_getE, tl_ext, bnd, bounds, sliceP, convP, bytesOfCells, t_info_5, t_aggN_2, t_aggN_3, t_aggN_4, t_aggN_5, t_aggN_9, t_aggN_23, t_aggN_25, t_arrOf_9, t_arrOf_103, t_eqKinds_2, t_eqKinds_3, t_eqKinds_4, t_eqKinds_5, t_eqKinds_9, t_eqKinds_23, t_eqKinds_25, t_fOff_23_0, t_fOff_23_1, t_fOff_25_0, t_fOff_25_1, t_fOff_25_2, t_fPart_25_2, t_placesOf_23, t_placesOf_25, t_slOf_9, t_slOf_81, t_slOf_103, t_under_2, t_under_3, t_under_4, t_under_5, t_under_9, t_under_23, t_under_25, t_under_81, t_under_103, t_zeroOf_3, t_zeroOf_5, t_zeroOf_23, t_zeroOf_25, Tryd.f10, Γ9, Γ8, Γ7, Γ5, Γ4, Γ3, Γ2, idP, hl, hL, hR, h3, ha, hb, sL, sR, hm, b1, b2, b4, b5, ht, svOf, List.idxOf?, List.findIdx?_cons, own_get, own_get0, own_set, own_set0, own_lt, own_rowAt, own_rowAt0, own_next, own_next0, rowAt, nextVer, loadR, lkOf]; rfl) ⟨rfl, ⟨_, rfl⟩, by simp [hl, hL, hR, h3, ha, hb, sL, sR, hm, b1, b2, b4, b5, ht], by simp [resP, oneP, sB, sI, sS, sT, Tryd.f10, svOf, List.idxOf?, List.findIdx?_cons, own_get, own_get0, own_set, own_set0, own_lt, own_rowAt, own_rowAt0, own_next, own_next0, rowAt, nextVer, loadR, lkOf, t_aggN_2, t_aggN_3, t_aggN_4, t_aggN_5, t_aggN_9, t_aggN_23, t_aggN_25, t_arrOf_9, t_arrOf_103, t_eqKinds_2, t_eqKinds_3, t_eqKinds_4, t_eqKinds_5, t_eqKinds_9, t_eqKinds_23, t_eqKinds_25, t_fOff_23_0, t_fOff_23_1, t_fOff_25_0, t_fOff_25_1, t_fOff_25_2, t_fPart_25_2, t_placesOf_23, t_placesOf_25, t_slOf_9, t_slOf_81, t_slOf_103, t_under_2, t_under_3, t_under_4, t_under_5, t_under_9, t_under_23, t_under_25, t_under_81, t_under_103, t_zeroOf_3, t_zeroOf_5, t_zeroOf_23, t_zeroOf_25, partP, idP, hl, hL, hR, h3, ha, hb, sL, sR, hm, b1, b2, b4, b5, ht], by simp [belV, belC, belL, belVs, sB, sI, sS, sT, idP]⟩
    · have ho : identOk l = true := by unfold identOk; rw [hA, hB, hm, ht]; rfl
      have hp : identP l = (a, b) := by unfold identP; rw [ho, hA, hB]; rfl
      rw [ho, hp]
      refine sim_own (n := 8) [2, 11] amixed Γ9_ok Tryd.func10 rfl (by kernel_rfl) (.ret, _) (by
        simp [wrapI, codeE_skip, codeE_ret, codeE_exit, codeE_seq, codeE_cond, codeE_block, codeE_seqr, seqE, planE, goE, freeE, freeOp, coreE, actOf, evP, putT, perform, guardV, binP, unP, intBin, strAdd, strEql, strNeq, strLss, strGtr, isShift, List.replicate, ofConst, cellsOf, sv0, partP, unAll, eqCells, indexAddrP, intOf?, lenP, fillP, placeAt, setFrom, chunks, sI, sS, sB, sT, tl_size, ↓tl_get, tl_getE, tl_ext, bnd, bounds, sliceP, convP, bytesOfCells, t_info_5, t_aggN_2, t_aggN_3, t_aggN_4, t_aggN_5, t_aggN_9, t_aggN_23, t_aggN_25, t_arrOf_9, t_arrOf_103, t_eqKinds_2, t_eqKinds_3, t_eqKinds_4, t_eqKinds_5, t_eqKinds_9, t_eqKinds_23, t_eqKinds_25, t_fOff_23_0, t_fOff_23_1, t_fOff_25_0, t_fOff_25_1, t_fOff_25_2, t_fPart_25_2, t_placesOf_23, t_placesOf_25, t_slOf_9, t_slOf_81, t_slOf_103, t_under_2, t_under_3, t_under_4, t_under_5, t_under_9, t_under_23, t_under_25, t_under_81, t_under_103, t_zeroOf_3, t_zeroOf_5, t_zeroOf_23, t_zeroOf_25, Tryd.f10, Γ9, Γ8, Γ7, Γ5, Γ4, Γ3, Γ2, idP, hl, hL, hR, h3, ha, hb, sL, sR, hm, b1, b2, b4, b5, ht, svOf, List.idxOf?, List.findIdx?_cons, own_get, own_get0, own_set, own_set0, own_lt, own_rowAt, own_rowAt0, own_next, own_next0, rowAt, nextVer, loadR, lkOf]; rfl) ⟨rfl, ⟨_, rfl⟩, by simp [hl, hL, hR, h3, ha, hb, sL, sR, hm, b1, b2, b4, b5, ht], by simp [resP, oneP, sB, sI, sS, sT, Tryd.f10, svOf, List.idxOf?, List.findIdx?_cons, own_get, own_get0, own_set, own_set0, own_lt, own_rowAt, own_rowAt0, own_next, own_next0, rowAt, nextVer, loadR, lkOf, t_aggN_2, t_aggN_3, t_aggN_4, t_aggN_5, t_aggN_9, t_aggN_23, t_aggN_25, t_arrOf_9, t_arrOf_103, t_eqKinds_2, t_eqKinds_3, t_eqKinds_4, t_eqKinds_5, t_eqKinds_9, t_eqKinds_23, t_eqKinds_25, t_fOff_23_0, t_fOff_23_1, t_fOff_25_0, t_fOff_25_1, t_fOff_25_2, t_fPart_25_2, t_placesOf_23, t_placesOf_25, t_slOf_9, t_slOf_81, t_slOf_103, t_under_2, t_under_3, t_under_4, t_under_5, t_under_9, t_under_23, t_under_25, t_under_81, t_under_103, t_zeroOf_3, t_zeroOf_5, t_zeroOf_23, t_zeroOf_25, partP, idP, hl, hL, hR, h3, ha, hb, sL, sR, hm, b1, b2, b4, b5, ht], by simp [belV, belC, belL, belVs, sB, sI, sS, sT, idP]⟩


def I11 (l : List UInt8) (H : Heap) (k : Nat) (s : St) : Prop := ∃ (i ver : Nat) (e : TypeId) (y0 y1 : PCell) (x1 x5 x6 x7 x8 x9 x10 x11 x12 x13 x14 x15 x16 x17 x18 x19 x20 x21 x22 x23 x24 x25 x26 x27 x28 x29 x30 x31 x32 x33 x34 x35 x36 x37 x38 x39 x40 x41 x42 x43 x44 x45 x46 x47 x48 : PVal) (wr : List Nat), s = ⟨[sT l, x1, .c (.ptr H.length ver 0), sB false, sI i, x5, x6, x7, x8, x9, x10, x11, x12, x13, x14, x15, x16, x17, x18, x19, x20, x21, x22, x23, x24, x25, x26, x27, x28, x29, x30, x31, x32, x33, x34, x35, x36, x37, x38, x39, x40, x41, x42, x43, x44, x45, x46, x47, x48], H ++ [some ⟨ver, e, [y0, y1]⟩, none], wr⟩ ∧
  k = l.length - i ∧ i ≤ l.length ∧ 46 ∉ l.take i

theorem c11 (l : List UInt8) (hl : l.length < 4294967281) (H : Heap) : SimCall Tryd.prog 11 [sT l] H [] (.ret (.tup [idP (refP l).1 (refP l).2, sB (refOk l)])) H := by
  refine sim_pwp1 [2, 9] amixed Γ9_ok Tryd.func11 rfl (by kernel_rfl) (by simp [belV, belC, belL, belVs, sB, idP]) ?_
  refine pwp_seq_run 8 (by simp [wrapI, codeE_skip, codeE_ret, codeE_exit, codeE_seq, codeE_cond, codeE_block, codeE_seqr, seqE, planE, goE, freeE, freeOp, coreE, actOf, evP, putT, perform, guardV, binP, unP, intBin, strAdd, strEql, strNeq, strLss, strGtr, isShift, List.replicate, ofConst, cellsOf, sv0, partP, unAll, eqCells, indexAddrP, intOf?, lenP, fillP, placeAt, setFrom, chunks, sI, sS, sB, sT, tl_size, ↓tl_get, tl_getE, tl_ext, bnd, bounds, sliceP, convP, bytesOfCells, t_info_5, t_aggN_2, t_aggN_3, t_aggN_4, t_aggN_5, t_aggN_9, t_aggN_23, t_aggN_25, t_arrOf_9, t_arrOf_103, t_eqKinds_2, t_eqKinds_3, t_eqKinds_4, t_eqKinds_5, t_eqKinds_9, t_eqKinds_23, t_eqKinds_25, t_fOff_23_0, t_fOff_23_1, t_fOff_25_0, t_fOff_25_1, t_fOff_25_2, t_fPart_25_2, t_placesOf_23, t_placesOf_25, t_slOf_9, t_slOf_81, t_slOf_103, t_under_2, t_under_3, t_under_4, t_under_5, t_under_9, t_under_23, t_under_25, t_under_81, t_under_103, t_zeroOf_3, t_zeroOf_5, t_zeroOf_23, t_zeroOf_25, Tryd.f11, Γ9, Γ8, Γ7, Γ5, Γ4, Γ3, Γ2, idP, svOf, List.idxOf?, List.findIdx?_cons, own_get, own_get0, own_set, own_set0, own_lt, own_rowAt, own_rowAt0, own_next, own_next0, rowAt, nextVer, loadR, lkOf]; rfl) ?_
  refine pwp_seq (pwp_seq_run 8 (by simp [wrapI, codeE_skip, codeE_ret, codeE_exit, codeE_seq, codeE_cond, codeE_block, codeE_seqr, seqE, planE, goE, freeE, freeOp, coreE, actOf, evP, putT, perform, guardV, binP, unP, intBin, strAdd, strEql, strNeq, strLss, strGtr, isShift, List.replicate, ofConst, cellsOf, sv0, partP, unAll, eqCells, indexAddrP, intOf?, lenP, fillP, placeAt, setFrom, chunks, sI, sS, sB, sT, tl_size, ↓tl_get, tl_getE, tl_ext, bnd, bounds, sliceP, convP, bytesOfCells, t_info_5, t_aggN_2, t_aggN_3, t_aggN_4, t_aggN_5, t_aggN_9, t_aggN_23, t_aggN_25, t_arrOf_9, t_arrOf_103, t_eqKinds_2, t_eqKinds_3, t_eqKinds_4, t_eqKinds_5, t_eqKinds_9, t_eqKinds_23, t_eqKinds_25, t_fOff_23_0, t_fOff_23_1, t_fOff_25_0, t_fOff_25_1, t_fOff_25_2, t_fPart_25_2, t_placesOf_23, t_placesOf_25, t_slOf_9, t_slOf_81, t_slOf_103, t_under_2, t_under_3, t_under_4, t_under_5, t_under_9, t_under_23, t_under_25, t_under_81, t_under_103, t_zeroOf_3, t_zeroOf_5, t_zeroOf_23, t_zeroOf_25, Tryd.f11, Γ9, Γ8, Γ7, Γ5, Γ4, Γ3, Γ2, idP, svOf, List.idxOf?, List.findIdx?_cons, own_get, own_get0, own_set, own_set0, own_lt, own_rowAt, own_rowAt0, own_next, own_next0, rowAt, nextVer, loadR, lkOf]; rfl) ?_)
  refine pwp_block (pwp_loop (I11 l H) ?_ (n := l.length) ⟨0, _, _, _, _, _, _, _, _, _, _, _, _, _, _, _, _, _, _, _, _, _, _, _, _, _, _, _, _, _, _, _, _, _, _, _, _, _, _, _, _, _, _, _, _, _, _, _, _, _, _, rfl, by simp, by simp, by simp⟩)
  rintro k st ⟨i, ver, e, y0, y1, x1, x5, x6, x7, x8, x9, x10, x11, x12, x13, x14, x15, x16, x17, x18, x19, x20, x21, x22, x23, x24, x25, x26, x27, x28, x29, x30, x31, x32, x33, x34, x35, x36, x37, x38, x39, x40, x41, x42, x43, x44, x45, x46, x47, x48, wr, rfl, rfl, hi, hno⟩
  by_cases hlt : i < l.length
  · obtain ⟨c, hc⟩ : ∃ c, l[i]? = some c := ⟨_, List.getElem?_eq_getElem hlt⟩
    have hcE : l[i] = c := by rw [List.getElem?_eq_getElem hlt] at hc; simpa using hc
    obtain ⟨j, ej⟩ : ∃ j : Nat, j = i + 1 := ⟨_, rfl⟩
    have w5 : IntKind.i64.wrap ((i : Int) + 1) = (j : Int) := by rw [wrapI (by omega) (by omega), ej]; rfl
    by_cases h46 : c = 46
    · subst h46
      have hcut : Lib.cut l [46] = (l.take i, l.drop j, true) := by
        have hsplit : l = l.take i ++ 46 :: l.drop j := by
          rw [ej, ← hcE, List.getElem_cons_drop, List.take_append_drop]
        have := cut_at (b := l.drop j) hno
        rw [← hsplit] at this; exact this
      obtain ⟨A, hA⟩ : ∃ A, l.take i = A := ⟨_, rfl⟩
      obtain ⟨B, hB⟩ : ∃ B, l.drop j = B := ⟨_, rfl⟩
      have hB2 : (l.drop j).take (l.length - j) = B := by rw [← hB]; exact List.take_of_length_le (by simp)
      have hB3 : B.take (l.length - j) = B := by rw [← hB]; exact List.take_of_length_le (by simp)
      rw [hA, hB] at hcut
      have hjl : j ≤ l.length := by omega
      obtain ⟨p1, hp1⟩ : ∃ p, (pParse A).1 = p := ⟨_, rfl⟩
      obtain ⟨o1, ho1⟩ : ∃ p, (pParse A).2 = p := ⟨_, rfl⟩
      obtain ⟨p2, hp2⟩ : ∃ p, (pParse B).1 = p := ⟨_, rfl⟩
      obtain ⟨o2, ho2⟩ : ∃ p, (pParse B).2 = p := ⟨_, rfl⟩
      obtain ⟨m, hm⟩ : ∃ m, refMayI p1 p2 = m := ⟨_, rfl⟩
      have hok : refOk l = (o1 && (o2 && m)) := by unfold refOk refR refQ; rw [hcut]; simp [hp1, hp2, ho1, ho2, hm]
      have hP : refP l = if refOk l then (p1, p2) else (0, 0) := by unfold refP refR refQ; rw [hcut]; simp [hp1, hp2]
      cases o1 <;> cases o2 <;> cases m
      all_goals
        rw [hok] at hP
        rw [hok, hP]
        refine pwp_end 8 (by simp [wrapI, codeE_skip, codeE_ret, codeE_exit, codeE_seq, codeE_cond, codeE_block, codeE_seqr, seqE, planE, goE, freeE, freeOp, coreE, actOf, evP, putT, perform, guardV, binP, unP, intBin, strAdd, strEql, strNeq, strLss, strGtr, isShift, List.replicate, ofConst, cellsOf, sv0, partP, unAll, eqCells, indexAddrP, intOf?, lenP, fillP, placeAt, setFrom, chunks, sI, sS, sB, sT, tl_size, ↓tl_get, tl_getE, tl_ext, bnd, bounds, sliceP, convP, bytesOfCells, t_info_5, t_aggN_2, t_aggN_3, t_aggN_4, t_aggN_5, t_aggN_9, t_aggN_23, t_aggN_25, t_arrOf_9, t_arrOf_103, t_eqKinds_2, t_eqKinds_3, t_eqKinds_4, t_eqKinds_5, t_eqKinds_9, t_eqKinds_23, t_eqKinds_25, t_fOff_23_0, t_fOff_23_1, t_fOff_25_0, t_fOff_25_1, t_fOff_25_2, t_fPart_25_2, t_placesOf_23, t_placesOf_25, t_slOf_9, t_slOf_81, t_slOf_103, t_under_2, t_under_3, t_under_4, t_under_5, t_under_9, t_under_23, t_under_25, t_under_81, t_under_103, t_zeroOf_3, t_zeroOf_5, t_zeroOf_23, t_zeroOf_25, Tryd.f11, Γ9, Γ8, Γ7, Γ5, Γ4, Γ3, Γ2, idP, hlt, hc, hcE, hA, hB, hB2, hB3, hjl, hi, hp1, ho1, hp2, ho2, hm, w5, svOf, List.idxOf?, List.findIdx?_cons, own_get, own_get0, own_set, own_set0, own_lt, own_rowAt, own_rowAt0, own_next, own_next0, rowAt, nextVer, loadR, lkOf]; rfl) ?_
        refine ⟨rfl, ⟨_, rfl⟩, by simp [resP, oneP, sB, sI, sS, sT, Tryd.f11, idP, partP, svOf, List.idxOf?, List.findIdx?_cons, own_get, own_get0, own_set, own_set0, own_lt, own_rowAt, own_rowAt0, own_next, own_next0, rowAt, nextVer, loadR, lkOf, t_aggN_2, t_aggN_3, t_aggN_4, t_aggN_5, t_aggN_9, t_aggN_23, t_aggN_25, t_arrOf_9, t_arrOf_103, t_eqKinds_2, t_eqKinds_3, t_eqKinds_4, t_eqKinds_5, t_eqKinds_9, t_eqKinds_23, t_eqKinds_25, t_fOff_23_0, t_fOff_23_1, t_fOff_25_0, t_fOff_25_1, t_fOff_25_2, t_fPart_25_2, t_placesOf_23, t_placesOf_25, t_slOf_9, t_slOf_81, t_slOf_103, t_under_2, t_under_3, t_under_4, t_under_5, t_under_9, t_under_23, t_under_25, t_under_81, t_under_103, t_zeroOf_3, t_zeroOf_5, t_zeroOf_23, t_zeroOf_25]⟩
    · have h1 : ¬ (c.toNat : Int) = 46 := fun h => h46 (UInt8.toNat_inj.1 (by simp; omega))
      have h2 : ¬ c.toNat = 46 := fun h => h46 (UInt8.toNat_inj.1 (by simp; omega))
      refine pwp_end 8 (by simp [wrapI, codeE_skip, codeE_ret, codeE_exit, codeE_seq, codeE_cond, codeE_block, codeE_seqr, seqE, planE, goE, freeE, freeOp, coreE, actOf, evP, putT, perform, guardV, binP, unP, intBin, strAdd, strEql, strNeq, strLss, strGtr, isShift, List.replicate, ofConst, cellsOf, sv0, partP, unAll, eqCells, indexAddrP, intOf?, lenP, fillP, placeAt, setFrom, chunks, sI, sS, sB, sT, tl_size, ↓tl_get, tl_getE, tl_ext, bnd, bounds, sliceP, convP, bytesOfCells, t_info_5, t_aggN_2, t_aggN_3, t_aggN_4, t_aggN_5, t_aggN_9, t_aggN_23, t_aggN_25, t_arrOf_9, t_arrOf_103, t_eqKinds_2, t_eqKinds_3, t_eqKinds_4, t_eqKinds_5, t_eqKinds_9, t_eqKinds_23, t_eqKinds_25, t_fOff_23_0, t_fOff_23_1, t_fOff_25_0, t_fOff_25_1, t_fOff_25_2, t_fPart_25_2, t_placesOf_23, t_placesOf_25, t_slOf_9, t_slOf_81, t_slOf_103, t_under_2, t_under_3, t_under_4, t_under_5, t_under_9, t_under_23, t_under_25, t_under_81, t_under_103, t_zeroOf_3, t_zeroOf_5, t_zeroOf_23, t_zeroOf_25, Tryd.f11, Γ9, hlt, hc, hcE, h46, h1, h2, w5, svOf, List.idxOf?, List.findIdx?_cons, own_get, own_get0, own_set, own_set0, own_lt, own_rowAt, own_rowAt0, own_next, own_next0, rowAt, nextVer, loadR, lkOf]; rfl) ?_
      refine ⟨l.length - j, by omega, j, ver, e, y0, y1, _, _, _, _, _, _, _, _, _, _, _, _, _, _, _, _, _, _, _, _, _, _, _, _, _, _, _, _, _, _, _, _, _, _, _, _, _, _, _, _, _, _, _, _, _, _, rfl, rfl, by omega, ?_⟩
      rw [ej, List.take_add_one, hc]
      simp only [List.mem_append, not_or]
      exact ⟨hno, by simp; exact fun h => h46 h.symm⟩
  · obtain rfl : i = l.length := by omega
    rw [List.take_length] at hno
    have hok : refOk l = false := by unfold refOk; rw [cut_none hno]; rfl
    have hP : refP l = (0, 0) := by unfold refP; rw [hok]; rfl
    rw [hok, hP]
    refine pwp_end 8 (by simp [wrapI, codeE_skip, codeE_ret, codeE_exit, codeE_seq, codeE_cond, codeE_block, codeE_seqr, seqE, planE, goE, freeE, freeOp, coreE, actOf, evP, putT, perform, guardV, binP, unP, intBin, strAdd, strEql, strNeq, strLss, strGtr, isShift, List.replicate, ofConst, cellsOf, sv0, partP, unAll, eqCells, indexAddrP, intOf?, lenP, fillP, placeAt, setFrom, chunks, sI, sS, sB, sT, tl_size, ↓tl_get, tl_getE, tl_ext, bnd, bounds, sliceP, convP, bytesOfCells, t_info_5, t_aggN_2, t_aggN_3, t_aggN_4, t_aggN_5, t_aggN_9, t_aggN_23, t_aggN_25, t_arrOf_9, t_arrOf_103, t_eqKinds_2, t_eqKinds_3, t_eqKinds_4, t_eqKinds_5, t_eqKinds_9, t_eqKinds_23, t_eqKinds_25, t_fOff_23_0, t_fOff_23_1, t_fOff_25_0, t_fOff_25_1, t_fOff_25_2, t_fPart_25_2, t_placesOf_23, t_placesOf_25, t_slOf_9, t_slOf_81, t_slOf_103, t_under_2, t_under_3, t_under_4, t_under_5, t_under_9, t_under_23, t_under_25, t_under_81, t_under_103, t_zeroOf_3, t_zeroOf_5, t_zeroOf_23, t_zeroOf_25, Tryd.f11, Γ9, svOf, List.idxOf?, List.findIdx?_cons, own_get, own_get0, own_set, own_set0, own_lt, own_rowAt, own_rowAt0, own_next, own_next0, rowAt, nextVer, loadR, lkOf]; rfl) ?_
    simp only [thenK, blockK, if_true]
    refine pwp_end 8 (by simp [wrapI, codeE_skip, codeE_ret, codeE_exit, codeE_seq, codeE_cond, codeE_block, codeE_seqr, seqE, planE, goE, freeE, freeOp, coreE, actOf, evP, putT, perform, guardV, binP, unP, intBin, strAdd, strEql, strNeq, strLss, strGtr, isShift, List.replicate, ofConst, cellsOf, sv0, partP, unAll, eqCells, indexAddrP, intOf?, lenP, fillP, placeAt, setFrom, chunks, sI, sS, sB, sT, tl_size, ↓tl_get, tl_getE, tl_ext, bnd, bounds, sliceP, convP, bytesOfCells, t_info_5, t_aggN_2, t_aggN_3, t_aggN_4, t_aggN_5, t_aggN_9, t_aggN_23, t_aggN_25, t_arrOf_9, t_arrOf_103, t_eqKinds_2, t_eqKinds_3, t_eqKinds_4, t_eqKinds_5, t_eqKinds_9, t_eqKinds_23, t_eqKinds_25, t_fOff_23_0, t_fOff_23_1, t_fOff_25_0, t_fOff_25_1, t_fOff_25_2, t_fPart_25_2, t_placesOf_23, t_placesOf_25, t_slOf_9, t_slOf_81, t_slOf_103, t_under_2, t_under_3, t_under_4, t_under_5, t_under_9, t_under_23, t_under_25, t_under_81, t_under_103, t_zeroOf_3, t_zeroOf_5, t_zeroOf_23, t_zeroOf_25, Tryd.f11, Γ9, svOf, List.idxOf?, List.findIdx?_cons, own_get, own_get0, own_set, own_set0, own_lt, own_rowAt, own_rowAt0, own_next, own_next0, rowAt, nextVer, loadR, lkOf]; rfl) ?_
    exact ⟨rfl, ⟨_, rfl⟩, by simp [resP, oneP, sB, sI, sS, sT, Tryd.f11, idP, partP, svOf, List.idxOf?, List.findIdx?_cons, own_get, own_get0, own_set, own_set0, own_lt, own_rowAt, own_rowAt0, own_next, own_next0, rowAt, nextVer, loadR, lkOf, t_aggN_2, t_aggN_3, t_aggN_4, t_aggN_5, t_aggN_9, t_aggN_23, t_aggN_25, t_arrOf_9, t_arrOf_103, t_eqKinds_2, t_eqKinds_3, t_eqKinds_4, t_eqKinds_5, t_eqKinds_9, t_eqKinds_23, t_eqKinds_25, t_fOff_23_0, t_fOff_23_1, t_fOff_25_0, t_fOff_25_1, t_fOff_25_2, t_fPart_25_2, t_placesOf_23, t_placesOf_25, t_slOf_9, t_slOf_81, t_slOf_103, t_under_2, t_under_3, t_under_4, t_under_5, t_under_9, t_under_23, t_under_25, t_under_81, t_under_103, t_zeroOf_3, t_zeroOf_5, t_zeroOf_23, t_zeroOf_25]⟩

end Go.PM
