/-
  Seat a: what the functions of package ident come to.
-/
import Derived.Test.YtklbiamjnlphkaaDoorL2
set_option linter.unusedVariables false
set_option linter.unusedSimpArgs false
set_option maxRecDepth 10000
set_option maxHeartbeats 4000000
namespace Go.PM
open Go Go.Proofs

theorem c44 (n lo hi : Int) (H : Heap) : SimCall Tryd.prog 44 [sI n, sI lo, sI hi] H [] (.ret (sB (decide (lo ≤ n) && decide (n ≤ hi)))) H := by
  by_cases h1 : lo ≤ n
  all_goals
    refine sim_run (n := 8) amixed Γ0_ok Tryd.func44 rfl (by kernel_rfl) (.ret, _) (by
          simp [wrapI, iterE, codeE_loop, codeE_skip, codeE_ret, codeE_exit, codeE_seq, codeE_cond, codeE_block, codeE_seqr, seqE, planE, goE, freeE, freeOp, coreE, actOf, evP, putT, perform, guardV, binP, unP, intBin, strBin, isShift, List.replicate, ofConst, cellsOf, sv0, partP, unAll, eqCells, indexAddrP, intOf?, lenP, fillP, placeAt, setFrom, chunks, sI, sS, sB, t_aggN_2, t_aggN_3, t_aggN_4, t_aggN_5, t_aggN_9, t_aggN_23, t_aggN_25, t_arrOf_9, t_arrOf_103, t_eqKinds_2, t_eqKinds_3, t_eqKinds_4, t_eqKinds_5, t_eqKinds_9, t_eqKinds_23, t_eqKinds_25, t_fOff_23_0, t_fOff_23_1, t_fOff_25_0, t_fOff_25_1, t_fOff_25_2, t_fPart_25_2, t_placesOf_23, t_placesOf_25, t_slOf_9, t_slOf_81, t_slOf_103, t_under_2, t_under_3, t_under_4, t_under_5, t_under_9, t_under_23, t_under_25, t_under_81, t_under_103, t_zeroOf_3, t_zeroOf_5, t_zeroOf_23, t_zeroOf_25, Tryd.f44, h1]
          rfl) ⟨rfl, by simp [h1], by simp [resP, oneP, sB, sI, sS, Tryd.f44, h1]⟩

theorem c63 (n : Int) (H : Heap) : SimCall Tryd.prog 63 [sI n] H [] (.ret (sB false)) H := by
  refine sim_run (n := 8) amixed Γ0_ok Tryd.func63 rfl (by kernel_rfl) (.ret, _) (by
      simp [wrapI, iterE, codeE_loop, codeE_skip, codeE_ret, codeE_exit, codeE_seq, codeE_cond, codeE_block, codeE_seqr, seqE, planE, goE, freeE, freeOp, coreE, actOf, evP, putT, perform, guardV, binP, unP, intBin, strBin, isShift, List.replicate, ofConst, cellsOf, sv0, partP, unAll, eqCells, indexAddrP, intOf?, lenP, fillP, placeAt, setFrom, chunks, sI, sS, sB, t_aggN_2, t_aggN_3, t_aggN_4, t_aggN_5, t_aggN_9, t_aggN_23, t_aggN_25, t_arrOf_9, t_arrOf_103, t_eqKinds_2, t_eqKinds_3, t_eqKinds_4, t_eqKinds_5, t_eqKinds_9, t_eqKinds_23, t_eqKinds_25, t_fOff_23_0, t_fOff_23_1, t_fOff_25_0, t_fOff_25_1, t_fOff_25_2, t_fPart_25_2, t_placesOf_23, t_placesOf_25, t_slOf_9, t_slOf_81, t_slOf_103, t_under_2, t_under_3, t_under_4, t_under_5, t_under_9, t_under_23, t_under_25, t_under_81, t_under_103, t_zeroOf_3, t_zeroOf_5, t_zeroOf_23, t_zeroOf_25, Tryd.f63]
      rfl) ⟨rfl, by simp [], by simp [resP, oneP, sB, sI, sS, Tryd.f63]⟩

def Γ1 : Ctx := fun f args H => match f, args with
  | 44, [.c (.sc (.int .i64 n)), .c (.sc (.int .i64 lo)), .c (.sc (.int .i64 hi))] => some ([], .ret (sB (decide (lo ≤ n) && decide (n ≤ hi))), H)
  | 63, [.c (.sc (.int .i64 n))] => some ([], .ret (sB false), H)
  | f, args => Γ0 f args H
theorem Γ1_ok : CtxOk Tryd.prog Γ1 := by
  intro f args H wr o H' h
  unfold Γ1 at h
  split at h
  · simp only [Option.some.injEq, Prod.mk.injEq] at h; obtain ⟨rfl, rfl, rfl⟩ := h; exact c44 _ _ _ _
  · simp only [Option.some.injEq, Prod.mk.injEq] at h; obtain ⟨rfl, rfl, rfl⟩ := h; exact c63 _ _
  · exact Γ0_ok _ _ _ _ _ _ h

/-- Which of two numbers lies ahead. -/
def cmpI (a b : Int) : Int := if a < b then -1 else if b < a then 1 else 0
def mayI (r q : Int) : Bool := decide (0 ≤ r) && (decide (r < 4) && (decide (1 ≤ q) && decide (q ≤ 65535)))

theorem c43 (a b : Int) (H : Heap) : SimCall Tryd.prog 43 [sI a, sI b] H [] (.ret (sI (cmpI a b))) H := by
  by_cases h1 : a < b <;> by_cases h2 : b < a
  all_goals
    refine sim_run (n := 8) amixed Γ1_ok Tryd.func43 rfl (by kernel_rfl) (.ret, _) (by
          simp [wrapI, iterE, codeE_loop, codeE_skip, codeE_ret, codeE_exit, codeE_seq, codeE_cond, codeE_block, codeE_seqr, seqE, planE, goE, freeE, freeOp, coreE, actOf, evP, putT, perform, guardV, binP, unP, intBin, strBin, isShift, List.replicate, ofConst, cellsOf, sv0, partP, unAll, eqCells, indexAddrP, intOf?, lenP, fillP, placeAt, setFrom, chunks, sI, sS, sB, t_aggN_2, t_aggN_3, t_aggN_4, t_aggN_5, t_aggN_9, t_aggN_23, t_aggN_25, t_arrOf_9, t_arrOf_103, t_eqKinds_2, t_eqKinds_3, t_eqKinds_4, t_eqKinds_5, t_eqKinds_9, t_eqKinds_23, t_eqKinds_25, t_fOff_23_0, t_fOff_23_1, t_fOff_25_0, t_fOff_25_1, t_fOff_25_2, t_fPart_25_2, t_placesOf_23, t_placesOf_25, t_slOf_9, t_slOf_81, t_slOf_103, t_under_2, t_under_3, t_under_4, t_under_5, t_under_9, t_under_23, t_under_25, t_under_81, t_under_103, t_zeroOf_3, t_zeroOf_5, t_zeroOf_23, t_zeroOf_25, Tryd.f43, Γ1, h1, h2]
          rfl) ⟨rfl, by simp [h1, h2], by simp [resP, oneP, sB, sI, sS, Tryd.f43, cmpI, h1, h2]⟩

theorem c18 (r q : Int) (H : Heap) : SimCall Tryd.prog 18 [.agg [.sc (.int .i64 r), .sc (.int .i64 q)]] H [] (.ret (sB (mayI r q))) H := by
  by_cases h1 : 0 ≤ r <;> by_cases h2 : r < 4
  all_goals
    refine sim_run (n := 8) amixed Γ1_ok Tryd.func18 rfl (by kernel_rfl) (.ret, _) (by
          simp [wrapI, iterE, codeE_loop, codeE_skip, codeE_ret, codeE_exit, codeE_seq, codeE_cond, codeE_block, codeE_seqr, seqE, planE, goE, freeE, freeOp, coreE, actOf, evP, putT, perform, guardV, binP, unP, intBin, strBin, isShift, List.replicate, ofConst, cellsOf, sv0, partP, unAll, eqCells, indexAddrP, intOf?, lenP, fillP, placeAt, setFrom, chunks, sI, sS, sB, t_aggN_2, t_aggN_3, t_aggN_4, t_aggN_5, t_aggN_9, t_aggN_23, t_aggN_25, t_arrOf_9, t_arrOf_103, t_eqKinds_2, t_eqKinds_3, t_eqKinds_4, t_eqKinds_5, t_eqKinds_9, t_eqKinds_23, t_eqKinds_25, t_fOff_23_0, t_fOff_23_1, t_fOff_25_0, t_fOff_25_1, t_fOff_25_2, t_fPart_25_2, t_placesOf_23, t_placesOf_25, t_slOf_9, t_slOf_81, t_slOf_103, t_under_2, t_under_3, t_under_4, t_under_5, t_under_9, t_under_23, t_under_25, t_under_81, t_under_103, t_zeroOf_3, t_zeroOf_5, t_zeroOf_23, t_zeroOf_25, Tryd.f18, Γ1, h1, h2]
          rfl) ⟨rfl, by simp [h1, h2], by simp [resP, oneP, sB, sI, sS, Tryd.f18, mayI, h1, h2]⟩

def orI (a b : Int) : Int := if a = 0 then b else a
def ordI (r1 q1 r2 q2 : Int) : Int := orI (cmpI q1 q2) (cmpI r1 r2)
def lessI (r1 q1 r2 q2 : Int) : Bool := decide (ordI r1 q1 r2 q2 < 0)
def lessKI (r1 q1 o1 : Int) (u1 : Bool) (r2 q2 o2 : Int) (u2 : Bool) : Bool :=
  if orI (ordI r1 q1 r2 q2) (cmpI o1 o2) = 0 then !u1 && u2 else decide (orI (ordI r1 q1 r2 q2) (cmpI o1 o2) < 0)
def refLessI (r1 q1 r2 q2 : Int) : Bool := decide (q1 < q2) || (decide (q1 = q2) && decide (r1 < r2))
def refLessKI (r1 q1 o1 : Int) (u1 : Bool) (r2 q2 o2 : Int) (u2 : Bool) : Bool :=
  if r1 = r2 ∧ q1 = q2 then decide (o1 < o2) || (decide (o1 = o2) && (!u1 && u2)) else refLessI r1 q1 r2 q2
def mayKI (r q o : Int) : Bool := mayI r q && (decide (1 ≤ o) && decide (o ≤ 255))
def refMayI (r q : Int) : Bool := decide (0 ≤ r) && (decide (r ≤ 3) && (decide (1 ≤ q) && decide (q ≤ 65535)))
def refMayKI (r q o : Int) : Bool := refMayI r q && (decide (1 ≤ o) && decide (o ≤ 255))
def idP (r q : Int) : PVal := .agg [.sc (.int .i64 r), .sc (.int .i64 q)]
def keyP (r q o : Int) (u : Bool) : PVal := .agg [.sc (.int .i64 r), .sc (.int .i64 q), .sc (.int .i64 o), .sc (.bool u)]

def Γ2 : Ctx := fun f args H => match f, args with
  | 43, [.c (.sc (.int .i64 a)), .c (.sc (.int .i64 b))] => some ([], .ret (sI (cmpI a b)), H)
  | 18, [.agg [.sc (.int .i64 r), .sc (.int .i64 q)]] => some ([], .ret (sB (mayI r q)), H)
  | f, args => Γ1 f args H
theorem Γ2_ok : CtxOk Tryd.prog Γ2 := by
  intro f args H wr o H' h
  unfold Γ2 at h
  split at h
  · simp only [Option.some.injEq, Prod.mk.injEq] at h; obtain ⟨rfl, rfl, rfl⟩ := h; exact c43 _ _ _
  · simp only [Option.some.injEq, Prod.mk.injEq] at h; obtain ⟨rfl, rfl, rfl⟩ := h; exact c18 _ _ _
  · exact Γ1_ok _ _ _ _ _ _ h

theorem c41 (a b : Int) (H : Heap) : SimCall Tryd.prog 41 [.c (.tr true 1 [[.sc (.int .i64 a)], [.sc (.int .i64 b)]])] H [] (.ret (sI (orI a b))) H := by
  by_cases h1 : a = 0 <;> by_cases h2 : b = 0
  all_goals
    refine sim_run (n := 8) amixed Γ0_ok Tryd.func41 rfl (by kernel_rfl) (.ret, _) (by
          simp [wrapI, iterE, codeE_loop, codeE_skip, codeE_ret, codeE_exit, codeE_seq, codeE_cond, codeE_block, codeE_seqr, seqE, planE, goE, freeE, freeOp, coreE, actOf, evP, putT, perform, guardV, binP, unP, intBin, strBin, isShift, List.replicate, ofConst, cellsOf, sv0, partP, unAll, eqCells, indexAddrP, intOf?, lenP, fillP, placeAt, setFrom, chunks, sI, sS, sB, t_aggN_2, t_aggN_3, t_aggN_4, t_aggN_5, t_aggN_9, t_aggN_23, t_aggN_25, t_arrOf_9, t_arrOf_103, t_eqKinds_2, t_eqKinds_3, t_eqKinds_4, t_eqKinds_5, t_eqKinds_9, t_eqKinds_23, t_eqKinds_25, t_fOff_23_0, t_fOff_23_1, t_fOff_25_0, t_fOff_25_1, t_fOff_25_2, t_fPart_25_2, t_placesOf_23, t_placesOf_25, t_slOf_9, t_slOf_81, t_slOf_103, t_under_2, t_under_3, t_under_4, t_under_5, t_under_9, t_under_23, t_under_25, t_under_81, t_under_103, t_zeroOf_3, t_zeroOf_5, t_zeroOf_23, t_zeroOf_25, Tryd.f41, iterE, h1, h2]
          rfl) ⟨rfl, by simp [h1, h2], by simp [resP, oneP, sB, sI, sS, Tryd.f41, orI, h1, h2]⟩

def Γ3 : Ctx := fun f args H => match f, args with
  | 41, [.c (.tr true 1 [[.sc (.int .i64 a)], [.sc (.int .i64 b)]])] => some ([], .ret (sI (orI a b)), H)
  | f, args => Γ2 f args H
theorem Γ3_ok : CtxOk Tryd.prog Γ3 := by
  intro f args H wr o H' h
  unfold Γ3 at h
  split at h
  · simp only [Option.some.injEq, Prod.mk.injEq] at h; obtain ⟨rfl, rfl, rfl⟩ := h; exact c41 _ _ _
  · exact Γ2_ok _ _ _ _ _ _ h

theorem c42 (r1 q1 r2 q2 : Int) (H : Heap) : SimCall Tryd.prog 42 [idP r1 q1, idP r2 q2] H [] (.ret (sI (ordI r1 q1 r2 q2))) H := by
  refine sim_run (n := 8) amixed Γ3_ok Tryd.func42 rfl (by kernel_rfl) (.ret, _) (by
      simp [wrapI, iterE, codeE_loop, codeE_skip, codeE_ret, codeE_exit, codeE_seq, codeE_cond, codeE_block, codeE_seqr, seqE, planE, goE, freeE, freeOp, coreE, actOf, evP, putT, perform, guardV, binP, unP, intBin, strBin, isShift, List.replicate, ofConst, cellsOf, sv0, partP, unAll, eqCells, indexAddrP, intOf?, lenP, fillP, placeAt, setFrom, chunks, sI, sS, sB, t_aggN_2, t_aggN_3, t_aggN_4, t_aggN_5, t_aggN_9, t_aggN_23, t_aggN_25, t_arrOf_9, t_arrOf_103, t_eqKinds_2, t_eqKinds_3, t_eqKinds_4, t_eqKinds_5, t_eqKinds_9, t_eqKinds_23, t_eqKinds_25, t_fOff_23_0, t_fOff_23_1, t_fOff_25_0, t_fOff_25_1, t_fOff_25_2, t_fPart_25_2, t_placesOf_23, t_placesOf_25, t_slOf_9, t_slOf_81, t_slOf_103, t_under_2, t_under_3, t_under_4, t_under_5, t_under_9, t_under_23, t_under_25, t_under_81, t_under_103, t_zeroOf_3, t_zeroOf_5, t_zeroOf_23, t_zeroOf_25, pl42, Tryd.f42, idP, Γ3, Γ2]
      rw [codeE_draw pl42]
      rotate_left
      · kernel_rfl
      · kernel_rfl
      simp [wrapI, iterE, codeE_loop, codeE_skip, codeE_ret, codeE_exit, codeE_seq, codeE_cond, codeE_block, codeE_seqr, seqE, planE, goE, freeE, freeOp, coreE, actOf, evP, putT, perform, guardV, binP, unP, intBin, strBin, isShift, List.replicate, ofConst, cellsOf, sv0, partP, unAll, eqCells, indexAddrP, intOf?, lenP, fillP, placeAt, setFrom, chunks, sI, sS, sB, t_aggN_2, t_aggN_3, t_aggN_4, t_aggN_5, t_aggN_9, t_aggN_23, t_aggN_25, t_arrOf_9, t_arrOf_103, t_eqKinds_2, t_eqKinds_3, t_eqKinds_4, t_eqKinds_5, t_eqKinds_9, t_eqKinds_23, t_eqKinds_25, t_fOff_23_0, t_fOff_23_1, t_fOff_25_0, t_fOff_25_1, t_fOff_25_2, t_fPart_25_2, t_placesOf_23, t_placesOf_25, t_slOf_9, t_slOf_81, t_slOf_103, t_under_2, t_under_3, t_under_4, t_under_5, t_under_9, t_under_23, t_under_25, t_under_81, t_under_103, t_zeroOf_3, t_zeroOf_5, t_zeroOf_23, t_zeroOf_25, pl42, Tryd.f42, idP, Γ3, Γ2]
      rfl) ⟨rfl, by simp [], by simp [resP, oneP, sB, sI, sS, Tryd.f42, ordI]⟩

def Γ4 : Ctx := fun f args H => match f, args with
  | 42, [.agg [.sc (.int .i64 r1), .sc (.int .i64 q1)], .agg [.sc (.int .i64 r2), .sc (.int .i64 q2)]] => some ([], .ret (sI (ordI r1 q1 r2 q2)), H)
  | f, args => Γ3 f args H
theorem Γ4_ok : CtxOk Tryd.prog Γ4 := by
  intro f args H wr o H' h
  unfold Γ4 at h
  split at h
  · simp only [Option.some.injEq, Prod.mk.injEq] at h; obtain ⟨rfl, rfl, rfl⟩ := h; exact c42 _ _ _ _ _
  · exact Γ3_ok _ _ _ _ _ _ h

theorem c21 (r1 q1 r2 q2 : Int) (H : Heap) : SimCall Tryd.prog 21 [idP r1 q1, idP r2 q2] H [] (.ret (sB (lessI r1 q1 r2 q2))) H := by
  refine sim_run (n := 8) amixed Γ4_ok Tryd.func21 rfl (by kernel_rfl) (.ret, _) (by
      simp [wrapI, iterE, codeE_loop, codeE_skip, codeE_ret, codeE_exit, codeE_seq, codeE_cond, codeE_block, codeE_seqr, seqE, planE, goE, freeE, freeOp, coreE, actOf, evP, putT, perform, guardV, binP, unP, intBin, strBin, isShift, List.replicate, ofConst, cellsOf, sv0, partP, unAll, eqCells, indexAddrP, intOf?, lenP, fillP, placeAt, setFrom, chunks, sI, sS, sB, t_aggN_2, t_aggN_3, t_aggN_4, t_aggN_5, t_aggN_9, t_aggN_23, t_aggN_25, t_arrOf_9, t_arrOf_103, t_eqKinds_2, t_eqKinds_3, t_eqKinds_4, t_eqKinds_5, t_eqKinds_9, t_eqKinds_23, t_eqKinds_25, t_fOff_23_0, t_fOff_23_1, t_fOff_25_0, t_fOff_25_1, t_fOff_25_2, t_fPart_25_2, t_placesOf_23, t_placesOf_25, t_slOf_9, t_slOf_81, t_slOf_103, t_under_2, t_under_3, t_under_4, t_under_5, t_under_9, t_under_23, t_under_25, t_under_81, t_under_103, t_zeroOf_3, t_zeroOf_5, t_zeroOf_23, t_zeroOf_25, Tryd.f21, idP, Γ4]
      rfl) ⟨rfl, by simp [], by simp [resP, oneP, sB, sI, sS, Tryd.f21, lessI]⟩

theorem c19 (r q o : Int) (u : Bool) (H : Heap) : SimCall Tryd.prog 19 [keyP r q o u] H [] (.ret (sB (mayKI r q o))) H := by
  by_cases h1 : mayI r q = true
  all_goals
    refine sim_run (n := 8) amixed Γ4_ok Tryd.func19 rfl (by kernel_rfl) (.ret, _) (by
          simp [wrapI, iterE, codeE_loop, codeE_skip, codeE_ret, codeE_exit, codeE_seq, codeE_cond, codeE_block, codeE_seqr, seqE, planE, goE, freeE, freeOp, coreE, actOf, evP, putT, perform, guardV, binP, unP, intBin, strBin, isShift, List.replicate, ofConst, cellsOf, sv0, partP, unAll, eqCells, indexAddrP, intOf?, lenP, fillP, placeAt, setFrom, chunks, sI, sS, sB, t_aggN_2, t_aggN_3, t_aggN_4, t_aggN_5, t_aggN_9, t_aggN_23, t_aggN_25, t_arrOf_9, t_arrOf_103, t_eqKinds_2, t_eqKinds_3, t_eqKinds_4, t_eqKinds_5, t_eqKinds_9, t_eqKinds_23, t_eqKinds_25, t_fOff_23_0, t_fOff_23_1, t_fOff_25_0, t_fOff_25_1, t_fOff_25_2, t_fPart_25_2, t_placesOf_23, t_placesOf_25, t_slOf_9, t_slOf_81, t_slOf_103, t_under_2, t_under_3, t_under_4, t_under_5, t_under_9, t_under_23, t_under_25, t_under_81, t_under_103, t_zeroOf_3, t_zeroOf_5, t_zeroOf_23, t_zeroOf_25, Tryd.f19, keyP, Γ4, Γ3, Γ2, Γ1, h1]
          rfl) ⟨rfl, by simp [h1], by simp [resP, oneP, sB, sI, sS, Tryd.f19, mayKI, h1]⟩

theorem c24 (r q o : Int) (u : Bool) (H : Heap) : SimCall Tryd.prog 24 [keyP r q o u] H [] (.ret (keyP r q o (!u))) H := by
  refine sim_own (n := 8) [1, 2] amixed Γ4_ok Tryd.func24 rfl (by kernel_rfl) (.ret, _) (by
      simp [wrapI, iterE, codeE_loop, codeE_skip, codeE_ret, codeE_exit, codeE_seq, codeE_cond, codeE_block, codeE_seqr, seqE, planE, goE, freeE, freeOp, coreE, actOf, evP, putT, perform, guardV, binP, unP, intBin, strBin, isShift, List.replicate, ofConst, cellsOf, sv0, partP, unAll, eqCells, indexAddrP, intOf?, lenP, fillP, placeAt, setFrom, chunks, sI, sS, sB, t_aggN_2, t_aggN_3, t_aggN_4, t_aggN_5, t_aggN_9, t_aggN_23, t_aggN_25, t_arrOf_9, t_arrOf_103, t_eqKinds_2, t_eqKinds_3, t_eqKinds_4, t_eqKinds_5, t_eqKinds_9, t_eqKinds_23, t_eqKinds_25, t_fOff_23_0, t_fOff_23_1, t_fOff_25_0, t_fOff_25_1, t_fOff_25_2, t_fPart_25_2, t_placesOf_23, t_placesOf_25, t_slOf_9, t_slOf_81, t_slOf_103, t_under_2, t_under_3, t_under_4, t_under_5, t_under_9, t_under_23, t_under_25, t_under_81, t_under_103, t_zeroOf_3, t_zeroOf_5, t_zeroOf_23, t_zeroOf_25, Tryd.f24, keyP, Γ4, svOf, List.idxOf?, List.findIdx?_cons, own_get, own_get0, own_set, own_set0, own_lt, own_rowAt, own_rowAt0, own_next, own_next0, rowAt, nextVer, loadR, lkOf]
      rfl) ⟨rfl, ⟨_, rfl⟩, by simp [], by simp [resP, oneP, sB, sI, sS, Tryd.f24, svOf, List.idxOf?, List.findIdx?_cons, own_get, own_get0, own_set, own_set0, own_lt, own_rowAt, own_rowAt0, own_next, own_next0, rowAt, nextVer, loadR, lkOf, t_aggN_2, t_aggN_3, t_aggN_4, t_aggN_5, t_aggN_9, t_aggN_23, t_aggN_25, t_arrOf_9, t_arrOf_103, t_eqKinds_2, t_eqKinds_3, t_eqKinds_4, t_eqKinds_5, t_eqKinds_9, t_eqKinds_23, t_eqKinds_25, t_fOff_23_0, t_fOff_23_1, t_fOff_25_0, t_fOff_25_1, t_fOff_25_2, t_fPart_25_2, t_placesOf_23, t_placesOf_25, t_slOf_9, t_slOf_81, t_slOf_103, t_under_2, t_under_3, t_under_4, t_under_5, t_under_9, t_under_23, t_under_25, t_under_81, t_under_103, t_zeroOf_3, t_zeroOf_5, t_zeroOf_23, t_zeroOf_25, keyP], by simp [belV, belC, belL, sB, sI, sS, keyP]⟩

theorem c13 (r q : Int) (H : Heap) : SimCall Tryd.prog 13 [idP r q] H [] (.ret (sB (refMayI r q))) H := by
  by_cases h1 : 0 ≤ r <;> by_cases h2 : r ≤ 3 <;> by_cases h3 : 1 ≤ q
  all_goals
    refine sim_run (n := 8) amixed Γ4_ok Tryd.func13 rfl (by kernel_rfl) (.ret, _) (by
          simp [wrapI, iterE, codeE_loop, codeE_skip, codeE_ret, codeE_exit, codeE_seq, codeE_cond, codeE_block, codeE_seqr, seqE, planE, goE, freeE, freeOp, coreE, actOf, evP, putT, perform, guardV, binP, unP, intBin, strBin, isShift, List.replicate, ofConst, cellsOf, sv0, partP, unAll, eqCells, indexAddrP, intOf?, lenP, fillP, placeAt, setFrom, chunks, sI, sS, sB, t_aggN_2, t_aggN_3, t_aggN_4, t_aggN_5, t_aggN_9, t_aggN_23, t_aggN_25, t_arrOf_9, t_arrOf_103, t_eqKinds_2, t_eqKinds_3, t_eqKinds_4, t_eqKinds_5, t_eqKinds_9, t_eqKinds_23, t_eqKinds_25, t_fOff_23_0, t_fOff_23_1, t_fOff_25_0, t_fOff_25_1, t_fOff_25_2, t_fPart_25_2, t_placesOf_23, t_placesOf_25, t_slOf_9, t_slOf_81, t_slOf_103, t_under_2, t_under_3, t_under_4, t_under_5, t_under_9, t_under_23, t_under_25, t_under_81, t_under_103, t_zeroOf_3, t_zeroOf_5, t_zeroOf_23, t_zeroOf_25, Tryd.f13, idP, Γ4, h1, h2, h3]
          rfl) ⟨rfl, by simp [h1, h2, h3], by simp [resP, oneP, sB, sI, sS, Tryd.f13, refMayI, h1, h2, h3]⟩

theorem c22 (r1 q1 r2 q2 : Int) (H : Heap) : SimCall Tryd.prog 22 [idP r1 q1, idP r2 q2] H [] (.ret (sB (refLessI r1 q1 r2 q2))) H := by
  by_cases h1 : q1 < q2 <;> by_cases h2 : q1 = q2
  all_goals
    refine sim_run (n := 8) amixed Γ4_ok Tryd.func22 rfl (by kernel_rfl) (.ret, _) (by
          simp [wrapI, iterE, codeE_loop, codeE_skip, codeE_ret, codeE_exit, codeE_seq, codeE_cond, codeE_block, codeE_seqr, seqE, planE, goE, freeE, freeOp, coreE, actOf, evP, putT, perform, guardV, binP, unP, intBin, strBin, isShift, List.replicate, ofConst, cellsOf, sv0, partP, unAll, eqCells, indexAddrP, intOf?, lenP, fillP, placeAt, setFrom, chunks, sI, sS, sB, t_aggN_2, t_aggN_3, t_aggN_4, t_aggN_5, t_aggN_9, t_aggN_23, t_aggN_25, t_arrOf_9, t_arrOf_103, t_eqKinds_2, t_eqKinds_3, t_eqKinds_4, t_eqKinds_5, t_eqKinds_9, t_eqKinds_23, t_eqKinds_25, t_fOff_23_0, t_fOff_23_1, t_fOff_25_0, t_fOff_25_1, t_fOff_25_2, t_fPart_25_2, t_placesOf_23, t_placesOf_25, t_slOf_9, t_slOf_81, t_slOf_103, t_under_2, t_under_3, t_under_4, t_under_5, t_under_9, t_under_23, t_under_25, t_under_81, t_under_103, t_zeroOf_3, t_zeroOf_5, t_zeroOf_23, t_zeroOf_25, Tryd.f22, idP, Γ4, h1, h2]
          rfl) ⟨rfl, by simp [h1, h2], by simp [resP, oneP, sB, sI, sS, Tryd.f22, refLessI, h1, h2]⟩

def Γ5 : Ctx := fun f args H => match f, args with
  | 21, [.agg [.sc (.int .i64 r1), .sc (.int .i64 q1)], .agg [.sc (.int .i64 r2), .sc (.int .i64 q2)]] => some ([], .ret (sB (lessI r1 q1 r2 q2)), H)
  | 19, [.agg [.sc (.int .i64 r), .sc (.int .i64 q), .sc (.int .i64 o), .sc (.bool u)]] => some ([], .ret (sB (mayKI r q o)), H)
  | 24, [.agg [.sc (.int .i64 r), .sc (.int .i64 q), .sc (.int .i64 o), .sc (.bool u)]] => some ([], .ret (keyP r q o (!u)), H)
  | 13, [.agg [.sc (.int .i64 r), .sc (.int .i64 q)]] => some ([], .ret (sB (refMayI r q)), H)
  | 22, [.agg [.sc (.int .i64 r1), .sc (.int .i64 q1)], .agg [.sc (.int .i64 r2), .sc (.int .i64 q2)]] => some ([], .ret (sB (refLessI r1 q1 r2 q2)), H)
  | f, args => Γ4 f args H
theorem Γ5_ok : CtxOk Tryd.prog Γ5 := by
  intro f args H wr o H' h
  unfold Γ5 at h
  split at h
  · simp only [Option.some.injEq, Prod.mk.injEq] at h; obtain ⟨rfl, rfl, rfl⟩ := h; exact c21 _ _ _ _ _
  · simp only [Option.some.injEq, Prod.mk.injEq] at h; obtain ⟨rfl, rfl, rfl⟩ := h; exact c19 _ _ _ _ _
  · simp only [Option.some.injEq, Prod.mk.injEq] at h; obtain ⟨rfl, rfl, rfl⟩ := h; exact c24 _ _ _ _ _
  · simp only [Option.some.injEq, Prod.mk.injEq] at h; obtain ⟨rfl, rfl, rfl⟩ := h; exact c13 _ _ _
  · simp only [Option.some.injEq, Prod.mk.injEq] at h; obtain ⟨rfl, rfl, rfl⟩ := h; exact c22 _ _ _ _ _
  · exact Γ4_ok _ _ _ _ _ _ h

theorem c20 (r q o : Int) (u : Bool) (H : Heap) : SimCall Tryd.prog 20 [keyP r q o u] H [] (.ret (sB (refMayKI r q o))) H := by
  by_cases h1 : refMayI r q = true <;> by_cases h2 : 1 ≤ o
  all_goals
    refine sim_run (n := 8) amixed Γ5_ok Tryd.func20 rfl (by kernel_rfl) (.ret, _) (by
          simp [wrapI, iterE, codeE_loop, codeE_skip, codeE_ret, codeE_exit, codeE_seq, codeE_cond, codeE_block, codeE_seqr, seqE, planE, goE, freeE, freeOp, coreE, actOf, evP, putT, perform, guardV, binP, unP, intBin, strBin, isShift, List.replicate, ofConst, cellsOf, sv0, partP, unAll, eqCells, indexAddrP, intOf?, lenP, fillP, placeAt, setFrom, chunks, sI, sS, sB, t_aggN_2, t_aggN_3, t_aggN_4, t_aggN_5, t_aggN_9, t_aggN_23, t_aggN_25, t_arrOf_9, t_arrOf_103, t_eqKinds_2, t_eqKinds_3, t_eqKinds_4, t_eqKinds_5, t_eqKinds_9, t_eqKinds_23, t_eqKinds_25, t_fOff_23_0, t_fOff_23_1, t_fOff_25_0, t_fOff_25_1, t_fOff_25_2, t_fPart_25_2, t_placesOf_23, t_placesOf_25, t_slOf_9, t_slOf_81, t_slOf_103, t_under_2, t_under_3, t_under_4, t_under_5, t_under_9, t_under_23, t_under_25, t_under_81, t_under_103, t_zeroOf_3, t_zeroOf_5, t_zeroOf_23, t_zeroOf_25, Tryd.f20, keyP, Γ5, h1, h2]
          rfl) ⟨rfl, by simp [h1, h2], by simp [resP, oneP, sB, sI, sS, Tryd.f20, refMayKI, h1, h2]⟩

theorem c17 (r1 q1 o1 : Int) (u1 : Bool) (r2 q2 o2 : Int) (u2 : Bool) (H : Heap) : SimCall Tryd.prog 17 [keyP r1 q1 o1 u1, keyP r2 q2 o2 u2] H [] (.ret (sB (lessKI r1 q1 o1 u1 r2 q2 o2 u2))) H := by
  by_cases h1 : orI (ordI r1 q1 r2 q2) (cmpI o1 o2) = 0 <;> by_cases h2 : u1 = true
  all_goals
    refine sim_run (n := 8) amixed Γ5_ok Tryd.func17 rfl (by kernel_rfl) (.ret, _) (by
          simp [wrapI, iterE, codeE_loop, codeE_skip, codeE_ret, codeE_exit, codeE_seq, codeE_cond, codeE_block, codeE_seqr, seqE, planE, goE, freeE, freeOp, coreE, actOf, evP, putT, perform, guardV, binP, unP, intBin, strBin, isShift, List.replicate, ofConst, cellsOf, sv0, partP, unAll, eqCells, indexAddrP, intOf?, lenP, fillP, placeAt, setFrom, chunks, sI, sS, sB, t_aggN_2, t_aggN_3, t_aggN_4, t_aggN_5, t_aggN_9, t_aggN_23, t_aggN_25, t_arrOf_9, t_arrOf_103, t_eqKinds_2, t_eqKinds_3, t_eqKinds_4, t_eqKinds_5, t_eqKinds_9, t_eqKinds_23, t_eqKinds_25, t_fOff_23_0, t_fOff_23_1, t_fOff_25_0, t_fOff_25_1, t_fOff_25_2, t_fPart_25_2, t_placesOf_23, t_placesOf_25, t_slOf_9, t_slOf_81, t_slOf_103, t_under_2, t_under_3, t_under_4, t_under_5, t_under_9, t_under_23, t_under_25, t_under_81, t_under_103, t_zeroOf_3, t_zeroOf_5, t_zeroOf_23, t_zeroOf_25, pl17, Tryd.f17, keyP, Γ5, Γ4, Γ3, Γ2, h1, h2]
          rw [codeE_draw pl17]
          rotate_left
          · kernel_rfl
          · kernel_rfl
          simp [wrapI, iterE, codeE_loop, codeE_skip, codeE_ret, codeE_exit, codeE_seq, codeE_cond, codeE_block, codeE_seqr, seqE, planE, goE, freeE, freeOp, coreE, actOf, evP, putT, perform, guardV, binP, unP, intBin, strBin, isShift, List.replicate, ofConst, cellsOf, sv0, partP, unAll, eqCells, indexAddrP, intOf?, lenP, fillP, placeAt, setFrom, chunks, sI, sS, sB, t_aggN_2, t_aggN_3, t_aggN_4, t_aggN_5, t_aggN_9, t_aggN_23, t_aggN_25, t_arrOf_9, t_arrOf_103, t_eqKinds_2, t_eqKinds_3, t_eqKinds_4, t_eqKinds_5, t_eqKinds_9, t_eqKinds_23, t_eqKinds_25, t_fOff_23_0, t_fOff_23_1, t_fOff_25_0, t_fOff_25_1, t_fOff_25_2, t_fPart_25_2, t_placesOf_23, t_placesOf_25, t_slOf_9, t_slOf_81, t_slOf_103, t_under_2, t_under_3, t_under_4, t_under_5, t_under_9, t_under_23, t_under_25, t_under_81, t_under_103, t_zeroOf_3, t_zeroOf_5, t_zeroOf_23, t_zeroOf_25, pl17, Tryd.f17, keyP, Γ5, Γ4, Γ3, Γ2, h1, h2]
          rfl) ⟨rfl, by simp [h1, h2], by simp [resP, oneP, sB, sI, sS, Tryd.f17, lessKI, h1, h2]⟩

theorem c25 (r q o : Int) (u : Bool) (H : Heap) : SimCall Tryd.prog 25 [keyP r q o u] H [] (.ret (keyP r q o (!u))) H := by
  refine sim_own (n := 8) [2] amixed Γ5_ok Tryd.func25 rfl (by kernel_rfl) (.ret, _) (by
      simp [wrapI, iterE, codeE_loop, codeE_skip, codeE_ret, codeE_exit, codeE_seq, codeE_cond, codeE_block, codeE_seqr, seqE, planE, goE, freeE, freeOp, coreE, actOf, evP, putT, perform, guardV, binP, unP, intBin, strBin, isShift, List.replicate, ofConst, cellsOf, sv0, partP, unAll, eqCells, indexAddrP, intOf?, lenP, fillP, placeAt, setFrom, chunks, sI, sS, sB, t_aggN_2, t_aggN_3, t_aggN_4, t_aggN_5, t_aggN_9, t_aggN_23, t_aggN_25, t_arrOf_9, t_arrOf_103, t_eqKinds_2, t_eqKinds_3, t_eqKinds_4, t_eqKinds_5, t_eqKinds_9, t_eqKinds_23, t_eqKinds_25, t_fOff_23_0, t_fOff_23_1, t_fOff_25_0, t_fOff_25_1, t_fOff_25_2, t_fPart_25_2, t_placesOf_23, t_placesOf_25, t_slOf_9, t_slOf_81, t_slOf_103, t_under_2, t_under_3, t_under_4, t_under_5, t_under_9, t_under_23, t_under_25, t_under_81, t_under_103, t_zeroOf_3, t_zeroOf_5, t_zeroOf_23, t_zeroOf_25, Tryd.f25, keyP, Γ5, svOf, List.idxOf?, List.findIdx?_cons, own_get, own_get0, own_set, own_set0, own_lt, own_rowAt, own_rowAt0, own_next, own_next0, rowAt, nextVer, loadR, lkOf]
      rfl) ⟨rfl, ⟨_, rfl⟩, by simp [], by simp [resP, oneP, sB, sI, sS, Tryd.f25, svOf, List.idxOf?, List.findIdx?_cons, own_get, own_get0, own_set, own_set0, own_lt, own_rowAt, own_rowAt0, own_next, own_next0, rowAt, nextVer, loadR, lkOf, t_aggN_2, t_aggN_3, t_aggN_4, t_aggN_5, t_aggN_9, t_aggN_23, t_aggN_25, t_arrOf_9, t_arrOf_103, t_eqKinds_2, t_eqKinds_3, t_eqKinds_4, t_eqKinds_5, t_eqKinds_9, t_eqKinds_23, t_eqKinds_25, t_fOff_23_0, t_fOff_23_1, t_fOff_25_0, t_fOff_25_1, t_fOff_25_2, t_fPart_25_2, t_placesOf_23, t_placesOf_25, t_slOf_9, t_slOf_81, t_slOf_103, t_under_2, t_under_3, t_under_4, t_under_5, t_under_9, t_under_23, t_under_25, t_under_81, t_under_103, t_zeroOf_3, t_zeroOf_5, t_zeroOf_23, t_zeroOf_25, keyP], by simp [belV, belC, belL, sB, sI, sS, keyP]⟩

theorem c23 (r1 q1 o1 : Int) (u1 : Bool) (r2 q2 o2 : Int) (u2 : Bool) (H : Heap) : SimCall Tryd.prog 23 [keyP r1 q1 o1 u1, keyP r2 q2 o2 u2] H [] (.ret (sB (refLessKI r1 q1 o1 u1 r2 q2 o2 u2))) H := by
  by_cases h1 : r1 = r2 <;> by_cases h2 : q1 = q2 <;> by_cases h3 : o1 < o2 <;> by_cases h4 : o1 = o2 <;> by_cases h5 : u1 = true
  all_goals
    refine sim_run (n := 8) amixed Γ5_ok Tryd.func23 rfl (by kernel_rfl) (.ret, _) (by
          simp [wrapI, iterE, codeE_loop, codeE_skip, codeE_ret, codeE_exit, codeE_seq, codeE_cond, codeE_block, codeE_seqr, seqE, planE, goE, freeE, freeOp, coreE, actOf, evP, putT, perform, guardV, binP, unP, intBin, strBin, isShift, List.replicate, ofConst, cellsOf, sv0, partP, unAll, eqCells, indexAddrP, intOf?, lenP, fillP, placeAt, setFrom, chunks, sI, sS, sB, t_aggN_2, t_aggN_3, t_aggN_4, t_aggN_5, t_aggN_9, t_aggN_23, t_aggN_25, t_arrOf_9, t_arrOf_103, t_eqKinds_2, t_eqKinds_3, t_eqKinds_4, t_eqKinds_5, t_eqKinds_9, t_eqKinds_23, t_eqKinds_25, t_fOff_23_0, t_fOff_23_1, t_fOff_25_0, t_fOff_25_1, t_fOff_25_2, t_fPart_25_2, t_placesOf_23, t_placesOf_25, t_slOf_9, t_slOf_81, t_slOf_103, t_under_2, t_under_3, t_under_4, t_under_5, t_under_9, t_under_23, t_under_25, t_under_81, t_under_103, t_zeroOf_3, t_zeroOf_5, t_zeroOf_23, t_zeroOf_25, Tryd.f23, keyP, Γ5, h1, h2, h3, h4, h5]
          rfl) ⟨rfl, by simp [h1, h2, h3, h4, h5], by simp [resP, oneP, sB, sI, sS, Tryd.f23, refLessKI, h1, h2, h3, h4, h5]⟩

end Go.PM
