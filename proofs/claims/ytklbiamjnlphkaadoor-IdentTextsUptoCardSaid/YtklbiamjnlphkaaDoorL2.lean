/-
  Seat a: what is asked of types, and the plans of the regions that draw (written by a program).
-/
import Derived.Test.YtklbiamjnlphkaaDoorL1
set_option linter.unusedVariables false
set_option linter.unusedSimpArgs false
set_option maxRecDepth 10000
namespace Go.PM
open Go Go.Proofs
theorem t_aggN_2 : aggN Tryd.prog 2 = some none := by kernel_rfl
theorem t_aggN_3 : aggN Tryd.prog 3 = some none := by kernel_rfl
theorem t_aggN_4 : aggN Tryd.prog 4 = some none := by kernel_rfl
theorem t_aggN_5 : aggN Tryd.prog 5 = some none := by kernel_rfl
theorem t_aggN_9 : aggN Tryd.prog 9 = some none := by kernel_rfl
theorem t_aggN_23 : aggN Tryd.prog 23 = some (some 2) := by kernel_rfl
theorem t_aggN_25 : aggN Tryd.prog 25 = some (some 4) := by kernel_rfl
theorem t_arrOf_9 : arrOf Tryd.prog 9 = none := by kernel_rfl
theorem t_arrOf_103 : arrOf Tryd.prog 103 = none := by kernel_rfl
theorem t_eqKinds_2 : eqKinds Tryd.prog 2 = some [FK.i] := by kernel_rfl
theorem t_eqKinds_3 : eqKinds Tryd.prog 3 = some [FK.i] := by kernel_rfl
theorem t_eqKinds_4 : eqKinds Tryd.prog 4 = some [FK.b] := by kernel_rfl
theorem t_eqKinds_5 : eqKinds Tryd.prog 5 = some [FK.i] := by kernel_rfl
theorem t_eqKinds_9 : eqKinds Tryd.prog 9 = some [FK.s] := by kernel_rfl
theorem t_eqKinds_23 : eqKinds Tryd.prog 23 = some [FK.i, FK.i] := by kernel_rfl
theorem t_eqKinds_25 : eqKinds Tryd.prog 25 = some [FK.i, FK.i, FK.i, FK.b] := by kernel_rfl
theorem t_fOff_23_0 : fOff Tryd.prog 23 0 = some 0 := by kernel_rfl
theorem t_fOff_23_1 : fOff Tryd.prog 23 1 = some 1 := by kernel_rfl
theorem t_fOff_25_0 : fOff Tryd.prog 25 0 = some 0 := by kernel_rfl
theorem t_fOff_25_1 : fOff Tryd.prog 25 1 = some 2 := by kernel_rfl
theorem t_fOff_25_2 : fOff Tryd.prog 25 2 = some 3 := by kernel_rfl
theorem t_fPart_25_2 : fPart Tryd.prog 25 2 = some (3, none) := by kernel_rfl
theorem t_placesOf_23 : placesOf Tryd.prog 23 = some (Sum.inl [(0, 1), (1, 1)]) := by kernel_rfl
theorem t_placesOf_25 : placesOf Tryd.prog 25 = some (Sum.inl [(0, 2), (2, 1), (3, 1)]) := by kernel_rfl
theorem t_slOf_9 : slOf Tryd.prog 9 = none := by kernel_rfl
theorem t_slOf_81 : slOf Tryd.prog 81 = some (5, 1, 1) := by kernel_rfl
theorem t_slOf_103 : slOf Tryd.prog 103 = some (3, 1, 8) := by kernel_rfl
theorem t_under_2 : Tryd.prog.underlying 2 = some (TypeDesc.int IntKind.i64) := by kernel_rfl
theorem t_under_3 : Tryd.prog.underlying 3 = some (TypeDesc.int IntKind.i64) := by kernel_rfl
theorem t_under_4 : Tryd.prog.underlying 4 = some TypeDesc.bool := by kernel_rfl
theorem t_under_5 : Tryd.prog.underlying 5 = some (TypeDesc.int IntKind.u8) := by kernel_rfl
theorem t_under_9 : Tryd.prog.underlying 9 = some TypeDesc.string := by kernel_rfl
theorem t_under_23 : Tryd.prog.underlying 23 = some   (TypeDesc.struct     {       toList :=         [{ name := "Replica", type := 3, offset := 0, embedded := false, tag := "", pkgPath := "", byteOffset := 0 },           { name := "Seq", type := 3, offset := 1, embedded := false, tag := "", pkgPath := "", byteOffset := 8 }] }) := by kernel_rfl
theorem t_under_25 : Tryd.prog.underlying 25 = some   (TypeDesc.struct     {       toList :=         [{ name := "Id", type := 23, offset := 0, embedded := false, tag := "", pkgPath := "", byteOffset := 0 },           { name := "Ord", type := 3, offset := 2, embedded := false, tag := "", pkgPath := "", byteOffset := 16 },           { name := "Undo", type := 4, offset := 3, embedded := false, tag := "", pkgPath := "", byteOffset := 24 }] }) := by kernel_rfl
theorem t_under_81 : Tryd.prog.underlying 81 = some (TypeDesc.slice 5) := by kernel_rfl
theorem t_under_103 : Tryd.prog.underlying 103 = some (TypeDesc.slice 3) := by kernel_rfl
theorem t_zeroOf_3 : zeroOf Tryd.prog 3 = some [Value.int IntKind.i64 (Int.ofNat 0)] := by kernel_rfl
theorem t_zeroOf_5 : zeroOf Tryd.prog 5 = some [Value.int IntKind.u8 (Int.ofNat 0)] := by kernel_rfl
theorem t_zeroOf_23 : zeroOf Tryd.prog 23 = some [Value.int IntKind.i64 (Int.ofNat 0), Value.int IntKind.i64 (Int.ofNat 0)] := by kernel_rfl
theorem t_zeroOf_25 : zeroOf Tryd.prog 25 = some   [Value.int IntKind.i64 (Int.ofNat 0), Value.int IntKind.i64 (Int.ofNat 0), Value.int IntKind.i64 (Int.ofNat 0),     Value.bool false] := by kernel_rfl
def pl3 : Nat → Plan
  | 8 => Plan.free 0 (Plan.free 1 (Plan.free 3 (Plan.free 4 (Plan.go 2 (Plan.go 5 (Plan.free 6 (Plan.free 7 (Plan.free 8 (Plan.free 10 (Plan.go 9 (Plan.go 11 (Plan.free 12 (Plan.free 13 (Plan.free 14 (Plan.free 15 (Plan.free 16 (Plan.free 17 (Plan.free 18 (Plan.free 19 (Plan.free 20 (Plan.free 21 (Plan.free 22 (Plan.free 23 (Plan.free 24 Plan.done))))))))))))))))))))))))
  | _ => .done
def pl4 : Nat → Plan
  | 3 => Plan.free 0 (Plan.free 1 (Plan.free 3 (Plan.free 4 (Plan.go 2 (Plan.go 5 (Plan.free 6 (Plan.free 7 Plan.done)))))))
  | _ => .done
def pl5 : Nat → Plan
  | 3 => Plan.free 0 (Plan.free 1 (Plan.free 3 (Plan.free 4 (Plan.go 2 (Plan.go 5 (Plan.free 6 (Plan.free 7 (Plan.free 8 (Plan.free 10 (Plan.go 9 (Plan.go 11 (Plan.free 12 (Plan.free 13 (Plan.free 14 (Plan.free 15 (Plan.free 16 (Plan.free 17 (Plan.free 18 (Plan.free 20 (Plan.free 21 (Plan.free 22 (Plan.free 23 (Plan.go 19 (Plan.go 24 (Plan.free 25 (Plan.free 26 (Plan.free 27 (Plan.free 28 (Plan.free 29 (Plan.free 31 (Plan.free 32 (Plan.go 30 (Plan.go 33 (Plan.free 34 (Plan.free 35 (Plan.free 36 (Plan.free 37 (Plan.free 39 (Plan.go 38 (Plan.go 40 (Plan.free 41 (Plan.free 42 (Plan.free 43 Plan.done)))))))))))))))))))))))))))))))))))))))))))
  | _ => .done
def pl12 : Nat → Plan
  | 1 => Plan.free 0 (Plan.free 1 (Plan.free 4 (Plan.free 5 (Plan.go 2 (Plan.free 3 (Plan.go 6 (Plan.free 7 (Plan.free 8 Plan.done))))))))
  | _ => .done
def pl14 : Nat → Plan
  | 1 => Plan.free 0 (Plan.free 1 (Plan.free 4 (Plan.free 5 (Plan.go 2 (Plan.free 3 (Plan.go 6 (Plan.free 7 (Plan.free 8 Plan.done))))))))
  | _ => .done
def pl15 : Nat → Plan
  | 1 => Plan.free 0 (Plan.free 1 (Plan.free 4 (Plan.free 5 (Plan.go 2 (Plan.free 3 (Plan.go 6 (Plan.free 7 (Plan.free 8 Plan.done))))))))
  | _ => .done
def pl16 : Nat → Plan
  | 1 => Plan.free 0 (Plan.free 1 (Plan.free 4 (Plan.free 5 (Plan.go 2 (Plan.free 3 (Plan.go 6 (Plan.free 7 (Plan.free 8 Plan.done))))))))
  | _ => .done
def pl17 : Nat → Plan
  | 1 => Plan.free 0 (Plan.free 1 (Plan.free 2 (Plan.free 3 (Plan.free 5 (Plan.free 6 (Plan.free 7 (Plan.free 8 (Plan.go 4 (Plan.go 9 (Plan.free 10 (Plan.go 11 (Plan.free 12 Plan.done))))))))))))
  | _ => .done
def pl42 : Nat → Plan
  | 1 => Plan.free 0 (Plan.free 1 (Plan.free 2 (Plan.free 3 (Plan.free 5 (Plan.free 6 (Plan.free 7 (Plan.free 8 (Plan.go 4 (Plan.go 9 (Plan.free 10 (Plan.go 11 (Plan.free 12 Plan.done))))))))))))
  | _ => .done
end Go.PM
