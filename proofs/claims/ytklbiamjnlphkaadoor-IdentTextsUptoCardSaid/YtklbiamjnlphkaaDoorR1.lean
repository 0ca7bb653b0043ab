/-
  Seat a: what the rows on ident share: the laid variables, a world that lays them, the reading of a key.
-/
import Derived.Test.YtklbiamjnlphkaaDoorCards
import Derived.Test.YtklbiamjnlphkaaDoorTie
import Derived.Test.YtklbiamjnlphkaaDoorL5
import Derived.Test.YtklbiamjnlphkaaDoorK28
import Derived.WalkKit
import Derived.ProofKit
import Derived.OpenShut
import Derived.LaidLaws
import Derived.Deep.DeepHandedRow
import Derived.Lib.LaidTab
set_option linter.unusedVariables false
set_option linter.unusedSimpArgs false
set_option maxRecDepth 100000
namespace Go.Proofs.YtklbiamjnlphkaaDoor
open Go.ChangeShapes Go.WideShapes Go.ChangeAt Go.RowKit Go.PM

theorem own : ownKnob Tryd.prog.godebug = none := by kernel_rfl
theorem laidOut : laidOutB Tryd.prog = true := by kernel_rfl

theorem var_block {W : World} {g : Nat} {n : String} {cs : Array Value} (hg : Tryd.prog.globalNamed n = some g) (h : W.var? Tryd.prog n = some cs) : ∃ ty fr, W.heap[g]? = some (.cells cs ty fr) := by
  unfold World.var? at h
  rw [hg] at h
  simp only [Option.bind_some] at h
  split at h
  · rename_i c ty fr heq
    simp only [Option.some.injEq] at h; subst h
    exact ⟨ty, fr, heq⟩
  · cases h

/-- What the row's list gives. -/
theorem knownOf {W : World} (hL : laidMetH Tryd.prog Rows.identOrdersRow.laid W) (hS : W.ShapedOpen Tryd.prog) : Known Tryd.prog fun b => W.heap[b]? := by
  have h : laidMet Tryd.prog Rows.identOrdersRow.laid W := hL
  obtain ⟨ps, ⟨g0, t0, cs0, f0, p0, q0, hg0, ht0, hv0, hd0, ⟨g1, t1, cs1, f1, p1, q1, hg1, ht1, hv1, hd1, ⟨g2, t2, cs2, f2, p2, q2, hg2, ht2, hv2, hd2, ⟨g3, t3, cs3, f3, p3, q3, hg3, ht3, hv3, hd3, ⟨g4, t4, cs4, f4, p4, q4, hg4, ht4, hv4, hd4, _⟩, _⟩, _⟩, _⟩, _⟩, hnd, hrows⟩ := h
  have e2 := Option.some.inj ((show Tryd.prog.globalNamed "internal/strconv.uint64pow10" = some 3 by kernel_rfl).symm.trans hg2); subst e2
  have e3 := Option.some.inj ((show Tryd.prog.globalNamed "strconv.ErrRange" = some 2 by kernel_rfl).symm.trans hg3); subst e3
  have e4 := Option.some.inj ((show Tryd.prog.globalNamed "strconv.ErrSyntax" = some 1 by kernel_rfl).symm.trans hg4); subst e4
  have e2 := Option.some.inj ((show (Tryd.prog.globals[3]?).map (·.type) = some 149 by kernel_rfl).symm.trans ht2); subst e2
  have e3 := Option.some.inj ((show (Tryd.prog.globals[2]?).map (·.type) = some 64 by kernel_rfl).symm.trans ht3); subst e3
  have e4 := Option.some.inj ((show (Tryd.prog.globals[1]?).map (·.type) = some 64 by kernel_rfl).symm.trans ht4); subst e4
  have k2 := Lib.cells_of_tab (k := .u64) (zs := Lib.pow10Tab) Tryd.underlying149 Tryd.underlying124 (by kernel_rfl) (by kernel_rfl) hd2
  obtain ⟨_, u3, v3, k3, _, _⟩ := iface_of_trod Tryd.underlying64 hd3
  obtain ⟨_, u4, v4, k4, _, _⟩ := iface_of_trod Tryd.underlying64 hd4
  obtain ⟨y2, r2, b2⟩ := var_block hg2 hv2
  obtain ⟨y3, r3, b3⟩ := var_block hg3 hv3
  obtain ⟨y4, r4, b4⟩ := var_block hg4 hv4
  refine ⟨fun g hg => ?_, fun g hg => ?_, fun g hg => ?_, fun g hg => ?_⟩
  · obtain rfl := Option.some.inj (hg4.symm.trans hg)
    exact ⟨u4, v4, cs4, y4, r4, b4, by rw [← Array.getElem?_toList, k4]; rfl⟩
  · obtain rfl := Option.some.inj (hg3.symm.trans hg)
    exact ⟨u3, v3, cs3, y3, r3, b3, by rw [← Array.getElem?_toList, k3]; rfl⟩
  · obtain rfl := Option.some.inj ((show Tryd.prog.globalNamed "internal/bytealg.MaxLen" = some 0 by kernel_rfl).symm.trans hg)
    obtain ⟨m, hm⟩ := Tryd.laysM145.s1_3 W hS
    have hm : W.cell? ⟨0, 0, none⟩ = some (.int .i64 m) := hm
    unfold World.cell? at hm
    cases hb : W.heap[0]? with
    | none => simp [hb] at hm
    | some o =>
      cases o with
      | cells cs ty fr => exact ⟨m, cs, ty, fr, rfl, by simpa [hb] using hm⟩
      | _ => simp [hb] at hm
  · obtain rfl := Option.some.inj (hg2.symm.trans hg)
    refine ⟨y2, r2, ?_⟩
    rw [b2]
    have : cs2 = (Lib.pow10Tab.map fun z => Value.int .u64 z).toArray := by rw [← k2]
    rw [this]
    simp [Lib.pow10Tab, List.map_map, Function.comp_def]
end Go.Proofs.YtklbiamjnlphkaaDoor
