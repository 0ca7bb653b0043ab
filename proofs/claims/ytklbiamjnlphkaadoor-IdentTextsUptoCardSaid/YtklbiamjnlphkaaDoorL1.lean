/-
  Seat a: contracts of the library, as the small machine sees them.
-/
import Derived.Test.YtklbiamjnlphkaaDoorK26
import Derived.Test.YtklbiamjnlphkaaDoorChecked
import Derived.Test.YtklbiamjnlphkaaDoorShelfI
set_option linter.unusedVariables false
set_option linter.unusedSimpArgs false
namespace Go.PM
open Go Go.RowKit Go.Sort Go.Proofs

theorem amixed : Tryd.prog.follows .mixedOrders = true := Checked.mixed Tryd.checked





theorem c39 (n : Int) (h0 : -9223372036854775808 ≤ n) (h1 : n ≤ 9223372036854775807) (H : Heap) : SimCall Tryd.prog 39 [sI n] H [] (.ret (sS ⟨(Lib.itoa n).toArray⟩)) H :=
  sim_lib (by kernel_rfl) fun w M0 ρ xs hA hM hx => by
    rw [hx.one]
    refine (Tryd.strconv_Itoa n h0 h1 w (known_tab hA hM (g := 3) (by kernel_rfl))).mono ?_
    rintro e w' ⟨rfl, k, os, rfl⟩
    exact ⟨_, rfl, below_grown w k os, .c _ _ (.sc _ rfl)⟩

theorem c36 (s sep : ByteArray) (hs : s.size < 4294967281) (H : Heap) : SimCall Tryd.prog 36 [sS s, sS sep] H [] (.ret (.tup [sS ⟨(Lib.cut s.data.toList sep.data.toList).1.toArray⟩, sS ⟨(Lib.cut s.data.toList sep.data.toList).2.1.toArray⟩, sB (Lib.cut s.data.toList sep.data.toList).2.2])) H :=
  sim_lib (by kernel_rfl) fun w M0 ρ xs hA hM hx => by
    rw [hx.two]
    obtain ⟨m, cs, ty, fr, hf, hcs⟩ := hA.maxLen 0 (by kernel_rfl)
    refine (Tryd.strings_Cut s sep m w hs (by rw [known_cell hM hf]; exact hcs)).mono ?_
    rintro e w' ⟨rfl, n, rfl⟩
    exact ⟨_, rfl, below_drawn w n, tupL (((VVs.nil.cons (.c _ _ (.sc _ rfl))).cons (.c _ _ (.sc _ rfl))).cons (.c _ _ (.sc _ rfl)))⟩

/-- What Atoi answers, whatever the text. -/
def atoiV (s : ByteArray) : Int :=
  match Lib.atoiAll s.data.toList with
  | .ok v => v
  | .range => Lib.atoiSat s.data.toList
  | _ => 0

theorem c37 (s : ByteArray) (hs : s.size ≤ 281474976710656) (H : Heap) : SimCall Tryd.prog 37 [sS s] H [] (.ret (.tup [sI (atoiV s), .un])) H :=
  sim_lib (by kernel_rfl) fun w M0 ρ xs hA hM hx => by
    rw [hx.one]
    cases h : Lib.atoiAll s.data.toList with
    | ok v =>
      refine (Tryd.strconv_Atoi_ok s (by omega) v h w).mono ?_
      rintro e w' ⟨rfl, hw⟩
      refine ⟨_, rfl, ?_, tupL ((VVs.nil.cons (.un _)).cons (.c _ _ ?_))⟩
      · rcases hw with rfl | ⟨t, rfl⟩
        · exact Below.refl _ _
        · exact Lib.bytesWorld_below _ _ _
      · rw [show atoiV s = v by unfold atoiV; rw [h]]; exact .sc _ rfl
    | range =>
      obtain ⟨te, pe, cs, ty, fr, hf, hcs⟩ := hA.errRange 2 (by kernel_rfl)
      refine (Tryd.strconv_Atoi_range s hs h _ w (by rw [known_cell hM hf]; exact hcs) (.inr ⟨te, pe, rfl⟩)).mono ?_
      rintro e w' ⟨N, rfl, _, _, hb⟩
      refine ⟨_, rfl, hb, tupL ((VVs.nil.cons (.un _)).cons (.c _ _ ?_))⟩
      rw [show atoiV s = Lib.atoiSat s.data.toList by unfold atoiV; rw [h]]; exact .sc _ rfl
    | _ =>
      obtain ⟨te, pe, cs, ty, fr, hf, hcs⟩ := hA.errSyntax 1 (by kernel_rfl)
      refine (Any.strconv_Atoi_syntax Tryd.laysC172 s hs h _ w (show w.cell? ⟨1, 0, none⟩ = _ from by rw [known_cell hM hf]; exact hcs) (.inr ⟨te, pe, rfl⟩)).mono ?_
      rintro e w' ⟨N, rfl, _, _, hb⟩
      refine ⟨_, rfl, hb, tupL ((VVs.nil.cons (.un _)).cons (.c _ _ ?_))⟩
      rw [show atoiV s = 0 by unfold atoiV; rw [h]]; exact .sc _ rfl
end Go.PM
