/-
  Seat a: the plain law of the texts of Ids.
-/
import Derived.Test.YtklbiamjnlphkaaDoorL7
set_option linter.unusedVariables false
set_option linter.unusedSimpArgs false
namespace Go.PM
open Go Go.Lib

theorem idx_at (b : List UInt8) : ∀ (a : List UInt8), 46 ∉ a → Lib.index (a ++ 46 :: b) [46] = a.length
  | [], _ => by simp [Lib.index]
  | c :: a, h => by
    have ih := idx_at b a (fun h' => h (by simp [h']))
    have hc : ¬ (46 : UInt8) = c := fun e => h (by simp [e])
    simp only [List.cons_append, Lib.index, ih]
    have : (((a.length : Nat) : Int) == -1) = false := by rw [beq_eq_false_iff_ne]; omega
    simp [hc, this]

theorem idx_none : ∀ (a : List UInt8), 46 ∉ a → Lib.index a [46] = -1
  | [], _ => by simp [Lib.index]
  | c :: a, h => by
    have ih := idx_none a (fun h' => h (by simp [h']))
    have hc : ¬ (46 : UInt8) = c := fun e => h (by simp [e])
    simp only [Lib.index, ih]
    simp [hc]

theorem cut_at {a b : List UInt8} (h : 46 ∉ a) : Lib.cut (a ++ 46 :: b) [46] = (a, b, true) := by
  unfold Lib.cut
  rw [idx_at b a h, if_pos (by omega)]
  simp

theorem cut_none {a : List UInt8} (h : 46 ∉ a) : Lib.cut a [46] = (a, [], false) := by
  unfold Lib.cut
  rw [idx_none a h, if_neg (by omega)]

theorem cut_len (l : List UInt8) : (Lib.cut l [46]).1.length ≤ l.length ∧ (Lib.cut l [46]).2.1.length ≤ l.length := by
  unfold Lib.cut
  split
  · simp only [List.length_take, List.length_drop]; omega
  · simp

/-- Where the first point stands. -/
theorem point (l : List UInt8) : 46 ∉ l ∨ ∃ a b, l = a ++ 46 :: b ∧ 46 ∉ a := by
  induction l with
  | nil => exact .inl (by simp)
  | cons c l ih =>
    by_cases hc : c = 46
    · subst hc; exact .inr ⟨[], l, rfl, by simp⟩
    · rcases ih with h | ⟨a, b, rfl, h⟩
      · exact .inl (by simp only [List.mem_cons, not_or]; exact ⟨fun e => hc e.symm, h⟩)
      · exact .inr ⟨c :: a, b, rfl, by simp only [List.mem_cons, not_or]; exact ⟨fun e => hc e.symm, h⟩⟩

theorem atoiV_itoa (n : Int) (h0 : -9223372036854775808 ≤ n) (h1 : n ≤ 9223372036854775807) : atoiV ⟨(Lib.itoa n).toArray⟩ = n := by
  unfold atoiV
  simp only [atoi_itoa n h0 h1]

def textL (r q : Int) : List UInt8 := Lib.itoa r ++ 46 :: Lib.itoa q
def keyL (r q o : Int) (u : Bool) : List UInt8 := if u then textL r q ++ 47 :: (Lib.itoa o ++ [45]) else textL r q ++ 47 :: Lib.itoa o

def identA (l : List UInt8) : Int := atoiV ⟨(Lib.cut l [46]).1.toArray⟩
def identB (l : List UInt8) : Int := atoiV ⟨(Lib.cut l [46]).2.1.toArray⟩
def identOk (l : List UInt8) : Bool := mayI (identA l) (identB l) && textL (identA l) (identB l) == l
def identP (l : List UInt8) : Int × Int := if identOk l then (identA l, identB l) else (0, 0)

def refR (l : List UInt8) : Int := (pParse (Lib.cut l [46]).1).1
def refQ (l : List UInt8) : Int := (pParse (Lib.cut l [46]).2.1).1
def refOk (l : List UInt8) : Bool := (Lib.cut l [46]).2.2 && ((pParse (Lib.cut l [46]).1).2 && ((pParse (Lib.cut l [46]).2.1).2 && refMayI (refR l) (refQ l)))
def refP (l : List UInt8) : Int × Int := if refOk l then (refR l, refQ l) else (0, 0)

theorem itoa_no (n : Int) : (46 : UInt8) ∉ Lib.itoa n := itoa_not n 46 (.inr (.inl rfl))

theorem may_bounds {r q : Int} (h : mayI r q = true) : 0 ≤ r ∧ r < 4 ∧ 1 ≤ q ∧ q ≤ 65535 := by
  simpa [mayI] using h

theorem may_ref (r q : Int) : mayI r q = refMayI r q := by
  have : decide (r < 4) = decide (r ≤ 3) := by simp only [decide_eq_decide]; omega
  unfold mayI refMayI; rw [this]

/-- THE PLAIN LAW: both readers agree. -/
theorem ident_ref (l : List UInt8) : identOk l = refOk l ∧ identP l = refP l := by
  have key : (identOk l = true ↔ refOk l = true) ∧ (refOk l = true → identA l = refR l ∧ identB l = refQ l) := by
    rcases point l with h | ⟨a, b, rfl, h⟩
    · have hr : refOk l = false := by unfold refOk; rw [cut_none h]; rfl
      have hi : identOk l = false := by
        rw [Bool.eq_false_iff]
        intro hi
        simp only [identOk, Bool.and_eq_true, beq_iff_eq] at hi
        apply h
        rw [← hi.2]
        simp [textL]
      rw [hr, hi]; exact ⟨Iff.rfl, fun h => by cases h⟩
    · have hA : identA (a ++ 46 :: b) = atoiV ⟨a.toArray⟩ := by unfold identA; rw [cut_at h]
      have hB : identB (a ++ 46 :: b) = atoiV ⟨b.toArray⟩ := by unfold identB; rw [cut_at h]
      have hR : refR (a ++ 46 :: b) = (pParse a).1 := by unfold refR; rw [cut_at h]
      have hQ : refQ (a ++ 46 :: b) = (pParse b).1 := by unfold refQ; rw [cut_at h]
      have hO : refOk (a ++ 46 :: b) = ((pParse a).2 && ((pParse b).2 && refMayI (pParse a).1 (pParse b).1)) := by unfold refOk; rw [hR, hQ, cut_at h]; simp
      have back : refOk (a ++ 46 :: b) = true → a = Lib.itoa (pParse a).1 ∧ b = Lib.itoa (pParse b).1 ∧ atoiV ⟨a.toArray⟩ = (pParse a).1 ∧ atoiV ⟨b.toArray⟩ = (pParse b).1 ∧ mayI (pParse a).1 (pParse b).1 = true := by
        intro ho
        rw [hO] at ho
        simp only [Bool.and_eq_true] at ho
        obtain ⟨h1, h2, h3⟩ := ho
        obtain ⟨e1, l1, u1⟩ := pParse_true (s := a) (n := (pParse a).1) (by rw [← h1])
        obtain ⟨e2, l2, u2⟩ := pParse_true (s := b) (n := (pParse b).1) (by rw [← h2])
        have k1 := atoiV_itoa _ l1 u1
        have k2 := atoiV_itoa _ l2 u2
        rw [← e1] at k1
        rw [← e2] at k2
        exact ⟨e1, e2, k1, k2, by rw [may_ref]; exact h3⟩
      refine ⟨⟨fun hi => ?_, fun ho => ?_⟩, fun ho => ?_⟩
      · simp only [identOk, Bool.and_eq_true, beq_iff_eq, hA, hB] at hi
        obtain ⟨hm, ht⟩ := hi
        obtain ⟨e1, e2⟩ := split_first (itoa_no _) h ht
        have hb := may_bounds hm
        have k1 := pParse_itoa (atoiV ⟨a.toArray⟩) (by omega) (by omega)
        have k2 := pParse_itoa (atoiV ⟨b.toArray⟩) (by omega) (by omega)
        rw [e1] at k1
        rw [e2] at k2
        rw [hO, k1, k2]
        simp only [Bool.true_and]
        rw [← may_ref]; exact hm
      · obtain ⟨e1, e2, k1, k2, hm⟩ := back ho
        simp only [identOk, Bool.and_eq_true, beq_iff_eq, hA, hB, k1, k2]
        exact ⟨hm, by unfold textL; rw [← e1, ← e2]⟩
      · obtain ⟨e1, e2, k1, k2, hm⟩ := back ho
        rw [hA, hB, hR, hQ]
        exact ⟨k1, k2⟩
  have h1 : identOk l = refOk l := by rw [Bool.eq_iff_iff]; exact key.1
  refine ⟨h1, ?_⟩
  unfold identP refP
  rw [h1]
  split
  · rename_i h; obtain ⟨e1, e2⟩ := key.2 h; rw [e1, e2]
  · rfl

/-- The text of an Id, read. -/
theorem ident_text (r q : Int) (h0 : -9223372036854775808 ≤ r) (h1 : r ≤ 9223372036854775807) (k0 : -9223372036854775808 ≤ q) (k1 : q ≤ 9223372036854775807) :
    identOk (textL r q) = refMayI r q ∧ (refMayI r q = true → identP (textL r q) = (r, q)) := by
  have hA : identA (textL r q) = r := by unfold identA textL; rw [cut_at (itoa_no r)]; exact atoiV_itoa r h0 h1
  have hB : identB (textL r q) = q := by unfold identB textL; rw [cut_at (itoa_no r)]; exact atoiV_itoa q k0 k1
  have hO : identOk (textL r q) = refMayI r q := by
    unfold identOk
    rw [hA, hB, may_ref]; simp
  refine ⟨hO, fun h => ?_⟩
  unfold identP
  rw [hO, h, hA, hB]; rfl

theorem textL_len (r q : Int) (h0 : -9223372036854775808 ≤ r) (h1 : r ≤ 9223372036854775807) (k0 : -9223372036854775808 ≤ q) (k1 : q ≤ 9223372036854775807) : (textL r q).length ≤ 43 := by
  have a := itoa_length_le r h0 h1
  have b := itoa_length_le q k0 k1
  unfold textL
  simp; omega
end Go.PM
