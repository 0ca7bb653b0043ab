/-
  Decimal numerals, as plain lists of octets: what is a numeral, and what number it spells.
-/
import Derived.Lib.ParseIntB
import Derived.Lib.ItoaLen
import Derived.Lib.IndexMore
import Derived.Lib.CutLaws
set_option linter.unusedVariables false
set_option linter.unusedSimpArgs false
namespace Go.PM
open Go Go.Lib

def isDig (c : UInt8) : Bool := decide (48 ≤ c.toNat) && decide (c.toNat ≤ 57)
theorem isDig_iff {c : UInt8} : isDig c = true ↔ 48 ≤ c.toNat ∧ c.toNat ≤ 57 := by simp [isDig]

def valF (a : Nat) (l : List UInt8) : Nat := l.foldl (fun a c => a * 10 + (c.toNat - 48)) a

theorem valF_nil (a : Nat) : valF a [] = a := rfl
theorem valF_cons (a : Nat) (c : UInt8) (r : List UInt8) : valF a (c :: r) = valF (a * 10 + (c.toNat - 48)) r := by unfold valF; rw [List.foldl_cons]

theorem valF_append (a : Nat) (l r : List UInt8) : valF a (l ++ r) = valF (valF a l) r := by
  induction l generalizing a with
  | nil => rfl
  | cons c l ih => rw [List.cons_append, valF_cons, valF_cons]; exact ih _

theorem valF_eq (l : List UInt8) : ∀ a, valF a l = a * 10 ^ l.length + valF 0 l := by
  induction l with
  | nil => intro a; simp [valF_nil, valF_cons]
  | cons c l ih =>
    intro a
    simp only [valF_nil, valF_cons, List.length_cons]
    rw [ih (a * 10 + (c.toNat - 48)), ih (0 * 10 + (c.toNat - 48)), Nat.pow_succ]
    generalize 10 ^ l.length = T
    generalize c.toNat - 48 = d
    rw [Nat.zero_mul, Nat.zero_add, Nat.add_mul, Nat.mul_assoc, Nat.mul_comm 10 T, Nat.add_assoc]

theorem valF_lt (l : List UInt8) (h : ∀ c ∈ l, isDig c = true) : valF 0 l < 10 ^ l.length := by
  induction l with
  | nil => simp [valF_nil, valF_cons]
  | cons c l ih =>
    have h1 := isDig_iff.1 (h c (by simp))
    have h2 := ih (fun c hc => h c (by simp [hc]))
    simp only [valF_nil, valF_cons, List.length_cons]
    rw [valF_eq, Nat.pow_succ, Nat.zero_mul, Nat.zero_add]
    generalize 10 ^ l.length = T at h2 ⊢
    have : (c.toNat - 48) * T ≤ 9 * T := Nat.mul_le_mul_right _ (by omega)
    generalize (c.toNat - 48) * T = z at this ⊢
    omega

theorem ofNat_dig {d : Nat} (h : d < 10) : (UInt8.ofNat (48 + d)).toNat = 48 + d := by
  rw [UInt8.toNat_ofNat']; omega

theorem dd_dig : ∀ (u : Nat), ∀ c ∈ decDigits u, isDig c = true := by
  intro u
  induction u using Nat.strongRecOn with
  | _ u ih =>
    intro c hc
    rw [decDigits] at hc
    split at hc
    · rename_i h
      simp only [List.mem_singleton] at hc; subst hc
      rw [isDig_iff, ofNat_dig h]; omega
    · rename_i h
      simp only [List.mem_append, List.mem_singleton] at hc
      rcases hc with hc | rfl
      · exact ih _ (by omega) c hc
      · rw [isDig_iff, ofNat_dig (by omega)]; omega

theorem dd_val : ∀ (u : Nat), valF 0 (decDigits u) = u := by
  intro u
  induction u using Nat.strongRecOn with
  | _ u ih =>
    rw [decDigits]
    split
    · rename_i h
      simp only [valF_nil, valF_cons, ofNat_dig h]; omega
    · rename_i h
      rw [valF_append, ih _ (by omega)]
      simp only [valF_nil, valF_cons, ofNat_dig (show u % 10 < 10 by omega)]; omega

theorem dd_ne (u : Nat) : decDigits u ≠ [] := by
  rw [decDigits]; split <;> simp

theorem head_app {a b : List UInt8} (h : a ≠ []) : (a ++ b).head? = a.head? := by
  cases a with
  | nil => exact (h rfl).elim
  | cons x a => rfl

theorem dd_head : ∀ (u : Nat), 1 < (decDigits u).length → (decDigits u).head? ≠ some 48 := by
  intro u
  induction u using Nat.strongRecOn with
  | _ u ih =>
    intro hl
    rw [decDigits] at hl ⊢
    split at hl
    · simp at hl
    · rename_i h
      rw [dif_neg h]
      by_cases h2 : u / 10 < 10
      · rw [decDigits, dif_pos h2]
        simp only [List.cons_append, List.head?_cons, ne_eq, Option.some.injEq]
        intro e
        have := congrArg UInt8.toNat e
        rw [ofNat_dig h2] at this
        simp at this; omega
      · have := ih (u / 10) (by omega) (by rw [decDigits, dif_neg h2, List.length_append]; have := List.length_pos_iff.2 (dd_ne (u / 10 / 10)); simp; omega)
        rw [head_app (dd_ne _)]
        exact this

/-- A list of digits without a zero ahead is its number's numeral. -/
theorem dd_of (n : Nat) : ∀ (l : List UInt8), l.length = n → (∀ c ∈ l, isDig c = true) → l ≠ [] → (1 < l.length → l.head? ≠ some 48) → decDigits (valF 0 l) = l := by
  induction n with
  | zero => intro l hl _ hne; exact (hne (by simpa using hl)).elim
  | succ n ih =>
    intro l hl hd hne hh
    obtain ⟨l', c, rfl⟩ : ∃ l' c, l = l' ++ [c] := ⟨l.dropLast, l.getLast hne, (List.dropLast_concat_getLast hne).symm⟩
    have hc := isDig_iff.1 (hd c (by simp))
    have e48 : UInt8.ofNat (48 + (c.toNat - 48)) = c := by
      apply UInt8.toNat_inj.1; rw [ofNat_dig (by omega)]; omega
    rw [valF_append]
    simp only [valF_nil, valF_cons]
    by_cases h0 : l' = []
    · subst h0
      simp only [valF_nil, valF_cons, Nat.zero_mul, Nat.zero_add, List.nil_append]
      rw [decDigits, dif_pos (by omega), e48]
    · have hlen : l'.length = n := by simp at hl; omega
      have hd' : ∀ c ∈ l', isDig c = true := fun c hc => hd c (by simp [hc])
      have hp := List.length_pos_iff.2 h0
      have hh1 : l'.head? ≠ some 48 := by
        have := hh (by simp; omega)
        rwa [head_app h0] at this
      have hi := ih l' hlen hd' h0 (fun _ => hh1)
      have hpos : 1 ≤ valF 0 l' := by
        obtain ⟨a, t, rfl⟩ := List.exists_cons_of_ne_nil h0
        have ha := isDig_iff.1 (hd' a (by simp))
        have hne48 : a.toNat ≠ 48 := fun e => hh1 (by simp only [List.head?_cons, Option.some.injEq]; exact UInt8.toNat_inj.1 e)
        simp only [valF_nil, valF_cons]; rw [valF_eq, Nat.zero_mul, Nat.zero_add]
        have hp : 1 ≤ 10 ^ t.length := Nat.one_le_pow _ _ (by decide)
        generalize 10 ^ t.length = T at hp ⊢
        have : 1 * T ≤ (a.toNat - 48) * T := Nat.mul_le_mul_right _ (by omega)
        generalize (a.toNat - 48) * T = z at this ⊢
        omega
      rw [decDigits, dif_neg (by omega), show (valF 0 l' * 10 + (c.toNat - 48)) / 10 = valF 0 l' by omega, show (valF 0 l' * 10 + (c.toNat - 48)) % 10 = c.toNat - 48 by omega, hi, e48]

theorem dd_big {l : List UInt8} (hd : ∀ c ∈ l, isDig c = true) (hne : l ≠ []) (hh : l.head? ≠ some 48) : 10 ^ (l.length - 1) ≤ valF 0 l := by
  obtain ⟨a, t, rfl⟩ := List.exists_cons_of_ne_nil hne
  have ha := isDig_iff.1 (hd a (by simp))
  have hne48 : a.toNat ≠ 48 := fun e => hh (by simp only [List.head?_cons, Option.some.injEq]; exact UInt8.toNat_inj.1 e)
  simp only [valF_nil, valF_cons]; rw [valF_eq, Nat.zero_mul, Nat.zero_add, List.length_cons, Nat.add_sub_cancel]
  generalize 10 ^ t.length = T
  have : 1 * T ≤ (a.toNat - 48) * T := Nat.mul_le_mul_right _ (by omega)
  generalize (a.toNat - 48) * T = z at this ⊢
  omega

/-- Of numerals of one length, the order of the texts is that of the numbers. -/
theorem less_dig : ∀ (a b : List UInt8), a.length = b.length → (∀ c ∈ a, isDig c = true) → (∀ c ∈ b, isDig c = true) → (Op.bytesLess a b = true ↔ valF 0 a < valF 0 b)
  | [], [], _, _, _ => by simp [Op.bytesLess, valF_nil, valF_cons]
  | a :: x, b :: y, hl, ha, hb => by
    have h1 := isDig_iff.1 (ha a (by simp))
    have h2 := isDig_iff.1 (hb b (by simp))
    have hl' : x.length = y.length := by simpa using hl
    have hx : ∀ c ∈ x, isDig c = true := fun c hc => ha c (by simp [hc])
    have hy : ∀ c ∈ y, isDig c = true := fun c hc => hb c (by simp [hc])
    have ih := less_dig x y hl' hx hy
    have k1 := valF_lt x hx
    have k2 := valF_lt y hy
    rw [← hl'] at k2
    simp only [Op.bytesLess, valF_nil, valF_cons, Bool.or_eq_true, Bool.and_eq_true, decide_eq_true_eq, beq_iff_eq, ih]
    rw [Nat.zero_mul, Nat.zero_add, Nat.zero_add, valF_eq x (a.toNat - 48), valF_eq y (b.toNat - 48), ← hl']
    generalize 10 ^ x.length = T at k1 k2
    generalize ea : a.toNat - 48 = da
    generalize eb : b.toNat - 48 = db
    have hab : a < b ↔ a.toNat < b.toNat := Iff.rfl
    have heq : a = b ↔ a.toNat = b.toNat := UInt8.toNat_inj.symm
    rw [hab, heq]
    rcases Nat.lt_trichotomy a.toNat b.toNat with h | h | h
    · have : (da + 1) * T ≤ db * T := Nat.mul_le_mul_right _ (by omega)
      rw [Nat.add_mul, Nat.one_mul] at this
      generalize da * T = z1 at this ⊢
      generalize db * T = z2 at this ⊢
      constructor
      · intro _; omega
      · intro _; exact .inl h
    · obtain rfl : da = db := by omega
      generalize da * T = z1
      constructor
      · rintro (h' | ⟨_, h'⟩)
        · omega
        · omega
      · intro h'; exact .inr ⟨h, by omega⟩
    · have : (db + 1) * T ≤ da * T := Nat.mul_le_mul_right _ (by omega)
      rw [Nat.add_mul, Nat.one_mul] at this
      generalize da * T = z1 at this ⊢
      generalize db * T = z2 at this ⊢
      constructor
      · rintro (h' | ⟨h', _⟩) <;> omega
      · intro h'; omega

/-! ### The plain reader -/
def topPos : List UInt8 := [57, 50, 50, 51, 51, 55, 50, 48, 51, 54, 56, 53, 52, 55, 55, 53, 56, 48, 55]
def topNeg : List UInt8 := [57, 50, 50, 51, 51, 55, 50, 48, 51, 54, 56, 53, 52, 55, 55, 53, 56, 48, 56]

def pDs (s : List UInt8) : List UInt8 := if s.head? = some 45 then s.tail else s
def pTop (s : List UInt8) : List UInt8 := if s.head? = some 45 then topNeg else topPos
def pBad (s : List UInt8) : Bool :=
  pDs s == [] || decide (19 < (pDs s).length) || (decide (1 < (pDs s).length) && (pDs s).head? == some 48) || (decide ((pDs s).length = 19) && Op.bytesLess (pTop s) (pDs s)) || s == [45, 48]
def pParse (s : List UInt8) : Int × Bool :=
  if pBad s then (0, false) else
  if (pDs s).all isDig then (if s.head? = some 45 then -(valF 0 (pDs s) : Int) else (valF 0 (pDs s) : Int), true) else (0, false)

theorem top_pos : valF 0 topPos = 9223372036854775807 := by decide
theorem top_neg : valF 0 topNeg = 9223372036854775808 := by decide
theorem topPos_dig : ∀ c ∈ topPos, isDig c = true := by decide
theorem topNeg_dig : ∀ c ∈ topNeg, isDig c = true := by decide

/-- A fine text: its number, and the bounds. -/
theorem pParse_true {s : List UInt8} {n : Int} (h : pParse s = (n, true)) : s = itoa n ∧ -9223372036854775808 ≤ n ∧ n ≤ 9223372036854775807 := by
  unfold pParse at h
  split at h
  · cases h
  · rename_i hb
    split at h
    · rename_i hd
      simp only [Prod.mk.injEq, and_true] at h
      simp only [pBad, Bool.or_eq_true, Bool.and_eq_true, decide_eq_true_eq, beq_iff_eq, not_or, not_and] at hb
      obtain ⟨⟨⟨⟨hne, hlen⟩, hz⟩, ht⟩, hm0⟩ := hb
      have hd : ∀ c ∈ pDs s, isDig c = true := by simpa using hd
      have hof := dd_of _ (pDs s) rfl hd hne hz
      have hv : valF 0 (pDs s) ≤ valF 0 (pTop s) := by
        by_cases e : (pDs s).length = 19
        · have htl : (pTop s).length = (pDs s).length := by rw [e]; unfold pTop; split <;> rfl
          have htd : ∀ c ∈ pTop s, isDig c = true := by unfold pTop; split; exact topNeg_dig; exact topPos_dig
          have := mt (less_dig (pTop s) (pDs s) htl htd hd).2 (ht e)
          omega
        · have h1 := valF_lt _ hd
          have h2 : 10 ^ (pDs s).length ≤ 10 ^ 18 := Nat.pow_le_pow_right (by decide) (by omega)
          have h3 : 10 ^ 18 ≤ valF 0 (pTop s) := by unfold pTop; split; rw [top_neg]; decide; rw [top_pos]; decide
          omega
      by_cases hs : s.head? = some 45
      · rw [if_pos hs] at h; subst h
        have hs' : s = 45 :: pDs s := by
          unfold pDs; rw [if_pos hs]
          cases s with
          | nil => simp at hs
          | cons a t => simp at hs; subst hs; rfl
        have : valF 0 (pTop s) = 9223372036854775808 := by unfold pTop; rw [if_pos hs, top_neg]
        refine ⟨?_, by omega, by omega⟩
        by_cases hv0 : valF 0 (pDs s) = 0
        · exfalso
          rw [hv0] at hof
          apply hm0
          rw [hs', ← hof, decDigits, dif_pos (by decide)]; rfl
        · rw [itoa_neg _ (by omega), hof]; exact hs'
      · rw [if_neg hs] at h; subst h
        have hs' : s = pDs s := by unfold pDs; rw [if_neg hs]
        have : valF 0 (pTop s) = 9223372036854775807 := by unfold pTop; rw [if_neg hs, top_pos]
        refine ⟨?_, by omega, by omega⟩
        rw [itoa_nonneg, hof]; exact hs'
    · cases h

theorem pParse_bad {s : List UInt8} (h : pBad s = true) : pParse s = (0, false) := by unfold pParse; rw [if_pos h]
theorem pParse_no {s : List UInt8} {c : UInt8} (hc : c ∈ pDs s) (h : isDig c = false) : pParse s = (0, false) := by
  unfold pParse
  split
  · rfl
  · rw [if_neg]
    intro ha
    have := List.all_eq_true.1 ha c hc
    rw [h] at this; cases this
theorem pParse_ok {s : List UInt8} (h : pBad s = false) (hd : ∀ c ∈ pDs s, isDig c = true) : pParse s = (if s.head? = some 45 then -(valF 0 (pDs s) : Int) else (valF 0 (pDs s) : Int), true) := by
  unfold pParse
  rw [h, if_neg (by decide), if_pos (by simpa using hd)]
theorem pVal_le {s : List UInt8} (h : pBad s = false) (hd : ∀ c ∈ pDs s, isDig c = true) : valF 0 (pDs s) ≤ 9223372036854775808 ∧ (s.head? ≠ some 45 → valF 0 (pDs s) ≤ 9223372036854775807) := by
  have := pParse_true (pParse_ok h hd)
  split at this
  · rename_i e; exact ⟨by omega, fun h => (h e).elim⟩
  · exact ⟨by omega, fun _ => by omega⟩
theorem pTake_le {s : List UInt8} (h : pBad s = false) {i : Nat} (hi : i ≤ (pDs s).length) (hd : ∀ c ∈ (pDs s).take i, isDig c = true) : valF 0 ((pDs s).take i) ≤ 9223372036854775808 := by
  have hlen : (pDs s).length ≤ 19 := by
    rcases Nat.lt_or_ge 19 (pDs s).length with h1 | h1
    · rw [show pBad s = true by unfold pBad; rw [decide_eq_true h1]; simp] at h; cases h
    · exact h1
  by_cases e : i = 19
  · have hi' : (pDs s).take i = pDs s := List.take_of_length_le (by omega)
    rw [hi'] at hd ⊢
    exact (pVal_le h hd).1
  · have h1 := valF_lt _ hd
    have h2 : 10 ^ ((pDs s).take i).length ≤ 10 ^ 18 := Nat.pow_le_pow_right (by decide) (by rw [List.length_take]; omega)
    have h3 : (10 : Nat) ^ 18 = 1000000000000000000 := by decide
    omega
theorem valF_take {l : List UInt8} {i : Nat} {c : UInt8} (h : l[i]? = some c) : valF 0 (l.take (i + 1)) = valF 0 (l.take i) * 10 + (c.toNat - 48) := by
  rw [List.take_add_one, h, valF_append]; rfl
theorem dig_take {l : List UInt8} {i : Nat} {c : UInt8} (h : l[i]? = some c) (hc : isDig c = true) (hd : ∀ c ∈ l.take i, isDig c = true) : ∀ c ∈ l.take (i + 1), isDig c = true := by
  intro x hx
  rw [List.take_add_one, h, List.mem_append] at hx
  rcases hx with hx | hx
  · exact hd x hx
  · simp at hx; subst hx; exact hc

theorem dd_not45 (u : Nat) : (decDigits u).head? ≠ some 45 := by
  obtain ⟨a, t, e⟩ := List.exists_cons_of_ne_nil (dd_ne u)
  have := isDig_iff.1 (dd_dig u a (by rw [e]; simp))
  rw [e]; simp only [List.head?_cons, ne_eq, Option.some.injEq]
  rintro rfl
  simp at this

theorem dd_len (u : Nat) (h : u ≤ 9223372036854775808) : (decDigits u).length ≤ 19 := by
  rcases Nat.lt_or_ge 19 (decDigits u).length with h1 | h1
  · exfalso
    have := dd_big (dd_dig u) (dd_ne u) (dd_head u (by omega))
    rw [dd_val] at this
    have h2 : 10 ^ 19 ≤ 10 ^ ((decDigits u).length - 1) := Nat.pow_le_pow_right (by decide) (by omega)
    have : (10 : Nat) ^ 19 = 10000000000000000000 := by decide
    omega
  · exact h1

theorem pParse_itoa (n : Int) (h0 : -9223372036854775808 ≤ n) (h1 : n ≤ 9223372036854775807) : pParse (itoa n) = (n, true) := by
  have key : ∀ (s : List UInt8) (u : Nat), pDs s = decDigits u → u ≤ valF 0 (pTop s) → s ≠ [45, 48] → pParse s = (if s.head? = some 45 then -(u : Int) else u, true) := by
    intro s u hs hu hz
    have htl : (pTop s).length = 19 := by unfold pTop; split <;> rfl
    have htd : ∀ c ∈ pTop s, isDig c = true := by unfold pTop; split; exact topNeg_dig; exact topPos_dig
    have ht : valF 0 (pTop s) ≤ 9223372036854775808 := by unfold pTop; split; rw [top_neg]; decide; rw [top_pos]; decide
    have hb : pBad s = false := by
      rw [Bool.eq_false_iff]
      simp only [pBad, hs, ne_eq, Bool.or_eq_true, Bool.and_eq_true, decide_eq_true_eq, beq_iff_eq, not_or, not_and]
      have := dd_len u (by omega)
      refine ⟨⟨⟨⟨dd_ne u, by omega⟩, dd_head u⟩, fun e h => ?_⟩, hz⟩
      have := (less_dig (pTop s) (decDigits u) (by rw [htl, e]) htd (dd_dig u)).1 h
      rw [dd_val] at this; omega
    have hd : (pDs s).all isDig = true := by rw [hs]; simpa using dd_dig u
    unfold pParse
    rw [hb, if_neg (by decide), if_pos hd, hs, dd_val]
  by_cases hneg : n < 0
  · obtain ⟨u, rfl⟩ : ∃ u : Nat, n = -(u : Int) := ⟨n.natAbs, by omega⟩
    have e : itoa (-(u : Int)) = 45 :: decDigits u := itoa_neg u (by omega)
    rw [e, key _ u (by simp [pDs]) (by simp only [pTop, List.head?_cons, if_true, top_neg]; omega) ?_]
    · simp
    · intro h
      simp only [List.cons.injEq, true_and] at h
      have := dd_val u
      rw [h] at this
      simp [valF_nil, valF_cons] at this; omega
  · obtain ⟨u, rfl⟩ : ∃ u : Nat, n = u := ⟨n.toNat, by omega⟩
    have e : itoa (u : Int) = decDigits u := itoa_nonneg u
    have h45 := dd_not45 u
    rw [e, key _ u (by simp [pDs, h45]) (by simp only [pTop, h45, if_false, top_pos]; omega) ?_]
    · simp [h45]
    · intro h
      rw [h] at h45; simp at h45

/-! ### The library's readers at a numeral -/
theorem parseUint10_val : ∀ (l : List UInt8) (acc : Nat), (∀ c ∈ l, isDig c = true) → valF acc l < 18446744073709551616 → parseUint10 acc l = .ok (valF acc l)
  | [], acc, _, _ => rfl
  | c :: r, acc, hd, h => by
    have hc := isDig_iff.1 (hd c (by simp))
    have h2 := parseUint10_val r (acc * 10 + (c.toNat - 48)) (fun c hc => hd c (by simp [hc])) h
    simp only [valF_nil, valF_cons] at h
    have hle : acc * 10 + (c.toNat - 48) ≤ valF (acc * 10 + (c.toNat - 48)) r := by
      rw [valF_eq]
      have hp : 1 ≤ 10 ^ r.length := Nat.one_le_pow _ _ (by decide)
      generalize 10 ^ r.length = T at hp ⊢
      have : (acc * 10 + (c.toNat - 48)) * 1 ≤ (acc * 10 + (c.toNat - 48)) * T := Nat.mul_le_mul_left _ hp
      generalize (acc * 10 + (c.toNat - 48)) * T = z at this ⊢
      omega
    simp only [parseUint10, valF_nil, valF_cons]
    rw [if_pos hc, if_neg (by omega), if_neg (by omega), h2]

theorem parseMag_dd (u : Nat) (h : u < 18446744073709551616) : parseMag (decDigits u) = .ok u := by
  unfold parseMag
  rw [if_neg (dd_ne u), parseUint10_val _ 0 (dd_dig u) (by rw [dd_val]; exact h), dd_val]

theorem atoi_itoa (n : Int) (h0 : -9223372036854775808 ≤ n) (h1 : n ≤ 9223372036854775807) : atoiAll (itoa n) = .ok n := by
  by_cases hneg : n < 0
  · obtain ⟨u, rfl⟩ : ∃ u : Nat, n = -(u : Int) := ⟨n.natAbs, by omega⟩
    rw [itoa_neg u (by omega)]
    unfold atoiAll
    simp only [show (45 : UInt8).toNat = 45 from rfl, show (45 : Nat) = 43 ∨ True ↔ True by simp, or_true, if_true, not_true, false_and, if_false, true_and]
    rw [parseMag_dd u (by omega)]
    simp; omega
  · obtain ⟨u, rfl⟩ : ∃ u : Nat, n = u := ⟨n.toNat, by omega⟩
    rw [itoa_nonneg u]
    obtain ⟨a, t, e⟩ := List.exists_cons_of_ne_nil (dd_ne u)
    have ha := isDig_iff.1 (dd_dig u a (by rw [e]; simp))
    have hm := parseMag_dd u (by omega)
    rw [e] at hm ⊢
    unfold atoiAll
    dsimp only
    rw [if_neg (show ¬ (a.toNat = 43 ∨ a.toNat = 45) by omega), hm]
    simp only [show ¬ a.toNat = 45 by omega, not_false_eq_true, true_and, false_and, if_false]
    rw [if_neg (by omega)]

theorem itoa_no46 (n : Int) : ∀ c ∈ itoa n, c = 45 ∨ isDig c = true := by
  intro c hc
  unfold itoa at hc
  split at hc
  · simp only [List.mem_cons] at hc
    rcases hc with rfl | hc
    · exact .inl rfl
    · exact .inr (dd_dig _ c hc)
  · exact .inr (dd_dig _ c hc)

theorem itoa_not (n : Int) (x : UInt8) (h : x.toNat < 45 ∨ x.toNat = 46 ∨ x.toNat = 47 ∨ 57 < x.toNat) : x ∉ itoa n := by
  intro hx
  rcases itoa_no46 n x hx with rfl | h'
  · simp at h
  · have := isDig_iff.1 h'; omega

/-- The part ahead of the first such octet is found. -/
theorem split_first {x : UInt8} {a b c d : List UInt8} (ha : x ∉ a) (hc : x ∉ c) (h : a ++ x :: b = c ++ x :: d) : a = c ∧ b = d := by
  induction a generalizing c with
  | nil =>
    cases c with
    | nil => simpa using h
    | cons y c => simp at h; exact (hc (by simp [h.1])).elim
  | cons y a ih =>
    cases c with
    | nil => simp at h; exact (ha (by simp [h.1])).elim
    | cons z c =>
      simp only [List.cons_append, List.cons.injEq] at h
      obtain ⟨rfl, h⟩ := h
      obtain ⟨rfl, rfl⟩ := ih (fun h => ha (by simp [h])) (fun h => hc (by simp [h])) h
      exact ⟨rfl, rfl⟩

theorem itoa_inj {a b : Int} (h : itoa a = itoa b) : a = b := by
  unfold itoa at h
  split at h <;> split at h
  · simp only [List.cons.injEq, true_and] at h
    have := congrArg (valF 0) h
    rw [dd_val, dd_val] at this; omega
  · exact (dd_not45 _ (by rw [← h]; rfl)).elim
  · exact (dd_not45 _ (by rw [h]; rfl)).elim
  · have := congrArg (valF 0) h
    rw [dd_val, dd_val] at this; omega
end Go.PM
