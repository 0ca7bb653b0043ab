/-
  Seat a: the first lines of the statements on ident, run.
-/
import Derived.Test.YtklbiamjnlphkaaDoorL3
import Derived.Test.YtklbiamjnlphkaaDoorK27
set_option linter.unusedVariables false
set_option linter.unusedSimpArgs false
set_option maxRecDepth 100000
namespace Go.PM
open Go Go.Proofs

def ΓA : Ctx := fun f args H => match f, args with
  | 39, [.c (.sc (.int .i64 n))] => if n = 1 then some ([], .ret (sS ⟨#[49]⟩), H) else if n = 2 then some ([], .ret (sS ⟨#[50]⟩), H) else if n = 3 then some ([], .ret (sS ⟨#[51]⟩), H) else none
  | 37, [.c (.sc (.string s))] => if s.data = #[49] then some ([], .ret (.tup [sI 1, .un]), H) else if s.data = #[50] then some ([], .ret (.tup [sI 2, .un]), H) else none
  | 36, [.c (.sc (.string s)), .c (.sc (.string t))] => if s.data = #[50, 46, 49] ∧ t.data = #[46] then some ([], .ret (.tup [sS ⟨#[50]⟩, sS ⟨#[49]⟩, sB true]), H) else none
  | _, _ => none

theorem itoa1 : Lib.itoa 1 = [49] := by simp [Lib.itoa, Lib.decDigits]
theorem itoa2 : Lib.itoa 2 = [50] := by simp [Lib.itoa, Lib.decDigits]
theorem itoa3 : Lib.itoa 3 = [51] := by simp [Lib.itoa, Lib.decDigits]
theorem atoi1 : atoiV ⟨#[49]⟩ = 1 := by decide
theorem atoi2 : atoiV ⟨#[50]⟩ = 2 := by decide
theorem cut1 : Lib.cut [50, 46, 49] [46] = ([50], [49], true) := by decide

theorem ΓA_ok : CtxOk Tryd.prog ΓA := by
  intro f args H wr o H' h
  unfold ΓA at h
  split at h
  · split at h
    · rename_i n e; subst e
      simp only [Option.some.injEq, Prod.mk.injEq] at h; obtain ⟨rfl, rfl, rfl⟩ := h
      have := c39 1 (by decide) (by decide) H
      rw [itoa1] at this; exact this
    · split at h
      · rename_i n _ e; subst e
        simp only [Option.some.injEq, Prod.mk.injEq] at h; obtain ⟨rfl, rfl, rfl⟩ := h
        have := c39 2 (by decide) (by decide) H
        rw [itoa2] at this; exact this
      · split at h
        · rename_i n _ _ e; subst e
          simp only [Option.some.injEq, Prod.mk.injEq] at h; obtain ⟨rfl, rfl, rfl⟩ := h
          have := c39 3 (by decide) (by decide) H
          rw [itoa3] at this; exact this
        · cases h
  · rename_i s
    obtain ⟨d⟩ := s
    split at h
    · rename_i e; simp only at e; subst e
      simp only [Option.some.injEq, Prod.mk.injEq] at h; obtain ⟨rfl, rfl, rfl⟩ := h
      have := c37 ⟨#[49]⟩ (by decide) H
      rw [atoi1] at this; exact this
    · split at h
      · rename_i e; simp only at e; subst e
        simp only [Option.some.injEq, Prod.mk.injEq] at h; obtain ⟨rfl, rfl, rfl⟩ := h
        have := c37 ⟨#[50]⟩ (by decide) H
        rw [atoi2] at this; exact this
      · cases h
  · rename_i s t
    obtain ⟨d⟩ := s; obtain ⟨e⟩ := t
    split at h
    · rename_i hc; simp only at hc; obtain ⟨rfl, rfl⟩ := hc
      simp only [Option.some.injEq, Prod.mk.injEq] at h; obtain ⟨rfl, rfl, rfl⟩ := h
      have := c36 ⟨#[50, 46, 49]⟩ ⟨#[46]⟩ (by decide) H
      have hc := cut1
      simp only [hc] at this; exact this
    · cases h
  · cases h

def siteTab : Nat → List Tmp
  | 9 => [1, 2, 3]
  | 10 => [2, 11]
  | 11 => [2, 9]
  | 24 => [1, 2]
  | 25 => [2]
  | _ => []

/-- 'alive' of the statements on ident. -/
theorem c9 (H : Heap) : SimCall Tryd.prog 9 [] H [] (.ret (sB true)) H :=
  sim_eval (sites := siteTab) (rounds := 10) (n := 6) amixed ΓA_ok (by kernel_rfl) (by kernel_rfl) H
end Go.PM
