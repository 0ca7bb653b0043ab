/-
  Texts as lists of octets; a function without own rows, from its body.
-/
import Derived.Test.YtklbiamjnlphkaaDoorK30
import Derived.Lib.CutLaws
set_option linter.unusedVariables false
set_option linter.unusedSimpArgs false
namespace Go.PM
open Go

def sT (l : List UInt8) : PVal := .c (.sc (.string ⟨l.toArray⟩))
/-- They may be joined. -/
def FitsT (a b : List UInt8) : Prop := a.length + b.length ≤ 9223372036854775807

theorem tl_size (l : List UInt8) : (ByteArray.mk l.toArray).size = l.length := by simp [ByteArray.size]
theorem tl_toList (l : List UInt8) : (ByteArray.mk l.toArray).toList = l := by
  rw [ByteArray.toList_eq]
theorem tl_get (l : List UInt8) (i : Nat) : (ByteArray.mk l.toArray)[i]? = l[i]? := by
  by_cases h : i < l.length
  · rw [getElem?_pos _ i (by rw [tl_size]; exact h), List.getElem?_eq_getElem h]; rfl
  · rw [getElem?_neg _ i (by rw [tl_size]; exact h), List.getElem?_eq_none (by omega)]
theorem tl_getE (l : List UInt8) (i : Nat) (h : i < (ByteArray.mk l.toArray).size) : (ByteArray.mk l.toArray)[i] = l[i]'(by rw [← tl_size l]; exact h) := rfl
theorem tl_ext (l : List UInt8) (a b : Nat) : (ByteArray.mk l.toArray).extract a b = ⟨((l.drop a).take (b - a)).toArray⟩ := by
  have := Lib.extract_eq (ByteArray.mk l.toArray) a b
  rw [this]
theorem strAdd {a b : List UInt8} (h : FitsT a b) : strBin .add ⟨a.toArray⟩ ⟨b.toArray⟩ = some (.string ⟨(a ++ b).toArray⟩) := by
  have e : IntKind.i64.max = 9223372036854775807 := by decide
  unfold FitsT at h
  simp only [strBin, tl_size, e]
  rw [if_neg (by omega)]
  congr 2
theorem wrapU8 {n : Int} (h0 : 0 ≤ n) (h1 : n ≤ 255) : IntKind.u8.wrap n = n := by
  have p1 : (2 : Int) ^ 8 = 256 := by decide
  simp only [IntKind.wrap, IntKind.bits, IntKind.signed, Bool.false_and, decide_eq_true_eq, p1]
  simp; omega
theorem strEql (a b : List UInt8) : strBin .eql ⟨a.toArray⟩ ⟨b.toArray⟩ = some (.bool (a == b)) := by simp [strBin, tl_toList]
theorem strNeq (a b : List UInt8) : strBin .neq ⟨a.toArray⟩ ⟨b.toArray⟩ = some (.bool (!(a == b))) := by simp [strBin, tl_toList]
theorem strLss (a b : List UInt8) : strBin .lss ⟨a.toArray⟩ ⟨b.toArray⟩ = some (.bool (Op.bytesLess a b)) := by simp [strBin, tl_toList]
theorem less_total : ∀ (a b : List UInt8), (!(Op.bytesLess a b || a == b)) = Op.bytesLess b a
  | [], [] => by simp [Op.bytesLess]
  | [], b :: y => by simp [Op.bytesLess]
  | a :: x, [] => by simp [Op.bytesLess]
  | a :: x, b :: y => by
    have ih := less_total x y
    simp only [Op.bytesLess]
    have hab : a < b ↔ a.toNat < b.toNat := Iff.rfl
    have hba : b < a ↔ b.toNat < a.toNat := Iff.rfl
    have heq : a = b ↔ a.toNat = b.toNat := UInt8.toNat_inj.symm
    rw [← ih]
    rcases Nat.lt_trichotomy a.toNat b.toNat with h | h | h
    · have h1 : ¬ b < a := by rw [hba]; omega
      have h2 : ¬ b = a := by rw [eq_comm, heq]; omega
      simp [hab.2 h, h1, h2]
    · have e : a = b := heq.2 h
      subst e
      simp
    · have h1 : ¬ a < b := by rw [hab]; omega
      have h2 : ¬ a = b := by rw [heq]; omega
      simp [hba.2 h, h1, h2]
theorem strGtr (a b : List UInt8) : strBin .gtr ⟨a.toArray⟩ ⟨b.toArray⟩ = some (.bool (Op.bytesLess b a)) := by
  rw [← less_total]; simp [strBin, tl_toList]

section
variable {P : Program} {Γ : Ctx}

/-- The end of a body that keeps all rows. -/
def end0 (P : Program) (fn : Func) (H : Heap) (v : PVal) : PEx → St → Prop := fun e s => e = .ret ∧ s.heap = H ∧ resP P fn s.tmps H = some v

theorem svOf_nil (n : Nat) : svOf [] n = sv0 := by
  funext t
  simp [svOf, sv0]

theorem sim_pwp0 (hm : P.follows .mixedOrders = true) (hΓ : CtxOk P Γ) {f : FuncId} {fn : Func} {c : Code} (hf : P.funcs[f]? = some fn) (hb : fn.body = some c) (he : enters P f = true)
    {args : List PVal} {H : Heap} {v : PVal} (hv : belV H.length v = true)
    (h : pwp P Γ sv0 c ⟨args ++ List.replicate (fn.ntmps - args.length) .und, H, []⟩ (end0 P fn H v)) : SimCall P f args H [] (.ret v) H := by
  refine sim_pwp [] hm hΓ hf hb he (Nat.le_refl _) (fun _ _ _ => rfl) ?_
  rw [svOf_nil]
  simp only [List.length_nil, List.replicate, List.append_nil]
  refine pwp_mono _ _ _ _ (fun e s hk => ?_) h
  obtain ⟨h1, h2, h3⟩ := hk
  exact endP_same (.inr h1) ⟨[], by simp [h2]⟩ (by rw [h2]; exact h3) hv

/-- With own rows. -/
def end1 (P : Program) (fn : Func) (H : Heap) (v : PVal) : PEx → St → Prop := fun e s => e = .ret ∧ (∃ own, s.heap = H ++ own) ∧ resP P fn s.tmps s.heap = some v

theorem sim_pwp1 (sites : List Tmp) (hm : P.follows .mixedOrders = true) (hΓ : CtxOk P Γ) {f : FuncId} {fn : Func} {c : Code} (hf : P.funcs[f]? = some fn) (hb : fn.body = some c) (he : enters P f = true)
    {args : List PVal} {H : Heap} {v : PVal} (hv : belV H.length v = true)
    (h : pwp P Γ (svOf sites H.length) c ⟨args ++ List.replicate (fn.ntmps - args.length) .und, H ++ List.replicate sites.length none, []⟩ (end1 P fn H v)) : SimCall P f args H [] (.ret v) H := by
  refine sim_pwp sites hm hΓ hf hb he (Nat.le_refl _) (fun _ _ _ => rfl) ?_
  refine pwp_mono _ _ _ _ (fun e s hk => ?_) h
  obtain ⟨h1, h2, h3⟩ := hk
  exact endP_same (.inr h1) h2 h3 hv

/-- A loop in its block, and what comes behind. -/
theorem pwp_for {sv : Tmp → Option Nat} {id : Nat} {c rest : Code} {s : St} {K : PEx → St → Prop} (I : Nat → St → Prop) (n : Nat) (h : I n s)
    (hI : ∀ n s, I n s → pwp P Γ sv c s (thenK (fun s' => ∃ m, m < n ∧ I m s') (blockK id (thenK (fun s' => pwp P Γ sv rest s' K) K)))) : pwp P Γ sv (.seq (.block id (.loop c)) rest) s K :=
  pwp_seq (pwp_block (pwp_loop I hI h))
/-- What stands between two pieces. -/
theorem pwp_mid {sv : Tmp → Option Nat} {a b : Code} {s : St} {K : PEx → St → Prop} (J : St → Prop) (h : pwp P Γ sv a s (fun e s' => e = .normal ∧ J s')) (hk : ∀ s', J s' → pwp P Γ sv b s' K) : pwp P Γ sv (.seq a b) s K :=
  pwp_seq (pwp_mono _ _ _ _ (fun e s' ⟨he, hj⟩ => by subst he; exact hk s' hj) h)
/-- .. or the end is reached ahead of it. -/
theorem pwp_mid2 {sv : Tmp → Option Nat} {a b : Code} {s : St} {K : PEx → St → Prop} (J : St → Prop) (h : pwp P Γ sv a s (fun e s' => (e = .normal ∧ J s') ∨ (e = .ret ∧ K e s'))) (hk : ∀ s', J s' → pwp P Γ sv b s' K) : pwp P Γ sv (.seq a b) s K :=
  pwp_seq (pwp_mono _ _ _ _ (fun e s' h => by
    rcases h with ⟨he, hj⟩ | ⟨he, hj⟩
    · subst he; exact hk s' hj
    · subst he; exact hj) h)
end
end Go.PM
