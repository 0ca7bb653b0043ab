/-
  A function, from one run of its body; helps for the simplifier.
-/
import Derived.Test.YtklbiamjnlphkaaDoorK25
set_option linter.unusedVariables false
set_option linter.unusedSimpArgs false
namespace Go.PM
open Go

def sS (s : ByteArray) : PVal := .c (.sc (.string s))
def sI (n : Int) : PVal := .c (.sc (.int .i64 n))
def sB (b : Bool) : PVal := .c (.sc (.bool b))

def sv0 : Tmp → Option Nat := fun _ => none

section
variable {P : Program} {Γ : Ctx}

theorem codeE_draw (pl : Nat → Plan) {sv : Tmp → Option Nat} {n id : Nat} {ops : Array Oper} {s : St} (h1 : drawFine ops = true) (h2 : planOf ops ops.size (Array.replicate ops.size false) = pl id) :
    codeE P Γ sv n (.region id ops true) s = planE P Γ sv ops (pl id) [] s := by
  simp only [codeE, if_true, h1, h2]

theorem codeE_seqr {sv : Tmp → Option Nat} {n id : Nat} {ops : Array Oper} {s : St} : codeE P Γ sv n (.region id ops false) s = seqE P Γ sv ops ops.toList s := by
  simp only [codeE, Bool.false_eq_true, if_false]

theorem codeE_skip {sv : Tmp → Option Nat} {n : Nat} {s : St} : codeE P Γ sv n .skip s = some (.normal, s) := rfl
theorem codeE_ret {sv : Tmp → Option Nat} {n : Nat} {s : St} : codeE P Γ sv n .ret s = some (.ret, s) := rfl
theorem codeE_exit {sv : Tmp → Option Nat} {n id : Nat} {s : St} : codeE P Γ sv n (.exit id) s = some (.exit id, s) := rfl
theorem codeE_seq {sv : Tmp → Option Nat} {n : Nat} {a b : Code} {s : St} : codeE P Γ sv n (.seq a b) s = match codeE P Γ sv n a s with
    | some (.normal, s') => codeE P Γ sv n b s'
    | r => r := rfl
theorem codeE_cond {sv : Tmp → Option Nat} {n : Nat} {c : Operand} {x y : Code} {s : St} : codeE P Γ sv n (.cond c x y) s = match evP s.tmps c with
    | .c (.sc (.bool b)) => if b then codeE P Γ sv n x s else codeE P Γ sv n y s
    | _ => none := rfl
theorem codeE_block {sv : Tmp → Option Nat} {n id : Nat} {c : Code} {s : St} : codeE P Γ sv n (.block id c) s = match codeE P Γ sv n c s with
    | some (.exit i, s') => if i = id then some (.normal, s') else some (.exit i, s')
    | r => r := rfl
theorem codeE_loop {sv : Tmp → Option Nat} {n : Nat} {c : Code} {s : St} : codeE P Γ sv n (.loop c) s = iterE (codeE P Γ sv n c) n s := rfl

/-- One run: all that is new is never written again. -/
theorem sim_run (hm : P.follows .mixedOrders = true) (hΓ : CtxOk P Γ) {f : FuncId} {fn : Func} {c : Code} (hf : P.funcs[f]? = some fn) (hb : fn.body = some c) (he : enters P f = true)
    {args : List PVal} {H : Heap} {v : PVal} {n : Nat} (r : PEx × St)
    (h : codeE P Γ sv0 n c ⟨args ++ List.replicate (fn.ntmps - args.length) .und, H, []⟩ = some r) (hv : r.1 = .ret ∧ r.2.heap = H ∧ resP P fn r.2.tmps H = some v) : SimCall P f args H [] (.ret v) H := by
  obtain ⟨e, s⟩ := r
  obtain ⟨rfl, h2, h3⟩ := hv
  refine sim_of hΓ 0 sv0 hm hf hb he (Nat.le_refl _) (fun _ _ _ => rfl) ?_
  simp only [List.replicate, List.append_nil]
  refine codeE_sound c _ _ _ _ h ⟨h2, v, rfl, ?_⟩
  rw [h2]; exact h3

theorem wrapI {n : Int} (h0 : -9223372036854775808 ≤ n) (h1 : n ≤ 9223372036854775807) : IntKind.i64.wrap n = n := by
  have e : IntKind.i64.wrap n = if (n % 18446744073709551616) ≥ 9223372036854775808 then n % 18446744073709551616 - 18446744073709551616 else n % 18446744073709551616 := by
    have p1 : (2 : Int) ^ 64 = 18446744073709551616 := by decide
    have p2 : (2 : Int) ^ (64 - 1) = 9223372036854775808 := by decide
    simp only [IntKind.wrap, IntKind.bits, IntKind.signed, Bool.true_and, decide_eq_true_eq, p1, p2]
  rw [e]; split <;> omega

theorem own_get {H L : Heap} (k : Nat) : (H ++ L)[H.length + k]? = L[k]? := by
  rw [List.getElem?_append_right (by omega)]; congr 1; omega
theorem own_get0 {H L : Heap} : (H ++ L)[H.length]? = L[0]? := own_get 0
theorem own_set {H L : Heap} (k : Nat) (x : Option PRow) : (H ++ L).set (H.length + k) x = H ++ L.set k x := by
  rw [List.set_append_right _ _ (by omega)]; congr 2; omega
theorem own_set0 {H L : Heap} (x : Option PRow) : (H ++ L).set H.length x = H ++ L.set 0 x := own_set 0 x
theorem own_lt {H L : Heap} (k : Nat) : (H.length + k < (H ++ L).length) = (k < L.length) := by simp
theorem own_rowAt {H L : Heap} (k ver : Nat) : rowAt (H ++ L) (H.length + k) ver = rowAt L k ver := by
  unfold rowAt; rw [own_get]
theorem own_rowAt0 {H L : Heap} (ver : Nat) : rowAt (H ++ L) H.length ver = rowAt L 0 ver := own_rowAt 0 ver
theorem own_next {H L : Heap} (k : Nat) : nextVer (H ++ L) (H.length + k) = nextVer L k := by
  unfold nextVer; rw [own_get]
theorem own_next0 {H L : Heap} : nextVer (H ++ L) H.length = nextVer L 0 := own_next 0

/-- One run, with own rows that are left behind. -/
theorem sim_own (sites : List Tmp) (hm : P.follows .mixedOrders = true) (hΓ : CtxOk P Γ) {f : FuncId} {fn : Func} {c : Code} (hf : P.funcs[f]? = some fn) (hb : fn.body = some c) (he : enters P f = true)
    {args : List PVal} {H : Heap} {v : PVal} {n : Nat} (r : PEx × St)
    (h : codeE P Γ (svOf sites H.length) n c ⟨args ++ List.replicate (fn.ntmps - args.length) .und, H ++ List.replicate sites.length none, []⟩ = some r)
    (hv : r.1 = .ret ∧ (∃ own, r.2.heap = H ++ own) ∧ (∀ x ∈ r.2.wr, H.length ≤ x) ∧ resP P fn r.2.tmps r.2.heap = some v ∧ belV H.length v = true) : SimCall P f args H [] (.ret v) H := by
  obtain ⟨e, s⟩ := r
  obtain ⟨rfl, ⟨own, h2⟩, hw, h3, hbel⟩ := hv
  dsimp only at h2 hw h3
  have hsim : SimCall P f args H s.wr (.ret v) s.heap := by
    refine sim_of hΓ sites.length (svOf sites H.length) hm hf hb he (by rw [h2]; simp) (fun r hr _ => by rw [h2, List.getElem?_append_left hr]) (codeE_sound c _ _ _ _ h ⟨rfl, v, rfl, h3⟩)
  have := hsim.keep (m := H.length) (Nat.le_refl _) (by rw [h2]; simp) fun _ _ _ _ _ => by
    simp only [keepOk, Out.bel, hbel, Bool.true_and, List.all_eq_true, List.mem_range, Bool.or_eq_true, Bool.and_eq_true, decide_eq_true_eq, Bool.not_eq_true']
    intro r hr
    refine .inl ⟨hr, ?_⟩
    cases hc : s.wr.contains r with
    | false => rfl
    | true => have := hw r (by simpa using hc); omega
  rw [h2, List.take_left'  rfl] at this
  exact ⟨this.enters, this.len, fun _ _ _ => rfl, this.run⟩

/-- No function known. -/
def Γ0 : Ctx := fun _ _ _ => none

theorem Γ0_ok : CtxOk P Γ0 := fun _ _ _ _ _ _ h => by cases h
end
end Go.PM
