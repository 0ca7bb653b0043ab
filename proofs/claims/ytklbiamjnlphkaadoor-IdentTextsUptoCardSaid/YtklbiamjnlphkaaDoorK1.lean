/-
  A small pure machine beside the model: its values (trees for what is never written again, numbered rows for what is), and how they stand to the model's values and memory.
-/
import Derived.Orders
import Derived.LoopN
import Derived.Laws.Sem
import Derived.Laws.World
import Derived.Laws.Rows
import Derived.Laws.Cells
import Derived.Laws.Append
import Derived.Laws.AppendOwn
import Derived.Laws.StructEq
import Derived.KernelRfl
set_option linter.unusedVariables false
namespace Go.PM
open Go

/-- One cell. -/
inductive PCell where
  /-- the model's own value, without an address -/
  | sc (v : Value)
  /-- a place in a row: its number, its version, the cell -/
  | ptr (r ver off : Nat)
  /-- a slice of a row: the first cell, the cells of an element, the elements -/
  | sl (r ver off sz len : Nat)
  /-- a slice that nobody writes to: its elements; 'tight': it has no room behind them -/
  | tr (tight : Bool) (sz : Nat) (els : List (List PCell))
  /-- a place in what nobody writes to -/
  | tp (cells : List PCell) (off : Nat)
  | fn (f : FuncId) (caps : List PCell)
  deriving Inhabited

inductive PVal where
  /-- whatever -/
  | un
  /-- nothing: what an operation leaves that was passed over -/
  | und
  | c (x : PCell)
  | agg (cs : List PCell)
  | tup (vs : List PVal)
  deriving Inhabited

structure PRow where
  ver : Nat
  elem : TypeId
  cells : List PCell
  deriving Inhabited

abbrev Heap := List (Option PRow)

/-- Where each live row lies, and its version. -/
abbrev Place := Nat → Option (Nat × Nat)

/-- Block b has at least n cells. -/
def Fits (w : World) (b n : Nat) : Prop := ∃ cs e fr, w.heap[b]? = some (.cells cs e fr) ∧ n ≤ cs.size

/-- What lies beside the rows: the callers' own blocks; and blocks that stay as they are. -/
structure Own where
  own : Nat → Prop
  fix : Nat → Option Obj

/-- The blocks that may still be written: the callers' own, and those of the live rows. -/
def Mu (M0 : Own) (ρ : Place) (b : Nat) : Prop := M0.own b ∨ ∃ r v, ρ r = some (b, v)

inductive VC (w : World) (M : Nat → Prop) (ρ : Place) : PCell → Value → Prop where
  | sc (v : Value) (h : v.oneCell' = true) : VC w M ρ (.sc v) v
  | ptr (r ver off b v : Nat) (a : Addr) (hl : ρ r = some (b, v)) (hv : ver ≤ v) (h : ver = v → a = ⟨b, off, none⟩) : VC w M ρ (.ptr r ver off) (.pointer (some a))
  | sl (r ver off sz len b v : Nat) (a : Addr) (cap : Nat) (hl : ρ r = some (b, v)) (hv : ver ≤ v) (hc : len ≤ cap) (h : ver = v → a = ⟨b, off, none⟩ ∧ Fits w b (off + cap * sz)) : VC w M ρ (.sl r ver off sz len) (.slice (some a) len cap)
  | tr (t : Bool) (sz : Nat) (els : List (List PCell)) (a : Option Addr) (cap : Nat) (xs : Nat → Value) (hn : els.length ≤ cap) (ht : t = true → cap = els.length) (hsz : ∀ e ∈ els, e.length = sz)
      (ha : els = [] ∨ ∃ b o, a = some ⟨b, o, none⟩ ∧ ¬ M b ∧ b < w.heap.size ∧ ∀ j, j < els.flatten.length → w.cell? ⟨b, o + j, none⟩ = some (xs j))
      (hc : ∀ j c, els.flatten[j]? = some c → VC w M ρ c (xs j)) : VC w M ρ (.tr t sz els) (.slice a els.length cap)
  | tp (cells : List PCell) (off b o : Nat) (xs : Nat → Value) (hb : ¬ M b ∧ b < w.heap.size) (hw : ∀ j, j < cells.length → w.cell? ⟨b, o + j, none⟩ = some (xs j))
      (hc : ∀ j c, cells[j]? = some c → VC w M ρ c (xs j)) : VC w M ρ (.tp cells off) (.pointer (some ⟨b, o + off, none⟩))
  | fn (f : FuncId) (caps : List PCell) (xs : List Value) (hl : xs.length = caps.length) (hc : ∀ j c, caps[j]? = some c → VC w M ρ c (xs.getD j undef)) : VC w M ρ (.fn f caps) (.func (.func f) #[] xs.toArray)

/-- Cells, one by one. -/
def VCs (w : World) (M : Nat → Prop) (ρ : Place) (cs : List PCell) (xs : List Value) : Prop :=
  xs.length = cs.length ∧ ∀ j c, cs[j]? = some c → VC w M ρ c (xs.getD j undef)

inductive VV (w : World) (M : Nat → Prop) (ρ : Place) : PVal → Value → Prop where
  | un (x : Value) : VV w M ρ .un x
  | und : VV w M ρ .und undef
  | c (x : PCell) (v : Value) (h : VC w M ρ x v) : VV w M ρ (.c x) v
  | agg (cs : List PCell) (xs : List Value) (h : VCs w M ρ cs xs) : VV w M ρ (.agg cs) (.agg xs.toArray)
  | tup (vs : List PVal) (xs : List Value) (hl : xs.length = vs.length) (hc : ∀ j v, vs[j]? = some v → VV w M ρ v (xs.getD j undef)) : VV w M ρ (.tup vs) (.tuple xs.toArray)

def VVs (w : World) (M : Nat → Prop) (ρ : Place) (vs : List PVal) (xs : List Value) : Prop :=
  xs.length = vs.length ∧ ∀ j v, vs[j]? = some v → VV w M ρ v (xs.getD j undef)

/-- From one world to a later one: new blocks; the live rows' blocks alone may have been written, or left behind for new ones (then their version has gone up). -/
structure Tr (w : World) (ρ : Place) (w' : World) (ρ' : Place) : Prop where
  os : w'.os = w.os
  tape : w'.tape = w.tape
  output : w'.output = w.output
  size : w.heap.size ≤ w'.heap.size
  keep : ∀ b, b < w.heap.size → (∀ r v, ρ r ≠ some (b, v)) → w'.heap[b]? = w.heap[b]?
  fits : ∀ b n, Fits w b n → Fits w' b n
  live : ∀ r b v, ρ r = some (b, v) → ∃ b' v', ρ' r = some (b', v') ∧ v ≤ v' ∧ (v' = v → b' = b)
  news : ∀ r b v, ρ' r = some (b, v) → (∃ v0, ρ r = some (b, v0)) ∨ w.heap.size ≤ b

theorem Tr.refl (w : World) (ρ : Place) : Tr w ρ w ρ :=
  ⟨rfl, rfl, rfl, Nat.le_refl _, fun _ _ _ => rfl, fun _ _ h => h, fun r b v h => ⟨b, v, h, Nat.le_refl _, fun _ => rfl⟩, fun _ _ v h => .inl ⟨v, h⟩⟩

theorem Fits.lt {w : World} {b n : Nat} (h : Fits w b n) : b < w.heap.size := by
  obtain ⟨cs, e, fr, hb, _⟩ := h
  exact (Array.getElem?_eq_some_iff.1 hb).1

theorem Tr.trans {w w1 w2 : World} {ρ ρ1 ρ2 : Place} (h : Tr w ρ w1 ρ1) (k : Tr w1 ρ1 w2 ρ2) : Tr w ρ w2 ρ2 where
  os := k.os.trans h.os
  tape := k.tape.trans h.tape
  output := k.output.trans h.output
  size := Nat.le_trans h.size k.size
  keep b hb hn := by
    rw [k.keep b (Nat.lt_of_lt_of_le hb h.size) fun r v hr => ?_, h.keep b hb hn]
    rcases h.news r b v hr with ⟨v0, h0⟩ | h0
    · exact hn r v0 h0
    · omega
  fits b n hf := k.fits b n (h.fits b n hf)
  live r b v hr := by
    obtain ⟨b1, v1, h1, hv1, he1⟩ := h.live r b v hr
    obtain ⟨b2, v2, h2, hv2, he2⟩ := k.live r b1 v1 h1
    exact ⟨b2, v2, h2, Nat.le_trans hv1 hv2, fun e => by
      have e1 : v1 = v := by omega
      have e2 : v2 = v1 := by omega
      rw [he2 e2, he1 e1]⟩
  news r b v hr := by
    rcases k.news r b v hr with ⟨v1, h1⟩ | h1
    · exact h.news r b v1 h1
    · exact .inr (Nat.le_trans h.size h1)

/-- The callers' own blocks lie there, apart from the rows. -/
def M0ok (M0 : Own) (w : World) (ρ : Place) : Prop := (∀ b, M0.own b → b < w.heap.size ∧ ∀ r v, ρ r ≠ some (b, v)) ∧ ∀ b o, M0.fix b = some o → w.heap[b]? = some o ∧ ∀ r v, ρ r ≠ some (b, v)

theorem M0ok.tr {M0 : Own} {w w' : World} {ρ ρ' : Place} (h : M0ok M0 w ρ) (t : Tr w ρ w' ρ') : M0ok M0 w' ρ' := ⟨fun b hb =>
  ⟨Nat.lt_of_lt_of_le (h.1 b hb).1 t.size, fun r v hr => by
    rcases t.news r b v hr with ⟨v0, h0⟩ | h0
    · exact (h.1 b hb).2 r v0 h0
    · have := (h.1 b hb).1; omega⟩, fun b o hb => by
  obtain ⟨h1, h2⟩ := h.2 b o hb
  have hlt := (Array.getElem?_eq_some_iff.1 h1).1
  refine ⟨by rw [t.keep b hlt h2]; exact h1, fun r v hr => ?_⟩
  rcases t.news r b v hr with ⟨v0, h0⟩ | h0
  · exact h2 r v0 h0
  · omega⟩

theorem Tr.heap {w w' : World} {ρ ρ' : Place} {M0 : Own} (t : Tr w ρ w' ρ') {b : Nat} (hM : ¬ Mu M0 ρ b) (hb : b < w.heap.size) : w'.heap[b]? = w.heap[b]? :=
  t.keep b hb fun r v hr => hM (.inr ⟨r, v, hr⟩)

theorem Tr.cell {w w' : World} {ρ ρ' : Place} {M0 : Own} (t : Tr w ρ w' ρ') {b o : Nat} (hM : ¬ Mu M0 ρ b) (hb : b < w.heap.size) : w'.cell? ⟨b, o, none⟩ = w.cell? ⟨b, o, none⟩ := by
  simp only [World.cell?, t.heap hM hb]

theorem Tr.mu {w w' : World} {ρ ρ' : Place} {M0 : Own} (t : Tr w ρ w' ρ') {b : Nat} (hM : ¬ Mu M0 ρ b) (hb : b < w.heap.size) : ¬ Mu M0 ρ' b := by
  rintro (h | ⟨r, v, h⟩)
  · exact hM (.inl h)
  · rcases t.news r b v h with ⟨v0, h0⟩ | h0
    · exact hM (.inr ⟨r, v0, h0⟩)
    · omega

theorem VC.tr' {w w' : World} {ρ ρ' : Place} {M0 : Own} (t : Tr w ρ w' ρ') {c : PCell} {x : Value} (h : VC w (Mu M0 ρ) ρ c x) : VC w' (Mu M0 ρ') ρ' c x := by
  induction h with
  | sc v h => exact .sc v h
  | ptr r ver off b v a hl hv h =>
    obtain ⟨b', v', h', hv', he⟩ := t.live r b v hl
    exact .ptr r ver off b' v' a h' (Nat.le_trans hv hv') fun e => by
      have : v' = v := by omega
      rw [he this]; exact h (by omega)
  | sl r ver off sz len b v a cap hl hv hc h =>
    obtain ⟨b', v', h', hv', he⟩ := t.live r b v hl
    exact .sl r ver off sz len b' v' a cap h' (Nat.le_trans hv hv') hc fun e => by
      have : v' = v := by omega
      rw [he this]
      obtain ⟨h1, h3⟩ := h (by omega)
      exact ⟨h1, t.fits _ _ h3⟩
  | tr tt sz els a cap xs hn ht hsz ha hc ih =>
    refine .tr tt sz els a cap xs hn ht hsz ?_ ih
    rcases ha with ha | ⟨b, o, rfl, hM, hb, hw⟩
    · exact .inl ha
    · exact .inr ⟨b, o, rfl, t.mu hM hb, Nat.lt_of_lt_of_le hb t.size, fun j hj => by rw [t.cell hM hb]; exact hw j hj⟩
  | tp cells off b o xs hb hw hc ih =>
    exact .tp cells off b o xs ⟨t.mu hb.1 hb.2, Nat.lt_of_lt_of_le hb.2 t.size⟩ (fun j hj => by rw [t.cell hb.1 hb.2]; exact hw j hj) ih
  | fn f caps xs hl hc ih => exact .fn f caps xs hl ih

theorem VCs.tr' {w w' : World} {ρ ρ' : Place} {M0 : Own} (t : Tr w ρ w' ρ') {cs : List PCell} {xs : List Value} (h : VCs w (Mu M0 ρ) ρ cs xs) : VCs w' (Mu M0 ρ') ρ' cs xs :=
  ⟨h.1, fun j c hj => (h.2 j c hj).tr' t⟩

theorem VV.tr' {w w' : World} {ρ ρ' : Place} {M0 : Own} (t : Tr w ρ w' ρ') {v : PVal} {x : Value} (h : VV w (Mu M0 ρ) ρ v x) : VV w' (Mu M0 ρ') ρ' v x := by
  induction h with
  | un x => exact .un x
  | und => exact .und
  | c x v h => exact .c x v (h.tr' t)
  | agg cs xs h => exact .agg cs xs (h.tr' t)
  | tup vs xs hl hc ih => exact .tup vs xs hl ih

theorem VVs.tr' {w w' : World} {ρ ρ' : Place} {M0 : Own} (t : Tr w ρ w' ρ') {vs : List PVal} {xs : List Value} (h : VVs w (Mu M0 ρ) ρ vs xs) : VVs w' (Mu M0 ρ') ρ' vs xs :=
  ⟨h.1, fun j c hj => (h.2 j c hj).tr' t⟩

theorem VC.one {w : World} {M : Nat → Prop} {ρ : Place} {c : PCell} {x : Value} (h : VC w M ρ c x) : x.oneCell' = true := by
  cases h <;> first | assumption | rfl

/-- The heap's rows lie in the world. -/
structure HR (w : World) (M0 : Own) (ρ : Place) (H : Heap) : Prop where
  m0 : M0ok M0 w ρ
  dom : ∀ r b v, ρ r = some (b, v) → ∃ R, H[r]? = some (some R)
  row : ∀ r R, H[r]? = some (some R) → ∃ b xs ys, ρ r = some (b, R.ver) ∧ w.heap[b]? = some (.cells (xs ++ ys : List Value).toArray R.elem (0, 0)) ∧ VCs w (Mu M0 ρ) ρ R.cells xs
  inj : ∀ r r' b v v', ρ r = some (b, v) → ρ r' = some (b, v') → r = r'

end Go.PM
