/-
  Binary operations, equality of flat composites.
-/
import Derived.Test.YtklbiamjnlphkaaDoorK3
set_option linter.unusedVariables false
set_option linter.unusedSimpArgs false
namespace Go.PM
open Go

section
variable {P : Program} {w : World} {M : Nat → Prop} {ρ : Place}

theorem intBin_sound {op : BinOp} {k : IntKind} {a b : Int} {v : Value} (hs : isShift op = false) (h : intBin op k a b = some v) (t : TypeId) :
    (binOp op t (.int k a) (.int k b)).run P w = .ok v w ∧ v.oneCell' = true := by
  cases op <;> simp only [isShift, Bool.true_eq_false, reduceCtorEq] at hs <;> simp only [intBin, Option.some.injEq, reduceCtorEq] at h
  case quo =>
    split at h
    · cases h
    · rename_i hb
      simp only [Option.some.injEq] at h
      subst h
      exact ⟨by simp [binOp, Op.intDiv, hb], rfl⟩
  case rem =>
    split at h
    · cases h
    · rename_i hb
      simp only [Option.some.injEq] at h
      subst h
      exact ⟨by simp [binOp, Op.intDiv, hb], rfl⟩
  all_goals (subst h; exact ⟨by simp [binOp, Op.intArith, Op.intBits, Op.intCmp], rfl⟩)

theorem shiftBin_sound {op : BinOp} {k k' : IntKind} {a b : Int} {v : Value} (h : shiftBin op k a b = some v) (t : TypeId) :
    (binOp op t (.int k a) (.int k' b)).run P w = .ok v w ∧ v.oneCell' = true := by
  simp only [shiftBin] at h
  split at h
  · cases h
  · rename_i hb
    cases op <;> simp only [Option.some.injEq, reduceCtorEq] at h
    all_goals (subst h; exact ⟨by simp [binOp, Op.shift, hb], rfl⟩)

theorem strBin_sound {op : BinOp} {a b : ByteArray} {v : Value} (h : strBin op a b = some v) (t : TypeId) :
    (binOp op t (.string a) (.string b)).run P w = .ok v w ∧ v.oneCell' = true := by
  cases op <;> simp only [strBin, Option.some.injEq, reduceCtorEq] at h
  case add =>
    split at h
    · cases h
    · rename_i hb
      simp only [Option.some.injEq] at h
      subst h
      refine ⟨?_, rfl⟩
      simp only [binOp, Op.stringOp]
      rw [if_neg hb]; rfl
  all_goals (subst h; exact ⟨by simp [binOp, Op.stringOp], rfl⟩)

theorem guard_plain (op : BinOp) (t : TypeId) (ox oy : Operand) {X Y : Value} (h1 : ∀ cs, X ≠ .agg cs) (h2 : X ≠ .nilIface ∨ Y ≠ .nilIface) :
    (eqGuard op t ox oy X Y).run P w = .ok () w := by
  unfold eqGuard
  cases op <;> first
    | rfl
    | (cases X <;> first
        | rfl
        | exact absurd rfl (h1 _)
        | (cases Y <;> first | rfl | simp at h2))

theorem flatFields_len {g : TypeId → Option (List FK)} : ∀ (fs : List Field) (off : Nat) (ks : List FK), flatFields g fs off = some ks →
    ∀ f ∈ fs, ∃ k, g f.type = some k ∧ f.name ≠ "_" ∧ off ≤ f.offset ∧ f.offset + k.length ≤ off + ks.length
  | [], _, _, _ => fun f hf => by simp at hf
  | f :: fs, off, ks, h => by
    simp only [flatFields] at h
    split at h
    · rename_i hc
      simp only [Bool.and_eq_true, decide_eq_true_eq, bne_iff_ne, ne_eq] at hc
      split at h
      · rename_i k hk
        cases hr : flatFields g fs (off + k.length) with
        | none => simp [hr] at h
        | some kr =>
          simp only [hr, Option.map_some, Option.some.injEq] at h
          subst h
          intro f' hf'
          rcases List.mem_cons.1 hf' with rfl | hf'
          · exact ⟨k, hk, hc.2, by omega, by simp; omega⟩
          · obtain ⟨k', h1, h2, h3, h4⟩ := flatFields_len fs _ kr hr f' hf'
            exact ⟨k', h1, h2, by omega, by simp; omega⟩
      · cases h
    · cases h

theorem eqCells_append : ∀ (k1 k2 : List FK) (x1 x2 y1 y2 : List PCell) (b : Bool), x1.length = k1.length → y1.length = k1.length →
    eqCells (k1 ++ k2) (x1 ++ x2) (y1 ++ y2) = some b → ∃ b1 b2, eqCells k1 x1 y1 = some b1 ∧ eqCells k2 x2 y2 = some b2 ∧ b = (b1 && b2)
  | [], k2, [], x2, [], y2, b, _, _, h => ⟨true, b, rfl, h, by simp⟩
  | k :: k1, k2, x :: x1, x2, y :: y1, y2, b, hx, hy, h => by
    have ih := fun b h => eqCells_append k1 k2 x1 x2 y1 y2 b (by simpa using hx) (by simpa using hy) h
    cases k <;> cases x <;> try (simp [eqCells] at h; done)
    all_goals
      rename_i vx
      cases y <;> try (simp [eqCells] at h; done)
      rename_i vy
      cases vx <;> try (simp [eqCells] at h; done)
      all_goals
        cases vy <;> try (simp [eqCells] at h; done)
    · rename_i ka a kb b'
      simp only [List.cons_append, eqCells] at h
      split at h
      · rename_i e
        cases hr : eqCells (k1 ++ k2) (x1 ++ x2) (y1 ++ y2) with
        | none => simp [hr] at h
        | some r =>
          simp only [hr, Option.map_some, Option.some.injEq] at h
          obtain ⟨b1, b2, h1, h2, rfl⟩ := ih r hr
          exact ⟨(a == b') && b1, b2, by simp [eqCells, e, h1], h2, by rw [← h]; simp [Bool.and_assoc]⟩
      · cases h
    · rename_i a b'
      simp only [List.cons_append, eqCells] at h
      cases hr : eqCells (k1 ++ k2) (x1 ++ x2) (y1 ++ y2) with
      | none => simp [hr] at h
      | some r =>
        simp only [hr, Option.map_some, Option.some.injEq] at h
        obtain ⟨b1, b2, h1, h2, rfl⟩ := ih r hr
        exact ⟨(a == b') && b1, b2, by simp [eqCells, h1], h2, by rw [← h]; simp [Bool.and_assoc]⟩
    · rename_i a b'
      simp only [List.cons_append, eqCells] at h
      cases hr : eqCells (k1 ++ k2) (x1 ++ x2) (y1 ++ y2) with
      | none => simp [hr] at h
      | some r =>
        simp only [hr, Option.map_some, Option.some.injEq] at h
        obtain ⟨b1, b2, h1, h2, rfl⟩ := ih r hr
        exact ⟨(a == b') && b1, b2, by simp [eqCells, h1], h2, by rw [← h]; simp [Bool.and_assoc]⟩

theorem eqCells_len : ∀ (ks : List FK) (xs ys : List PCell) (b : Bool), eqCells ks xs ys = some b → xs.length = ks.length ∧ ys.length = ks.length
  | [], [], [], _, _ => ⟨rfl, rfl⟩
  | [], [], _ :: _, _, h => by simp [eqCells] at h
  | [], _ :: _, _, _, h => by simp [eqCells] at h
  | k :: ks, [], _, _, h => by cases k <;> simp [eqCells] at h
  | k :: ks, _ :: _, [], _, h => by cases k <;> simp [eqCells] at h
  | k :: ks, x :: xs, y :: ys, b, h => by
    have ih := eqCells_len ks xs ys
    have key : ∃ r, eqCells ks xs ys = some r := by
      cases hr : eqCells ks xs ys with
      | some r => exact ⟨r, rfl⟩
      | none =>
        exfalso
        cases k <;> cases x <;> try (simp [eqCells] at h; done)
        all_goals
          rename_i vx
          cases y <;> try (simp [eqCells] at h; done)
          rename_i vy
          cases vx <;> try (simp [eqCells] at h; done)
          all_goals
            cases vy <;> simp [eqCells, hr] at h
    obtain ⟨r, hr⟩ := key
    have := ih r hr
    exact ⟨by simp [this.1], by simp [this.2]⟩

/-- Cells that are told apart by their kinds are the model's own. -/
theorem eqCells_vals : ∀ (ks : List FK) (xs ys : List PCell) (b : Bool) (X : List Value), eqCells ks xs ys = some b → VCs w M ρ xs X → xs = X.map .sc
  | [], [], _, _, X, h, hX => by rw [hX.of_nil]; rfl
  | [], _ :: _, _, _, X, h, hX => by simp [eqCells] at h
  | k :: ks, [], _, _, X, h, hX => by cases k <;> simp [eqCells] at h
  | k :: ks, _ :: _, [], _, X, h, hX => by cases k <;> simp [eqCells] at h
  | k :: ks, x :: xs, y :: ys, b, X, h, hX => by
    obtain ⟨x', X', rfl, hx, hr⟩ := hX.uncons
    cases k <;> cases x <;> try (simp [eqCells] at h; done)
    all_goals
      rename_i vx
      cases y <;> try (simp [eqCells] at h; done)
      rename_i vy
      cases vx <;> try (simp [eqCells] at h; done)
      all_goals
        cases vy <;> try (simp [eqCells] at h; done)
      all_goals
        cases hx
        cases hq : eqCells ks xs ys with
        | none => simp [eqCells, hq] at h
        | some r =>
          have := eqCells_vals ks xs ys r X' hq hr
          simp [this]

theorem run_part_agg (t : TypeId) (cs : Array Value) (off n : Nat) {i : TypeInfo} (hi : P.info? t = some i) (hn : i.size = n)
    (ha : (P.underlying t).any isAggD = true) :
    (part t cs off).run P w = .ok (.agg (cs.extract off (off + n))) w := by
  cases hu : P.underlying t with
  | none => simp [hu] at ha
  | some d =>
    have : (isAgg t).run P w = .ok true w := by
      unfold isAgg
      simp only [Sem.run_bind, run_underlying hu, Result.andThen_ok]
      cases d <;> simp [hu, isAggD] at ha ⊢
    unfold part
    simp [this, sizeOf, typeInfo, hi, hn]

theorem run_part_one (t : TypeId) (cs : Array Value) (off : Nat) (v : Value) (hv : cs[off]? = some v) {d : TypeDesc} (hu : P.underlying t = some d)
    (ha : isAggD d = false) :
    (part t cs off).run P w = .ok v w := by
  have : (isAgg t).run P w = .ok false w := by
    unfold isAgg
    simp only [Sem.run_bind, run_underlying hu, Result.andThen_ok]
    cases d <;> simp [isAggD] at ha ⊢
  unfold part
  simp [this, hv]

end
end Go.PM
