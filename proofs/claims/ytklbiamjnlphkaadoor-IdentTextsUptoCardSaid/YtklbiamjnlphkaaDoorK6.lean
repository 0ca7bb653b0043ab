/-
  Each operation of the small machine that yields a value at once, held against the model's.
-/
import Derived.Test.YtklbiamjnlphkaaDoorK5
import Derived.Laws.Slices
set_option linter.unusedVariables false
set_option linter.unusedSimpArgs false
namespace Go.PM
open Go

section
variable {P : Program} {w : World} {M : Nat → Prop} {ρ : Place}

theorem VCs.seg_eq {xs : List PCell} {X : List Value} (hX : VCs w M ρ xs X) {ks : List FK} {ys : List PCell} {b : Bool} (h : eqCells ks xs ys = some b) : xs = seg X 0 ks.length := by
  have h1 := eqCells_vals ks xs ys b X h hX
  have h2 := (eqCells_len ks xs ys b h).1
  have h3 := hX.1
  rw [h1]
  simp only [seg, List.drop_zero]
  rw [List.take_of_length_le (by omega)]

theorem eqCells_symm : ∀ (ks : List FK) (xs ys : List PCell) (b : Bool), eqCells ks xs ys = some b → eqCells ks ys xs = some b
  | [], [], [], _, h => h
  | [], [], _ :: _, _, h => by simp [eqCells] at h
  | [], _ :: _, _, _, h => by simp [eqCells] at h
  | k :: ks, [], _, _, h => by cases k <;> simp [eqCells] at h
  | k :: ks, _ :: _, [], _, h => by cases k <;> simp [eqCells] at h
  | k :: ks, x :: xs, y :: ys, b, h => by
    have ih := eqCells_symm ks xs ys
    cases k <;> cases x <;> try (simp [eqCells] at h; done)
    all_goals
      rename_i vx
      cases y <;> try (simp [eqCells] at h; done)
      rename_i vy
      cases vx <;> try (simp [eqCells] at h; done)
      all_goals
        cases vy <;> try (simp [eqCells] at h; done)
    · rename_i ka a kb b'
      simp only [eqCells] at h ⊢
      split at h
      · rename_i e
        subst e
        cases hr : eqCells ks xs ys with
        | none => simp [hr] at h
        | some r =>
          simp only [hr, Option.map_some, Option.some.injEq] at h
          rw [if_pos rfl, ih r hr, ← h, Option.map_some, Option.some.injEq]
          congr 1
          rw [Bool.eq_iff_iff]
          simp only [beq_iff_eq]
          exact eq_comm
      · cases h
    · rename_i a b'
      simp only [eqCells] at h ⊢
      cases hr : eqCells ks xs ys with
      | none => simp [hr] at h
      | some r =>
        simp only [hr, Option.map_some, Option.some.injEq] at h
        rw [ih r hr, ← h, Option.map_some, Option.some.injEq]
        congr 1
        rw [Bool.eq_iff_iff]
        simp only [beq_iff_eq]
        exact eq_comm
    · rename_i a b'
      simp only [eqCells] at h ⊢
      cases hr : eqCells ks xs ys with
      | none => simp [hr] at h
      | some r =>
        simp only [hr, Option.map_some, Option.some.injEq] at h
        rw [ih r hr, ← h, Option.map_some, Option.some.injEq]
        congr 1
        rw [beq_toListBytes, beq_toListBytes, Bool.eq_iff_iff]
        simp only [beq_iff_eq]
        exact eq_comm

theorem flatT_info {d : Nat} {t : TypeId} {ks : List FK} (h : flatT P d t = some ks) : ∃ i dd, P.info? t = some i ∧ P.underlying t = some dd ∧ i.size = ks.length := by
  cases d with
  | zero => simp [flatT] at h
  | succ d =>
    simp only [flatT] at h
    cases hie : P.info? t with
    | none => simp [hie] at h
    | some ie =>
      simp only [hie] at h
      cases hue : P.underlying t with
      | none => simp [hue] at h
      | some de =>
        refine ⟨ie, de, rfl, rfl, ?_⟩
        simp only [hue] at h
        cases de <;> try (simp at h; done)
        all_goals try dsimp only at h
        case struct fs =>
          split at h
          · cases h
          · cases hff : flatFields (flatT P d) fs.toList 0 with
            | none => simp [hff] at h
            | some kf => simp only [hff] at h; split at h <;> simp at h; subst h; assumption
        case array n2 e2 =>
          cases hff : flatT P d e2 with
          | none => simp [hff] at h
          | some kf => simp only [hff] at h; split at h <;> simp at h; subst h; simpa using ‹ie.size = n2 * kf.length›
        all_goals (split at h <;> simp at h; subst h; simpa using ‹ie.size = 1›)

/-- Two aggregates, '==' as the model has it. -/
theorem eq_agg_sound {t : TypeId} {ks : List FK} {xs ys : List PCell} {X Y : List Value} {b : Bool} (hk : eqKinds P t = some ks) (hX : VCs w M ρ xs X) (hY : VCs w M ρ ys Y)
    (h : eqCells ks xs ys = some b) (hagg : (P.underlying t).any isAggD = true) :
    (Op.equalIn 10000 t (.agg X.toArray) (.agg Y.toArray)).run P w = .ok b w ∧ P.eqGuardType P.depth t = false := by
  unfold eqKinds at hk
  split at hk
  · cases hk
  · rename_i hg
    refine ⟨?_, by simpa using hg⟩
    have hl := eqCells_len ks xs ys b h
    have e1 := hX.seg_eq h
    have e2 := hY.seg_eq (eqCells_symm _ _ _ _ h)
    rw [e1, e2] at h
    obtain ⟨x, y, hx, hy, hr⟩ := eqIn_sound (P := P) 12 t ks hk 10000 w X.toArray Y.toArray 0 b (by omega) (by have := hX.1; simp; omega) (by have := hY.1; simp; omega) (by simpa using h)
    obtain ⟨i, dd, hi, hu, hs⟩ := flatT_info hk
    rw [run_part_agg t X.toArray 0 ks.length hi hs hagg] at hx
    rw [run_part_agg t Y.toArray 0 ks.length hi hs hagg] at hy
    injection hx with hx
    injection hy with hy
    subst hx; subst hy
    have f1 : X.toArray.extract 0 (0 + ks.length) = X.toArray := by
      rw [Nat.zero_add, show ks.length = X.toArray.size by have := hX.1; simp; omega, Array.extract_size]
    have f2 : Y.toArray.extract 0 (0 + ks.length) = Y.toArray := by
      rw [Nat.zero_add, show ks.length = Y.toArray.size by have := hY.1; simp; omega, Array.extract_size]
    rwa [f1, f2] at hr

/-- Is it nil, as the model has it. -/
theorem isNil_eq {t : TypeId} {d : TypeDesc} (hu : P.underlying t = some d) {x y : PCell} {X Y : Value} (hx : VC w M ρ x X) (hy : VC w M ρ y Y) {b : Bool} (h : isNil d x y = some b) :
    (∀ D, (Op.equalIn (D + 1) t X Y).run P w = .ok b w) ∧ (∀ cs, X ≠ .agg cs) ∧ (X ≠ .nilIface ∨ Y ≠ .nilIface) ∧
      (∀ op, (binOp op t X Y) = match op with | .eql => (do pure (.bool (← Op.equal t X Y))) | .neq => (do pure (.bool (!(← Op.equal t X Y)))) | op => binOp op t X Y) := by
  unfold isNil at h
  split at h
  · cases hy
    split at h <;> simp only [Option.some.injEq, reduceCtorEq] at h <;> subst h <;> cases hx <;>
      exact ⟨fun D => by simp [Op.equalIn, run_underlying hu], fun cs e => (by cases e), .inl fun e => (by cases e), fun op => by cases op <;> rfl⟩
  · cases hy
    split at h
    · simp only [Option.some.injEq] at h; subst h; cases hx
      exact ⟨fun D => by simp [Op.equalIn, run_underlying hu], fun cs e => (by cases e), .inl fun e => (by cases e), fun op => by cases op <;> rfl⟩
    · split at h
      · cases h
      · rename_i hne
        simp only [Option.some.injEq] at h; subst h
        cases hx with
        | tr tt sz els a cap xs h1 h2 h3 h4 h5 =>
          rcases h4 with h4 | ⟨b0, o, rfl, _⟩
          · subst h4; simp at hne
          · exact ⟨fun D => by simp [Op.equalIn, run_underlying hu], fun cs e => (by cases e), .inl fun e => (by cases e), fun op => by cases op <;> rfl⟩
    · simp only [Option.some.injEq] at h; subst h; cases hx
      exact ⟨fun D => by simp [Op.equalIn, run_underlying hu], fun cs e => (by cases e), .inl fun e => (by cases e), fun op => by cases op <;> rfl⟩
    · cases h
  · cases hy
    split at h <;> simp only [Option.some.injEq, reduceCtorEq] at h <;> subst h <;> cases hx <;>
      exact ⟨fun D => by simp [Op.equalIn, run_underlying hu], fun cs e => (by cases e), .inl fun e => (by cases e), fun op => by cases op <;> rfl⟩
  · cases hy
    split at h <;> simp only [Option.some.injEq, reduceCtorEq] at h <;> subst h <;> cases hx <;>
      exact ⟨fun D => by simp [Op.equalIn, run_underlying hu], fun cs e => (by cases e), .inl fun e => (by cases e), fun op => by cases op <;> rfl⟩
  · cases h

theorem isNil_sound {t : TypeId} {d : TypeDesc} (hu : P.underlying t = some d) {x y : PCell} {X Y : Value} (hx : VC w M ρ x X) (hy : VC w M ρ y Y) {b : Bool} (h : isNil d x y = some b) (ox oy : Operand) :
    (do eqGuard .eql t ox oy X Y; binOp .eql t X Y : Sem Value).run P w = .ok (.bool b) w ∧ (do eqGuard .neq t ox oy X Y; binOp .neq t X Y : Sem Value).run P w = .ok (.bool !b) w := by
  obtain ⟨h1, h2, h3, h4⟩ := isNil_eq hu hx hy h
  have he : (Op.equal t X Y).run P w = .ok b w := h1 9999
  simp only [Sem.run_bind, guard_plain _ t ox oy h2 h3, Result.andThen_ok, h4]
  simp [he]

theorem binP_sound {op : BinOp} {t : TypeId} {x y v : PVal} {X Y : Value} (hx : VV w M ρ x X) (hy : VV w M ρ y Y) (h : binP P op t x y = some v) (ox oy : Operand) :
    ∃ V, (do eqGuard op t ox oy X Y; binOp op t X Y : Sem Value).run P w = .ok V w ∧ VV w M ρ v V := by
  unfold binP at h
  split at h
  · -- numbers
    rename_i k a k' b
    obtain ⟨rfl, _⟩ := hx.inv_sc
    obtain ⟨rfl, _⟩ := hy.inv_sc
    have hg := guard_plain (P := P) (w := w) op t ox oy (X := .int k a) (Y := .int k' b) (fun cs e => by cases e) (.inl fun e => by cases e)
    simp only [Sem.run_bind, hg, Result.andThen_ok]
    split at h
    · cases hv : shiftBin op k a b with
      | none => simp [hv] at h
      | some v' =>
        simp only [hv, Option.map_some, Option.some.injEq] at h
        subst h
        obtain ⟨h1, h2⟩ := shiftBin_sound (P := P) (w := w) (k' := k') hv t
        exact ⟨v', h1, .c _ _ (.sc _ h2)⟩
    · rename_i hs
      split at h
      · rename_i hk
        subst hk
        cases hv : intBin op k a b with
        | none => simp [hv] at h
        | some v' =>
          simp only [hv, Option.map_some, Option.some.injEq] at h
          subst h
          obtain ⟨h1, h2⟩ := intBin_sound (P := P) (w := w) (by simpa using hs) hv t
          exact ⟨v', h1, .c _ _ (.sc _ h2)⟩
      · cases h
  · -- truths
    rename_i a b
    obtain ⟨rfl, _⟩ := hx.inv_sc
    obtain ⟨rfl, _⟩ := hy.inv_sc
    have hg := guard_plain (P := P) (w := w) op t ox oy (X := .bool a) (Y := .bool b) (fun cs e => by cases e) (.inl fun e => by cases e)
    simp only [Sem.run_bind, hg, Result.andThen_ok]
    split at h
    · rename_i hu
      cases op <;> simp only [Option.some.injEq, reduceCtorEq] at h <;> subst h
      · exact ⟨_, run_eql_bool w t a b hu, .c _ _ (.sc _ rfl)⟩
      · exact ⟨_, run_neq_bool w t a b hu, .c _ _ (.sc _ rfl)⟩
    · cases h
  · -- texts
    rename_i a b
    obtain ⟨rfl, _⟩ := hx.inv_sc
    obtain ⟨rfl, _⟩ := hy.inv_sc
    have hg := guard_plain (P := P) (w := w) op t ox oy (X := .string a) (Y := .string b) (fun cs e => by cases e) (.inl fun e => by cases e)
    simp only [Sem.run_bind, hg, Result.andThen_ok]
    cases hv : strBin op a b with
    | none => simp [hv] at h
    | some v' =>
      simp only [hv, Option.map_some, Option.some.injEq] at h
      subst h
      obtain ⟨h1, h2⟩ := strBin_sound (P := P) (w := w) hv t
      exact ⟨v', h1, .c _ _ (.sc _ h2)⟩
  · -- aggregates
    rename_i xs ys
    obtain ⟨X', rfl, hX⟩ := hx.inv_agg
    obtain ⟨Y', rfl, hY⟩ := hy.inv_agg
    split at h
    · rename_i n ks ha hk
      have hagg : (P.underlying t).any isAggD = true := by
        unfold aggN at ha
        cases hi : P.info? t with
        | none => simp [hi] at ha
        | some i =>
          simp only [hi] at ha
          cases hu : P.underlying t with
          | none => simp [hu] at ha
          | some dd =>
            simp only [hu] at ha
            cases dd <;> first | rfl | (simp at ha; done) | (simp [isAggD] at ha ⊢; done)
      have key : ∀ b, eqCells ks xs ys = some b → (eqGuard op t ox oy (.agg X'.toArray) (.agg Y'.toArray)).run P w = .ok () w ∧ (Op.equalIn 10000 t (.agg X'.toArray) (.agg Y'.toArray)).run P w = .ok b w := fun b hb => by
        obtain ⟨h1, h2⟩ := eq_agg_sound hk hX hY hb hagg
        exact ⟨run_eqGuard_agg w op t ox oy _ _ h2, h1⟩
      cases op <;> simp only [reduceCtorEq] at h
      · cases hv : eqCells ks xs ys with
        | none => simp [hv] at h
        | some b =>
          simp only [hv, Option.map_some, Option.some.injEq] at h
          subst h
          obtain ⟨h1, h2⟩ := key b hv
          exact ⟨.bool b, by simp only [Sem.run_bind, h1, Result.andThen_ok, run_eql_struct, h2], .c _ _ (.sc _ rfl)⟩
      · cases hv : eqCells ks xs ys with
        | none => simp [hv] at h
        | some b =>
          simp only [hv, Option.map_some, Option.some.injEq] at h
          subst h
          obtain ⟨h1, h2⟩ := key b hv
          exact ⟨.bool !b, by simp only [Sem.run_bind, h1, Result.andThen_ok, run_neq_struct, h2], .c _ _ (.sc _ rfl)⟩
    · cases h
  · -- nil
    rename_i x y _ _ _
    split at h
    · rename_i d hu
      cases op <;> simp only [reduceCtorEq] at h
      · cases hv : isNil d x y with
        | none => simp [hv] at h
        | some b =>
          simp only [hv, Option.map_some, Option.some.injEq] at h
          subst h
          exact ⟨_, (isNil_sound hu hx.inv_c hy.inv_c hv ox oy).1, .c _ _ (.sc _ rfl)⟩
      · cases hv : isNil d x y with
        | none => simp [hv] at h
        | some b =>
          simp only [hv, Option.map_some, Option.some.injEq] at h
          subst h
          exact ⟨_, (isNil_sound hu hx.inv_c hy.inv_c hv ox oy).2, .c _ _ (.sc _ rfl)⟩
    · cases h
  · cases h

theorem unP_sound {op : UnOp} {x v : PVal} {X : Value} (hx : VV w M ρ x X) (h : unP op x = some v) : ∃ V, (Op.unary op X).run P w = .ok V w ∧ VV w M ρ v V := by
  unfold unP at h
  split at h
  · obtain ⟨rfl, _⟩ := hx.inv_sc
    simp only [Option.some.injEq] at h; subst h
    exact ⟨_, by simp [Op.unary, Op.intArith], .c _ _ (.sc _ rfl)⟩
  · obtain ⟨rfl, _⟩ := hx.inv_sc
    rename_i k n
    simp only [intBin, Option.map_some, Option.some.injEq] at h; subst h
    exact ⟨_, by simp [Op.unary, Op.intBits], .c _ _ (.sc _ rfl)⟩
  · obtain ⟨rfl, _⟩ := hx.inv_sc
    simp only [Option.some.injEq] at h; subst h
    exact ⟨_, by simp [Op.unary], .c _ _ (.sc _ rfl)⟩
  · cases h

end
end Go.PM
