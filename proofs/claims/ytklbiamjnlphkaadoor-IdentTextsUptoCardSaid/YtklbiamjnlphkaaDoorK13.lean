/-
  Stores, new variables, new slices.
-/
import Derived.Test.YtklbiamjnlphkaaDoorK12
set_option linter.unusedVariables false
set_option linter.unusedSimpArgs false
namespace Go.PM
open Go

section
variable {P : Program} {w : World} {M0 : Own} {ρ : Place} {H : Heap}

theorem nextVer_lt {q : Nat} : ∀ R, H[q]? = some (some R) → R.ver < nextVer H q := fun R hR => by simp [nextVer, hR]

theorem perform_store {ts : List PVal} {a : Act} (hT : VVs w (Mu M0 ρ) ρ ts a.tmps.toList) (h : HR w M0 ρ H) {o : Oper} {r ver off : Nat} {cs : List PCell} {R : PRow} (ha : actOf P o (evP ts) = some (.store r ver off cs))
    (hR : rowAt H r ver = some R) (hl : off + cs.length ≤ R.cells.length) : StepOk w M0 ρ .und (H.set r (some { R with cells := setFrom R.cells off cs })) ((execOp a.eval o).run P w) := by
  obtain ⟨b, xs, ys, q1, q2, q3, q4, q5⟩ := h.place hR
  obtain ⟨dst, op, type, pos, after, guard⟩ := o
  cases op <;> simp only [actOf, reduceCtorEq] at ha
  case store t x y =>
    split at ha
    · rename_i k r' ver' off' cs' hk heq hcs
      have hx := VV.ev hT x
      have hy := (VV.ev hT y).cells hcs
      rw [heq] at hx
      split at ha
      · rename_i hlen
        simp only [Option.some.injEq, Actn.store.injEq] at ha
        obtain ⟨rfl, rfl, rfl, rfl⟩ := ha
        have hX := hx.inv_c.place q1 q5
        obtain ⟨i, d, hi, hu, hd⟩ := aggN_spec hk
        have hsz : (a.eval y).cells.size = cs'.length := by have := hy.1; simpa using this
        have hxl : off' + cs'.length ≤ xs.length := by rw [q3.1]; exact hl
        have hst := run_storeCells_at P b off' R.elem (a.eval y).cells.toList 0 (xs ++ ys).toArray w q2 (by simp; omega) (fun v hv => hy.one v hv)
        have hnew : (xs ++ ys).toArray.toList.take (off' + 0) ++ (a.eval y).cells.toList ++ (xs ++ ys).toArray.toList.drop (off' + 0 + (a.eval y).cells.toList.length) =
            (xs.take off' ++ ((a.eval y).cells.toList ++ xs.drop (off' + cs'.length))) ++ ys := by
          have e1 : (a.eval y).cells.toList.length = cs'.length := by simpa using hsz
          simp only [Nat.add_zero, e1]
          rw [List.take_append_of_le_length (by omega), List.drop_append_of_le_length hxl]
          simp
        rw [hnew] at hst
        have hvc : VCs w (Mu M0 ρ) ρ (setFrom R.cells off' cs') (xs.take off' ++ ((a.eval y).cells.toList ++ xs.drop (off' + cs'.length))) := by
          rw [setFrom_eq _ _ _ hl]
          exact (q3.take off').append (hy.append (q3.drop _))
        obtain ⟨t1, h1⟩ := h.setRow (R' := { R with cells := setFrom R.cells off' cs' }) q1 q4 q2 (xs := xs.take off' ++ ((a.eval y).cells.toList ++ xs.drop (off' + cs'.length))) (ys := ys) (by simp; omega) rfl rfl hvc
        refine ⟨undef, _, ρ, .inr ⟨?_, rfl⟩, t1, h1, .und⟩
        have hso : (sizeOf t).run P w = .ok (k.getD 1) w := by simp [sizeOf, typeInfo, hi, hd.1]
        have hs2 : (a.eval y).cells.size = k.getD 1 := by omega
        simp only [execOp, hX, Instr.storeAt, Instr.sureAddr, storeVar, Sem.run_bind, Sem.run_pure, Result.andThen_ok, hso, hs2, ne_eq, not_true_eq_false, if_false, hst]
      · cases ha
    · cases ha
  case call c =>
    exfalso
    split at ha
    · split at ha <;> simp at ha
    · split at ha
      · split at ha
        · simp at ha
        · split at ha <;> simp at ha
        · simp at ha
      · simp at ha
    · repeat' (first | (simp at ha; done) | split at ha)
    · repeat' (first | (simp at ha; done) | split at ha)
    · repeat' (first | (simp at ha; done) | split at ha)
    · split at ha
      · rcases appendP_kind ha with ⟨_, h1⟩ | ⟨_, _, _, _, _, _, h1⟩ | ⟨_, _, _, _, _, _, _, h1⟩ <;> cases h1
      · cases ha
    · repeat' (first | (simp at ha; done) | split at ha)
    · cases ha
  case convert s d x =>
    exfalso
    unfold convP at ha
    repeat' (first | (simp at ha; done) | split at ha)
  all_goals (exfalso; (repeat' (first | (simp at ha; done) | split at ha)))

/-- A variable is laid. -/
theorem run_newVar (e : TypeId) (v : Value) : (newVar e v).run P w = .ok ⟨w.heap.size, 0, none⟩ (w.alloc (.cells v.cells e)) := by
  simp [newVar, newRow]

theorem new_run {ts : List PVal} {a : Act} (hT : VVs w (Mu M0 ρ) ρ ts a.tmps.toList) {o : Oper} {e : TypeId} {cs : List PCell} (ha : actOf P o (evP ts) = some (.new e cs)) :
    ∃ v : Value, VCs w (Mu M0 ρ) ρ cs v.cells.toList ∧ (execOp a.eval o).run P w = .ok (.value (.pointer (some ⟨w.heap.size, 0, none⟩))) (w.alloc (.cells v.cells e)) := by
  have key : ∀ (v : Value), VCs w (Mu M0 ρ) ρ cs v.cells.toList → (execOp a.eval o).run P w = .ok (.value (.pointer (some ⟨w.heap.size, 0, none⟩))) (w.alloc (.cells v.cells e)) →
      ∃ v : Value, VCs w (Mu M0 ρ) ρ cs v.cells.toList ∧ (execOp a.eval o).run P w = .ok (.value (.pointer (some ⟨w.heap.size, 0, none⟩))) (w.alloc (.cells v.cells e)) := fun v h k => ⟨v, h, k⟩
  obtain ⟨dst, op, type, pos, after, guard⟩ := o
  cases op <;> simp only [actOf, reduceCtorEq] at ha
  case alloc e' =>
    cases hz : zeroOf P e' with
    | none => simp [hz] at ha
    | some z =>
      simp only [hz, Option.map_some, Option.some.injEq, Actn.new.injEq] at ha
      obtain ⟨rfl, rfl⟩ := ha
      obtain ⟨i, zv, hi, hzv, rfl, hone⟩ := zeroOf_spec hz
      refine key zv (VCs.sc hone) ?_
      have hzr : (zeroValue e').run P w = .ok zv w := by simp [zeroValue, typeInfo, hi, hzv]
      simp only [execOp, Instr.alloc, Sem.run_bind, hzr, Result.andThen_ok, run_newVar, Sem.run_pure]
  case box e' x =>
    cases hc : cellsOf (evP ts x) with
    | none => simp [hc] at ha
    | some cs' =>
      simp only [hc, Option.map_some, Option.some.injEq, Actn.new.injEq] at ha
      obtain ⟨rfl, rfl⟩ := ha
      refine key (a.eval x) ((VV.ev hT x).cells hc) ?_
      simp only [execOp, Instr.box, Sem.run_bind, run_newVar, Result.andThen_ok, Sem.run_pure]
  case call c =>
    exfalso
    split at ha
    · split at ha <;> simp at ha
    · split at ha
      · split at ha
        · simp at ha
        · split at ha <;> simp at ha
        · simp at ha
      · simp at ha
    · repeat' (first | (simp at ha; done) | split at ha)
    · repeat' (first | (simp at ha; done) | split at ha)
    · repeat' (first | (simp at ha; done) | split at ha)
    · split at ha
      · rcases appendP_kind ha with ⟨_, h1⟩ | ⟨_, _, _, _, _, _, h1⟩ | ⟨_, _, _, _, _, _, _, h1⟩ <;> cases h1
      · cases ha
    · repeat' (first | (simp at ha; done) | split at ha)
    · cases ha
  case convert s d x =>
    exfalso
    unfold convP at ha
    repeat' (first | (simp at ha; done) | split at ha)
  all_goals (exfalso; (repeat' (first | (simp at ha; done) | split at ha)))

theorem perform_new {ts : List PVal} {a : Act} (hT : VVs w (Mu M0 ρ) ρ ts a.tmps.toList) (h : HR w M0 ρ H) {o : Oper} {e : TypeId} {cs : List PCell} {q : Nat} (ha : actOf P o (evP ts) = some (.new e cs))
    (hq : q < H.length) : StepOk w M0 ρ (.c (.ptr q (nextVer H q) 0)) (H.set q (some ⟨nextVer H q, e, cs⟩)) ((execOp a.eval o).run P w) := by
  obtain ⟨v, hv, hrun⟩ := new_run hT ha
  obtain ⟨t1, h1⟩ := h.new (e := e) (ys := []) hq nextVer_lt hv
  simp only [List.append_nil, Array.toArray_toList] at t1 h1
  exact ⟨_, _, _, .inl hrun, t1, h1, .c _ _ (.ptr _ _ _ w.heap.size (nextVer H q) _ (by simp [upd]) (Nat.le_refl _) fun _ => rfl)⟩

/-- A variable that nobody will write to. -/
theorem perform_frozen {ts : List PVal} {a : Act} (hT : VVs w (Mu M0 ρ) ρ ts a.tmps.toList) (h : HR w M0 ρ H) {o : Oper} {e : TypeId} {cs : List PCell} (ha : actOf P o (evP ts) = some (.new e cs)) :
    StepOk w M0 ρ (.c (.tp cs 0)) H ((execOp a.eval o).run P w) := by
  obtain ⟨v, hv, hrun⟩ := new_run hT ha
  obtain ⟨t1, h1, hM⟩ := h.lit (.cells v.cells e)
  have hb := heap_alloc_new w (.cells v.cells e)
  refine ⟨_, _, ρ, .inl hrun, t1, h1, .c _ _ (.tp cs 0 w.heap.size 0 (fun j => v.cells.toList.getD j undef) ⟨hM, by simp⟩ (fun j hj => ?_) (fun j c hj => ?_))⟩
  · rw [Nat.zero_add, show v.cells = v.cells.toList.toArray by simp] at *
    have hlt : j < v.cells.toList.length := by rw [hv.1]; exact hj
    rw [cell_at hb]
    simp [List.getD, List.getElem?_eq_getElem hlt]
  · exact (hv.tr' t1).2 j c hj

theorem zeros_sound {M : Nat → Prop} {z : List Value} (hone : ∀ x ∈ z, x.oneCell' = true) : ∀ (n : Nat), VCs w M ρ (List.replicate n (z.map PCell.sc)).flatten (List.replicate n z).flatten
  | 0 => VCs.nil
  | n + 1 => by
    simp only [List.replicate_succ, List.flatten_cons]
    exact (VCs.sc hone).append (zeros_sound hone n)

theorem getElem?_zeros (z : List Value) (hz : 0 < z.length) : ∀ (n j : Nat), j < n * z.length → (List.replicate n z).flatten[j]? = z[j % z.length]?
  | 0, j, h => by omega
  | n + 1, j, h => by
    rw [Nat.succ_mul] at h
    simp only [List.replicate_succ, List.flatten_cons]
    by_cases hj : j < z.length
    · rw [List.getElem?_append_left hj, Nat.mod_eq_of_lt hj]
    · rw [List.getElem?_append_right (by omega), getElem?_zeros z hz n _ (by omega)]
      congr 1
      exact (Nat.mod_eq_sub_mod (by omega)).symm

theorem zeros_array (z : Array Value) (n : Nat) : (Array.range (n * z.size)).map (fun i => z[i % z.size]!) = (List.replicate n z.toList).flatten.toArray := by
  apply Array.ext'
  apply List.ext_getElem?
  intro j
  rcases Nat.eq_zero_or_pos z.size with h0 | hpos
  · have : z = #[] := by simpa using h0
    subst this
    simp
  · by_cases hj : j < n * z.size
    · rw [getElem?_zeros z.toList (by simpa using hpos) n j (by simpa using hj)]
      have hm : j % z.size < z.size := Nat.mod_lt _ hpos
      simp [hj, hm]
    · rw [List.getElem?_eq_none (by simp; omega), List.getElem?_eq_none (by simp; omega)]

theorem perform_lit {ts : List PVal} {a : Act} (hT : VVs w (Mu M0 ρ) ρ ts a.tmps.toList) (h : HR w M0 ρ H) {o : Oper} {e : TypeId} {sz len : Nat} {cs : List PCell} (ha : actOf P o (evP ts) = some (.lit e sz len cs))
    (hl : cs.length = len * sz) : StepOk w M0 ρ (.c (.tr true sz (chunks sz len cs))) H ((execOp a.eval o).run P w) := by
  obtain ⟨dst, op, type, pos, after, guard⟩ := o
  cases op <;> simp only [actOf, reduceCtorEq] at ha
  case buildSlice t len' parts =>
    split at ha
    · rename_i e' sz' by_ he
      split at ha
      · rename_i z hz
        split at ha
        · cases ha
        · rename_i hno
          simp only [Bool.or_eq_true, decide_eq_true_eq, not_or, Decidable.not_not] at hno
          cases hf : fillP (placeAt (.inr sz')) (List.replicate len' (z.map PCell.sc)).flatten (parts.toList.map fun p => (p.1, evP ts p.2)) with
          | none => simp [hf] at ha
          | some cs' =>
            simp only [hf, Option.map_some, Option.some.injEq, Actn.lit.injEq] at ha
            obtain ⟨rfl, rfl, rfl, rfl⟩ := ha
            obtain ⟨hu, i, hi, hs, _⟩ := slOf_spec he
            obtain ⟨i', zv, hi', hzv, rfl, hone⟩ := zeroOf_spec hz
            rw [hi] at hi'
            simp only [Option.some.injEq] at hi'
            subst hi'
            have hzc : VCs w (Mu M0 ρ) ρ (List.replicate len' (zv.cells.toList.map PCell.sc)).flatten ((Array.range (len' * zv.cells.size)).map (fun i => zv.cells[i % zv.cells.size]!)).toList := by
              rw [zeros_array]
              exact zeros_sound hone len'
            obtain ⟨Y, hY, hYc⟩ := fill_sound (place := placeAt (.inr sz')) _ ((parts.map fun (i, x) => (i, a.eval x)).toList) _ cs' _ hzc (by simp) (parts_sound hT parts) hf
            obtain ⟨t1, h1, hM⟩ := h.lit (.cells Y e')
            have hzs : zv.cells.size = sz' := by simpa using hno.1
            refine ⟨.slice (some ⟨w.heap.size, 0, none⟩) len' len', w.alloc (.cells Y e'), ρ, .inl ?_, t1, h1, .c _ _ ?_⟩
            · have hso : (sizeOf e').run P w = .ok sz' w := by simp [sizeOf, typeInfo, hi, hs]
              have hzr : (zeroValue e').run P w = .ok zv w := by simp [zeroValue, typeInfo, hi, hzv]
              have hb : ¬ len' * sz' > 2 ^ 24 := hno.2
              have hY' : Instr.fill (fun i => some (i * sz', sz')) ((Array.range (len' * zv.cells.size)).map (fun i => zv.cells[i % zv.cells.size]!)) (parts.map fun p => (p.1, a.eval p.2)).toList = some Y := hY
              simp only [execOp, Instr.buildSlice, Sem.run_bind, run_underlying hu, Result.andThen_ok, hso, hb, if_false]
              by_cases h0 : len' * sz' = 0
              · have e0 : (Array.range (len' * sz')).map (fun x => (#[] : Array Value)[x % (#[] : Array Value).size]!) = (Array.range (len' * zv.cells.size)).map (fun i => zv.cells[i % zv.cells.size]!) := by rw [hzs, h0]; simp
                rw [if_pos h0]
                simp only [Sem.run_bind, Sem.run_pure, Result.andThen_ok, e0, hY', newRow, run_newObj, World.alloc_eq]
              · have e1 : (Array.range (len' * sz')).map (fun x => zv.cells[x % zv.cells.size]!) = (Array.range (len' * zv.cells.size)).map (fun i => zv.cells[i % zv.cells.size]!) := by rw [hzs]
                rw [if_neg h0]
                simp only [Sem.run_bind, hzr, Sem.run_pure, Result.andThen_ok, e1, hY', newRow, run_newObj, World.alloc_eq]
            · have hfl := chunks_flatten sz' len' cs' hl
              have := VC.tr (w := w.alloc (.cells Y e')) (M := Mu M0 ρ) (ρ := ρ) true sz' (chunks sz' len' cs') (some ⟨w.heap.size, 0, none⟩) len' (fun j => Y.toList.getD j undef) (by rw [length_chunks]; exact Nat.le_refl _)
                (fun _ => (length_chunks _ _ _).symm) (chunks_sz sz' len' cs' hl) (.inr ⟨w.heap.size, 0, rfl, hM, by simp, fun j hj => ?_⟩) (fun j c hj => ?_)
              · rwa [length_chunks] at this
              · rw [hfl] at hj
                have hb := heap_alloc_new w (.cells Y e')
                rw [Nat.zero_add, show Y = Y.toList.toArray by simp] at *
                have hlt : j < Y.toList.length := by rw [hYc.1]; exact hj
                rw [cell_at hb]
                simp [List.getD, List.getElem?_eq_getElem hlt]
              · rw [hfl] at hj
                exact (hYc.tr' t1).2 j c hj
      · cases ha
    · cases ha
  case call c =>
    exfalso
    split at ha
    · split at ha <;> simp at ha
    · split at ha
      · split at ha
        · simp at ha
        · split at ha <;> simp at ha
        · simp at ha
      · simp at ha
    · repeat' (first | (simp at ha; done) | split at ha)
    · repeat' (first | (simp at ha; done) | split at ha)
    · repeat' (first | (simp at ha; done) | split at ha)
    · split at ha
      · rcases appendP_kind ha with ⟨_, h1⟩ | ⟨_, _, _, _, _, _, h1⟩ | ⟨_, _, _, _, _, _, _, h1⟩ <;> cases h1
      · cases ha
    · repeat' (first | (simp at ha; done) | split at ha)
    · cases ha
  case convert s d x =>
    exfalso
    unfold convP at ha
    repeat' (first | (simp at ha; done) | split at ha)
  all_goals (exfalso; (repeat' (first | (simp at ha; done) | split at ha)))

end
end Go.PM
