/-
  What an operation does to the rows, held against the model.
-/
import Derived.Test.YtklbiamjnlphkaaDoorK11
set_option linter.unusedVariables false
set_option linter.unusedSimpArgs false
namespace Go.PM
open Go

def loadR (R : PRow) (off : Nat) : LK → Option PVal
  | .cell => (R.cells[off]?).map .c
  | .agg n => if off + n ≤ R.cells.length then some (.agg ((R.cells.drop off).take n)) else none
  | .str n => if off + n ≤ R.cells.length then (bytesOfCells ((R.cells.drop off).take n)).map fun l => .c (.sc (.string ⟨l.toArray⟩)) else none

/-- A live row of that version. -/
def rowAt (H : Heap) (r ver : Nat) : Option PRow :=
  match H[r]? with
  | some (some R) => if R.ver = ver then some R else none
  | _ => none

def srcR (H : Heap) : Src → Option (List PCell)
  | .cells cs n => some cs
  | .row r ver off sz n => match rowAt H r ver with
    | some R => if off + n * sz ≤ R.cells.length then some ((R.cells.drop off).take (n * sz)) else none
    | none => none

/-- The value, the rows then, and which were written. q: the row for what is new; none: nobody will write to it. -/
def perform (q : Option Nat) (H : Heap) : Actn → Option (PVal × Heap × List Nat)
  | .val v => some (v, H, [])
  | .load r ver off k => match rowAt H r ver with
    | some R => (loadR R off k).map fun v => (v, H, [])
    | none => none
  | .store r ver off cs => match rowAt H r ver with
    | some R => if off + cs.length ≤ R.cells.length then some (.und, H.set r (some { R with cells := setFrom R.cells off cs }), [r]) else none
    | none => none
  | .new e cs => match q with
    | some q => if q < H.length then some (.c (.ptr q (nextVer H q) 0), H.set q (some ⟨nextVer H q, e, cs⟩), [q]) else none
    | none => some (.c (.tp cs 0), H, [])
  | .lit e sz len cs => if cs.length = len * sz then some (.c (.tr true sz (chunks sz len cs)), H, []) else none
  | .grow e sz bytes cs n src => match srcR H src, q with
    | some new, some q => if q < H.length then some (.c (.sl q (nextVer H q) 0 sz (n + src.n)), H.set q (some ⟨nextVer H q, e, cs ++ new⟩), [q]) else none
    | _, _ => none
  | .app r ver e sz len bytes src => match rowAt H r ver, srcR H src with
    | some R, some new => if R.cells.length = len * sz ∧ R.elem = e then some (.c (.sl r (ver + 1) 0 sz (len + src.n)), H.set r (some ⟨ver + 1, e, R.cells ++ new⟩), [r]) else none
    | _, _ => none
  | .call _ _ => none
  | .pan _ => none

section
variable {P : Program} {w : World} {M0 : Own} {ρ : Place} {H : Heap}

/-- The operation goes through, and comes to that. -/
def StepOk (w : World) (M0 : Own) (ρ : Place) (v : PVal) (H' : Heap) (run : Result Next) : Prop :=
  ∃ x w' ρ', (run = .ok (.value x) w' ∨ (run = .ok .skip w' ∧ x = undef)) ∧ Tr w ρ w' ρ' ∧ HR w' M0 ρ' H' ∧ VV w' (Mu M0 ρ') ρ' v x

theorem rowAt_spec {r ver : Nat} {R : PRow} (h : rowAt H r ver = some R) : H[r]? = some (some R) ∧ R.ver = ver := by
  unfold rowAt at h
  split at h
  · split at h
    · simp only [Option.some.injEq] at h; subst h
      exact ⟨by assumption, by assumption⟩
    · cases h
  · cases h

/-- A place in a live row of its version. -/
theorem HR.place (h : HR w M0 ρ H) {r ver : Nat} {R : PRow} (hr : rowAt H r ver = some R) : ∃ b xs ys, ρ r = some (b, R.ver) ∧ w.heap[b]? = some (.cells (xs ++ ys : List Value).toArray R.elem (0, 0)) ∧ VCs w (Mu M0 ρ) ρ R.cells xs ∧ H[r]? = some (some R) ∧ R.ver = ver := by
  obtain ⟨h1, h2⟩ := rowAt_spec hr
  obtain ⟨b, xs, ys, q1, q2, q3⟩ := h.row r R h1
  exact ⟨b, xs, ys, q1, q2, q3, h1, h2⟩

theorem VC.place {M : Nat → Prop} {r ver off b v : Nat} {x : Value} (h : VC w M ρ (.ptr r ver off) x) (hr : ρ r = some (b, v)) (hv : v = ver) : x = .pointer (some ⟨b, off, none⟩) := by
  cases h with
  | ptr _ _ _ b' v' a hl hvv hh =>
    rw [hr] at hl
    simp only [Option.some.injEq, Prod.mk.injEq] at hl
    obtain ⟨rfl, rfl⟩ := hl
    rw [hh hv.symm]

theorem cell_at {b : Nat} {l : List Value} {e : TypeId} {fr : Nat × Nat} (hb : w.heap[b]? = some (.cells l.toArray e fr)) (j : Nat) : w.cell? ⟨b, j, none⟩ = l[j]? := by
  simp [World.cell?, hb]

/-- A row's cells are read. -/
theorem load_row {b off : Nat} {xs ys : List Value} {e : TypeId} {cs : List PCell} (hb : w.heap[b]? = some (.cells (xs ++ ys : List Value).toArray e (0, 0))) {M : Nat → Prop} (hx : VCs w M ρ cs xs)
    {t : TypeId} {k : Option Nat} (hk : aggN P t = some k) {v : PVal} {R : PRow} (hR : R.cells = cs) (hl : loadR R off (lkOf k) = some v) :
    ∃ x, (loadVar t ⟨b, off, none⟩).run P w = .ok x w ∧ VV w M ρ v x := by
  obtain ⟨i, d, hi, hu, hd⟩ := aggN_spec hk
  cases k with
  | none =>
    simp only [lkOf, loadR, hR] at hl
    cases hc : cs[off]? with
    | none => simp [hc] at hl
    | some c =>
      simp only [hc, Option.map_some, Option.some.injEq] at hl; subst hl
      obtain ⟨x, h1, h2⟩ := hx.get hc
      have hlt := (List.getElem?_eq_some_iff.1 h1).1
      refine ⟨x, ?_, .c _ _ h2⟩
      simp only [loadVar, Sem.run_bind, run_isAgg hu, hd.2, Option.isSome_none, Result.andThen_ok, Bool.false_eq_true, if_false]
      rw [run_load, cell_at hb, List.getElem?_append_left hlt, h1]
  | some n =>
    simp only [lkOf, loadR, hR] at hl
    split at hl
    · rename_i hn
      simp only [Option.some.injEq] at hl; subst hl
      have hxl : off + n ≤ xs.length := by rw [hx.1]; exact hn
      have hrow := run_loadCells_list (P := P) w ⟨b, off, none⟩ ((xs.drop off).take n) (fun j u hu => by
        rw [List.getElem?_take] at hu
        split at hu
        · rename_i hj
          rw [List.getElem?_drop] at hu
          rw [add_at, cell_at hb, List.getElem?_append_left (by omega)]
          exact hu
        · cases hu)
      have hlen : ((xs.drop off).take n).length = n := by simp; omega
      rw [hlen] at hrow
      refine ⟨.agg ((xs.drop off).take n).toArray, ?_, .agg _ _ ((hx.drop off).take n)⟩
      have hs : (sizeOf t).run P w = .ok n w := by simp [sizeOf, typeInfo, hi, hd.1]
      simp only [loadVar, Sem.run_bind, run_isAgg hu, hd.2, Option.isSome_some, Result.andThen_ok, if_true, hs, hrow, Sem.run_pure]
    · cases hl

theorem length_chunks (sz : Nat) : ∀ (n : Nat) (cs : List PCell), (chunks sz n cs).length = n
  | 0, _ => rfl
  | n + 1, cs => by simp [chunks, length_chunks]

theorem chunks_flatten (sz : Nat) : ∀ (n : Nat) (cs : List PCell), cs.length = n * sz → (chunks sz n cs).flatten = cs
  | 0, cs, h => by
    simp only [Nat.zero_mul] at h
    simp [chunks, List.eq_nil_of_length_eq_zero h]
  | n + 1, cs, h => by
    rw [Nat.succ_mul] at h
    simp only [chunks, List.flatten_cons]
    rw [chunks_flatten sz n _ (by simp; omega), List.take_append_drop]

theorem chunks_sz (sz : Nat) : ∀ (n : Nat) (cs : List PCell), cs.length = n * sz → ∀ e ∈ chunks sz n cs, e.length = sz
  | 0, cs, h => fun e he => by simp [chunks] at he
  | n + 1, cs, h => by
    rw [Nat.succ_mul] at h
    intro e he
    simp only [chunks, List.mem_cons] at he
    rcases he with rfl | he
    · simp; omega
    · exact chunks_sz sz n _ (by simp; omega) e he

/-- What is read out of an argument's cells. -/
theorem perform_val {ts : List PVal} {a : Act} (hT : VVs w (Mu M0 ρ) ρ ts a.tmps.toList) (h : HR w M0 ρ H) {o : Oper} {v : PVal} (ha : actOf P o (evP ts) = some (.val v)) : StepOk w M0 ρ v H ((execOp a.eval o).run P w) := by
  obtain ⟨x, h1, h2⟩ := val_sound (P := P) hT ha
  exact ⟨x, w, ρ, .inl h1, Tr.refl _ _, h, h2⟩

theorem appendP_kind {t : TypeId} {xt : Option TypeId} {s x : PVal} {act : Actn} (h : appendP P t xt s x = some act) :
    (∃ v, act = .val v) ∨ (∃ e sz by_ cs n src, act = .grow e sz by_ cs n src) ∨ (∃ r ver e sz len by_ src, act = .app r ver e sz len by_ src) := by
  unfold appendP at h
  repeat' (first
    | (simp only [Option.some.injEq] at h; subst h; first | exact .inl ⟨_, rfl⟩ | exact .inr (.inl ⟨_, _, _, _, _, _, rfl⟩) | exact .inr (.inr ⟨_, _, _, _, _, _, _, rfl⟩))
    | (cases h; done)
    | split at h
    | (dsimp only at h; split at h))

theorem perform_load {ts : List PVal} {a : Act} (hT : VVs w (Mu M0 ρ) ρ ts a.tmps.toList) (h : HR w M0 ρ H) {o : Oper} {r ver off : Nat} {k : LK} {R : PRow} {v : PVal} (ha : actOf P o (evP ts) = some (.load r ver off k))
    (hR : rowAt H r ver = some R) (hl : loadR R off k = some v) : StepOk w M0 ρ v H ((execOp a.eval o).run P w) := by
  obtain ⟨b, xs, ys, q1, q2, q3, q4, q5⟩ := h.place hR
  obtain ⟨dst, op, type, pos, after, guard⟩ := o
  cases op <;> simp only [actOf, reduceCtorEq] at ha
  case load t x =>
    split at ha
    · rename_i kk hk
      have hx := VV.ev hT x
      split at ha
      · rename_i r' ver' off' heq
        rw [heq] at hx
        simp only [Option.some.injEq, Actn.load.injEq] at ha
        obtain ⟨rfl, rfl, rfl, rfl⟩ := ha
        have hX := hx.inv_c.place q1 q5
        obtain ⟨x', h1, h2⟩ := load_row (P := P) q2 q3 hk rfl hl
        refine ⟨x', w, ρ, .inl ?_, Tr.refl _ _, h, h2⟩
        simp only [execOp, hX, Instr.loadAt, Instr.sureAddr, Sem.run_bind, Sem.run_pure, Result.andThen_ok, h1]
      · simp at ha
      · cases ha
    · cases ha
  case convert s d x =>
    have hx := VV.ev hT x
    unfold convP at ha
    split at ha
    · split at ha <;> cases ha
    · rename_i e hs hd
      split at ha
      · rename_i ie he hie
        split at ha
        · cases ha
        · split at ha
          · cases ha
          · split at ha
            · simp at ha
            · cases ha
          · rename_i r' ver' off' sz len heq
            rw [heq] at hx
            split at ha
            · rename_i hsz
              subst hsz
              simp only [Option.some.injEq, Actn.load.injEq] at ha
              obtain ⟨rfl, rfl, rfl, rfl⟩ := ha
              simp only [loadR] at hl
              split at hl
              · rename_i hn
                cases hb : bytesOfCells ((R.cells.drop off').take len) with
                | none => simp [hb] at hl
                | some l =>
                  simp only [hb, Option.map_some, Option.some.injEq] at hl; subst hl
                  generalize hX : a.eval x = X at hx
                  cases hx.inv_c with
                  | sl _ _ _ _ _ b' v' ad cap hl' hv' hcap hh =>
                    rw [q1] at hl'
                    simp only [Option.some.injEq, Prod.mk.injEq] at hl'
                    obtain ⟨rfl, rfl⟩ := hl'
                    obtain ⟨rfl, _⟩ := hh q5.symm
                    obtain ⟨ns, hns, rfl⟩ := bytesOf_sound _ _ l ((q3.drop off').take len) hb
                    have hlen : ns.length = len := by
                      have := congrArg List.length hns
                      simp only [List.length_take, List.length_drop, List.length_map, q3.1] at this
                      omega
                    refine ⟨_, w, ρ, .inl ?_, Tr.refl _ _, h, .c _ _ (.sc _ rfl)⟩
                    simp only [execOp, hX, Sem.run_bind, run_convert_bytes_string w s d e _ _ _ hs he hd]
                    rw [run_bytes ⟨b, off', none⟩ len cap ns hlen (fun j n hj => ?_)]
                    · rfl
                    · have hj' : j < len := by rw [← hlen]; exact (List.getElem?_eq_some_iff.1 hj).1
                      have := congrArg (·[j]?) hns
                      simp only [List.getElem?_map, hj, Option.map_some, List.getElem?_take, hj', if_true, List.getElem?_drop] at this
                      rw [add_at, cell_at q2, List.getElem?_append_left (by rw [q3.1]; omega)]
                      exact this
              · cases hl
            · cases ha
          · cases ha
      · cases ha
    · split at ha <;> cases ha
    · cases ha
  case call c =>
    exfalso
    split at ha
    · split at ha <;> simp at ha
    · split at ha
      · split at ha
        · simp at ha
        · split at ha <;> simp at ha
        · simp at ha
      · simp at ha
    · repeat' (first | (simp at ha; done) | split at ha)
    · repeat' (first | (simp at ha; done) | split at ha)
    · repeat' (first | (simp at ha; done) | split at ha)
    · split at ha
      · rcases appendP_kind ha with ⟨_, h1⟩ | ⟨_, _, _, _, _, _, h1⟩ | ⟨_, _, _, _, _, _, _, h1⟩ <;> cases h1
      · cases ha
    · repeat' (first | (simp at ha; done) | split at ha)
    · cases ha
  all_goals (exfalso; (repeat' (first | (simp at ha; done) | split at ha)))

end
end Go.PM
