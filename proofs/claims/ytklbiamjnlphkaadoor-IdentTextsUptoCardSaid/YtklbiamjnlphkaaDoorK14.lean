/-
  append.
-/
import Derived.Test.YtklbiamjnlphkaaDoorK13
set_option linter.unusedVariables false
set_option linter.unusedSimpArgs false
namespace Go.PM
open Go

section
variable {P : Program} {w : World} {M0 : Own} {ρ : Place} {H : Heap}

/-- What is appended, in memory. -/
theorem src_sound (h : HR w M0 ρ H) {sz : Nat} {x : PVal} {X : Value} (hx : VV w (Mu M0 ρ) ρ x X) {src : Src} (hs : srcOf sz x = some src) {new : List PCell} (hn : srcR H src = some new) :
    ∃ A c news, X = .slice A src.n c ∧ VCs w (Mu M0 ρ) ρ new news ∧ new.length = src.n * sz ∧ ∀ w1 : World, w1.heap = w.heap → (Builtin.firstCells sz src.n (.slice A src.n c)).run P w1 = .ok news.toArray w1 := by
  have hcell : ∀ (w1 : World), w1.heap = w.heap → ∀ ad, w1.cell? ad = w.cell? ad := fun w1 e ad => by simp [World.cell?, e]
  unfold srcOf at hs
  split at hs
  · split at hs
    · rename_i n c hn0
      simp only [Option.some.injEq] at hs; subst hs
      simp only [srcR, Option.some.injEq] at hn; subst hn
      refine ⟨none, c, [], by rw [hx.inv_sc.1, hn0]; rfl, VCs.nil, by simp [Src.n], fun w1 _ => by simp [Builtin.firstCells]⟩
    · cases hs
  · split at hs
    · rename_i tt sz' els hsz
      subst hsz
      simp only [Option.some.injEq] at hs; subst hs
      simp only [srcR, Option.some.injEq] at hn; subst hn
      cases hx.inv_c with
      | tr _ _ _ a cap xs h1 h2 h3 h4 h5 =>
        have hfl := length_flatten_sz els h3
        have hv : VCs w (Mu M0 ρ) ρ els.flatten ((List.range els.flatten.length).map xs) := ⟨by simp, fun j c hj => by
          have hlt := (List.getElem?_eq_some_iff.1 hj).1
          rw [List.getD, List.getElem?_map, List.getElem?_range hlt]
          exact h5 j c hj⟩
        refine ⟨a, cap, _, rfl, hv, hfl, fun w1 e => ?_⟩
        rcases h4 with h4 | ⟨b, o, rfl, hM, hb, hw⟩
        · subst h4
          cases a <;> simp [Builtin.firstCells, loadCells, loadCellsFrom, Src.n]
        · refine run_firstCells_some w1 sz' els.length ⟨b, o, none⟩ els.length cap _ (by rw [List.length_map, List.length_range, hfl]) fun j v hj => ?_
          rw [List.getElem?_map] at hj
          have hlt : j < els.flatten.length := by
            rcases Nat.lt_or_ge j els.flatten.length with h | h
            · exact h
            · rw [List.getElem?_eq_none (by simpa using h)] at hj; cases hj
          rw [List.getElem?_range hlt] at hj
          simp only [Option.map_some, Option.some.injEq] at hj; subst hj
          rw [add_at, hcell w1 e]
          exact hw j hlt
    · cases hs
  · split at hs
    · rename_i r ver off sz' len hsz
      subst hsz
      simp only [Option.some.injEq] at hs; subst hs
      simp only [srcR] at hn
      split at hn
      · rename_i R hR
        split at hn
        · rename_i hle
          simp only [Option.some.injEq] at hn; subst hn
          obtain ⟨b, xs, ys, q1, q2, q3, q4, q5⟩ := h.place hR
          cases hx.inv_c with
          | sl _ _ _ _ _ b' v' ad cap hl' hv' hcap hh =>
            rw [q1] at hl'
            simp only [Option.some.injEq, Prod.mk.injEq] at hl'
            obtain ⟨rfl, rfl⟩ := hl'
            obtain ⟨rfl, _⟩ := hh q5.symm
            have hlen : ((xs.drop off).take (len * sz')).length = len * sz' := by simp [q3.1]; omega
            refine ⟨_, cap, _, rfl, (q3.drop off).take _, by simp only [Src.n, List.length_take, List.length_drop]; omega, fun w1 e => ?_⟩
            refine run_firstCells_some w1 sz' len ⟨b, off, none⟩ len cap _ hlen fun j v hj => ?_
            have hj' : j < len * sz' := by rw [← hlen]; exact (List.getElem?_eq_some_iff.1 hj).1
            rw [List.getElem?_take, if_pos hj', List.getElem?_drop] at hj
            rw [add_at, hcell w1 e, cell_at q2, List.getElem?_append_left (by rw [q3.1]; omega)]
            exact hj
        · cases hn
      · cases hn
    · cases hs
  · cases hs

theorem bytes_pos {need bytes : Nat} (hb : need * bytes ≤ 140737488355328) (h0 : bytes ≠ 0) : need ≤ 140737488355328 := by
  have : need * 1 ≤ need * bytes := Nat.mul_le_mul_left _ (by omega)
  omega

/-- A new array: what was there, what is appended, and room. -/
theorem run_app_grow {t xt e e' : TypeId} {ts : Array TypeId} {i : TypeInfo} {z : Value} (ty : TypeId) (ht0 : ts[0]? = some t) (ht1 : ts[1]? = some xt) (hu : P.underlying t = some (.slice e)) (hxu : P.underlying xt = some (.slice e'))
    (hi : P.info? e = some i) (hz : i.zero = some z) {base : Option Addr} {sLen sCap : Nat} {olds : Array Value} (hold : ∀ w1 : World, w1.heap = w.heap → (Builtin.firstCells i.size sLen (.slice base sLen sCap)).run P w1 = .ok olds w1)
    {A : Option Addr} {n c : Nat} {news : Array Value} (hnew : ∀ w1 : World, w1.heap = w.heap → (Builtin.firstCells i.size n (.slice A n c)).run P w1 = .ok news w1)
    (hg : sCap < sLen + n) (hb : (sLen + n) * i.bytes ≤ 140737488355328) (hb0 : i.bytes ≠ 0) :
    (Builtin.append_ ts ty #[.slice base sLen sCap, .slice A n c]).run P w =
      .ok (.slice (some ⟨w.heap.size, 0, none⟩) (sLen + n) (grownCap w (sLen + n) sCap e)) (w.drew.alloc (.cells (olds ++ news ++ Builtin.zeroCells z.cells (grownCap w (sLen + n) sCap e - (sLen + n))) e)) := by
  have hn : ¬ (sLen + n ≤ sCap) := by omega
  have hbp := bytes_pos hb hb0
  have h63' : ¬ (9223372036854775807 < ((sLen : Int) + (n : Int))) := by omega
  have h48' : ¬ (281474976710656 < Builtin.nextslicecap (sLen + n) sCap * i.bytes) := by
    have := growslice_fits hg hb; omega
  have hf := hnew w.drew rfl
  have hfo := hold w.drew rfl
  simp [Builtin.append_, ht0, ht1, run_underlying hu, run_underlying hxu, sizeOf, typeInfo, zeroValue, hi, hz, Builtin.lenOf, hn, h63', h48', Question.forced, hf, hfo, newRow, grownCap]

theorem run_app_zeros {t xt e : TypeId} {k : IntKind} {ts : Array TypeId} {i : TypeInfo} {z : Value} (ty : TypeId) (ht0 : ts[0]? = some t) (ht1 : ts[1]? = some xt) (hu : P.underlying t = some (.slice e)) (hxu : P.underlying xt = some (.int k))
    (hi : P.info? e = some i) (hz : i.zero = some z) {base : Option Addr} {sLen sCap : Nat} {olds : Array Value} (hold : ∀ w1 : World, w1.heap = w.heap → (Builtin.firstCells i.size sLen (.slice base sLen sCap)).run P w1 = .ok olds w1)
    {n : Nat} {k' : IntKind} (hzs : z.cells.size = i.size) (hs0 : i.size ≠ 0)
    (hg : sCap < sLen + n) (hb : (sLen + n) * i.bytes ≤ 140737488355328) (hb0 : i.bytes ≠ 0) (hn0 : n ≠ 0) :
    (Builtin.append_ ts ty #[.slice base sLen sCap, .int k' n]).run P w =
      .ok (.slice (some ⟨w.heap.size, 0, none⟩) (sLen + n) (grownCap w (sLen + n) sCap e)) (w.drew.alloc (.cells (olds ++ Builtin.zeroCells z.cells n ++ Builtin.zeroCells z.cells (grownCap w (sLen + n) sCap e - (sLen + n))) e)) := by
  have hn : ¬ (sLen + n ≤ sCap) := by omega
  have hbp := bytes_pos hb hb0
  have h63' : ¬ (9223372036854775807 < ((sLen : Int) + (n : Int))) := by omega
  have h48' : ¬ (281474976710656 < Builtin.nextslicecap (sLen + n) sCap * i.bytes) := by
    have := growslice_fits hg hb; omega
  have hw : IntKind.i64.wrap (n : Int) = n := by
    have hm : (n : Int) % 2 ^ 64 = n := Int.emod_eq_of_lt (by omega) (by omega)
    simp only [IntKind.wrap, IntKind.bits, IntKind.signed, hm]
    simp
    omega
  have hneg : ¬ ((n : Int) < 0) := by omega
  have hnb : n * i.bytes ≤ 140737488355328 := Nat.le_trans (Nat.mul_le_mul_right _ (by omega)) hb
  have hbig : ¬ ((281474976710656 : Int) < (n : Int) * (i.bytes : Int)) := by
    rw [← Int.natCast_mul]; omega
  have hns : ¬ (n = 0 ∨ i.size = 0) := by omega
  have hfo := hold w.drew rfl
  simp [Builtin.append_, ht0, ht1, run_underlying hu, run_underlying hxu, sizeOf, typeInfo, zeroValue, hi, hz, asInt, asIntOf, hw, hneg, hbig, hn, h63', h48', Question.forced, hfo, newRow, grownCap, hn0, hs0]
  intro h0
  rcases Nat.mul_eq_zero.1 h0 with h | h
  · exact absurd h hn0
  · exact absurd h hs0

/-- There is room. -/
theorem run_app_room {t xt e e' : TypeId} {ts : Array TypeId} {i : TypeInfo} (ty : TypeId) (ht0 : ts[0]? = some t) (ht1 : ts[1]? = some xt) (hu : P.underlying t = some (.slice e)) (hxu : P.underlying xt = some (.slice e'))
    (hi : P.info? e = some i) {a : Addr} {sLen sCap : Nat} {A : Option Addr} {n c : Nat} {news : Array Value} (hnew : (Builtin.firstCells i.size n (.slice A n c)).run P w = .ok news w) {w' : World}
    (hst : (storeCells (a.add (sLen * i.size)) news.toList).run P w = .ok () w') (hg : sLen + n ≤ sCap) :
    (Builtin.append_ ts ty #[.slice (some a) sLen sCap, .slice A n c]).run P w = .ok (.slice (some a) (sLen + n) sCap) w' := by
  simp [Builtin.append_, ht0, ht1, run_underlying hu, run_underlying hxu, sizeOf, typeInfo, hi, Builtin.lenOf, hg, hnew, hst]

/-- How 'append' comes to more. -/
theorem appendP_inv {t : TypeId} {xt : Option TypeId} {s x : PVal} {act : Actn} (h : appendP P t xt s x = some act) (hv : ∀ v, act ≠ .val v) :
    ∃ e sz bytes z src xt' d, slOf P t = some (e, sz, bytes) ∧ zeroOf P e = some z ∧ z.length = sz ∧ bytes ≠ 0 ∧ sz ≠ 0 ∧ xt = some xt' ∧ P.underlying xt' = some d ∧ src.n ≠ 0 ∧
      ((∃ e', d = .slice e' ∧ srcOf sz x = some src) ∨ (∃ k n, d = .int k ∧ intOf? x = some n ∧ 0 ≤ n ∧ src = .cells (List.replicate n.toNat (z.map PCell.sc)).flatten n.toNat)) ∧
      ((s = .c (.sc (.slice none 0 0)) ∧ act = .grow e sz bytes [] 0 src ∧ src.n * bytes ≤ 2 ^ 47) ∨
       (∃ els, s = .c (.tr true sz els) ∧ act = .grow e sz bytes els.flatten els.length src ∧ (els.length + src.n) * bytes ≤ 2 ^ 47) ∨
       (∃ r ver len, s = .c (.sl r ver 0 sz len) ∧ act = .app r ver e sz len bytes src ∧ (len + src.n) * bytes ≤ 2 ^ 47 ∧ xt' = t)) := by
  unfold appendP at h
  cases he : slOf P t with
  | none => simp [he] at h
  | some e0 =>
    obtain ⟨e, sz, bytes⟩ := e0
    simp only [he, Option.map_some, Option.getD_some] at h
    cases hz : zeroOf P e with
    | none => simp [hz] at h
    | some z =>
      simp only [hz] at h
      split at h
      · cases h
      · rename_i hno
        simp only [Bool.or_eq_true, decide_eq_true_eq, not_or, Decidable.not_not] at hno
        split at h
        · cases h
        · rename_i src hsrc
          have hsx : ∃ xt' d, xt = some xt' ∧ P.underlying xt' = some d ∧ ((∃ e', d = .slice e' ∧ srcOf sz x = some src) ∨ (∃ k n, d = .int k ∧ intOf? x = some n ∧ 0 ≤ n ∧ src = .cells (List.replicate n.toNat (z.map PCell.sc)).flatten n.toNat)) := by
            cases xt with
            | none => simp at hsrc
            | some xt' =>
              simp only [Option.bind_some] at hsrc
              cases hxu : P.underlying xt' with
              | none => simp [hxu] at hsrc
              | some d =>
                simp only [hxu] at hsrc
                refine ⟨xt', d, rfl, hxu, ?_⟩
                cases d <;> simp only [reduceCtorEq] at hsrc
                · rename_i k
                  split at hsrc
                  · rename_i n hn
                    split at hsrc
                    · rename_i hb
                      simp only [Option.some.injEq] at hsrc
                      exact .inr ⟨k, n, rfl, hn, hb.1, hsrc.symm⟩
                    · cases hsrc
                  · cases hsrc
                · exact .inl ⟨_, rfl, hsrc⟩
          obtain ⟨xt', d, rfl, hxu, hsx⟩ := hsx
          split at h
          · split at h
            · simp only [Option.some.injEq] at h; exact absurd h.symm (hv _)
            · split at h
              · simp only [Option.some.injEq] at h
                exact ⟨e, sz, bytes, z, src, xt', d, rfl, hz, hno.1.1, hno.1.2, hno.2, rfl, hxu, by assumption, hsx, .inl ⟨rfl, h.symm, by assumption⟩⟩
              · cases h
          · split at h
            · cases h
            · rename_i hs
              simp only [Decidable.not_not] at hs
              subst hs
              split at h
              · simp only [Option.some.injEq] at h; exact absurd h.symm (hv _)
              · split at h
                · rename_i hc
                  simp only [Option.some.injEq] at h
                  simp only [Bool.and_eq_true, decide_eq_true_eq] at hc
                  obtain ⟨rfl, hc⟩ := hc
                  exact ⟨e, _, bytes, z, src, xt', d, rfl, hz, hno.1.1, hno.1.2, hno.2, rfl, hxu, by assumption, hsx, .inr (.inl ⟨_, rfl, h.symm, hc⟩)⟩
                · cases h
          · dsimp only at h
            split at h
            · cases h
            · rename_i hs
              simp only [Decidable.not_not] at hs
              subst hs
              split at h
              · simp only [Option.some.injEq] at h; exact absurd h.symm (hv _)
              · split at h
                · rename_i hc
                  simp only [Option.some.injEq] at h
                  obtain ⟨rfl, hc1, hc2⟩ := hc
                  have hc3 : xt' = t := beq_iff_eq.1 (show (xt' == t) = true from hc2)
                  exact ⟨e, _, bytes, z, src, xt', d, rfl, hz, hno.1.1, hno.1.2, hno.2, rfl, hxu, by assumption, hsx, .inr (.inr ⟨_, _, _, rfl, h.symm, hc1, hc3⟩)⟩
                · cases h
          · cases h

/-- An action that is append's alone comes of append. -/
theorem act_append {o : Oper} {ev : Operand → PVal} {act : Actn} (ha : actOf P o ev = some act) (hk : (∃ e sz by_ cs n src, act = .grow e sz by_ cs n src) ∨ (∃ r ver e sz len by_ src, act = .app r ver e sz len by_ src)) :
    ∃ dst c type pos after guard s x t, o = ⟨dst, .call c, type, pos, after, guard⟩ ∧ c.callee = .builtin .append ∧ c.args.toList = [s, x] ∧ c.argTypes[0]? = some t ∧ appendP P t c.argTypes[1]? (ev s) (ev x) = some act := by
  obtain ⟨dst, op, type, pos, after, guard⟩ := o
  cases op <;> simp only [actOf, reduceCtorEq] at ha
  case call c =>
    split at ha
    · exfalso
      rcases hk with ⟨_, _, _, _, _, _, rfl⟩ | ⟨_, _, _, _, _, _, _, rfl⟩ <;> (repeat' (first | (simp at ha; done) | split at ha))
    · exfalso
      rcases hk with ⟨_, _, _, _, _, _, rfl⟩ | ⟨_, _, _, _, _, _, _, rfl⟩ <;> (repeat' (first | (simp at ha; done) | split at ha))
    · exfalso
      rcases hk with ⟨_, _, _, _, _, _, rfl⟩ | ⟨_, _, _, _, _, _, _, rfl⟩ <;> (repeat' (first | (simp at ha; done) | split at ha))
    · exfalso
      rcases hk with ⟨_, _, _, _, _, _, rfl⟩ | ⟨_, _, _, _, _, _, _, rfl⟩ <;> (repeat' (first | (simp at ha; done) | split at ha))
    · exfalso
      rcases hk with ⟨_, _, _, _, _, _, rfl⟩ | ⟨_, _, _, _, _, _, _, rfl⟩ <;> (repeat' (first | (simp at ha; done) | split at ha))
    · rename_i hcal
      split at ha
      · rename_i s x t h1 h2
        exact ⟨dst, c, type, pos, after, guard, s, x, t, rfl, hcal, h1, h2, ha⟩
      · cases ha
    · exfalso
      rcases hk with ⟨_, _, _, _, _, _, rfl⟩ | ⟨_, _, _, _, _, _, _, rfl⟩ <;> (repeat' (first | (simp at ha; done) | split at ha))
    · cases ha
  case convert s d x =>
    exfalso
    unfold convP at ha
    rcases hk with ⟨_, _, _, _, _, _, rfl⟩ | ⟨_, _, _, _, _, _, _, rfl⟩ <;> (repeat' (first | (simp at ha; done) | split at ha))
  all_goals
    exfalso
    rcases hk with ⟨_, _, _, _, _, _, rfl⟩ | ⟨_, _, _, _, _, _, _, rfl⟩ <;> (repeat' (first | (simp at ha; done) | split at ha))

end
end Go.PM
