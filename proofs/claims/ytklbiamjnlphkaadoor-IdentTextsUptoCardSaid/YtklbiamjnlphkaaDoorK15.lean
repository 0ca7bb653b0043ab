/-
  append, held against the model; all that an operation does.
-/
import Derived.Test.YtklbiamjnlphkaaDoorK14
set_option linter.unusedVariables false
set_option linter.unusedSimpArgs false
namespace Go.PM
open Go

section
variable {P : Program} {w : World} {M0 : Own} {ρ : Place} {H : Heap}

theorem zeroCells_list (z : Array Value) (n : Nat) : Builtin.zeroCells z n = (List.replicate n z.toList).flatten.toArray := zeros_array z n

theorem length_zeros (z : List Value) (n : Nat) : (List.replicate n z).flatten.length = n * z.length := by simp

/-- A new row by append. -/
theorem grow_row (h : HR w M0 ρ H) {q : Nat} (hq : q < H.length) {e : TypeId} {sz need cap : Nat} {cs new : List PCell} {olds news : List Value} {z : Array Value} (ho : VCs w (Mu M0 ρ) ρ cs olds) (hn : VCs w (Mu M0 ρ) ρ new news)
    (hl : (olds ++ news).length = need * sz) (hz : z.size = sz) (hcap : need ≤ cap) {run : Result Next}
    (hrun : run = .ok (.value (.slice (some ⟨w.heap.size, 0, none⟩) need cap)) (w.drew.alloc (.cells (olds.toArray ++ news.toArray ++ Builtin.zeroCells z (cap - need)) e))) :
    StepOk w M0 ρ (.c (.sl q (nextVer H q) 0 sz need)) (H.set q (some ⟨nextVer H q, e, cs ++ new⟩)) run := by
  have t0 := tr_drew w ρ
  have h0 := h.drew
  have hx := (ho.append hn).tr' t0
  obtain ⟨t1, h1⟩ := h0.new (e := e) (ys := (List.replicate (cap - need) z.toList).flatten) hq nextVer_lt hx
  have he : olds.toArray ++ news.toArray ++ Builtin.zeroCells z (cap - need) = (olds ++ news ++ (List.replicate (cap - need) z.toList).flatten).toArray := by
    rw [zeroCells_list]; simp
  rw [he] at hrun
  refine ⟨_, _, _, .inl hrun, t0.trans t1, h1, .c _ _ (.sl q _ 0 sz need w.heap.size (nextVer H q) _ cap (by simp [upd]) (Nat.le_refl _) hcap fun _ => ⟨rfl, ?_⟩)⟩
  refine ⟨_, e, (0, 0), heap_alloc_new w.drew _, ?_⟩
  simp only [List.size_toArray, List.length_append, length_zeros] at hl ⊢
  rw [show (olds.length + news.length) = need * sz from hl]
  have : z.toList.length = sz := by simpa using hz
  rw [this, ← Nat.add_mul, Nat.zero_add, show need + (cap - need) = cap by omega]
  exact Nat.le_refl _

theorem perform_grow {ts : List PVal} {a : Act} (hT : VVs w (Mu M0 ρ) ρ ts a.tmps.toList) (h : HR w M0 ρ H) {o : Oper} {e : TypeId} {sz by_ n q : Nat} {cs : List PCell} {src : Src} {new : List PCell}
    (ha : actOf P o (evP ts) = some (.grow e sz by_ cs n src)) (hn : srcR H src = some new) (hq : q < H.length) :
    StepOk w M0 ρ (.c (.sl q (nextVer H q) 0 sz (n + src.n))) (H.set q (some ⟨nextVer H q, e, cs ++ new⟩)) ((execOp a.eval o).run P w) := by
  obtain ⟨dst, c, type, pos, after, guard, s, x, t, rfl, hcal, hargs, ht0, happ⟩ := act_append ha (.inl ⟨_, _, _, _, _, _, rfl⟩)
  obtain ⟨e1, sz1, by1, z, src1, xt, d, he, hz, hzl, hb0, hs0, hxt, hxu, hn0, hsrc, hcase⟩ := appendP_inv happ (fun v hv => by cases hv)
  obtain ⟨consts, hrun⟩ := run_builtin (P := P) (w := w) (a := a) (dst := dst) (type := type) (pos := pos) (after := after) (guard := guard) hcal
  rw [hrun, two_eq hargs]
  obtain ⟨hu, i, hi, hsi, hbi⟩ := slOf_spec he
  obtain ⟨i', zv, hi', hzv, rfl, hone⟩ := zeroOf_spec hz
  rw [hi] at hi'
  simp only [Option.some.injEq] at hi'
  subst hi'
  have hS := VV.ev hT s
  have hX := VV.ev hT x
  have hzs : zv.cells.size = i.size := by rw [hsi]; simpa using hzl
  -- what was there
  have hold : ∃ base sLen sCap olds, a.eval s = .slice base sLen sCap ∧ sLen = n ∧ VCs w (Mu M0 ρ) ρ cs olds ∧ olds.length = n * sz ∧ sCap < n + src.n ∧ (n + src.n) * by1 ≤ 140737488355328 ∧ e1 = e ∧ sz1 = sz ∧ src1 = src ∧
      ∀ w1 : World, w1.heap = w.heap → (Builtin.firstCells i.size sLen (.slice base sLen sCap)).run P w1 = .ok olds.toArray w1 := by
    rcases hcase with ⟨hs, hact, hbd⟩ | ⟨els, hs, hact, hbd⟩ | ⟨_, _, _, _, hact, _⟩
    · simp only [Actn.grow.injEq] at hact
      obtain ⟨rfl, rfl, rfl, rfl, rfl, rfl⟩ := hact
      rw [hs] at hS
      exact ⟨none, 0, 0, [], hS.inv_sc.1, rfl, VCs.nil, by simp, by omega, by rw [Nat.zero_add]; omega, rfl, rfl, rfl, fun w1 _ => by simp [Builtin.firstCells]⟩
    · simp only [Actn.grow.injEq] at hact
      obtain ⟨rfl, rfl, rfl, rfl, rfl, rfl⟩ := hact
      rw [hs] at hS
      generalize hSX : a.eval s = S at hS
      cases hS.inv_c with
      | tr _ _ _ ad cap xs h1 h2 h3 h4 h5 =>
        have hfl := length_flatten_sz els h3
        refine ⟨ad, _, cap, (List.range els.flatten.length).map xs, rfl, rfl, ⟨by simp, fun j c hj => by
          have hlt := (List.getElem?_eq_some_iff.1 hj).1
          rw [List.getD, List.getElem?_map, List.getElem?_range hlt]
          exact h5 j c hj⟩, by rw [List.length_map, List.length_range, hfl], by rw [h2 rfl]; omega, by omega, rfl, rfl, rfl, fun w1 ew => ?_⟩
        rcases h4 with h4 | ⟨b, o, rfl, hM, hb, hw⟩
        · subst h4
          cases ad <;> simp [Builtin.firstCells, loadCells, loadCellsFrom]
        · refine run_firstCells_some w1 i.size els.length ⟨b, o, none⟩ els.length cap _ (by rw [List.length_map, List.length_range, hfl, hsi]) fun j v hj => ?_
          rw [List.getElem?_map] at hj
          have hlt : j < els.flatten.length := by
            rcases Nat.lt_or_ge j els.flatten.length with h | h
            · exact h
            · rw [List.getElem?_eq_none (by simpa using h)] at hj; cases hj
          rw [List.getElem?_range hlt] at hj
          simp only [Option.map_some, Option.some.injEq] at hj; subst hj
          have hc : w1.cell? ⟨b, o + j, none⟩ = w.cell? ⟨b, o + j, none⟩ := by simp [World.cell?, ew]
          rw [add_at, hc]
          exact hw j hlt
    · cases hact
  obtain ⟨base, sLen, sCap, olds, hSe, rfl, hov, hol, hcap, hbd, rfl, rfl, rfl, hof⟩ := hold
  rcases hsrc with ⟨e', rfl, hsrc⟩ | ⟨k, m, rfl, hm, hm0, rfl⟩
  · obtain ⟨A, cc, news, hXe, hnv, hnl, hnf⟩ := src_sound (P := P) h hX hsrc hn
    have hr := run_app_grow (P := P) (w := w) type ht0 hxt hu hxu hi hzv hof (A := A) (n := src1.n) (c := cc) (news := news.toArray) (by rw [hsi]; exact hnf) hcap (by rw [hbi]; exact hbd) (by rw [hbi]; exact hb0)
    refine grow_row h hq hov hnv (by rw [List.length_append, hol, hnv.1, hnl, Nat.add_mul]) (by rw [hzs, hsi]) (grownCap_ge w (sLen + src1.n) sCap e1) ?_
    simp only [List.map_cons, List.map_nil, builtin, hSe, hXe, Sem.run_bind, hr, Result.andThen_ok, Sem.run_pure]
  · simp only [srcR, Option.some.injEq] at hn
    subst hn
    simp only [Src.n] at hcap hbd hn0 ⊢
    obtain ⟨k', hXe⟩ := intOf_sound hX hm
    have hmm : m = (m.toNat : Int) := (Int.toNat_of_nonneg hm0).symm
    have hm1 : m.toNat ≠ 0 := hn0
    have hr := run_app_zeros (P := P) (w := w) (k' := k') type ht0 hxt hu hxu hi hzv hof (n := m.toNat) hzs (by rw [hsi]; exact hs0) hcap (by rw [hbi]; exact hbd) (by rw [hbi]; exact hb0) hm1
    have hnv : VCs w (Mu M0 ρ) ρ (List.replicate m.toNat (zv.cells.toList.map PCell.sc)).flatten (List.replicate m.toNat zv.cells.toList).flatten := zeros_sound hone _
    refine grow_row h hq hov hnv (z := zv.cells) (by rw [List.length_append, hol, length_zeros, hzl, Nat.add_mul]) (by rw [hzs, hsi]) (grownCap_ge w (sLen + m.toNat) sCap e1) ?_
    rw [zeroCells_list zv.cells m.toNat] at hr
    rw [← hmm] at hr
    simp only [List.map_cons, List.map_nil, builtin, hSe, hXe, Sem.run_bind, hr, Result.andThen_ok, Sem.run_pure]

theorem perform_app {ts : List PVal} {a : Act} (hT : VVs w (Mu M0 ρ) ρ ts a.tmps.toList) (h : HR w M0 ρ H) {o : Oper} {r ver sz len by_ : Nat} {e : TypeId} {src : Src} {new : List PCell} {R : PRow}
    (ha : actOf P o (evP ts) = some (.app r ver e sz len by_ src)) (hR : rowAt H r ver = some R) (hn : srcR H src = some new) (hlen : R.cells.length = len * sz) (hel : R.elem = e) :
    StepOk w M0 ρ (.c (.sl r (ver + 1) 0 sz (len + src.n))) (H.set r (some ⟨ver + 1, e, R.cells ++ new⟩)) ((execOp a.eval o).run P w) := by
  subst hel
  obtain ⟨dst, c, type, pos, after, guard, s, x, t, rfl, hcal, hargs, ht0, happ⟩ := act_append ha (.inr ⟨_, _, _, _, _, _, _, rfl⟩)
  obtain ⟨e1, sz1, by1, z, src1, xt, d, he, hz, hzl, hb0, hs0, hxt, hxu, hn0, hsrc, hcase⟩ := appendP_inv happ (fun v hv => by cases hv)
  obtain ⟨consts, hrun⟩ := run_builtin (P := P) (w := w) (a := a) (dst := dst) (type := type) (pos := pos) (after := after) (guard := guard) hcal
  rw [hrun, two_eq hargs]
  obtain ⟨hu, i, hi, hsi, hbi⟩ := slOf_spec he
  obtain ⟨i', zv, hi', hzv, rfl, hone⟩ := zeroOf_spec hz
  rw [hi] at hi'
  simp only [Option.some.injEq] at hi'
  subst hi'
  have hS := VV.ev hT s
  have hX := VV.ev hT x
  have hzs : zv.cells.size = i.size := by rw [hsi]; simpa using hzl
  rcases hcase with ⟨_, hact, _⟩ | ⟨_, _, hact, _⟩ | ⟨r1, ver1, len1, hs, hact, hbd, hxtt⟩
  · cases hact
  · cases hact
  · simp only [Actn.app.injEq] at hact
    obtain ⟨rfl, rfl, rfl, rfl, rfl, rfl, rfl⟩ := hact
    subst hxtt
    rw [hu] at hxu
    simp only [Option.some.injEq] at hxu
    subst hxu
    rcases hsrc with ⟨e', _, hsrc⟩ | ⟨k, m, hk, _⟩
    · obtain ⟨A, cc, news, hXe, hnv, hnl, hnf⟩ := src_sound (P := P) h hX hsrc hn
      obtain ⟨b, xs, ys, q1, q2, q3, q4, q5⟩ := h.place hR
      rw [hs] at hS
      generalize hSX : a.eval s = S at hS
      cases hS.inv_c with
      | sl _ _ _ _ _ b' v' ad cap hl' hv' hcap hh =>
        rw [q1] at hl'
        simp only [Option.some.injEq, Prod.mk.injEq] at hl'
        obtain ⟨rfl, rfl⟩ := hl'
        obtain ⟨rfl, hfit⟩ := hh q5.symm
        have hxl : xs.length = len * sz := by rw [q3.1]; exact hlen
        have hof : ∀ w1 : World, w1.heap = w.heap → (Builtin.firstCells i.size len (.slice (some ⟨b, 0, none⟩) len cap)).run P w1 = .ok xs.toArray w1 := fun w1 ew => by
          refine run_firstCells_some w1 i.size len ⟨b, 0, none⟩ len cap xs (by rw [hsi]; exact hxl) fun j v hj => ?_
          have hc : w1.cell? ⟨b, 0 + j, none⟩ = w.cell? ⟨b, 0 + j, none⟩ := by simp [World.cell?, ew]
          rw [add_at, hc, cell_at q2, Nat.zero_add, List.getElem?_append_left (List.getElem?_eq_some_iff.1 hj).1]
          exact hj
        have hnewl : news.length = src.n * sz := by rw [hnv.1, hnl]
        by_cases hroom : len + src.n ≤ cap
        · -- in place
          obtain ⟨cur, el, fr, hb1, hb2⟩ := hfit
          rw [q2] at hb1
          simp only [Option.some.injEq, Obj.cells.injEq] at hb1
          obtain ⟨rfl, rfl, rfl⟩ := hb1
          have hmul : (len + src.n) * sz ≤ cap * sz := Nat.mul_le_mul_right _ hroom
          rw [Nat.add_mul] at hmul
          simp only [List.size_toArray, List.length_append, Nat.zero_add] at hb2
          have hst := run_storeCells_at P b (len * sz) R.elem news 0 (xs ++ ys).toArray w q2 (by simp; omega) (fun v hv => hnv.one v hv)
          have hnew : (xs ++ ys).toArray.toList.take (len * sz + 0) ++ news ++ (xs ++ ys).toArray.toList.drop (len * sz + 0 + news.length) = (xs ++ news) ++ ys.drop news.length := by
            simp only [Nat.add_zero]
            rw [List.take_left' hxl, List.drop_append, List.drop_of_length_le (by omega), hxl]
            simp
          rw [hnew] at hst
          have hr := run_app_room (P := P) (w := w) type ht0 hxt hu hu hi (a := ⟨b, 0, none⟩) (sLen := len) (sCap := cap) (A := A) (n := src.n) (c := cc) (news := news.toArray) (by rw [hsi]; exact hnf w rfl)
            (w' := w.setRow b ((xs ++ news) ++ ys.drop news.length).toArray) (by rw [hsi, add_at, Nat.zero_add]; exact hst) hroom
          obtain ⟨t1, h1⟩ := h.bump (R' := ⟨ver + 1, R.elem, R.cells ++ new⟩) q1 q4 q2 (xs := xs ++ news) (ys := ys.drop news.length) (by simp; omega) (by simp [q5]) rfl (q3.append hnv)
          refine ⟨.slice (some ⟨b, 0, none⟩) (len + src.n) cap, _, _, .inl ?_, t1, h1, .c _ _ (.sl r (ver + 1) 0 sz _ b (ver + 1) _ cap (by simp [upd]) (Nat.le_refl _) hroom fun _ => ⟨rfl, ?_⟩)⟩
          · simp only [List.map_cons, List.map_nil, builtin, hSX, hXe, Sem.run_bind, hr, Result.andThen_ok, Sem.run_pure]
          · refine ⟨_, R.elem, (0, 0), setRow_heap w b _ _ _ _ q2, ?_⟩
            simp only [List.size_toArray, List.length_append, List.length_drop]
            omega
        · -- a new array
          have hr := run_app_grow (P := P) (w := w) type ht0 hxt hu hu hi hzv hof (A := A) (n := src.n) (c := cc) (news := news.toArray) (by rw [hsi]; exact hnf) (by omega) (by rw [hbi]; omega) (by rw [hbi]; exact hb0)
          have hq : r < H.length := (List.getElem?_eq_some_iff.1 q4).1
          have hnv1 : nextVer H r = ver + 1 := by simp [nextVer, q4, q5]
          have := grow_row (H := H) (cs := R.cells) h hq q3 hnv (e := R.elem) (sz := sz) (need := len + src.n) (by rw [List.length_append, hxl, hnewl, Nat.add_mul]) (z := zv.cells) (by rw [hzs, hsi]) (grownCap_ge w (len + src.n) cap R.elem)
            (run := (builtin .append c.argTypes type consts (List.map a.eval [s, x]).toArray).run P w)
            (by simp only [List.map_cons, List.map_nil, builtin, hSX, hXe, Sem.run_bind, hr, Result.andThen_ok, Sem.run_pure])
          rwa [hnv1] at this
    · cases hk

/-- All that an operation does that calls nobody. -/
theorem perform_sound {ts : List PVal} {a : Act} (hT : VVs w (Mu M0 ρ) ρ ts a.tmps.toList) (h : HR w M0 ρ H) {o : Oper} {act : Actn} {q : Option Nat} {v : PVal} {H' : Heap} {wr : List Nat}
    (ha : actOf P o (evP ts) = some act) (hp : perform q H act = some (v, H', wr)) : StepOk w M0 ρ v H' ((execOp a.eval o).run P w) := by
  cases act with
  | val v' =>
    simp only [perform, Option.some.injEq, Prod.mk.injEq] at hp
    obtain ⟨rfl, rfl, rfl⟩ := hp
    exact perform_val hT h ha
  | load r ver off k =>
    simp only [perform] at hp
    split at hp
    · rename_i R hR
      cases hl : loadR R off k with
      | none => simp [hl] at hp
      | some v' =>
        simp only [hl, Option.map_some, Option.some.injEq, Prod.mk.injEq] at hp
        obtain ⟨rfl, rfl, rfl⟩ := hp
        exact perform_load hT h ha hR hl
    · cases hp
  | store r ver off cs =>
    simp only [perform] at hp
    split at hp
    · rename_i R hR
      split at hp
      · simp only [Option.some.injEq, Prod.mk.injEq] at hp
        obtain ⟨rfl, rfl, rfl⟩ := hp
        exact perform_store hT h ha hR (by assumption)
      · cases hp
    · cases hp
  | new e cs =>
    simp only [perform] at hp
    split at hp
    · split at hp
      · simp only [Option.some.injEq, Prod.mk.injEq] at hp
        obtain ⟨rfl, rfl, rfl⟩ := hp
        exact perform_new hT h ha (by assumption)
      · cases hp
    · simp only [Option.some.injEq, Prod.mk.injEq] at hp
      obtain ⟨rfl, rfl, rfl⟩ := hp
      exact perform_frozen hT h ha
  | lit e sz len cs =>
    simp only [perform] at hp
    split at hp
    · simp only [Option.some.injEq, Prod.mk.injEq] at hp
      obtain ⟨rfl, rfl, rfl⟩ := hp
      exact perform_lit hT h ha (by assumption)
    · cases hp
  | grow e sz by_ cs n src =>
    simp only [perform] at hp
    split at hp
    · split at hp
      · simp only [Option.some.injEq, Prod.mk.injEq] at hp
        obtain ⟨rfl, rfl, rfl⟩ := hp
        exact perform_grow hT h ha (by assumption) (by assumption)
      · cases hp
    · cases hp
  | app r ver e sz len by_ src =>
    simp only [perform] at hp
    split at hp
    · rename_i hR hn
      split at hp
      · rename_i hc
        simp only [Option.some.injEq, Prod.mk.injEq] at hp
        obtain ⟨rfl, rfl, rfl⟩ := hp
        exact perform_app hT h ha hR hn hc.1 hc.2
      · cases hp
    · cases hp
  | call f args => simp [perform] at hp
  | pan v => simp [perform] at hp

end
end Go.PM
