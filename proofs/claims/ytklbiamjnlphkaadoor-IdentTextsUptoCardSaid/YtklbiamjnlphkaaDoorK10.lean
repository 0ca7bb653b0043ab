/-
  Whatever yields a value at once.
-/
import Derived.Test.YtklbiamjnlphkaaDoorK9
set_option linter.unusedVariables false
set_option linter.unusedSimpArgs false
namespace Go.PM
open Go

section
variable {P : Program} {w : World} {M : Nat → Prop} {ρ : Place}

theorem two_args {c : Call} {x y : Operand} (h : c.args.toList = [x, y]) : c.args = #[x, y] := by
  rw [← Array.toArray_toList (xs := c.args), h]
theorem one_arg {c : Call} {x : Operand} (h : c.args.toList = [x]) : c.args = #[x] := by
  rw [← Array.toArray_toList (xs := c.args), h]
theorem one_type {c : Call} {x : TypeId} (h : c.argTypes.toList = [x]) : c.argTypes = #[x] := by
  rw [← Array.toArray_toList (xs := c.argTypes), h]

theorem run_builtin {a : Act} {dst : Option Tmp} {c : Call} {type : TypeId} {pos : String} {after : Array Edge} {guard : Option (Nat × Bool)} {b : Builtin} (hc : c.callee = .builtin b) :
    ∃ consts, (execOp a.eval ⟨dst, .call c, type, pos, after, guard⟩).run P w = (builtin b c.argTypes type consts (c.args.map a.eval)).run P w := by
  refine ⟨c.args.map fun | .const _ => true | _ => false, ?_⟩
  simp only [execOp, resolve, hc, Sem.run_bind, Sem.run_pure, Result.andThen_ok, invoke]
  rfl

theorem appendP_val {t : TypeId} {xt : Option TypeId} {s x v : PVal} (h : appendP P t xt s x = some (.val v)) : v = s ∧ ∃ e sz bytes z, slOf P t = some (e, sz, bytes) ∧ zeroOf P e = some z ∧ z.length = sz ∧ bytes ≠ 0 ∧ sz ≠ 0 ∧
    ∃ src, (match xt.bind P.underlying with
      | some (.int _) => match intOf? x with
        | some n => if 0 ≤ n ∧ n * bytes ≤ 2 ^ 47 then some (.cells (List.replicate n.toNat (z.map PCell.sc)).flatten n.toNat) else none
        | none => none
      | some (.slice _) => srcOf sz x
      | _ => none) = some src ∧ src.n = 0 ∧
      ((s = .c (.sc (.slice none 0 0))) ∨ (∃ tt els, s = .c (.tr tt sz els)) ∨ ∃ r ver off len, s = .c (.sl r ver off sz len)) := by
  unfold appendP at h
  cases he : slOf P t with
  | none => simp [he] at h
  | some e0 =>
    obtain ⟨e, sz, bytes⟩ := e0
    simp only [he, Option.map_some, Option.getD_some] at h
    cases hz : zeroOf P e with
    | none => simp [hz] at h
    | some z =>
      simp only [hz] at h
      split at h
      · cases h
      · rename_i hno
        simp only [Bool.or_eq_true, decide_eq_true_eq, not_or, Decidable.not_not] at hno
        split at h
        · cases h
        · rename_i src hsrc
          refine ⟨?_, e, sz, bytes, z, rfl, hz, hno.1.1, hno.1.2, hno.2, src, hsrc, ?_⟩
          · split at h <;> (repeat (split at h <;> try (simp only [Option.some.injEq, Actn.val.injEq, reduceCtorEq] at h))) <;> first | exact h.symm | (simp at h; done)
          · split at h
            · split at h
              · exact ⟨by assumption, .inl rfl⟩
              · split at h <;> simp at h
            · split at h
              · cases h
              · rename_i hs
                simp only [Decidable.not_not] at hs
                subst hs
                split at h
                · exact ⟨by assumption, .inr (.inl ⟨_, _, rfl⟩)⟩
                · split at h <;> simp at h
            · split at h
              · cases h
              · rename_i hs
                simp only [Decidable.not_not] at hs
                subst hs
                split at h
                · exact ⟨by assumption, .inr (.inr ⟨_, _, _, _, rfl⟩)⟩
                · split at h <;> simp at h
            · cases h

theorem src_zero {sz : Nat} {x : PVal} {X : Value} (hx : VV w M ρ x X) {src : Src} (h : srcOf sz x = some src) (h0 : src.n = 0) : ∃ a c, X = .slice a 0 c := by
  unfold srcOf at h
  split at h
  · split at h
    · rename_i hn
      exact ⟨none, _, by rw [hx.inv_sc.1, hn]⟩
    · cases h
  · split at h
    · simp only [Option.some.injEq] at h; subst h
      simp only [Src.n] at h0
      cases hx.inv_c with
      | tr _ _ _ a cap xs h1 h2 h3 h4 h5 => exact ⟨a, cap, by rw [h0]⟩
    · cases h
  · split at h
    · simp only [Option.some.injEq] at h; subst h
      simp only [Src.n] at h0
      cases hx.inv_c with
      | sl _ _ _ _ _ b v0 a cap hl hv hcap hh => exact ⟨_, cap, by rw [h0]⟩
    · cases h
  · cases h

/-- Nothing is appended. -/
theorem append_none {t : TypeId} {e : TypeId} {i : TypeInfo} {zv : Value} (hu : P.underlying t = some (.slice e)) (hi : P.info? e = some i) (hz : i.zero = some zv) (ty : TypeId) (ts : Array TypeId) (ht0 : ts[0]? = some t)
    (a : Option Addr) (len cap : Nat) (hc : len ≤ cap) (X : Value)
    (hX : (∃ xt d, ts[1]? = some xt ∧ P.underlying xt = some d ∧ ((∃ k, d = .int k ∧ ∃ k', X = .int k' 0) ∨ (∃ e', d = .slice e' ∧ ∃ a' c', X = .slice a' 0 c')))) :
    (Builtin.append_ ts ty #[.slice a len cap, X]).run P w = .ok (.slice a len cap) w := by
  obtain ⟨xt, d, hxt, hxu, hX⟩ := hX
  have hw0 : IntKind.i64.wrap 0 = 0 := by decide
  rcases hX with ⟨k, rfl, k', rfl⟩ | ⟨e', rfl, a', c', rfl⟩
  · unfold Builtin.append_
    simp [ht0, run_underlying hu, hxt, run_underlying hxu, sizeOf, typeInfo, hi, asInt, asIntOf, hw0, zeroValue, hz, hc]
    cases a <;> simp [storeCells]
  · unfold Builtin.append_
    simp [ht0, run_underlying hu, hxt, run_underlying hxu, sizeOf, typeInfo, hi, Builtin.lenOf, hc]
    cases a' <;> cases a <;> simp [Builtin.firstCells, loadCells, loadCellsFrom, storeCells]

theorem two_eq {c : Call} {ev : Operand → Value} {l : List Operand} (h : c.args.toList = l) : c.args.map ev = (l.map ev).toArray := by
  rw [← h, ← Array.toList_map, Array.toArray_toList]
theorem ty_eq {c : Call} {l : List TypeId} (h : c.argTypes.toList = l) : c.argTypes = l.toArray := by
  rw [← h]

theorem val_sound {ts : List PVal} {a : Act} (hT : VVs w M ρ ts a.tmps.toList) {o : Oper} {v : PVal} (h : actOf P o (evP ts) = some (.val v)) :
    ∃ x, (execOp a.eval o).run P w = .ok (.value x) w ∧ VV w M ρ v x := by
  obtain ⟨dst, op, type, pos, after, guard⟩ := o
  cases op <;> simp only [actOf, reduceCtorEq] at h
  case move x =>
    simp only [Option.some.injEq, Actn.val.injEq] at h; subst h
    exact ⟨_, by simp [execOp], VV.ev hT x⟩
  case assign x =>
    simp only [Option.some.injEq, Actn.val.injEq] at h; subst h
    exact ⟨_, by simp [execOp], VV.ev hT x⟩
  case pick c x y =>
    have hc := VV.ev hT c
    split at h
    · rename_i t ht
      rw [ht] at hc
      simp only [Option.some.injEq, Actn.val.injEq] at h; subst h
      refine ⟨if t then a.eval x else a.eval y, by simp [execOp, hc.inv_sc.1, asBool], ?_⟩
      cases t
      · exact VV.ev hT y
      · exact VV.ev hT x
    · cases h
  case alloc e => cases hz : zeroOf P e <;> simp [hz] at h
  case box e x => cases hz : cellsOf (evP ts x) <;> simp [hz] at h
  case build t parts =>
    split at h
    · rename_i pl z hp hz
      cases hf : fillP (placeAt pl) (z.map .sc) (parts.toList.map fun p => (p.1, evP ts p.2)) with
      | none => simp [hf] at h
      | some cs =>
        simp only [hf, Option.map_some, Option.some.injEq, Actn.val.injEq] at h; subst h
        obtain ⟨X, hX, hXc⟩ := build_sound (P := P) hT hp hz hf
        exact ⟨_, by simp only [execOp, Sem.run_bind, hX, Result.andThen_ok, Sem.run_pure], .agg _ _ hXc⟩
    · cases h
  case buildSlice t len parts =>
    split at h
    · split at h
      · split at h
        · cases h
        · rename_i hz _
          revert h
          generalize fillP _ _ _ = r
          intro h
          cases r <;> simp at h
      · cases h
    · cases h
  case load t x =>
    split at h
    · rename_i k hk
      have hx := VV.ev hT x
      split at h
      · cases h
      · rename_i cs off heq
        rw [heq] at hx
        cases hp : partP cs off k with
        | none => simp [hp] at h
        | some v' =>
          simp only [hp, Option.map_some, Option.some.injEq, Actn.val.injEq] at h; subst h
          obtain ⟨V, h1, h2⟩ := loadTp_sound (P := P) hx.inv_c hk hp
          exact ⟨V, by simp only [execOp, Sem.run_bind, h1, Result.andThen_ok, Sem.run_pure], h2⟩
      · cases h
    · cases h
  case store t x y =>
    split at h
    · split at h <;> cases h
    · cases h
  case nilCheck x =>
    have hx := VV.ev hT x
    split at h
    all_goals try (cases h; done)
    all_goals
      rename_i heq
      rw [heq] at hx
      simp only [Option.some.injEq, Actn.val.injEq] at h; subst h
      refine ⟨a.eval x, ?_, hx⟩
      generalize hX : a.eval x = X at hx
      simp only [execOp, hX]
      cases hx.inv_c
      rfl
  case binOp op t x y yt =>
    cases hb : binP P op t (evP ts x) (evP ts y) with
    | none => simp [hb] at h
    | some v' =>
      simp only [hb, Option.map_some, Option.some.injEq, Actn.val.injEq] at h; subst h
      obtain ⟨V, h1, h2⟩ := binP_sound (P := P) (VV.ev hT x) (VV.ev hT y) hb x y
      refine ⟨V, ?_, h2⟩
      simp only [execOp]
      rw [Sem.run_bind, h1]
      rfl
  case unOp op t x =>
    cases hb : unP op (evP ts x) with
    | none => simp [hb] at h
    | some v' =>
      simp only [hb, Option.map_some, Option.some.injEq, Actn.val.injEq] at h; subst h
      obtain ⟨V, h1, h2⟩ := unP_sound (P := P) (w := w) (VV.ev hT x) hb
      exact ⟨V, by simp only [execOp, Sem.run_bind, h1, Result.andThen_ok, Sem.run_pure], h2⟩
  case convert s d x =>
    obtain ⟨V, h1, h2⟩ := convP_sound (P := P) (VV.ev hT x) h
    exact ⟨V, by simp only [execOp, Sem.run_bind, h1, Result.andThen_ok, Sem.run_pure], h2⟩
  case makeInterface t x =>
    split at h
    · cases h
    · rename_i d hd hu
      have hx := VV.ev hT x
      split at h
      · rename_i v' heq
        rw [heq] at hx
        simp only [Option.some.injEq, Actn.val.injEq] at h; subst h
        refine ⟨.iface t v', ?_, .c _ _ (.sc _ rfl)⟩
        have : (Instr.makeInterface t (a.eval x)).run P w = .ok (.iface t v') w := by
          rw [hx.inv_sc.1]
          unfold Instr.makeInterface
          simp only [Sem.run_bind, run_underlying hu, Result.andThen_ok]
          cases d <;> first | rfl | (exact absurd rfl (hd _))
        simp only [execOp, Sem.run_bind, this, Result.andThen_ok, Sem.run_pure]
      · cases h
    · cases h
  case makeFunc fn first caps =>
    split at h
    · rename_i f
      split at h
      · rename_i hf
        cases hc : capCells (caps.toList.map (evP ts)) with
        | none => simp [hc] at h
        | some cs =>
          simp only [hc, Option.map_some, Option.some.injEq, Actn.val.injEq] at h; subst h
          have hcs := capCells_sound _ _ cs (VVs.map_ev hT caps.toList) hc
          refine ⟨.func (.func f) #[] (caps.toList.map a.eval).toArray, ?_, .c _ _ (.fn f cs _ hcs.1 hcs.2)⟩
          have hfe : first = #[] := by simpa using hf
          subst hfe
          have hca : caps.map a.eval = (caps.toList.map a.eval).toArray := by rw [← Array.toList_map, Array.toArray_toList]
          simp [execOp, Instr.makeFunc, hca]
      · cases h
    · cases h
  case slice t x lo hi mx =>
    split at h
    · rename_i l hh m h1 h2 h3
      cases hs : sliceP P t (evP ts x) l hh m with
      | none => simp [hs] at h
      | some v' =>
        simp only [hs, Option.map_some, Option.some.injEq, Actn.val.injEq] at h; subst h
        obtain ⟨V, q1, q2⟩ := sliceP_sound (P := P) (VV.ev hT x) hs (bnd_sound hT h1) (bnd_sound hT h2) (bnd_sound hT h3)
        exact ⟨V, by simp only [execOp, Sem.run_bind, q1, Result.andThen_ok, Sem.run_pure], q2⟩
    · cases h
  case fieldAddr s x f =>
    have hx := VV.ev hT x
    split at h
    · rename_i off r ver o hf heq
      rw [heq] at hx
      simp only [Option.some.injEq, Actn.val.injEq] at h; subst h
      generalize hX : a.eval x = X at hx
      cases hx.inv_c with
      | ptr _ _ _ b v0 ad hl hv hh =>
        exact ⟨.pointer (some (ad.add off)), by simp only [execOp, hX, Sem.run_bind, fieldAddr_sound hf, Result.andThen_ok, Sem.run_pure], .c _ _ (.ptr r ver _ b v0 _ hl hv fun e => by rw [hh e, add_at])⟩
    · rename_i off cs o hf heq
      rw [heq] at hx
      simp only [Option.some.injEq, Actn.val.injEq] at h; subst h
      generalize hX : a.eval x = X at hx
      cases hx.inv_c with
      | tp _ _ b o' xs hb hw hc =>
        refine ⟨.pointer (some ((⟨b, o' + o, none⟩ : Addr).add off)), by simp only [execOp, hX, Sem.run_bind, fieldAddr_sound hf, Result.andThen_ok, Sem.run_pure], .c _ _ ?_⟩
        rw [add_at, Nat.add_assoc]
        exact .tp cs _ b o' xs hb hw hc
    · cases h
  case field t x f =>
    have hx := VV.ev hT x
    split at h
    · rename_i off k cs hf heq
      rw [heq] at hx
      obtain ⟨X, hX, hXc⟩ := hx.inv_agg
      cases hp : partP cs off k with
      | none => simp [hp] at h
      | some v' =>
        simp only [hp, Option.map_some, Option.some.injEq, Actn.val.injEq] at h; subst h
        obtain ⟨V, h1, h2⟩ := field_sound (P := P) hf hXc hp
        exact ⟨V, by simp only [execOp, hX, Sem.run_bind, h1, Result.andThen_ok, Sem.run_pure], h2⟩
    · cases h
  case indexAddr t x i =>
    cases hi : indexAddrP P t (evP ts x) (evP ts i) with
    | none => simp [hi] at h
    | some v' =>
      simp only [hi, Option.map_some, Option.some.injEq, Actn.val.injEq] at h; subst h
      obtain ⟨V, h1, h2⟩ := indexAddrP_sound (P := P) (VV.ev hT x) (VV.ev hT i) hi
      exact ⟨V, by simp only [execOp, Sem.run_bind, h1, Result.andThen_ok, Sem.run_pure], h2⟩
  case index t x i =>
    have hx := VV.ev hT x
    have hi := VV.ev hT i
    split at h
    · rename_i n sz n' e cs j ha hu heq hj
      rw [heq] at hx
      obtain ⟨X, hX, hXc⟩ := hx.inv_agg
      obtain ⟨k, hk⟩ := intOf_sound hi hj
      split at h
      · rename_i kk hkk
        split at h
        · rename_i hr
          cases hp : partP cs (j.toNat * sz) kk with
          | none => simp [hp] at h
          | some v' =>
            simp only [hp, Option.map_some, Option.some.injEq, Actn.val.injEq] at h; subst h
            obtain ⟨V, h1, h2⟩ := partP_sound (P := P) hXc hkk hp
            obtain ⟨e', ie, hu', hie, hs⟩ := arrOf_spec ha
            rw [hu] at hu'
            simp only [Option.some.injEq, TypeDesc.array.injEq] at hu'
            obtain ⟨rfl, rfl⟩ := hu'
            have hso : (sizeOf e).run P w = .ok sz w := by simp [sizeOf, typeInfo, hie, hs]
            refine ⟨V, ?_, h2⟩
            simp [execOp, hX, hk, Instr.index, asIntOf, run_underlying hu, hr, hso, h1]
        · cases h
      · cases h
    · rename_i s j hu heq hj
      rw [heq] at hx
      obtain ⟨k, hk⟩ := intOf_sound hi hj
      split at h
      · rename_i h0
        split at h
        · rename_i b hb
          simp only [Option.some.injEq, Actn.val.injEq] at h; subst h
          refine ⟨.int .u8 b.toNat, ?_, .c _ _ (.sc _ rfl)⟩
          simp [execOp, hx.inv_sc.1, hk, Instr.index, asIntOf, run_underlying hu, h0, hb]
        · cases h
      · cases h
    · cases h
  case extract t i =>
    have hx := VV.ev hT t
    split at h
    · rename_i vs heq
      rw [heq] at hx
      obtain ⟨X, hX, hXl, hXc⟩ := hx.inv_tup
      cases hv : vs[i]? with
      | none => simp [hv] at h
      | some v' =>
        simp only [hv, Option.map_some, Option.some.injEq, Actn.val.injEq] at h; subst h
        have hlt : i < X.length := by rw [hXl]; exact (List.getElem?_eq_some_iff.1 hv).1
        refine ⟨X[i], ?_, by simpa [List.getD, hlt] using hXc i _ hv⟩
        simp [execOp, hX, Instr.extract, hlt]
    · cases h
  case call c =>
    split at h
    · split at h <;> cases h
    · -- len
      rename_i hcal
      obtain ⟨consts, hrun⟩ := run_builtin (P := P) (w := w) (a := a) (dst := dst) (type := type) (pos := pos) (after := after) (guard := guard) hcal
      split at h
      · rename_i x t hargs htys
        have hx := VV.ev hT x
        rw [hrun, two_eq hargs, ty_eq htys]
        split at h
        · rename_i e hu
          cases hl : lenP (evP ts x) with
          | none => simp [hl] at h
          | some n =>
            simp only [hl, Option.map_some, Option.some.injEq, Actn.val.injEq] at h; subst h
            obtain ⟨ad, l, cp, hX, rfl⟩ := lenP_sound hx hl
            exact ⟨.int .i64 l, by simp [builtin, Builtin.len_, run_underlying hu, hX, goInt], .c _ _ (.sc _ rfl)⟩
        · rename_i hu
          split at h
          · rename_i s heq
            rw [heq] at hx
            simp only [Option.some.injEq, Actn.val.injEq] at h; subst h
            exact ⟨.int .i64 s.size, by simp [builtin, Builtin.len_, run_underlying hu, hx.inv_sc.1, goInt], .c _ _ (.sc _ rfl)⟩
          · cases h
        · cases h
      · cases h
    · -- cap
      rename_i hcal
      obtain ⟨consts, hrun⟩ := run_builtin (P := P) (w := w) (a := a) (dst := dst) (type := type) (pos := pos) (after := after) (guard := guard) hcal
      split at h
      · rename_i x t hargs htys
        have hx := VV.ev hT x
        rw [hrun, two_eq hargs, ty_eq htys]
        split at h
        · rename_i e n k hu heq
          rw [heq] at hx
          simp only [Option.some.injEq, Actn.val.injEq] at h; subst h
          exact ⟨.int .i64 k, by simp [builtin, Builtin.cap_, run_underlying hu, hx.inv_sc.1, goInt], .c _ _ (.sc _ rfl)⟩
        · rename_i e sz els hu heq
          rw [heq] at hx
          simp only [Option.some.injEq, Actn.val.injEq] at h; subst h
          generalize hX : a.eval x = X at hx
          cases hx.inv_c with
          | tr _ _ _ ad cap xs h1 h2 h3 h4 h5 =>
            refine ⟨.int .i64 els.length, ?_, .c _ _ (.sc _ rfl)⟩
            simp [builtin, Builtin.cap_, run_underlying hu, hX, goInt, h2 rfl]
        · cases h
      · cases h
    · -- max
      rename_i hcal
      obtain ⟨consts, hrun⟩ := run_builtin (P := P) (w := w) (a := a) (dst := dst) (type := type) (pos := pos) (after := after) (guard := guard) hcal
      split at h
      · rename_i k x r heq
        cases hm : maxInt k x r with
        | none => simp [hm] at h
        | some v' =>
          simp only [hm, Option.map_some, Option.some.injEq, Actn.val.injEq] at h; subst h
          have hv := VVs.map_ev hT c.args.toList
          rw [heq] at hv
          rw [hrun, two_eq rfl]
          revert hv
          generalize c.args.toList.map a.eval = X
          intro hv
          obtain ⟨hl, hc⟩ := hv
          match X, hl with
          | Y :: X, hl =>
            have hy := hc 0 _ rfl
            simp only [List.getD_cons_zero] at hy
            obtain ⟨V, h1, h2⟩ := maxInt_sound (P := P) k r X x v' ⟨by simpa using hl, fun j v' hj => by simpa using hc (j + 1) v' (by simpa using hj)⟩ hm
            exact ⟨V, by simp [builtin, Builtin.max_, hy.inv_sc.1, h1], h2⟩
      · cases h
    · -- min
      rename_i hcal
      obtain ⟨consts, hrun⟩ := run_builtin (P := P) (w := w) (a := a) (dst := dst) (type := type) (pos := pos) (after := after) (guard := guard) hcal
      split at h
      · rename_i k x r heq
        cases hm : minInt k x r with
        | none => simp [hm] at h
        | some v' =>
          simp only [hm, Option.map_some, Option.some.injEq, Actn.val.injEq] at h; subst h
          have hv := VVs.map_ev hT c.args.toList
          rw [heq] at hv
          rw [hrun, two_eq rfl]
          revert hv
          generalize c.args.toList.map a.eval = X
          intro hv
          obtain ⟨hl, hc⟩ := hv
          match X, hl with
          | Y :: X, hl =>
            have hy := hc 0 _ rfl
            simp only [List.getD_cons_zero] at hy
            obtain ⟨V, h1, h2⟩ := minInt_sound (P := P) k r X x v' ⟨by simpa using hl, fun j v' hj => by simpa using hc (j + 1) v' (by simpa using hj)⟩ hm
            exact ⟨V, by simp [builtin, Builtin.min_, hy.inv_sc.1, h1], h2⟩
      · cases h
    · -- append
      rename_i hcal
      obtain ⟨consts, hrun⟩ := run_builtin (P := P) (w := w) (a := a) (dst := dst) (type := type) (pos := pos) (after := after) (guard := guard) hcal
      split at h
      · rename_i s x t hargs ht0
        have hs := VV.ev hT s
        have hx := VV.ev hT x
        rw [hrun, two_eq hargs]
        obtain ⟨rfl, e, sz, bytes, z, he, hz, _, _, _, src, hsrc, hn0, hcase⟩ := appendP_val h
        obtain ⟨hu, i, hi, _, _⟩ := slOf_spec he
        obtain ⟨i', zv, hi', hzv, _, _⟩ := zeroOf_spec hz
        rw [hi] at hi'
        simp only [Option.some.injEq] at hi'
        subst hi'
        have hX : (∃ xt d, c.argTypes[1]? = some xt ∧ P.underlying xt = some d ∧ ((∃ k, d = .int k ∧ ∃ k', a.eval x = .int k' 0) ∨ (∃ e', d = .slice e' ∧ ∃ a' c', a.eval x = .slice a' 0 c'))) := by
          cases hxt : c.argTypes[1]? with
          | none => simp [hxt] at hsrc
          | some xt =>
            simp only [hxt, Option.bind_some] at hsrc
            cases hxu : P.underlying xt with
            | none => simp [hxu] at hsrc
            | some d =>
              simp only [hxu] at hsrc
              refine ⟨xt, d, rfl, hxu, ?_⟩
              cases d <;> simp only [reduceCtorEq] at hsrc
              · rename_i k
                split at hsrc
                · rename_i n hn
                  obtain ⟨k', hk'⟩ := intOf_sound hx hn
                  split at hsrc
                  · rename_i hb
                    simp only [Option.some.injEq] at hsrc; subst hsrc
                    simp only [Src.n] at hn0
                    have : n = 0 := by omega
                    subst this
                    exact .inl ⟨k, rfl, k', hk'⟩
                  · cases hsrc
                · cases hsrc
              · rename_i e'
                obtain ⟨a', c', hX⟩ := src_zero hx hsrc hn0
                exact .inr ⟨e', rfl, a', c', hX⟩
        have hsl : ∃ ad len cap, a.eval s = .slice ad len cap ∧ len ≤ cap := by
          rcases hcase with hcase | ⟨tt, els, hcase⟩ | ⟨r, ver, off, len, hcase⟩
          · rw [hcase] at hs; exact ⟨none, 0, 0, hs.inv_sc.1, Nat.le_refl _⟩
          · rw [hcase] at hs
            generalize hS : a.eval s = S at hs
            cases hs.inv_c with
            | tr _ _ _ ad cap xs h1 h2 h3 h4 h5 => exact ⟨ad, _, cap, rfl, h1⟩
          · rw [hcase] at hs
            generalize hS : a.eval s = S at hs
            cases hs.inv_c with
            | sl _ _ _ _ _ b v0 ad cap hl hv hcap hh => exact ⟨_, _, cap, rfl, hcap⟩
        obtain ⟨ad, len, cap, hS, hcap⟩ := hsl
        refine ⟨a.eval s, ?_, hs⟩
        have := append_none (P := P) (w := w) hu hi hzv type c.argTypes ht0 ad len cap hcap (a.eval x) hX
        simp only [List.map_cons, List.map_nil, builtin, hS, Sem.run_bind, this, Result.andThen_ok, Sem.run_pure]
      · cases h
    · split at h
      · split at h <;> cases h
      · cases h
    · cases h
  case panic x =>
    split at h <;> cases h

end
end Go.PM
