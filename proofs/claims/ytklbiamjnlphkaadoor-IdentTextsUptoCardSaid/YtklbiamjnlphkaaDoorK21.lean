/-
  Code; a function's body; calls.
-/
import Derived.Test.YtklbiamjnlphkaaDoorK20
import Derived.LoopN
set_option linter.unusedVariables false
set_option linter.unusedSimpArgs false
namespace Go.PM
open Go

section
variable (P : Program) (Γ : Ctx) (sv : Tmp → Option Nat)

/-- Behind it comes that. -/
def thenK (f : St → Prop) (K : PEx → St → Prop) : PEx → St → Prop
  | .normal, s => f s
  | e, s => K e s

def blockK (id : Nat) (K : PEx → St → Prop) : PEx → St → Prop
  | .exit i, s => if i = id then K .normal s else K (.exit i) s
  | e, s => K e s

def roundsP (f : St → (PEx → St → Prop) → Prop) (K : PEx → St → Prop) : Nat → St → Prop
  | 0, _ => False
  | n + 1, s => f s (thenK (roundsP f K n) K)

/-- A region's plan, with what is asked of it. -/
def drawFine (ops : Array Oper) : Bool :=
  let l := Array.replicate ops.size false
  drawOk ops && topc ops (planOf ops ops.size l) l && planOk ops (planOf ops ops.size l) l

def pwp : Code → St → (PEx → St → Prop) → Prop
  | .skip, s, K => K .normal s
  | .region _ ops draw, s, K => if draw then drawFine ops = true ∧ planRun P Γ sv ops (planOf ops ops.size (Array.replicate ops.size false)) [] s K else seqOps P Γ sv ops ops.toList s K
  | .seq a b, s, K => pwp a s (thenK (fun s' => pwp b s' K) K)
  | .cond c x y, s, K => match evP s.tmps c with
    | .c (.sc (.bool b)) => (b = true → pwp x s K) ∧ (b = false → pwp y s K)
    | _ => False
  | .block id c, s, K => pwp c s (blockK id K)
  | .loop c, s, K => ∃ n, roundsP (pwp c) K n s
  | .exit id, s, K => K (.exit id) s
  | .ret, s, K => K .ret s
  | _, _, _ => False
end

section
variable {P : Program} {Γ : Ctx} {sv : Tmp → Option Nat} {M0 : Own}

theorem pwp_sound (hΓ : CtxOk P Γ) (hA : Known P M0.fix) (hm : P.follows .mixedOrders = true) : ∀ (c : Code) (s : St) (K : PEx → St → Prop) (Q : Exit → Act → World → Prop) (w : World) (ρ : Place) (a : Act),
    pwp P Γ sv c s K → Rl w M0 ρ s.tmps s.heap a → QOk w M0 ρ K Q → c.wp P Q a w
  | .skip, s, K, Q, w, ρ, a, h, hR, hq => wp_skip (hq .normal s a w ρ h (Tr.refl _ _) hR)
  | .region id ops draw, s, K, Q, w, ρ, a, h, hR, hq => by
    unfold pwp at h
    cases draw with
    | false => exact wp_region_list (seq_sound hΓ hA _ s w ρ a h hR hq)
    | true =>
      simp only [if_true, drawFine, Bool.and_eq_true] at h
      exact draw_sound hΓ hA hm h.1.1.1 h.1.1.2 h.1.2 h.2 hR hq
  | .seq x y, s, K, Q, w, ρ, a, h, hR, hq => by
    unfold pwp at h
    refine wp_seq (pwp_sound hΓ hA hm x s _ _ w ρ a h hR ?_)
    intro e s' a' w' ρ' hk t hR'
    cases e with
    | normal => exact pwp_sound hΓ hA hm y s' K Q w' ρ' a' hk hR' (hq.tr t)
    | exit id => exact hq (.exit id) s' a' w' ρ' hk t hR'
    | ret => exact hq .ret s' a' w' ρ' hk t hR'
    | pan v => exact hq (.pan v) s' a' w' ρ' hk t hR'
  | .cond c x y, s, K, Q, w, ρ, a, h, hR, hq => by
    unfold pwp at h
    split at h
    · rename_i b heq
      have hv := VV.ev hR.tmps c
      rw [heq] at hv
      refine wp_cond hv.inv_sc.1 ?_
      cases b with
      | true => exact pwp_sound hΓ hA hm x s K Q w ρ a (h.1 rfl) hR hq
      | false => exact pwp_sound hΓ hA hm y s K Q w ρ a (h.2 rfl) hR hq
    · exact h.elim
  | .block id c, s, K, Q, w, ρ, a, h, hR, hq => by
    unfold pwp at h
    refine wp_block (pwp_sound hΓ hA hm c s _ _ w ρ a h hR ?_)
    intro e s' a' w' ρ' hk t hR'
    cases e with
    | exit i =>
      simp only [blockK] at hk
      simp only [PEx.exit', Exit.inBlock]
      split
      · rename_i e; rw [if_pos e] at hk; exact hq .normal s' a' w' ρ' hk t hR'
      · rename_i e; rw [if_neg e] at hk; exact hq (.exit i) s' a' w' ρ' hk t hR'
    | normal => exact hq .normal s' a' w' ρ' hk t hR'
    | ret => exact hq .ret s' a' w' ρ' hk t hR'
    | pan v => exact hq (.pan v) s' a' w' ρ' hk t hR'
  | .loop c, s, K, Q, w, ρ, a, h, hR, hq => by
    unfold pwp at h
    obtain ⟨n, h⟩ := h
    refine wp_loop_rounds n ?_
    have key : ∀ (n : Nat) (s : St) (w : World) (ρ : Place) (a : Act), roundsP (pwp P Γ sv c) K n s → Rl w M0 ρ s.tmps s.heap a → QOk w M0 ρ K Q → Code.rounds P c Q n a w := by
      intro n
      induction n with
      | zero => intro s w ρ a h _ _; exact h.elim
      | succ n ih =>
        intro s w ρ a h hR hq
        rw [rounds_succ]
        unfold roundsP at h
        refine pwp_sound hΓ hA hm c s _ _ w ρ a h hR ?_
        intro e s' a' w' ρ' hk t hR'
        cases e with
        | normal => exact ih s' w' ρ' a' hk hR' (hq.tr t)
        | exit id => exact hq (.exit id) s' a' w' ρ' hk t hR'
        | ret => exact hq .ret s' a' w' ρ' hk t hR'
        | pan v => exact hq (.pan v) s' a' w' ρ' hk t hR'
    exact key n s w ρ a h hR hq
  | .exit id, s, K, Q, w, ρ, a, h, hR, hq => wp_exit (hq (.exit id) s a w ρ h (Tr.refl _ _) hR)
  | .ret, s, K, Q, w, ρ, a, h, hR, hq => wp_ret (hq .ret s a w ρ h (Tr.refl _ _) hR)
  | .rangeFunc .., s, K, Q, w, ρ, a, h, hR, hq => by unfold pwp at h; exact h.elim
  | .scope _, s, K, Q, w, ρ, a, h, hR, hq => by unfold pwp at h; exact h.elim
  | .label _, s, K, Q, w, ρ, a, h, hR, hq => by unfold pwp at h; exact h.elim
  | .goto _, s, K, Q, w, ρ, a, h, hR, hq => by unfold pwp at h; exact h.elim
  | .refuse _, s, K, Q, w, ρ, a, h, hR, hq => by unfold pwp at h; exact h.elim
end

/-! ### Results -/
section
variable (P : Program)

def oneP (ts : List PVal) (H : Heap) : ResultVar → Option PVal
  | .tmp t => some (ts.getD t .und)
  | .cell a t => match aggN P t with
    | none => none
    | some k => match ts.getD a .und with
      | .c (.ptr r ver off) => (rowAt H r ver).bind fun R => loadR R off (lkOf k)
      | .c (.tp cs off) => partP cs off k
      | _ => none

def resP (fn : Func) (ts : List PVal) (H : Heap) : Option PVal :=
  match fn.results.toList.map (oneP P ts H) with
  | [] => some (.tup [])
  | [x] => x
  | [some x, some y] => some (.tup [x, y])
  | [some x, some y, some z] => some (.tup [x, y, z])
  | [some x, some y, some z, some u] => some (.tup [x, y, z, u])
  | [some x, some y, some z, some u, some v] => some (.tup [x, y, z, u, v])
  | _ => none

/-- A function's end. -/
def finP (fn : Func) (o : Out) (H' : Heap) (e : PEx) (s : St) : Prop :=
  s.heap = H' ∧ match e with
  | .normal => ∃ v, o = .ret v ∧ resP P fn s.tmps s.heap = some v
  | .ret => ∃ v, o = .ret v ∧ resP P fn s.tmps s.heap = some v
  | .pan x => o = .pan x
  | .exit _ => False
end

section
variable {P : Program} {w : World} {M0 : Own} {ρ : Place}

def oneM (tmps : Array Value) : ResultVar → Sem Value
  | .tmp t => pure (tmps.getD t undef)
  | .cell a t => do loadVar t (← asAddr (tmps.getD a undef))

theorem one_sound {ts : List PVal} {H : Heap} {a : Act} (hR : Rl w M0 ρ ts H a) {rv : ResultVar} {v : PVal} (h : oneP P ts H rv = some v) :
    ∃ x, (oneM a.tmps rv).run P w = .ok x w ∧ VV w (Mu M0 ρ) ρ v x := by
  have hget : ∀ t, a.tmps.getD t undef = a.tmps.toList.getD t undef := fun t => by simp [Array.getD_eq_getD_getElem?, List.getD]
  cases rv with
  | tmp t =>
    simp only [oneP, Option.some.injEq] at h; subst h
    refine ⟨a.tmps.getD t undef, rfl, ?_⟩
    have := VV.ev hR.tmps (.tmp t)
    simp only [evP, Act.eval, hget] at this ⊢
    exact this
  | cell p t =>
    simp only [oneP] at h
    split at h
    · cases h
    · rename_i k hk
      have hp := hR.tmps.get p
      split at h
      · rename_i r ver off heq
        rw [heq] at hp
        cases hr : rowAt H r ver with
        | none => simp [hr] at h
        | some R =>
          simp only [hr, Option.bind_some] at h
          obtain ⟨b, xs, ys, q1, q2, q3, q4, q5⟩ := hR.heap.place hr
          have hX := hp.inv_c.place q1 q5
          obtain ⟨x', h1, h2⟩ := load_row (P := P) q2 q3 hk rfl h
          refine ⟨x', ?_, h2⟩
          simp only [oneM, hget, hX, asAddr, Sem.run_bind, Sem.run_pure, Result.andThen_ok, h1]
      · rename_i cs off heq
        rw [heq] at hp
        obtain ⟨b, o, hX⟩ : ∃ b o, a.tmps.toList.getD p undef = .pointer (some ⟨b, o, none⟩) := by
          generalize a.tmps.toList.getD p undef = X at hp
          have := hp.inv_c
          cases this with
          | tp _ _ b o xs => exact ⟨_, _, rfl⟩
        obtain ⟨V, h1, h2⟩ := loadTp_sound (P := P) hp.inv_c hk h
        refine ⟨V, ?_, h2⟩
        rw [hX] at h1
        simp only [Instr.loadAt, Instr.sureAddr, Sem.run_bind, Sem.run_pure, Result.andThen_ok] at h1
        simp only [oneM, hget, hX, asAddr, Sem.run_bind, Sem.run_pure, Result.andThen_ok, h1]
      · cases h

theorem tupL {M : Nat → Prop} {vs : List PVal} {xs : List Value} (h : VVs w M ρ vs xs) : VV w M ρ (.tup vs) (.tuple xs.toArray) := .tup vs xs h.1 h.2

theorem VVs.nil {M : Nat → Prop} : VVs w M ρ [] [] := ⟨rfl, fun j v h => by simp at h⟩

theorem VVs.cons {M : Nat → Prop} {v : PVal} {x : Value} {vs : List PVal} {xs : List Value} (h : VV w M ρ v x) (k : VVs w M ρ vs xs) : VVs w M ρ (v :: vs) (x :: xs) := by
  refine ⟨by simp [k.1], fun j v' hj => ?_⟩
  cases j with
  | zero => simp at hj; subst hj; simpa using h
  | succ j => simp at hj; simpa using k.2 j v' hj

theorem results_eq (fn : Func) (tmps : Array Value) : results fn tmps = (do
    let vs ← fn.results.mapM (oneM tmps)
    pure (if h : vs.size = 1 then vs[0] else .tuple vs)) := by
  unfold results
  congr 1

theorem res_sound {ts : List PVal} {H : Heap} {a : Act} (hR : Rl w M0 ρ ts H a) {fn : Func} {v : PVal} (h : resP P fn ts H = some v) :
    ∃ x, (results fn a.tmps).run P w = .ok x w ∧ VV w (Mu M0 ρ) ρ v x := by
  unfold resP at h
  rw [results_eq]
  obtain ⟨l, hl⟩ : ∃ l, fn.results = List.toArray l := ⟨fn.results.toList, by simp⟩
  rw [hl] at h ⊢
  simp only [List.mapM_toArray]
  rcases l with _ | ⟨r1, _ | ⟨r2, _ | ⟨r3, _ | ⟨r4, _ | ⟨r5, _ | ⟨r6, l⟩⟩⟩⟩⟩⟩
  · simp only [List.map_nil, Option.some.injEq] at h; subst h
    exact ⟨.tuple #[], by simp, tupL ((VVs.nil))⟩
  · simp only [List.map_cons, List.map_nil] at h
    obtain ⟨x, h1, k1⟩ := one_sound (P := P) hR h
    exact ⟨x, by simp [h1], k1⟩
  · simp only [List.map_cons, List.map_nil] at h
    split at h <;> try (cases h; done)
    all_goals try (rename_i heq; simp at heq; done)
    rename_i heq
    simp only [List.cons.injEq, and_true] at heq
    simp only [Option.some.injEq] at h; subst h
    obtain ⟨x, h1, k1⟩ := one_sound (P := P) hR heq.1
    obtain ⟨y, h2, k2⟩ := one_sound (P := P) hR heq.2
    exact ⟨.tuple #[x, y], by simp [h1, h2], tupL ((((VVs.nil).cons k2).cons k1))⟩
  · simp only [List.map_cons, List.map_nil] at h
    split at h <;> try (cases h; done)
    all_goals try (rename_i heq; simp at heq; done)
    rename_i heq
    simp only [List.cons.injEq, and_true] at heq
    simp only [Option.some.injEq] at h; subst h
    obtain ⟨x, h1, k1⟩ := one_sound (P := P) hR heq.1
    obtain ⟨y, h2, k2⟩ := one_sound (P := P) hR heq.2.1
    obtain ⟨z, h3, k3⟩ := one_sound (P := P) hR heq.2.2
    exact ⟨.tuple #[x, y, z], by simp [h1, h2, h3], tupL (((((VVs.nil).cons k3).cons k2).cons k1))⟩
  · simp only [List.map_cons, List.map_nil] at h
    split at h <;> try (cases h; done)
    all_goals try (rename_i heq; simp at heq; done)
    rename_i heq
    simp only [List.cons.injEq, and_true] at heq
    simp only [Option.some.injEq] at h; subst h
    obtain ⟨x, h1, k1⟩ := one_sound (P := P) hR heq.1
    obtain ⟨y, h2, k2⟩ := one_sound (P := P) hR heq.2.1
    obtain ⟨z, h3, k3⟩ := one_sound (P := P) hR heq.2.2.1
    obtain ⟨u, h4, k4⟩ := one_sound (P := P) hR heq.2.2.2
    exact ⟨.tuple #[x, y, z, u], by simp [h1, h2, h3, h4], tupL ((((((VVs.nil).cons k4).cons k3).cons k2).cons k1))⟩
  · simp only [List.map_cons, List.map_nil] at h
    split at h <;> try (cases h; done)
    all_goals try (rename_i heq; simp at heq; done)
    rename_i heq
    simp only [List.cons.injEq, and_true] at heq
    simp only [Option.some.injEq] at h; subst h
    obtain ⟨x, h1, k1⟩ := one_sound (P := P) hR heq.1
    obtain ⟨y, h2, k2⟩ := one_sound (P := P) hR heq.2.1
    obtain ⟨z, h3, k3⟩ := one_sound (P := P) hR heq.2.2.1
    obtain ⟨u, h4, k4⟩ := one_sound (P := P) hR heq.2.2.2.1
    obtain ⟨u5, h5, k5⟩ := one_sound (P := P) hR heq.2.2.2.2
    exact ⟨.tuple #[x, y, z, u, u5], by simp [h1, h2, h3, h4, h5], tupL (((((((VVs.nil).cons k5).cons k4).cons k3).cons k2).cons k1))⟩
  · simp at h

theorem HR.reserve {H : Heap} (h : HR w M0 ρ H) (n : Nat) : HR w M0 ρ (H ++ List.replicate n none) where
  m0 := h.m0
  dom r b v hr := by
    obtain ⟨R, hR⟩ := h.dom r b v hr
    exact ⟨R, by rw [List.getElem?_append_left (List.getElem?_eq_some_iff.1 hR).1]; exact hR⟩
  row r R hR := by
    by_cases hlt : r < H.length
    · rw [List.getElem?_append_left hlt] at hR
      exact h.row r R hR
    · rw [List.getElem?_append_right (by omega), List.getElem?_replicate] at hR
      split at hR <;> simp at hR
  inj := h.inj

/-- A FUNCTION, FROM ITS BODY. -/
theorem sim_of {Γ : Ctx} (hΓ : CtxOk P Γ) {f : FuncId} {fn : Func} {c : Code} (n : Nat) (sv : Tmp → Option Nat) (hm : P.follows .mixedOrders = true) (hf : P.funcs[f]? = some fn) (hb : fn.body = some c) (he : enters P f = true)
    {args : List PVal} {H : Heap} {wr : List Nat} {o : Out} {H' : Heap} (hlen : H.length ≤ H'.length) (hsame : ∀ r, r < H.length → r ∉ wr → H'[r]? = H[r]?)
    (h : pwp P Γ sv c ⟨args ++ List.replicate (fn.ntmps - args.length) .und, H ++ List.replicate n none, []⟩ (finP P fn o H')) : SimCall P f args H wr o H' where
  enters := he
  len := hlen
  same := hsame
  run w M0 ρ xs hA hH hxs := by
    refine calls_of_wp hf hb (pwp_sound hΓ hA hm c _ _ _ w ρ _ h ⟨?_, hH.reserve n, rfl⟩ ?_)
    · simp only [List.size_toArray, Array.toList_append, Array.toList_replicate]
      rw [hxs.1]
      refine hxs.append ⟨by simp, fun j v hj => ?_⟩
      rw [List.getElem?_replicate] at hj
      split at hj
      · rename_i hlt
        simp only [Option.some.injEq] at hj; subst hj
        have : (List.replicate (fn.ntmps - args.length) undef).getD j undef = undef := by
          simp [List.getD, List.getElem?_replicate, hlt]
        rw [this]; exact .und
      · cases hj
    · rintro e s' a' w' ρ' ⟨hheap, hk⟩ t hR'
      have hfin : ∀ v, o = .ret v → resP P fn s'.tmps s'.heap = some v → a'.defers = [] ∧ ∃ x, (results fn a'.tmps).run P w' = .ok x w' ∧ CallPost w M0 ρ o H' (.returned x) w' := fun v ho hv => by
        obtain ⟨x, h1, h2⟩ := res_sound (P := P) hR' hv
        subst ho
        exact ⟨hR'.defers, x, h1, ρ', t, hheap ▸ hR'.heap, x, rfl, h2⟩
      cases e with
      | normal => obtain ⟨v, ho, hv⟩ := hk; exact hfin v ho hv
      | ret => obtain ⟨v, ho, hv⟩ := hk; exact hfin v ho hv
      | pan x =>
        dsimp only at hk; subst hk
        exact ⟨hR'.defers, ρ', t, hheap ▸ hR'.heap, rfl⟩
      | exit id => exact hk.elim
end
end Go.PM
