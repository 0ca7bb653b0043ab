/-
  Calls; operations one behind the other.
-/
import Derived.Test.YtklbiamjnlphkaaDoorK15
set_option linter.unusedVariables false
set_option linter.unusedSimpArgs false
namespace Go.PM
open Go

inductive Out where
  | ret (v : PVal)
  | pan (v : Value)

/-- A function that is entered when it is called. -/
def enters (P : Program) (f : FuncId) : Bool :=
  match P.funcs[f]? with
  | some fn => fn.name != "runtime.NumGoroutine" && fn.body.isSome
  | none => false

def OutRel (w' : World) (M : Nat → Prop) (ρ' : Place) (e : Ending) : Out → Prop
  | .ret v => ∃ x, e = .returned x ∧ VV w' M ρ' v x
  | .pan v => e = .panicked [{ v, recovered := false }]

def CallPost (w : World) (M0 : Own) (ρ : Place) (o : Out) (H' : Heap) (e : Ending) (w' : World) : Prop :=
  ∃ ρ', Tr w ρ w' ρ' ∧ HR w' M0 ρ' H' ∧ OutRel w' (Mu M0 ρ') ρ' e o

/-- Package-level variables of Go's library that nobody writes: what they hold. -/
structure Known (P : Program) (fix : Nat → Option Obj) : Prop where
  errSyntax : ∀ g, P.globalNamed "strconv.ErrSyntax" = some g → ∃ te pe cs ty fr, fix g = some (.cells cs ty fr) ∧ cs[0]? = some (.iface te pe)
  errRange : ∀ g, P.globalNamed "strconv.ErrRange" = some g → ∃ te pe cs ty fr, fix g = some (.cells cs ty fr) ∧ cs[0]? = some (.iface te pe)
  maxLen : ∀ g, P.globalNamed "internal/bytealg.MaxLen" = some g → ∃ m cs ty fr, fix g = some (.cells cs ty fr) ∧ cs[0]? = some (.int .i64 m)
  pow10 : ∀ g, P.globalNamed "internal/strconv.uint64pow10" = some g → ∃ ty fr, fix g = some (.cells ((List.range 20).map fun i => Value.int .u64 ((10 ^ i : Nat) : Int)).toArray ty fr)

/-- WHAT A FUNCTION COMES TO: called with these arguments, over these rows, in whatever world they lie, it ends so, and the rows are then those; 'wr': which of the rows that were there may be others now. -/
structure SimCall (P : Program) (f : FuncId) (args : List PVal) (H : Heap) (wr : List Nat) (o : Out) (H' : Heap) : Prop where
  enters : enters P f = true
  len : H.length ≤ H'.length
  same : ∀ r, r < H.length → r ∉ wr → H'[r]? = H[r]?
  run : ∀ (w : World) (M0 : Own) (ρ : Place) (xs : List Value), Known P M0.fix → HR w M0 ρ H → VVs w (Mu M0 ρ) ρ args xs → Calls P f xs.toArray w (CallPost w M0 ρ o H')

/-- What is known of functions. -/
abbrev Ctx := FuncId → List PVal → Heap → Option (List Nat × Out × Heap)

def CtxOk (P : Program) (Γ : Ctx) : Prop := ∀ f args H wr o H', Γ f args H = some (wr, o, H') → SimCall P f args H wr o H'

structure St where
  tmps : List PVal
  heap : Heap
  wr : List Nat

inductive PEx where
  | normal
  | exit (id : Nat)
  | ret
  | pan (v : Value)

def putT (ts : List PVal) (d : Option Tmp) (v : PVal) : List PVal :=
  match d with
  | some t => ts.set t v
  | none => ts

section
variable (P : Program) (Γ : Ctx) (sv : Tmp → Option Nat)

def runOp (o : Oper) (s : St) (K : PEx → St → Prop) : Prop :=
  match actOf P o (evP s.tmps) with
  | none => False
  | some (.call f args) => match Γ f args s.heap with
    | some (wr, .ret v, H') => K .normal ⟨putT s.tmps o.dst v, H', wr ++ s.wr⟩
    | some (wr, .pan v, H') => K (.pan v) ⟨s.tmps, H', wr ++ s.wr⟩
    | none => False
  | some (.pan v) => K (.pan v) s
  | some act =>
    match perform (sv (o.dst.getD 0)) s.heap act with
    | some (v, H', wr) => K .normal ⟨putT s.tmps o.dst v, H', wr ++ s.wr⟩
    | none => False

/-- What the guard's operation yielded. -/
def guardV (ops : Array Oper) (ts : List PVal) (j : Nat) : Option PVal :=
  ((ops[j]?).bind (·.dst)).map fun d => ts.getD d .und

def stepOp (ops : Array Oper) (o : Oper) (s : St) (K : PEx → St → Prop) : Prop :=
  match o.guard with
  | none => runOp P Γ sv o s K
  | some (j, want) =>
    match guardV ops s.tmps j with
    | some (.c (.sc (.bool b))) => (b = want → runOp P Γ sv o s K) ∧ (b ≠ want → K .normal ⟨putT s.tmps o.dst .und, s.heap, s.wr⟩)
    | some .und => K .normal ⟨putT s.tmps o.dst .und, s.heap, s.wr⟩
    | _ => False

def seqOps (ops : Array Oper) : List Oper → St → (PEx → St → Prop) → Prop
  | [], s, K => K .normal s
  | o :: rest, s, K => stepOp P Γ sv ops o s fun e s' => match e with
    | .normal => seqOps ops rest s' K
    | e => K e s'
end

/-- The machine's state and the model's. -/
structure Rl (w : World) (M0 : Own) (ρ : Place) (ts : List PVal) (H : Heap) (a : Act) : Prop where
  tmps : VVs w (Mu M0 ρ) ρ ts a.tmps.toList
  heap : HR w M0 ρ H
  defers : a.defers = []

def PEx.exit' : PEx → Exit
  | .normal => .normal
  | .exit id => .exit id
  | .ret => .ret
  | .pan v => .panic [{ v, recovered := false }]

/-- Whatever the small machine may end in is fine for the model. -/
def QOk (w : World) (M0 : Own) (ρ : Place) (K : PEx → St → Prop) (Q : Exit → Act → World → Prop) : Prop :=
  ∀ e s' a' w' ρ', K e s' → Tr w ρ w' ρ' → Rl w' M0 ρ' s'.tmps s'.heap a' → Q e.exit' a' w'

theorem QOk.tr {w w1 : World} {M0 : Own} {ρ ρ1 : Place} {K : PEx → St → Prop} {Q : Exit → Act → World → Prop} (h : QOk w M0 ρ K Q) (t : Tr w ρ w1 ρ1) : QOk w1 M0 ρ1 K Q :=
  fun e s' a' w' ρ' hk ht hr => h e s' a' w' ρ' hk (t.trans ht) hr

section
variable {P : Program} {Γ : Ctx} {sv : Tmp → Option Nat} {w : World} {M0 : Own} {ρ : Place} {a : Act} {Q : Exit → Act → World → Prop}

theorem Rl.put {ts : List PVal} {H : Heap} (h : Rl w M0 ρ ts H a) {w' : World} {ρ' : Place} {H' : Heap} (t : Tr w ρ w' ρ') (hH : HR w' M0 ρ' H') (d : Option Tmp) {v : PVal} {x : Value} (hv : VV w' (Mu M0 ρ') ρ' v x) :
    Rl w' M0 ρ' (putT ts d v) H' (a.put d x) := by
  refine ⟨?_, hH, ?_⟩
  · have := VVs.put (a := a) (h.tmps.tr' t) d hv
    cases d <;> exact this
  · cases d <;> exact h.defers

theorem Rl.tr {ts : List PVal} {H : Heap} (h : Rl w M0 ρ ts H a) {w' : World} {ρ' : Place} {H' : Heap} (t : Tr w ρ w' ρ') (hH : HR w' M0 ρ' H') : Rl w' M0 ρ' ts H' a :=
  ⟨h.tmps.tr' t, hH, h.defers⟩

theorem enters_run {f : FuncId} (h : enters P f = true) (args : Array Value) : (callFunc f args).run P w = .ok (.enter f args) w := by
  unfold enters at h
  split at h
  · rename_i fn hf
    simp only [Bool.and_eq_true, bne_iff_ne, ne_eq] at h
    simp [callFunc, hf, h.1]
    intro e
    simp [e] at h
  · cases h

/-- What a call asks for. -/
theorem act_call {o : Oper} {ev : Operand → PVal} {f : FuncId} {args : List PVal} (ha : actOf P o ev = some (.call f args)) :
    ∃ dst c type pos after guard x caps, o = ⟨dst, .call c, type, pos, after, guard⟩ ∧ c.callee = .value x ∧ ev x = .c (.fn f caps) ∧ args = c.args.toList.map ev ++ caps.map .c := by
  obtain ⟨dst, op, type, pos, after, guard⟩ := o
  cases op <;> simp only [actOf, reduceCtorEq] at ha
  case call c =>
    split at ha
    · rename_i x hc
      split at ha
      · rename_i g caps heq
        simp only [Option.some.injEq, Actn.call.injEq] at ha
        obtain ⟨rfl, rfl⟩ := ha
        exact ⟨dst, c, type, pos, after, guard, x, caps, rfl, hc, heq, rfl⟩
      · cases ha
    all_goals exfalso
    · repeat' (first | (simp at ha; done) | split at ha)
    · repeat' (first | (simp at ha; done) | split at ha)
    · repeat' (first | (simp at ha; done) | split at ha)
    · repeat' (first | (simp at ha; done) | split at ha)
    · split at ha
      · rcases appendP_kind ha with ⟨_, h1⟩ | ⟨_, _, _, _, _, _, h1⟩ | ⟨_, _, _, _, _, _, _, h1⟩ <;> cases h1
      · cases ha
    · repeat' (first | (simp at ha; done) | split at ha)
    · cases ha
  case convert s d x =>
    exfalso
    unfold convP at ha
    repeat' (first | (simp at ha; done) | split at ha)
  all_goals (exfalso; (repeat' (first | (simp at ha; done) | split at ha)))

theorem VVs.append {M : Nat → Prop} {a b : List PVal} {xs ys : List Value} (h : VVs w M ρ a xs) (k : VVs w M ρ b ys) : VVs w M ρ (a ++ b) (xs ++ ys) := by
  refine ⟨by simp [h.1, k.1], fun j v hj => ?_⟩
  by_cases hlt : j < a.length
  · rw [List.getElem?_append_left hlt] at hj
    have := h.2 j v hj
    rw [List.getD, List.getElem?_append_left (by rw [h.1]; exact hlt)]
    exact this
  · rw [List.getElem?_append_right (by omega)] at hj
    have := k.2 _ v hj
    rw [List.getD, List.getElem?_append_right (by rw [h.1]; omega), h.1]
    exact this

theorem VCs.toVVs {M : Nat → Prop} {cs : List PCell} {xs : List Value} (h : VCs w M ρ cs xs) : VVs w M ρ (cs.map .c) xs := by
  refine ⟨by simp [h.1], fun j v hj => ?_⟩
  rw [List.getElem?_map] at hj
  cases hc : cs[j]? with
  | none => simp [hc] at hj
  | some c =>
    simp only [hc, Option.map_some, Option.some.injEq] at hj; subst hj
    exact .c _ _ (h.2 j c hc)

/-- A call, in the model. -/
theorem call_run {ts : List PVal} {H : Heap} (hR : Rl w M0 ρ ts H a) {o : Oper} {f : FuncId} {args : List PVal} (ha : actOf P o (evP ts) = some (.call f args)) (he : enters P f = true) :
    ∃ xs, (execOp a.eval o).run P w = .ok (.enter f xs.toArray) w ∧ VVs w (Mu M0 ρ) ρ args xs := by
  obtain ⟨dst, c, type, pos, after, guard, x, caps, rfl, hc, hx, rfl⟩ := act_call ha
  have hf := VV.ev hR.tmps x
  rw [hx] at hf
  generalize hX : a.eval x = X at hf
  cases hf.inv_c with
  | fn _ _ xs hl hcc =>
    refine ⟨c.args.toList.map a.eval ++ xs, ?_, (VVs.map_ev hR.tmps _).append (VCs.toVVs ⟨hl, hcc⟩)⟩
    have harr : (#[] ++ c.args.map a.eval) ++ xs.toArray = (c.args.toList.map a.eval ++ xs).toArray := by
      rw [two_eq rfl]; simp
    simp only [execOp, resolve, hc, hX, Deferred.ofValue, Sem.run_bind, Sem.run_pure, Result.andThen_ok, invoke]
    rw [harr]
    exact enters_run he _

/-- What panics, in the model. -/
theorem pan_run {ts : List PVal} {H : Heap} (hR : Rl w M0 ρ ts H a) {o : Oper} {v : Value} (ha : actOf P o (evP ts) = some (.pan v)) : (execOp a.eval o).run P w = .halt (.panic v) w := by
  obtain ⟨dst, op, type, pos, after, guard⟩ := o
  cases op <;> simp only [actOf, reduceCtorEq] at ha
  case call c =>
    split at ha
    · exfalso; repeat' (first | (simp at ha; done) | split at ha)
    · exfalso; repeat' (first | (simp at ha; done) | split at ha)
    · exfalso; repeat' (first | (simp at ha; done) | split at ha)
    · exfalso; repeat' (first | (simp at ha; done) | split at ha)
    · exfalso; repeat' (first | (simp at ha; done) | split at ha)
    · exfalso
      split at ha
      · rcases appendP_kind ha with ⟨_, h1⟩ | ⟨_, _, _, _, _, _, h1⟩ | ⟨_, _, _, _, _, _, _, h1⟩ <;> cases h1
      · cases ha
    · rename_i hcal
      obtain ⟨consts, hrun⟩ := run_builtin (P := P) (w := w) (a := a) (dst := dst) (type := type) (pos := pos) (after := after) (guard := guard) hcal
      split at ha
      · rename_i x hargs
        have hx := VV.ev hR.tmps x
        split at ha
        · rename_i t v' heq
          rw [heq] at hx
          simp only [Option.some.injEq, Actn.pan.injEq] at ha; subst ha
          rw [hrun, two_eq hargs]
          simp [builtin, hx.inv_sc.1, Instr.panic]
        · cases ha
      · cases ha
    · cases ha
  case panic x =>
    have hx := VV.ev hR.tmps x
    split at ha
    · rename_i t v' heq
      rw [heq] at hx
      simp only [Option.some.injEq, Actn.pan.injEq] at ha; subst ha
      simp [execOp, hx.inv_sc.1, Instr.panic]
    · cases ha
  case convert s d x =>
    exfalso
    unfold convP at ha
    repeat' (first | (simp at ha; done) | split at ha)
  all_goals (exfalso; (repeat' (first | (simp at ha; done) | split at ha)))

/-- One operation that is wanted. -/
theorem runOp_sound (hΓ : CtxOk P Γ) (hA : Known P M0.fix) {o : Oper} {s : St} {K : PEx → St → Prop} (hk : runOp P Γ sv o s K) (hR : Rl w M0 ρ s.tmps s.heap a) {Kn : Act → World → Prop}
    (hn : ∀ s' a' w' ρ', K .normal s' → Tr w ρ w' ρ' → Rl w' M0 ρ' s'.tmps s'.heap a' → Kn a' w')
    (hp : ∀ v s' a' w' ρ', K (.pan v) s' → Tr w ρ w' ρ' → Rl w' M0 ρ' s'.tmps s'.heap a' → Q (.panic [{ v, recovered := false }]) a' w') : o.wp P a w Kn Q := by
  unfold runOp at hk
  split at hk
  · exact hk.elim
  · rename_i f args ha
    split at hk
    · rename_i wr v H' heq
      have hs := hΓ _ _ _ _ _ _ heq
      obtain ⟨xs, hrun, hxs⟩ := call_run hR ha hs.enters
      unfold Oper.wp
      rw [hrun]
      simp only [Oper.upon]
      refine (hs.run w M0 ρ xs hA hR.heap hxs).mono ?_
      rintro e w' ⟨ρ', t, hH, ho⟩
      obtain ⟨x, rfl, hv⟩ := ho
      exact hn _ _ _ ρ' hk t (hR.put t hH o.dst hv)
    · rename_i wr v H' heq
      have hs := hΓ _ _ _ _ _ _ heq
      obtain ⟨xs, hrun, hxs⟩ := call_run hR ha hs.enters
      unfold Oper.wp
      rw [hrun]
      simp only [Oper.upon]
      refine (hs.run w M0 ρ xs hA hR.heap hxs).mono ?_
      rintro e w' ⟨ρ', t, hH, ho⟩
      cases ho
      exact hp v _ _ _ ρ' hk t (hR.tr t hH)
    · exact hk.elim
  · rename_i v ha
    unfold Oper.wp
    rw [pan_run hR ha]
    simp only [Oper.upon]
    exact hp v s a w ρ hk (Tr.refl _ _) hR
  · rename_i act hnc hnp ha
    split at hk
    · rename_i v H' wr hpf
      obtain ⟨x, w', ρ', hrun, t, hH, hv⟩ := perform_sound hR.tmps hR.heap ha hpf
      unfold Oper.wp
      rcases hrun with hrun | ⟨hrun, rfl⟩
      · rw [hrun]; simp only [Oper.upon]
        exact hn _ _ _ ρ' hk t (hR.put t hH o.dst hv)
      · rw [hrun]; simp only [Oper.upon]
        exact hn _ _ _ ρ' hk t (hR.put t hH o.dst hv)
    · exact hk.elim

/-- The guard, in the model. -/
theorem guard_sound {ops : Array Oper} {ts : List PVal} {M : Nat → Prop} (hT : VVs w M ρ ts a.tmps.toList) {j : Nat} :
    (∀ b, guardV ops ts j = some (.c (.sc (.bool b))) → yielded ops a.tmps j = some b) ∧ (guardV ops ts j = some .und → yielded ops a.tmps j = none) := by
  unfold guardV yielded
  cases hd : (ops[j]?).bind (·.dst) with
  | none => simp
  | some d =>
    have hv := hT.get d
    simp only [Option.map_some, Option.some.injEq, Option.bind_some]
    constructor
    · intro b hb
      rw [hb] at hv
      have := hv.inv_sc.1
      rw [List.getD] at this
      cases hg : a.tmps[d]? with
      | none =>
        have : a.tmps.toList[d]? = none := by simpa using hg
        simp [this] at *
        rename_i h; cases h
      | some x =>
        have h2 : a.tmps.toList[d]? = some x := by simpa using hg
        simp only [h2, Option.getD_some] at this
        subst this
        rfl
    · intro hb
      rw [hb] at hv
      cases hg : a.tmps[d]? with
      | none => rfl
      | some x =>
        have h2 : a.tmps.toList[d]? = some x := by simpa using hg
        simp only [List.getD, h2, Option.getD_some] at hv
        cases hv
        rfl

end
end Go.PM
