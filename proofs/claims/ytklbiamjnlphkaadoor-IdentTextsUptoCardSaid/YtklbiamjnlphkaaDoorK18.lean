/-
  Regions that draw their order: what only looks is taken as soon as it can be, in whatever order the model takes it.
-/
import Derived.Test.YtklbiamjnlphkaaDoorK17
set_option linter.unusedVariables false
set_option linter.unusedSimpArgs false
namespace Go.PM
open Go

/-! ### Two readings alike -/
theorem map_agree {ev ev' : Operand → PVal} : ∀ (l : List Operand), (∀ x ∈ l, ev x = ev' x) → l.map ev = l.map ev'
  | [], _ => rfl
  | x :: r, h => by
    have h1 := h x (by simp)
    have h2 := map_agree r fun y hy => h y (by simp [hy])
    simp [h1, h2]

theorem parts_agree {ev ev' : Operand → PVal} : ∀ (l : List (Nat × Operand)), (∀ x ∈ l.map (·.2), ev x = ev' x) → (l.map fun p => (p.1, ev p.2)) = l.map fun p => (p.1, ev' p.2)
  | [], _ => rfl
  | x :: r, h => by
    have h1 := h x.2 (by simp)
    have h2 := parts_agree r fun y hy => h y (by simp at hy ⊢; exact .inr hy)
    simp only [List.map_cons, h1, h2]

theorem actOf_congr {P : Program} {o : Oper} {ev ev' : Operand → PVal} (h : ∀ x ∈ o.op.operands, ev x = ev' x) : actOf P o ev = actOf P o ev' := by
  obtain ⟨dst, op, type, pos, after, guard⟩ := o
  cases op
  case call c =>
    have hargs : ∀ x ∈ c.args.toList, ev x = ev' x := fun x hx => h x (by simp [Op.operands, Call.operands]; exact .inr (by simpa using hx))
    have hm := map_agree _ hargs
    simp only [actOf]
    cases hc : c.callee with
    | value f =>
      have hf : ev f = ev' f := h f (by simp [Op.operands, Call.operands, hc])
      simp only [hf, hm]
    | invoke r m => rfl
    | builtin b =>
      cases b <;> first
        | rfl
        | (simp only [hm]; done)
        | skip
      all_goals
        generalize hl : c.args.toList = l at *
        generalize c.argTypes.toList = tl
        generalize c.argTypes[0]? = a0
        rcases l with _ | ⟨x, _ | ⟨y, _ | ⟨z, r⟩⟩⟩ <;> rcases tl with _ | ⟨t, _ | ⟨u, s⟩⟩ <;> cases a0 <;> first
          | rfl
          | (simp only [hargs x (by simp)]; done)
          | (simp only [hargs x (by simp), hargs y (by simp)]; done)
  case build t parts =>
    have hp := parts_agree (ev := ev) (ev' := ev') parts.toList (fun x hx => h x (by simpa [Op.operands] using hx))
    simp only [actOf, hp]
  case buildSlice t n parts =>
    have hp := parts_agree (ev := ev) (ev' := ev') parts.toList (fun x hx => h x (by simpa [Op.operands] using hx))
    simp only [actOf, hp]
  case makeFunc fn first caps =>
    have hp := map_agree (ev := ev) (ev' := ev') caps.toList (fun x hx => h x (by simp [Op.operands]; exact .inr (by simpa using hx)))
    simp only [actOf, hp]
  case slice t x lo hi mx =>
    have hx : ev x = ev' x := h x (by simp [Op.operands])
    have hb : ∀ (y : Option Operand), (∀ z, y = some z → z ∈ (Op.slice t x lo hi mx).operands) → bnd ev y = bnd ev' y := fun y hy => by
      cases y with
      | none => rfl
      | some z => simp only [bnd, h z (hy z rfl)]
    have h1 := hb lo (fun z e => by subst e; simp [Op.operands])
    have h2 := hb hi (fun z e => by subst e; simp [Op.operands])
    have h3 := hb mx (fun z e => by subst e; simp [Op.operands])
    simp only [actOf, hx, h1, h2, h3]
  all_goals first
    | rfl
    | (simp only [Op.operands, Array.mem_def, List.mem_cons, List.not_mem_nil, or_false, forall_eq_or_imp, forall_eq] at h
       first
        | (simp only [actOf, h]; done)
        | (obtain ⟨h1, h2⟩ := h; simp only [actOf, h1, h2]; done)
        | (obtain ⟨h1, h2, h3⟩ := h; simp only [actOf, h1, h2, h3]; done))

/-! ### What is taken as soon as it can be -/

def freeK (o : Oper) : Bool :=
  match o.op with
  | .alloc _ | .box .. | .store .. | .panic _ => false
  | .call c => match c.callee with
    | .builtin .append | .builtin .panic => false
    | .builtin _ => true
    | _ => false
  | _ => true

def bindsOn (o : Oper) (i : Nat) : Bool := o.after.any fun e => Region.binds .any e && e.on == i

def pairOk (ops : Array Oper) (i j : Nat) (x y : Oper) : Bool :=
  (match x.dst with
   | some d => (!(y.looksAt ops).contains d || bindsOn y i) && y.dst != some d
   | none => true) &&
  (match y.dst with
   | some d => !(x.looksAt ops).contains d || bindsOn x j
   | none => true)

def drawOk (ops : Array Oper) : Bool :=
  (List.range ops.size).all fun i => match ops[i]? with
    | none => true
    | some x => x.after.all (fun e => e.on < i) && (match x.dst with | some d => !(x.looksAt ops).contains d | none => true) && (!freeK x || (List.range ops.size).all fun j => i == j || match ops[j]? with
      | none => true
      | some y => pairOk ops i j x y)

inductive Plan where
  | done
  | free (i : Nat) (p : Plan)
  | go (i : Nat) (p : Plan)
  | both (p q : Plan)
  deriving Inhabited

def Plan.heads : Plan → List Nat
  | .go i _ => [i]
  | .both p q => p.heads ++ q.heads
  | _ => []

def topc (ops : Array Oper) (p : Plan) (l : Array Bool) : Bool :=
  match p with
  | .done => (Region.ready .any ops l).isEmpty
  | .free _ _ => true
  | _ => !(Region.ready .any ops l).isEmpty && (Region.ready .any ops l).all (p.heads.contains ·)

def planOk (ops : Array Oper) : Plan → Array Bool → Bool
  | .done, _ => true
  | .free i p, l => (Region.ready .any ops l).contains i && (match ops[i]? with | some o => freeK o | none => false) && topc ops p (l.setIfInBounds i true) && planOk ops p (l.setIfInBounds i true)
  | .go i p, l => topc ops p (l.setIfInBounds i true) && planOk ops p (l.setIfInBounds i true)
  | .both p q, l => planOk ops p l && planOk ops q l

def planOf (ops : Array Oper) : Nat → Array Bool → Plan
  | 0, _ => .done
  | n + 1, l =>
    let rs := Region.ready .any ops l
    match rs.find? (fun i => match ops[i]? with | some o => freeK o | none => false) with
    | some i => .free i (planOf ops n (l.setIfInBounds i true))
    | none => match rs.map fun i => Plan.go i (planOf ops n (l.setIfInBounds i true)) with
      | [] => .done
      | p :: ps => ps.foldl .both p

section
variable (P : Program) (Γ : Ctx) (sv : Tmp → Option Nat)

def freeOp (act : Option Actn) (H : Heap) : Option (PVal × List Nat) :=
  match act with
  | some (.val v) => some (v, [])
  | some (.load r ver off k) => match rowAt H r ver with
    | some R => (loadR R off k).map fun v => (v, [r])
    | none => none
  | some (.lit e sz len cs) => if cs.length = len * sz then some (.c (.tr true sz (chunks sz len cs)), []) else none
  | _ => none

def freeC (act : Option Actn) (H : Heap) (K : PVal → List Nat → Prop) : Prop :=
  match freeOp act H with
  | some (v, hs) => K v hs
  | none => False

def freeP (ops : Array Oper) (o : Oper) (ts : List PVal) (H : Heap) (K : PVal → List Nat → Prop) : Prop :=
  match o.guard with
  | none => freeC (actOf P o (evP ts)) H K
  | some (j, want) =>
    match guardV ops ts j with
    | some (.c (.sc (.bool b))) => (b = want → freeC (actOf P o (evP ts)) H K) ∧ (b ≠ want → K .und [])
    | some .und => K .und []
    | _ => False

def unAll (ts : List PVal) : List PVal := ts.map fun _ => .un

def planRun (ops : Array Oper) : Plan → List Nat → St → (PEx → St → Prop) → Prop
  | .done, _, s, K => K .normal s
  | .free i p, held, s, K => match ops[i]? with
    | some o => freeP P ops o s.tmps s.heap fun v hs => planRun ops p (hs ++ held) { s with tmps := putT s.tmps o.dst v } K
    | none => False
  | .go i p, held, s, K => match ops[i]? with
    | some o => goP P Γ sv ops o s.tmps s.heap
        (fun v H' wr => (wr.all fun r => !held.contains r) = true ∧ planRun ops p held ⟨putT s.tmps o.dst v, H', wr ++ s.wr⟩ K)
        (fun v H' wr => K (.pan v) ⟨unAll s.tmps, H', wr ++ s.wr⟩)
    | none => False
  | .both p q, held, s, K => planRun ops p held s K ∧ planRun ops q held s K
end

section
variable {P : Program} {Γ : Ctx} {sv : Tmp → Option Nat} {ops : Array Oper}

theorem freeOp_core {act : Option Actn} {q : Option Nat} {H : Heap} {v : PVal} {hs : List Nat} (h : freeOp act H = some (v, hs)) {Kv : PVal → Heap → List Nat → Prop} {Kp : Value → Heap → List Nat → Prop} (hk : Kv v H []) : coreOp Γ act q H Kv Kp := by
  unfold freeOp at h
  split at h
  · simp only [Option.some.injEq, Prod.mk.injEq] at h
    obtain ⟨rfl, rfl⟩ := h
    exact hk
  · rename_i r ver off k
    split at h
    · rename_i R hR
      cases hl : loadR R off k with
      | none => simp [hl] at h
      | some x =>
        simp only [hl, Option.map_some, Option.some.injEq, Prod.mk.injEq] at h
        obtain ⟨rfl, rfl⟩ := h
        simp only [coreOp, perform, hR, hl, Option.map_some]
        exact hk
    · cases h
  · split at h
    · rename_i hl
      simp only [Option.some.injEq, Prod.mk.injEq] at h
      obtain ⟨rfl, rfl⟩ := h
      simp only [coreOp, perform, hl, if_true]
      exact hk
    · cases h
  · cases h

theorem freeOp_heap {act : Option Actn} {H H' : Heap} {v : PVal} {hs : List Nat} (h : freeOp act H = some (v, hs)) (hh : ∀ r ∈ hs, H'[r]? = H[r]?) : freeOp act H' = some (v, hs) := by
  unfold freeOp at h ⊢
  split at h
  · exact h
  · rename_i r ver off k
    split at h
    · rename_i R hR
      cases hl : loadR R off k with
      | none => simp [hl] at h
      | some x =>
        simp only [hl, Option.map_some, Option.some.injEq, Prod.mk.injEq] at h
        obtain ⟨rfl, rfl⟩ := h
        have : rowAt H' r ver = some R := by
          have := hh r (by simp)
          unfold rowAt at hR ⊢
          rw [this]; exact hR
        simp only [this, hl, Option.map_some]
    · cases h
  · exact h
  · cases h

theorem freeOp_lt {act : Option Actn} {H : Heap} {v : PVal} {hs : List Nat} (h : freeOp act H = some (v, hs)) : ∀ r ∈ hs, r < H.length := by
  unfold freeOp at h
  split at h
  · simp only [Option.some.injEq, Prod.mk.injEq] at h
    obtain ⟨_, rfl⟩ := h; simp
  · rename_i r ver off k
    split at h
    · rename_i R hR
      cases hl : loadR R off k with
      | none => simp [hl] at h
      | some x =>
        simp only [hl, Option.map_some, Option.some.injEq, Prod.mk.injEq] at h
        obtain ⟨_, rfl⟩ := h
        intro r' hr'
        simp at hr'; subst hr'
        exact (List.getElem?_eq_some_iff.1 (rowAt_spec hR).1).1
    · cases h
  · split at h
    · simp only [Option.some.injEq, Prod.mk.injEq] at h
      obtain ⟨_, rfl⟩ := h; simp
    · cases h
  · cases h

/-- The two readings agree on what the operation looks at. -/
def Agree (ops : Array Oper) (o : Oper) (ts ts' : List PVal) : Prop := ∀ t ∈ o.looksAt ops, ts'[t]? = ts[t]?

theorem agree_ev {o : Oper} {ts ts' : List PVal} (h : Agree ops o ts ts') : ∀ x ∈ o.op.operands, evP ts x = evP ts' x := by
  intro x hx
  cases x with
  | tmp t =>
    have : t ∈ o.looksAt ops := by
      unfold Oper.looksAt
      exact List.mem_append_left _ (List.mem_filterMap.2 ⟨.tmp t, by simpa using hx, rfl⟩)
    simp only [evP, List.getD, h t this]
  | _ => rfl

theorem agree_guard {o : Oper} {ts ts' : List PVal} (h : Agree ops o ts ts') {j : Nat} {want : Bool} (hg : o.guard = some (j, want)) : guardV ops ts' j = guardV ops ts j := by
  unfold guardV
  cases hd : (ops[j]?).bind (·.dst) with
  | none => rfl
  | some d =>
    have : d ∈ o.looksAt ops := by
      unfold Oper.looksAt
      refine List.mem_append_right _ ?_
      simp [hg, hd]
    simp only [Option.map_some, List.getD, h d this]

theorem goP_congr {o : Oper} {ts ts' : List PVal} (h : Agree ops o ts ts') {H : Heap} {Kv : PVal → Heap → List Nat → Prop} {Kp : Value → Heap → List Nat → Prop} (hg : goP P Γ sv ops o ts H Kv Kp) : goP P Γ sv ops o ts' H Kv Kp := by
  unfold goP at *
  rw [← actOf_congr (agree_ev h)]
  cases hgd : o.guard with
  | none => simpa [hgd] using hg
  | some g =>
    obtain ⟨j, want⟩ := g
    simp only [hgd] at hg ⊢
    rw [agree_guard h hgd]
    exact hg

/-- What an operation yields, as long as what it looks at is as it was. -/
def Pend (P : Program) (Γ : Ctx) (sv : Tmp → Option Nat) (ops : Array Oper) (o : Oper) (ts : List PVal) (H : Heap) (v : PVal) (hs : List Nat) : Prop :=
  ∀ ts' H', Agree ops o ts ts' → (∀ r ∈ hs, H'[r]? = H[r]?) → ∀ (Kv : PVal → Heap → List Nat → Prop) (Kp : Value → Heap → List Nat → Prop), Kv v H' [] → goP P Γ sv ops o ts' H' Kv Kp

theorem Pend.move {o : Oper} {ts ts1 : List PVal} {H H1 : Heap} {v : PVal} {hs : List Nat} (h : Pend P Γ sv ops o ts H v hs) (ha : Agree ops o ts ts1) (hh : ∀ r ∈ hs, H1[r]? = H[r]?) : Pend P Γ sv ops o ts1 H1 v hs :=
  fun ts' H' ha' hh' Kv Kp hk => h ts' H' (fun t ht => (ha' t ht).trans (ha t ht)) (fun r hr => (hh' r hr).trans (hh r hr)) Kv Kp hk

theorem freeP_pend {o : Oper} {ts : List PVal} {H : Heap} {K : PVal → List Nat → Prop} (h : freeP P ops o ts H K) :
    ∃ v hs, K v hs ∧ Pend P Γ sv ops o ts H v hs ∧ ∀ r ∈ hs, r < H.length := by
  have core : freeC (actOf P o (evP ts)) H K → ∃ v hs, K v hs ∧ freeOp (actOf P o (evP ts)) H = some (v, hs) := fun hc => by
    unfold freeC at hc
    split at hc
    · rename_i v hs heq; exact ⟨v, hs, hc, heq⟩
    · exact hc.elim
  unfold freeP at h
  cases hgd : o.guard with
  | none =>
    simp only [hgd] at h
    obtain ⟨v, hs, hk, hf⟩ := core h
    refine ⟨v, hs, hk, fun ts' H' ha hh Kv Kp hkv => ?_, freeOp_lt hf⟩
    unfold goP
    simp only [hgd]
    rw [← actOf_congr (agree_ev ha)]
    exact freeOp_core (freeOp_heap hf hh) hkv
  | some g =>
    obtain ⟨j, want⟩ := g
    simp only [hgd] at h
    split at h
    · rename_i b heq
      by_cases hb : b = want
      · obtain ⟨v, hs, hk, hf⟩ := core (h.1 hb)
        refine ⟨v, hs, hk, fun ts' H' ha hh Kv Kp hkv => ?_, freeOp_lt hf⟩
        unfold goP
        simp only [hgd, agree_guard ha hgd, heq]
        rw [← actOf_congr (agree_ev ha)]
        exact ⟨fun _ => freeOp_core (freeOp_heap hf hh) hkv, fun e => (e hb).elim⟩
      · refine ⟨.und, [], h.2 hb, fun ts' H' ha hh Kv Kp hkv => ?_, by simp⟩
        unfold goP
        simp only [hgd, agree_guard ha hgd, heq]
        exact ⟨fun e => (hb e).elim, fun _ => hkv⟩
    · rename_i heq
      refine ⟨.und, [], h, fun ts' H' ha hh Kv Kp hkv => ?_, by simp⟩
      unfold goP
      simp only [hgd, agree_guard ha hgd, heq]
      exact hkv
    · exact h.elim
end
end Go.PM
