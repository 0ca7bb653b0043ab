/-
  The small machine as a function that can be run.
-/
import Derived.Test.YtklbiamjnlphkaaDoorK22
set_option linter.unusedVariables false
set_option linter.unusedSimpArgs false
namespace Go.PM
open Go

/-! ### Alike -/
def eqVal0 : Value → Value → Bool
  | .int k a, .int k' b => decide (k = k') && decide (a = b)
  | .bool a, .bool b => a == b
  | .string a, .string b => decide (a.data = b.data)
  | .pointer none, .pointer none => true
  | .slice none a b, .slice none c d => a == c && b == d
  | .nilIface, .nilIface => true
  | .nilFunc, .nilFunc => true
  | _, _ => false

def eqVal : Value → Value → Bool
  | .iface t v, .iface t' v' => t == t' && eqVal0 v v'
  | a, b => eqVal0 a b

theorem eqVal0_eq {a b : Value} (h : eqVal0 a b = true) : a = b := by
  unfold eqVal0 at h
  split at h
  · simp only [Bool.and_eq_true, decide_eq_true_eq] at h; rw [h.1, h.2]
  · simp only [beq_iff_eq] at h; rw [h]
  · rename_i x y
    simp only [decide_eq_true_eq] at h
    obtain ⟨x⟩ := x; obtain ⟨y⟩ := y
    simp only at h; rw [h]
  · rfl
  · simp only [Bool.and_eq_true, beq_iff_eq] at h; rw [h.1, h.2]
  · rfl
  · rfl
  · cases h

theorem eqVal_eq {a b : Value} (h : eqVal a b = true) : a = b := by
  unfold eqVal at h
  split at h
  · simp only [Bool.and_eq_true, beq_iff_eq] at h; rw [h.1, eqVal0_eq h.2]
  · exact eqVal0_eq h

mutual
def eqC : PCell → PCell → Bool
  | .sc a, .sc b => eqVal a b
  | .ptr r v o, .ptr r' v' o' => r == r' && (v == v' && o == o')
  | .sl r v o s l, .sl r' v' o' s' l' => r == r' && (v == v' && (o == o' && (s == s' && l == l')))
  | .tr t s els, .tr t' s' els' => t == t' && (s == s' && eqLL els els')
  | .tp cs o, .tp cs' o' => o == o' && eqL cs cs'
  | .fn f cs, .fn f' cs' => f == f' && eqL cs cs'
  | _, _ => false
def eqL : List PCell → List PCell → Bool
  | [], [] => true
  | a :: as, b :: bs => eqC a b && eqL as bs
  | _, _ => false
def eqLL : List (List PCell) → List (List PCell) → Bool
  | [], [] => true
  | a :: as, b :: bs => eqL a b && eqLL as bs
  | _, _ => false
end

mutual
theorem eqC_eq : ∀ (a b : PCell), eqC a b = true → a = b
  | .sc a, b, h => by
    cases b <;> simp only [eqC, Bool.false_eq_true] at h
    rw [eqVal_eq h]
  | .ptr r v o, b, h => by
    cases b <;> simp only [eqC, Bool.false_eq_true, Bool.and_eq_true, beq_iff_eq] at h
    rw [h.1, h.2.1, h.2.2]
  | .sl r v o s l, b, h => by
    cases b <;> simp only [eqC, Bool.false_eq_true, Bool.and_eq_true, beq_iff_eq] at h
    rw [h.1, h.2.1, h.2.2.1, h.2.2.2.1, h.2.2.2.2]
  | .tr t s els, b, h => by
    cases b <;> simp only [eqC, Bool.false_eq_true, Bool.and_eq_true, beq_iff_eq] at h
    rw [h.1, h.2.1, eqLL_eq els _ h.2.2]
  | .tp cs o, b, h => by
    cases b <;> simp only [eqC, Bool.false_eq_true, Bool.and_eq_true, beq_iff_eq] at h
    rw [h.1, eqL_eq cs _ h.2]
  | .fn f cs, b, h => by
    cases b <;> simp only [eqC, Bool.false_eq_true, Bool.and_eq_true, beq_iff_eq] at h
    rw [h.1, eqL_eq cs _ h.2]
theorem eqL_eq : ∀ (a b : List PCell), eqL a b = true → a = b
  | [], b, h => by
    cases b <;> simp only [eqL, Bool.false_eq_true] at h
    rfl
  | a :: as, b, h => by
    cases b <;> simp only [eqL, Bool.false_eq_true, Bool.and_eq_true] at h
    rw [eqC_eq a _ h.1, eqL_eq as _ h.2]
theorem eqLL_eq : ∀ (a b : List (List PCell)), eqLL a b = true → a = b
  | [], b, h => by
    cases b <;> simp only [eqLL, Bool.false_eq_true] at h
    rfl
  | a :: as, b, h => by
    cases b <;> simp only [eqLL, Bool.false_eq_true, Bool.and_eq_true] at h
    rw [eqL_eq a _ h.1, eqLL_eq as _ h.2]
end

mutual
def eqV : PVal → PVal → Bool
  | .un, .un => true
  | .und, .und => true
  | .c a, .c b => eqC a b
  | .agg a, .agg b => eqL a b
  | .tup a, .tup b => eqVs a b
  | _, _ => false
def eqVs : List PVal → List PVal → Bool
  | [], [] => true
  | a :: as, b :: bs => eqV a b && eqVs as bs
  | _, _ => false
end

mutual
theorem eqV_eq : ∀ (a b : PVal), eqV a b = true → a = b
  | .un, b, h => by cases b <;> simp only [eqV, Bool.false_eq_true] at h; rfl
  | .und, b, h => by cases b <;> simp only [eqV, Bool.false_eq_true] at h; rfl
  | .c a, b, h => by
    cases b <;> simp only [eqV, Bool.false_eq_true] at h
    rw [eqC_eq a _ h]
  | .agg a, b, h => by
    cases b <;> simp only [eqV, Bool.false_eq_true] at h
    rw [eqL_eq a _ h]
  | .tup a, b, h => by
    cases b <;> simp only [eqV, Bool.false_eq_true] at h
    rw [eqVs_eq a _ h]
theorem eqVs_eq : ∀ (a b : List PVal), eqVs a b = true → a = b
  | [], b, h => by
    cases b <;> simp only [eqVs, Bool.false_eq_true] at h
    rfl
  | a :: as, b, h => by
    cases b <;> simp only [eqVs, Bool.false_eq_true, Bool.and_eq_true] at h
    rw [eqV_eq a _ h.1, eqVs_eq as _ h.2]
end

def eqRow : Option PRow → Option PRow → Bool
  | none, none => true
  | some a, some b => a.ver == b.ver && (a.elem == b.elem && eqL a.cells b.cells)
  | _, _ => false

def eqH : Heap → Heap → Bool
  | [], [] => true
  | a :: as, b :: bs => eqRow a b && eqH as bs
  | _, _ => false

theorem eqRow_eq {a b : Option PRow} (h : eqRow a b = true) : a = b := by
  unfold eqRow at h
  split at h
  · rfl
  · rename_i a b
    simp only [Bool.and_eq_true, beq_iff_eq] at h
    obtain ⟨v, e, c⟩ := a; obtain ⟨v', e', c'⟩ := b
    simp only at h
    rw [h.1, h.2.1, eqL_eq _ _ h.2.2]
  · cases h

theorem eqH_eq : ∀ (a b : Heap), eqH a b = true → a = b
  | [], b, h => by
    cases b <;> simp only [eqH, Bool.false_eq_true] at h
    rfl
  | a :: as, b, h => by
    cases b <;> simp only [eqH, Bool.false_eq_true, Bool.and_eq_true] at h
    rw [eqRow_eq h.1, eqH_eq as _ h.2]

/-- Two ends alike (but for what was written). -/
def eqEnd : PEx × St → PEx × St → Bool
  | (.normal, s), (.normal, s') => eqVs s.tmps s'.tmps && (eqH s.heap s'.heap && decide (s.wr = s'.wr))
  | _, _ => false

theorem eqEnd_eq {a b : PEx × St} (h : eqEnd a b = true) : a = b := by
  unfold eqEnd at h
  split at h
  · rename_i s s'
    simp only [Bool.and_eq_true, decide_eq_true_eq] at h
    obtain ⟨t, H, w⟩ := s; obtain ⟨t', H', w'⟩ := s'
    simp only at h
    rw [eqVs_eq _ _ h.1, eqH_eq _ _ h.2.1, h.2.2]
  · cases h

/-! ### The run -/
inductive Res where
  | val (v : PVal) (H : Heap) (wr : List Nat)
  | pan (x : Value) (H : Heap) (wr : List Nat)

section
variable (P : Program) (Γ : Ctx) (sv : Tmp → Option Nat)

def coreE (act : Option Actn) (q : Option Nat) (H : Heap) : Option Res :=
  match act with
  | none => none
  | some (.call f args) => match Γ f args H with
    | some (wr, .ret v, H') => some (.val v H' wr)
    | some (wr, .pan v, H') => some (.pan v H' wr)
    | none => none
  | some (.pan v) => some (.pan v H [])
  | some act => match perform q H act with
    | some (v, H', wr) => some (.val v H' wr)
    | none => none

def goE (ops : Array Oper) (o : Oper) (ts : List PVal) (H : Heap) : Option Res :=
  match o.guard with
  | none => coreE Γ (actOf P o (evP ts)) (sv (o.dst.getD 0)) H
  | some (j, want) => match guardV ops ts j with
    | some (.c (.sc (.bool b))) => if b = want then coreE Γ (actOf P o (evP ts)) (sv (o.dst.getD 0)) H else some (.val .und H [])
    | some .und => some (.val .und H [])
    | _ => none

def seqE (ops : Array Oper) : List Oper → St → Option (PEx × St)
  | [], s => some (.normal, s)
  | o :: rest, s => match goE P Γ sv ops o s.tmps s.heap with
    | some (.val v H' wr) => seqE ops rest ⟨putT s.tmps o.dst v, H', wr ++ s.wr⟩
    | some (.pan x H' wr) => some (.pan x, ⟨s.tmps, H', wr ++ s.wr⟩)
    | none => none

def freeCE (act : Option Actn) (H : Heap) : Option (PVal × List Nat) := freeOp act H

def freeE (ops : Array Oper) (o : Oper) (ts : List PVal) (H : Heap) : Option (PVal × List Nat) :=
  match o.guard with
  | none => freeOp (actOf P o (evP ts)) H
  | some (j, want) => match guardV ops ts j with
    | some (.c (.sc (.bool b))) => if b = want then freeOp (actOf P o (evP ts)) H else some (.und, [])
    | some .und => some (.und, [])
    | _ => none

def planE (ops : Array Oper) : Plan → List Nat → St → Option (PEx × St)
  | .done, _, s => some (.normal, s)
  | .free i p, held, s => match ops[i]? with
    | some o => match freeE P ops o s.tmps s.heap with
      | some (v, hs) => planE ops p (hs ++ held) { s with tmps := putT s.tmps o.dst v }
      | none => none
    | none => none
  | .go i p, held, s => match ops[i]? with
    | some o => match goE P Γ sv ops o s.tmps s.heap with
      | some (.val v H' wr) => if (wr.all fun r => !held.contains r) = true then planE ops p held ⟨putT s.tmps o.dst v, H', wr ++ s.wr⟩ else none
      | some (.pan x H' wr) => some (.pan x, ⟨unAll s.tmps, H', wr ++ s.wr⟩)
      | none => none
    | none => none
  | .both p q, held, s => match planE ops p held s, planE ops q held s with
    | some x, some y => if eqEnd x y = true then some x else none
    | _, _ => none

def iterE (f : St → Option (PEx × St)) : Nat → St → Option (PEx × St)
  | 0, _ => none
  | n + 1, s => match f s with
    | some (.normal, s') => iterE f n s'
    | r => r

def codeE (rounds : Nat) : Code → St → Option (PEx × St)
  | .skip, s => some (.normal, s)
  | .region _ ops draw, s => if draw then (if drawFine ops = true then planE P Γ sv ops (planOf ops ops.size (Array.replicate ops.size false)) [] s else none) else seqE P Γ sv ops ops.toList s
  | .seq a b, s => match codeE rounds a s with
    | some (.normal, s') => codeE rounds b s'
    | r => r
  | .cond c x y, s => match evP s.tmps c with
    | .c (.sc (.bool b)) => if b then codeE rounds x s else codeE rounds y s
    | _ => none
  | .block id c, s => match codeE rounds c s with
    | some (.exit i, s') => if i = id then some (.normal, s') else some (.exit i, s')
    | r => r
  | .loop c, s => iterE (codeE rounds c) rounds s
  | .exit id, s => some (.exit id, s)
  | .ret, s => some (.ret, s)
  | _, _ => none
end

section
variable {P : Program} {Γ : Ctx} {sv : Tmp → Option Nat}

def resK (Kv : PVal → Heap → List Nat → Prop) (Kp : Value → Heap → List Nat → Prop) : Option Res → Prop
  | some (.val v H' wr) => Kv v H' wr
  | some (.pan v H' wr) => Kp v H' wr
  | none => False

theorem coreE_iff {act : Option Actn} {q : Option Nat} {H : Heap} {Kv : PVal → Heap → List Nat → Prop} {Kp : Value → Heap → List Nat → Prop} :
    coreOp Γ act q H Kv Kp ↔ resK Kv Kp (coreE Γ act q H) := by
  unfold coreOp coreE
  cases act with
  | none => exact Iff.rfl
  | some act =>
    cases act with
    | call f args => dsimp only; rcases Γ f args H with _ | ⟨wr, v | v, H'⟩ <;> exact Iff.rfl
    | pan v => exact Iff.rfl
    | val v => dsimp only; rcases perform q H (.val v) with _ | ⟨v, H', wr⟩ <;> exact Iff.rfl
    | load r ver off k => dsimp only; rcases perform q H (.load r ver off k) with _ | ⟨v, H', wr⟩ <;> exact Iff.rfl
    | store r ver off cs => dsimp only; rcases perform q H (.store r ver off cs) with _ | ⟨v, H', wr⟩ <;> exact Iff.rfl
    | new e cs => dsimp only; rcases perform q H (.new e cs) with _ | ⟨v, H', wr⟩ <;> exact Iff.rfl
    | lit e sz len cs => dsimp only; rcases perform q H (.lit e sz len cs) with _ | ⟨v, H', wr⟩ <;> exact Iff.rfl
    | grow e sz b cs n src => dsimp only; rcases perform q H (.grow e sz b cs n src) with _ | ⟨v, H', wr⟩ <;> exact Iff.rfl
    | app r ver e sz len b src => dsimp only; rcases perform q H (.app r ver e sz len b src) with _ | ⟨v, H', wr⟩ <;> exact Iff.rfl

theorem goE_sound {ops : Array Oper} {o : Oper} {ts : List PVal} {H : Heap} {Kv : PVal → Heap → List Nat → Prop} {Kp : Value → Heap → List Nat → Prop}
    (h : resK Kv Kp (goE P Γ sv ops o ts H)) : goP P Γ sv ops o ts H Kv Kp := by
  unfold goE at h
  unfold goP
  cases hg : o.guard with
  | none => simp only [hg] at h ⊢; exact coreE_iff.2 h
  | some g =>
    obtain ⟨j, want⟩ := g
    simp only [hg] at h ⊢
    split at h
    · rename_i b heq
      rw [heq]
      by_cases e : b = want
      · rw [if_pos e] at h; exact ⟨fun _ => coreE_iff.2 h, fun hn => (hn e).elim⟩
      · rw [if_neg e] at h; exact ⟨fun e' => (e e').elim, fun _ => h⟩
    · rename_i heq; rw [heq]; exact h
    · exact h.elim

theorem seqE_sound {ops : Array Oper} {K : PEx → St → Prop} : ∀ (l : List Oper) (s : St) (e : PEx) (s' : St), seqE P Γ sv ops l s = some (e, s') → K e s' → seqOps P Γ sv ops l s K
  | [], s, e, s', h, hk => by
    simp only [seqE, Option.some.injEq, Prod.mk.injEq] at h; obtain ⟨rfl, rfl⟩ := h; exact hk
  | o :: rest, s, e, s', h, hk => by
    unfold seqE at h
    unfold seqOps
    rw [stepOp_go]
    split at h
    · rename_i v H' wr heq
      exact goE_sound (by rw [heq]; exact seqE_sound rest _ e s' h hk)
    · rename_i v H' wr heq
      simp only [Option.some.injEq, Prod.mk.injEq] at h; obtain ⟨rfl, rfl⟩ := h
      exact goE_sound (by rw [heq]; exact hk)
    · cases h

theorem freeE_sound {ops : Array Oper} {o : Oper} {ts : List PVal} {H : Heap} {K : PVal → List Nat → Prop} {v : PVal} {hs : List Nat} (h : freeE P ops o ts H = some (v, hs)) (hk : K v hs) : freeP P ops o ts H K := by
  have core : freeOp (actOf P o (evP ts)) H = some (v, hs) → freeC (actOf P o (evP ts)) H K := fun h => by unfold freeC; rw [h]; exact hk
  unfold freeE at h
  unfold freeP
  cases hg : o.guard with
  | none => simp only [hg] at h ⊢; exact core h
  | some g =>
    obtain ⟨j, want⟩ := g
    simp only [hg] at h ⊢
    split at h
    · rename_i b heq
      rw [heq]
      by_cases e : b = want
      · rw [if_pos e] at h; exact ⟨fun _ => core h, fun hn => (hn e).elim⟩
      · rw [if_neg e] at h
        simp only [Option.some.injEq, Prod.mk.injEq] at h; obtain ⟨rfl, rfl⟩ := h
        exact ⟨fun e' => (e e').elim, fun _ => hk⟩
    · rename_i heq; rw [heq]
      simp only [Option.some.injEq, Prod.mk.injEq] at h; obtain ⟨rfl, rfl⟩ := h; exact hk
    · cases h

theorem planE_sound {ops : Array Oper} {K : PEx → St → Prop} : ∀ (p : Plan) (held : List Nat) (s : St) (e : PEx) (s' : St), planE P Γ sv ops p held s = some (e, s') → K e s' → planRun P Γ sv ops p held s K
  | .done, held, s, e, s', h, hk => by
    simp only [planE, Option.some.injEq, Prod.mk.injEq] at h; obtain ⟨rfl, rfl⟩ := h; exact hk
  | .free i p, held, s, e, s', h, hk => by
    simp only [planE] at h
    simp only [planRun]
    cases ho : ops[i]? with
    | none => simp [ho] at h
    | some o =>
      simp only [ho] at h ⊢
      split at h
      · rename_i v hs heq
        exact freeE_sound heq (planE_sound p _ _ e s' h hk)
      · cases h
  | .go i p, held, s, e, s', h, hk => by
    simp only [planE] at h
    simp only [planRun]
    cases ho : ops[i]? with
    | none => simp [ho] at h
    | some o =>
      simp only [ho] at h ⊢
      split at h
      · rename_i v H' wr heq
        split at h
        · rename_i hw
          exact goE_sound (by rw [heq]; exact ⟨hw, planE_sound p _ _ e s' h hk⟩)
        · cases h
      · rename_i v H' wr heq
        simp only [Option.some.injEq, Prod.mk.injEq] at h; obtain ⟨rfl, rfl⟩ := h
        exact goE_sound (by rw [heq]; exact hk)
      · cases h
  | .both p q, held, s, e, s', h, hk => by
    unfold planE at h
    unfold planRun
    split at h
    · rename_i x y hx hy
      split at h
      · rename_i he
        have := eqEnd_eq he
        subst this
        simp only [Option.some.injEq] at h; subst h
        exact ⟨planE_sound p _ _ _ _ hx hk, planE_sound q _ _ _ _ hy hk⟩
      · cases h
    · cases h

theorem codeE_sound {n : Nat} : ∀ (c : Code) (s : St) (e : PEx) (s' : St) (K : PEx → St → Prop), codeE P Γ sv n c s = some (e, s') → K e s' → pwp P Γ sv c s K
  | .skip, s, e, s', K, h, hk => by
    simp only [codeE, Option.some.injEq, Prod.mk.injEq] at h; obtain ⟨rfl, rfl⟩ := h; exact hk
  | .region id ops draw, s, e, s', K, h, hk => by
    unfold codeE at h
    unfold pwp
    cases draw with
    | false => exact seqE_sound _ s e s' h hk
    | true =>
      simp only [if_true] at h ⊢
      split at h
      · rename_i hd; exact ⟨hd, planE_sound _ _ s e s' h hk⟩
      · cases h
  | .seq a b, s, e, s', K, h, hk => by
    unfold codeE at h
    unfold pwp
    split at h
    · rename_i s1 heq
      exact codeE_sound a s _ s1 _ heq (codeE_sound b s1 e s' K h hk)
    · rename_i hn
      refine codeE_sound a s e s' _ h ?_
      cases e with
      | normal => exact (hn s' h).elim
      | _ => exact hk
  | .cond c x y, s, e, s', K, h, hk => by
    unfold codeE at h
    unfold pwp
    split at h
    · rename_i b heq
      rw [heq]
      cases b with
      | true => exact ⟨fun _ => codeE_sound x s e s' K h hk, fun h => (Bool.noConfusion h)⟩
      | false => exact ⟨fun h => (Bool.noConfusion h), fun _ => codeE_sound y s e s' K h hk⟩
    · cases h
  | .block id c, s, e, s', K, h, hk => by
    unfold codeE at h
    unfold pwp
    split at h
    · rename_i i s1 heq
      refine codeE_sound c s _ s1 _ heq ?_
      simp only [blockK]
      split at h
      · rename_i e1
        simp only [Option.some.injEq, Prod.mk.injEq] at h; obtain ⟨rfl, rfl⟩ := h
        rw [if_pos e1]; exact hk
      · rename_i e1
        simp only [Option.some.injEq, Prod.mk.injEq] at h; obtain ⟨rfl, rfl⟩ := h
        rw [if_neg e1]; exact hk
    · rename_i hn
      refine codeE_sound c s e s' _ h ?_
      cases e with
      | exit i => exact (hn i s' h).elim
      | _ => exact hk
  | .loop c, s, e, s', K, h, hk => by
    unfold codeE at h
    unfold pwp
    have key : ∀ (m : Nat) (s : St), iterE (codeE P Γ sv n c) m s = some (e, s') → roundsP (pwp P Γ sv c) K m s := by
      intro m
      induction m with
      | zero => intro s h; cases h
      | succ m ih =>
        intro s h
        unfold iterE at h
        unfold roundsP
        split at h
        · rename_i s1 heq
          exact codeE_sound c s _ s1 _ heq (ih s1 h)
        · rename_i hn
          refine codeE_sound c s e s' _ h ?_
          cases e with
          | normal => exact (hn s' h).elim
          | _ => exact hk
    exact ⟨n, key n s h⟩
  | .exit id, s, e, s', K, h, hk => by
    simp only [codeE, Option.some.injEq, Prod.mk.injEq] at h; obtain ⟨rfl, rfl⟩ := h; exact hk
  | .ret, s, e, s', K, h, hk => by
    simp only [codeE, Option.some.injEq, Prod.mk.injEq] at h; obtain ⟨rfl, rfl⟩ := h; exact hk
  | .rangeFunc .., s, e, s', K, h, hk => by simp [codeE] at h
  | .scope _, s, e, s', K, h, hk => by simp [codeE] at h
  | .label _, s, e, s', K, h, hk => by simp [codeE] at h
  | .goto _, s, e, s', K, h, hk => by simp [codeE] at h
  | .refuse _, s, e, s', K, h, hk => by simp [codeE] at h
end
end Go.PM
