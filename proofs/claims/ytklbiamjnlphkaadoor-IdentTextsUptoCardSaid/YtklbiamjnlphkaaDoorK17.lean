/-
  One operation, seen through what it asks; operations one behind the other; code.
-/
import Derived.Test.YtklbiamjnlphkaaDoorK16
set_option linter.unusedVariables false
set_option linter.unusedSimpArgs false
namespace Go.PM
open Go

section
variable (P : Program) (Γ : Ctx)

/-- What is asked for is done. -/
def coreOp (act : Option Actn) (q : Option Nat) (H : Heap) (Kv : PVal → Heap → List Nat → Prop) (Kp : Value → Heap → List Nat → Prop) : Prop :=
  match act with
  | none => False
  | some (.call f args) => match Γ f args H with
    | some (wr, .ret v, H') => Kv v H' wr
    | some (wr, .pan v, H') => Kp v H' wr
    | none => False
  | some (.pan v) => Kp v H []
  | some act =>
    match perform q H act with
    | some (v, H', wr) => Kv v H' wr
    | none => False

/-- One operation behind its guard. -/
def goP (sv : Tmp → Option Nat) (ops : Array Oper) (o : Oper) (ts : List PVal) (H : Heap) (Kv : PVal → Heap → List Nat → Prop) (Kp : Value → Heap → List Nat → Prop) : Prop :=
  match o.guard with
  | none => coreOp Γ (actOf P o (evP ts)) (sv (o.dst.getD 0)) H Kv Kp
  | some (j, want) =>
    match guardV ops ts j with
    | some (.c (.sc (.bool b))) => (b = want → coreOp Γ (actOf P o (evP ts)) (sv (o.dst.getD 0)) H Kv Kp) ∧ (b ≠ want → Kv .und H [])
    | some .und => Kv .und H []
    | _ => False
end

variable {P : Program} {Γ : Ctx} {sv : Tmp → Option Nat} {w : World} {M0 : Own} {ρ : Place} {a : Act} {Q : Exit → Act → World → Prop}

theorem runOp_core {o : Oper} {s : St} {K : PEx → St → Prop} : runOp P Γ sv o s K ↔
    coreOp Γ (actOf P o (evP s.tmps)) (sv (o.dst.getD 0)) s.heap (fun v H' wr => K .normal ⟨putT s.tmps o.dst v, H', wr ++ s.wr⟩) (fun v H' wr => K (.pan v) ⟨s.tmps, H', wr ++ s.wr⟩) := by
  unfold runOp coreOp
  cases actOf P o (evP s.tmps) with
  | none => exact Iff.rfl
  | some act => cases act <;> exact Iff.rfl

theorem stepOp_go {ops : Array Oper} {o : Oper} {s : St} {K : PEx → St → Prop} : stepOp P Γ sv ops o s K ↔
    goP P Γ sv ops o s.tmps s.heap (fun v H' wr => K .normal ⟨putT s.tmps o.dst v, H', wr ++ s.wr⟩) (fun v H' wr => K (.pan v) ⟨s.tmps, H', wr ++ s.wr⟩) := by
  unfold stepOp goP
  cases o.guard with
  | none => exact runOp_core
  | some g =>
    obtain ⟨j, want⟩ := g
    simp only [runOp_core, List.nil_append]
    exact Iff.rfl

theorem coreOp_mono {act : Option Actn} {q : Option Nat} {H : Heap} {Kv Kv' : PVal → Heap → List Nat → Prop} {Kp Kp' : Value → Heap → List Nat → Prop}
    (h : coreOp Γ act q H Kv Kp) (hv : ∀ v H' wr, Kv v H' wr → Kv' v H' wr) (hp : ∀ v H' wr, Kp v H' wr → Kp' v H' wr) : coreOp Γ act q H Kv' Kp' := by
  unfold coreOp at *
  split at h
  · exact h.elim
  · split at h
    · exact hv _ _ _ h
    · exact hp _ _ _ h
    · exact h.elim
  · exact hp _ _ _ h
  · rename_i act h1 h2
    split at h
    · exact hv _ _ _ h
    · exact h.elim

theorem goP_mono {ops : Array Oper} {o : Oper} {ts : List PVal} {H : Heap} {Kv Kv' : PVal → Heap → List Nat → Prop} {Kp Kp' : Value → Heap → List Nat → Prop}
    (h : goP P Γ sv ops o ts H Kv Kp) (hv : ∀ v H' wr, Kv v H' wr → Kv' v H' wr) (hp : ∀ v H' wr, Kp v H' wr → Kp' v H' wr) : goP P Γ sv ops o ts H Kv' Kp' := by
  unfold goP at *
  split at h
  · exact coreOp_mono h hv hp
  · split at h
    · exact ⟨fun e => coreOp_mono (h.1 e) hv hp, fun e => hv _ _ _ (h.2 e)⟩
    · exact hv _ _ _ h
    · exact h.elim

theorem perform_same {q : Option Nat} {H : Heap} {act : Actn} {v : PVal} {H' : Heap} {wr : List Nat} (h : perform q H act = some (v, H', wr)) :
    H'.length = H.length ∧ (∀ r, r ∉ wr → H'[r]? = H[r]?) := by
  have hset : ∀ (r r' : Nat) (x : Option PRow), r' ∉ [r] → (H.set r x)[r']? = H[r']? := fun r r' x hr => by
    rw [List.getElem?_set_ne]; simp at hr; exact fun e => hr e.symm
  cases act <;> simp only [perform] at h
  all_goals first
    | cases h
    | skip
  all_goals try (exact ⟨rfl, fun _ _ => rfl⟩)
  all_goals repeat' (first | (simp at h; done) | split at h)
  all_goals try (simp only [Option.some.injEq, Prod.mk.injEq, Option.map_eq_some_iff] at h)
  all_goals first
    | (obtain ⟨_, rfl, rfl⟩ := h; exact ⟨by simp, fun r hr => hset _ _ _ hr⟩)
    | (obtain ⟨_, rfl, rfl⟩ := h; exact ⟨rfl, fun _ _ => rfl⟩)
    | (obtain ⟨_, _, _, rfl, rfl⟩ := h; exact ⟨rfl, fun _ _ => rfl⟩)

/-- The rows that were not written are as they were. -/
def Keeps (H H' : Heap) (wr : List Nat) : Prop := H.length ≤ H'.length ∧ ∀ r, r < H.length → r ∉ wr → H'[r]? = H[r]?

theorem coreOp_keeps (hΓ : CtxOk P Γ) {act : Option Actn} {q : Option Nat} {H : Heap} {Kv : PVal → Heap → List Nat → Prop} {Kp : Value → Heap → List Nat → Prop}
    (h : coreOp Γ act q H Kv Kp) : coreOp Γ act q H (fun v H' wr => Kv v H' wr ∧ Keeps H H' wr) (fun v H' wr => Kp v H' wr ∧ Keeps H H' wr) := by
  unfold coreOp at *
  split at h
  · exact h.elim
  · split at h
    · rename_i heq
      have hs := hΓ _ _ _ _ _ _ heq
      exact ⟨h, hs.len, hs.same⟩
    · rename_i heq
      have hs := hΓ _ _ _ _ _ _ heq
      exact ⟨h, hs.len, hs.same⟩
    · exact h.elim
  · exact ⟨h, Nat.le_refl _, fun _ _ _ => rfl⟩
  · rename_i act h1 h2
    split at h
    · rename_i heq
      have := perform_same heq
      exact ⟨h, Nat.le_of_eq this.1.symm, fun r _ hr => this.2 r hr⟩
    · exact h.elim

theorem goP_keeps (hΓ : CtxOk P Γ) {ops : Array Oper} {o : Oper} {ts : List PVal} {H : Heap} {Kv : PVal → Heap → List Nat → Prop} {Kp : Value → Heap → List Nat → Prop}
    (h : goP P Γ sv ops o ts H Kv Kp) : goP P Γ sv ops o ts H (fun v H' wr => Kv v H' wr ∧ Keeps H H' wr) (fun v H' wr => Kp v H' wr ∧ Keeps H H' wr) := by
  unfold goP at *
  split at h
  · exact coreOp_keeps hΓ h
  · split at h
    · exact ⟨fun e => coreOp_keeps hΓ (h.1 e), fun e => ⟨h.2 e, Nat.le_refl _, fun _ _ _ => rfl⟩⟩
    · exact ⟨h, Nat.le_refl _, fun _ _ _ => rfl⟩
    · exact h.elim

/-- The model's goal at one operation. -/
def opGoal (P : Program) (ops : Array Oper) (o : Oper) (a : Act) (w : World) (Kn : Act → World → Prop) (Q : Exit → Act → World → Prop) : Prop :=
  if Region.wanted o (yielded ops a.tmps) then o.wp P a w Kn Q ∨ (o.asks P a w ∧ LetsOut Q) else Kn (a.put o.dst undef) w

theorem goP_sound (hΓ : CtxOk P Γ) (hA : Known P M0.fix) {ops : Array Oper} {o : Oper} {ts : List PVal} {H : Heap} {Kv : PVal → Heap → List Nat → Prop} {Kp : Value → Heap → List Nat → Prop}
    (h : goP P Γ sv ops o ts H Kv Kp) (hR : Rl w M0 ρ ts H a) {Kn : Act → World → Prop}
    (hn : ∀ v H' wr a' w' ρ', Kv v H' wr → Tr w ρ w' ρ' → Rl w' M0 ρ' (putT ts o.dst v) H' a' → Kn a' w')
    (hp : ∀ v H' wr a' w' ρ', Kp v H' wr → Tr w ρ w' ρ' → Rl w' M0 ρ' ts H' a' → Q (.panic [{ v, recovered := false }]) a' w') : opGoal P ops o a w Kn Q := by
  have core : coreOp Γ (actOf P o (evP ts)) (sv (o.dst.getD 0)) H Kv Kp → o.wp P a w Kn Q := fun hc => by
    let K : PEx → St → Prop := fun e s' => match e with
      | .normal => ∃ v wr, s'.tmps = putT ts o.dst v ∧ Kv v s'.heap wr
      | .pan v => s'.tmps = ts ∧ ∃ wr, Kp v s'.heap wr
      | _ => False
    have hr : runOp P Γ sv o ⟨ts, H, []⟩ K := runOp_core.2 (coreOp_mono hc (fun v H' wr hk => ⟨v, wr, rfl, hk⟩) (fun v H' wr hk => ⟨rfl, wr, hk⟩))
    refine runOp_sound hΓ hA hr hR ?_ ?_
    · rintro s' a' w' ρ' ⟨v, wr, hts, hk⟩ t hR'
      rw [hts] at hR'
      exact hn v _ wr a' w' ρ' hk t hR'
    · rintro v s' a' w' ρ' ⟨hts, wr, hk⟩ t hR'
      rw [hts] at hR'
      exact hp v _ wr a' w' ρ' hk t hR'
  unfold goP at h
  unfold opGoal Region.wanted
  split at h
  · rename_i hg
    simp only [hg, if_true]
    exact .inl (core h)
  · rename_i j want hg
    simp only [hg]
    have gs := guard_sound (ops := ops) (a := a) (j := j) hR.tmps
    split at h
    · rename_i b heq
      rw [gs.1 b heq]
      by_cases hb : b = want
      · subst hb; simp only [BEq.rfl, if_true]; exact .inl (core (h.1 rfl))
      · have : (some b == some want) = false := by simp [hb]
        rw [this]; simp only [Bool.false_eq_true, if_false]
        exact hn .und H [] _ w ρ (h.2 hb) (Tr.refl _ _) (hR.put (Tr.refl _ _) hR.heap o.dst .und)
    · rename_i heq
      rw [gs.2 heq]
      have : ((none : Option Bool) == some want) = false := rfl
      rw [this]; simp only [Bool.false_eq_true, if_false]
      exact hn .und H [] _ w ρ h (Tr.refl _ _) (hR.put (Tr.refl _ _) hR.heap o.dst .und)
    · exact h.elim

/-- One behind the other. -/
theorem seq_sound (hΓ : CtxOk P Γ) (hA : Known P M0.fix) {ops : Array Oper} {K : PEx → St → Prop} : ∀ (l : List Oper) (s : St) (w : World) (ρ : Place) (a : Act), seqOps P Γ sv ops l s K → Rl w M0 ρ s.tmps s.heap a → QOk w M0 ρ K Q → wpList P ops Q l a w
  | [], s, w, ρ, a, h, hR, hq => hq .normal s a w ρ h (Tr.refl _ _) hR
  | o :: rest, s, w, ρ, a, h, hR, hq => by
    unfold seqOps at h
    rw [stepOp_go] at h
    refine goP_sound hΓ hA h hR ?_ ?_
    · intro v H' wr a' w' ρ' hk t hR'
      exact seq_sound hΓ hA rest _ w' ρ' a' hk hR' (hq.tr t)
    · intro v H' wr a' w' ρ' hk t hR'
      exact hq (.pan v) _ a' w' ρ' hk t hR'

end Go.PM
