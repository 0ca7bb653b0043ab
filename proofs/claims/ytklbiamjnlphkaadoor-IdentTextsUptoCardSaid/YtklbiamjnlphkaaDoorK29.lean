/-
  Loops of unknown length.
-/
import Derived.Test.YtklbiamjnlphkaaDoorK28
set_option linter.unusedVariables false
set_option linter.unusedSimpArgs false
namespace Go.PM
open Go

section
variable {P : Program} {Γ : Ctx} {sv : Tmp → Option Nat}

theorem seqOps_mono {ops : Array Oper} {K K' : PEx → St → Prop} (hK : ∀ e s, K e s → K' e s) : ∀ (l : List Oper) (s : St), seqOps P Γ sv ops l s K → seqOps P Γ sv ops l s K'
  | [], s, h => hK _ _ h
  | o :: rest, s, h => by
    unfold seqOps at h ⊢
    rw [stepOp_go] at h ⊢
    exact goP_mono h (fun v H' wr hk => seqOps_mono hK rest _ hk) (fun v H' wr hk => hK _ _ hk)

theorem freeC_mono {act : Option Actn} {H : Heap} {K K' : PVal → List Nat → Prop} (hK : ∀ v hs, K v hs → K' v hs) (h : freeC act H K) : freeC act H K' := by
  unfold freeC at *
  cases hf : freeOp act H with
  | none => simp [hf] at h
  | some x => simp only [hf] at h ⊢; exact hK _ _ h

theorem freeP_mono {ops : Array Oper} {o : Oper} {ts : List PVal} {H : Heap} {K K' : PVal → List Nat → Prop} (hK : ∀ v hs, K v hs → K' v hs) (h : freeP P ops o ts H K) : freeP P ops o ts H K' := by
  unfold freeP at *
  cases hg : o.guard with
  | none => simp only [hg] at h ⊢; exact freeC_mono hK h
  | some g =>
    obtain ⟨j, want⟩ := g
    simp only [hg] at h ⊢
    split at h
    · exact ⟨fun e => freeC_mono hK (h.1 e), fun e => hK _ _ (h.2 e)⟩
    · exact hK _ _ h
    · exact h.elim

theorem planRun_mono {ops : Array Oper} {K K' : PEx → St → Prop} (hK : ∀ e s, K e s → K' e s) : ∀ (p : Plan) (held : List Nat) (s : St), planRun P Γ sv ops p held s K → planRun P Γ sv ops p held s K'
  | .done, held, s, h => hK _ _ h
  | .free i p, held, s, h => by
    simp only [planRun] at h ⊢
    cases ho : ops[i]? with
    | none => simp [ho] at h
    | some o =>
      simp only [ho] at h ⊢
      exact freeP_mono (fun v hs hk => planRun_mono hK p _ _ hk) h
  | .go i p, held, s, h => by
    simp only [planRun] at h ⊢
    cases ho : ops[i]? with
    | none => simp [ho] at h
    | some o =>
      simp only [ho] at h ⊢
      exact goP_mono h (fun v H' wr hk => ⟨hk.1, planRun_mono hK p _ _ hk.2⟩) (fun v H' wr hk => hK _ _ hk)
  | .both p q, held, s, h => by
    simp only [planRun] at h ⊢
    exact ⟨planRun_mono hK p _ _ h.1, planRun_mono hK q _ _ h.2⟩

theorem rounds_mono {f : St → (PEx → St → Prop) → Prop} {K K' : PEx → St → Prop} (hf : ∀ s (L L' : PEx → St → Prop), (∀ e s, L e s → L' e s) → f s L → f s L') (hK : ∀ e s, K e s → K' e s) :
    ∀ (n m : Nat) (s : St), n ≤ m → roundsP f K n s → roundsP f K' m s
  | 0, _, _, _, h => h.elim
  | n + 1, 0, _, hle, _ => by omega
  | n + 1, m + 1, s, hle, h => by
    unfold roundsP at h ⊢
    refine hf s _ _ (fun e s' hk => ?_) h
    cases e with
    | normal => exact rounds_mono hf hK n m s' (by omega) hk
    | exit id => exact hK _ _ hk
    | ret => exact hK _ _ hk
    | pan v => exact hK _ _ hk

theorem pwp_mono : ∀ (c : Code) (s : St) (K K' : PEx → St → Prop), (∀ e s, K e s → K' e s) → pwp P Γ sv c s K → pwp P Γ sv c s K'
  | .skip, s, K, K', hK, h => hK _ _ h
  | .region id ops draw, s, K, K', hK, h => by
    unfold pwp at h ⊢
    cases draw with
    | false => exact seqOps_mono hK _ _ h
    | true => exact ⟨h.1, planRun_mono hK _ _ _ h.2⟩
  | .seq a b, s, K, K', hK, h => by
    unfold pwp at h ⊢
    refine pwp_mono a s _ _ (fun e s' hk => ?_) h
    cases e with
    | normal => exact pwp_mono b s' _ _ hK hk
    | exit id => exact hK _ _ hk
    | ret => exact hK _ _ hk
    | pan v => exact hK _ _ hk
  | .cond c x y, s, K, K', hK, h => by
    unfold pwp at h ⊢
    split at h
    · exact ⟨fun e => pwp_mono x s _ _ hK (h.1 e), fun e => pwp_mono y s _ _ hK (h.2 e)⟩
    · exact h.elim
  | .block id c, s, K, K', hK, h => by
    unfold pwp at h ⊢
    refine pwp_mono c s _ _ (fun e s' hk => ?_) h
    cases e with
    | exit i =>
      simp only [blockK] at hk ⊢
      split <;> rename_i e1
      · rw [if_pos e1] at hk; exact hK _ _ hk
      · rw [if_neg e1] at hk; exact hK _ _ hk
    | normal => exact hK _ _ hk
    | ret => exact hK _ _ hk
    | pan v => exact hK _ _ hk
  | .loop c, s, K, K', hK, h => by
    unfold pwp at h ⊢
    obtain ⟨n, h⟩ := h
    exact ⟨n, rounds_mono (fun s L L' hl hp => pwp_mono c s L L' hl hp) hK n n s (Nat.le_refl _) h⟩
  | .exit id, s, K, K', hK, h => hK _ _ h
  | .ret, s, K, K', hK, h => hK _ _ h
  | .rangeFunc .., s, K, K', hK, h => by unfold pwp at h; exact h.elim
  | .scope _, s, K, K', hK, h => by unfold pwp at h; exact h.elim
  | .label _, s, K, K', hK, h => by unfold pwp at h; exact h.elim
  | .goto _, s, K, K', hK, h => by unfold pwp at h; exact h.elim
  | .refuse _, s, K, K', hK, h => by unfold pwp at h; exact h.elim

/-- A loop, by what stands between its rounds; n: at most so many are left. -/
theorem pwp_loop {c : Code} {K : PEx → St → Prop} (I : Nat → St → Prop) (hI : ∀ n s, I n s → pwp P Γ sv c s (thenK (fun s' => ∃ m, m < n ∧ I m s') K)) {n : Nat} {s : St} (h : I n s) : pwp P Γ sv (.loop c) s K := by
  unfold pwp
  refine ⟨n + 1, ?_⟩
  induction n using Nat.strongRecOn generalizing s with
  | _ n ih =>
    unfold roundsP
    refine pwp_mono c s _ _ (fun e s' hk => ?_) (hI n s h)
    cases e with
    | normal =>
      obtain ⟨m, hm, hi⟩ := hk
      exact rounds_mono (fun s L L' hl hp => pwp_mono c s L L' hl hp) (fun _ _ h => h) (m + 1) n s' (by omega) (ih m hm hi)
    | exit id => exact hk
    | ret => exact hk
    | pan v => exact hk

/-- A round that is run. -/
theorem pwp_run {c : Code} {s s' : St} {e : PEx} {K : PEx → St → Prop} (n : Nat) (h : codeE P Γ sv n c s = some (e, s')) (hk : K e s') : pwp P Γ sv c s K := codeE_sound c s e s' K h hk

theorem pwp_seq_run {a b : Code} {s s' : St} {K : PEx → St → Prop} (n : Nat) (h : codeE P Γ sv n a s = some (.normal, s')) (hk : pwp P Γ sv b s' K) : pwp P Γ sv (.seq a b) s K := by
  unfold pwp; exact codeE_sound a s _ s' _ h hk

theorem pwp_seq {a b : Code} {s : St} {K : PEx → St → Prop} (h : pwp P Γ sv a s (thenK (fun s' => pwp P Γ sv b s' K) K)) : pwp P Γ sv (.seq a b) s K := by
  unfold pwp; exact h

theorem pwp_block {id : Nat} {c : Code} {s : St} {K : PEx → St → Prop} (h : pwp P Γ sv c s (blockK id K)) : pwp P Γ sv (.block id c) s K := by
  unfold pwp; exact h
end
end Go.PM
