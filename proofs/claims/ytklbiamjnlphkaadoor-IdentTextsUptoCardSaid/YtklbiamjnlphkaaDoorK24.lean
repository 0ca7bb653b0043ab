/-
  Calls, run.
-/
import Derived.Test.YtklbiamjnlphkaaDoorK23
set_option linter.unusedVariables false
set_option linter.unusedSimpArgs false
namespace Go.PM
open Go

/-- What was written is told. -/
structure Told (s s' : St) : Prop where
  len : s.heap.length ≤ s'.heap.length
  wr : ∀ r, r ∈ s.wr → r ∈ s'.wr
  same : ∀ r, r < s.heap.length → r ∉ s'.wr → s'.heap[r]? = s.heap[r]?

theorem Told.refl (s : St) : Told s s := ⟨Nat.le_refl _, fun _ h => h, fun _ _ _ => rfl⟩

theorem Told.trans {a b c : St} (h : Told a b) (k : Told b c) : Told a c :=
  ⟨Nat.le_trans h.len k.len, fun r hr => k.wr r (h.wr r hr), fun r hr hw => (k.same r (Nat.lt_of_lt_of_le hr h.len) hw).trans (h.same r hr fun hb => hw (k.wr r hb))⟩

section
variable {P : Program} {Γ : Ctx} {sv : Tmp → Option Nat}

def resTold (H : Heap) : Option Res → Prop
  | some (.val v H' wr) => Keeps H H' wr
  | some (.pan v H' wr) => Keeps H H' wr
  | none => True

theorem coreE_told (hΓ : CtxOk P Γ) {act : Option Actn} {q : Option Nat} {H : Heap} : resTold H (coreE Γ act q H) := by
  have hperf : ∀ act, resTold H (match perform q H act with | some (v, H', wr) => some (.val v H' wr) | none => none) := fun act => by
    cases hp : perform q H act with
    | none => trivial
    | some x =>
      obtain ⟨v, H', wr⟩ := x
      have := perform_same hp
      exact ⟨Nat.le_of_eq this.1.symm, fun r _ hr => this.2 r hr⟩
  unfold coreE
  cases act with
  | none => trivial
  | some act =>
    cases act with
    | call f args =>
      dsimp only
      cases hg : Γ f args H with
      | none => trivial
      | some x =>
        obtain ⟨wr, o, H'⟩ := x
        have hs := hΓ _ _ _ _ _ _ hg
        cases o with
        | ret v => exact ⟨hs.len, hs.same⟩
        | pan v => exact ⟨hs.len, hs.same⟩
    | pan v => exact ⟨Nat.le_refl _, fun _ _ _ => rfl⟩
    | val v => exact hperf (.val v)
    | load r ver off k => exact hperf (.load r ver off k)
    | store r ver off cs => exact hperf (.store r ver off cs)
    | new e cs => exact hperf (.new e cs)
    | lit e sz len cs => exact hperf (.lit e sz len cs)
    | grow e sz b cs n src => exact hperf (.grow e sz b cs n src)
    | app r ver e sz len b src => exact hperf (.app r ver e sz len b src)

theorem goE_told (hΓ : CtxOk P Γ) {ops : Array Oper} {o : Oper} {ts : List PVal} {H : Heap} : resTold H (goE P Γ sv ops o ts H) := by
  unfold goE
  split
  · exact coreE_told hΓ
  · split
    · split
      · exact coreE_told hΓ
      · exact ⟨Nat.le_refl _, fun _ _ _ => rfl⟩
    · exact ⟨Nat.le_refl _, fun _ _ _ => rfl⟩
    · trivial

theorem Told.step {ts ts' : List PVal} {H H' : Heap} {wr wr' : List Nat} (h : Keeps H H' wr') : Told ⟨ts, H, wr⟩ ⟨ts', H', wr' ++ wr⟩ :=
  ⟨h.1, fun r hr => List.mem_append_right _ hr, fun r hr hw => h.2 r hr fun hb => hw (List.mem_append_left _ hb)⟩

theorem seqE_told (hΓ : CtxOk P Γ) {ops : Array Oper} : ∀ (l : List Oper) (s : St) (e : PEx) (s' : St), seqE P Γ sv ops l s = some (e, s') → Told s s'
  | [], s, e, s', h => by
    simp only [seqE, Option.some.injEq, Prod.mk.injEq] at h; obtain ⟨_, rfl⟩ := h; exact .refl _
  | o :: rest, s, e, s', h => by
    have hg := goE_told (sv := sv) hΓ (ops := ops) (o := o) (ts := s.tmps) (H := s.heap)
    unfold seqE at h
    split at h
    · rename_i v H' wr heq
      rw [heq] at hg
      exact (Told.step hg).trans (seqE_told hΓ rest _ e s' h)
    · rename_i v H' wr heq
      rw [heq] at hg
      simp only [Option.some.injEq, Prod.mk.injEq] at h; obtain ⟨_, rfl⟩ := h
      exact Told.step hg
    · cases h

theorem planE_told (hΓ : CtxOk P Γ) {ops : Array Oper} : ∀ (p : Plan) (held : List Nat) (s : St) (e : PEx) (s' : St), planE P Γ sv ops p held s = some (e, s') → Told s s'
  | .done, held, s, e, s', h => by
    simp only [planE, Option.some.injEq, Prod.mk.injEq] at h; obtain ⟨_, rfl⟩ := h; exact .refl _
  | .free i p, held, s, e, s', h => by
    simp only [planE] at h
    cases ho : ops[i]? with
    | none => simp [ho] at h
    | some o =>
      simp only [ho] at h
      split at h
      · have := planE_told hΓ p _ _ e s' h
        exact ⟨this.len, this.wr, this.same⟩
      · cases h
  | .go i p, held, s, e, s', h => by
    simp only [planE] at h
    cases ho : ops[i]? with
    | none => simp [ho] at h
    | some o =>
      have hg := goE_told (sv := sv) hΓ (ops := ops) (o := o) (ts := s.tmps) (H := s.heap)
      simp only [ho] at h
      split at h
      · rename_i v H' wr heq
        rw [heq] at hg
        split at h
        · exact (Told.step hg).trans (planE_told hΓ p _ _ e s' h)
        · cases h
      · rename_i v H' wr heq
        rw [heq] at hg
        simp only [Option.some.injEq, Prod.mk.injEq] at h; obtain ⟨_, rfl⟩ := h
        exact Told.step hg
      · cases h
  | .both p q, held, s, e, s', h => by
    simp only [planE] at h
    split at h
    · rename_i x y hx hy
      split at h
      · simp only [Option.some.injEq] at h; subst h
        exact planE_told hΓ p _ _ _ _ hx
      · cases h
    · cases h

theorem codeE_told (hΓ : CtxOk P Γ) {n : Nat} : ∀ (c : Code) (s : St) (e : PEx) (s' : St), codeE P Γ sv n c s = some (e, s') → Told s s'
  | .skip, s, e, s', h => by
    simp only [codeE, Option.some.injEq, Prod.mk.injEq] at h; obtain ⟨_, rfl⟩ := h; exact .refl _
  | .region id ops draw, s, e, s', h => by
    simp only [codeE] at h
    split at h
    · split at h
      · exact planE_told hΓ _ _ _ _ _ h
      · cases h
    · exact seqE_told hΓ _ _ _ _ h
  | .seq a b, s, e, s', h => by
    simp only [codeE] at h
    split at h
    · rename_i s1 heq
      exact (codeE_told hΓ a s _ s1 heq).trans (codeE_told hΓ b s1 e s' h)
    · exact codeE_told hΓ a s e s' h
  | .cond c x y, s, e, s', h => by
    simp only [codeE] at h
    split at h
    · split at h
      · exact codeE_told hΓ x s e s' h
      · exact codeE_told hΓ y s e s' h
    · cases h
  | .block id c, s, e, s', h => by
    simp only [codeE] at h
    split at h
    · rename_i i s1 heq
      have := codeE_told hΓ c s _ s1 heq
      split at h
      · simp only [Option.some.injEq, Prod.mk.injEq] at h; obtain ⟨_, rfl⟩ := h; exact this
      · simp only [Option.some.injEq, Prod.mk.injEq] at h; obtain ⟨_, rfl⟩ := h; exact this
    · exact codeE_told hΓ c s e s' h
  | .loop c, s, e, s', h => by
    simp only [codeE] at h
    have key : ∀ (m : Nat) (s : St), iterE (codeE P Γ sv n c) m s = some (e, s') → Told s s' := by
      intro m
      induction m with
      | zero => intro s h; cases h
      | succ m ih =>
        intro s h
        unfold iterE at h
        split at h
        · rename_i s1 heq
          exact (codeE_told hΓ c s _ s1 heq).trans (ih s1 h)
        · exact codeE_told hΓ c s e s' h
    exact key n s h
  | .exit id, s, e, s', h => by
    simp only [codeE, Option.some.injEq, Prod.mk.injEq] at h; obtain ⟨_, rfl⟩ := h; exact .refl _
  | .ret, s, e, s', h => by
    simp only [codeE, Option.some.injEq, Prod.mk.injEq] at h; obtain ⟨_, rfl⟩ := h; exact .refl _
  | .rangeFunc .., s, e, s', h => by simp [codeE] at h
  | .scope _, s, e, s', h => by simp [codeE] at h
  | .label _, s, e, s', h => by simp [codeE] at h
  | .goto _, s, e, s', h => by simp [codeE] at h
  | .refuse _, s, e, s', h => by simp [codeE] at h
end

/-! ### Calls -/
/-- Where new things go: the named ones into rows from base on. -/
def svOf (sites : List Tmp) (base : Nat) : Tmp → Option Nat := fun t => (sites.idxOf? t).map (base + ·)

/-- Own rows are left behind, if nothing names them. -/
def cutE (H : Heap) (wr : List Nat) (o : Out) (H' : Heap) : List Nat × Out × Heap :=
  if keepOk H.length H wr o H' = true then (wr, o, H'.take H.length) else (wr, o, H')

def callE (P : Program) (Γ : Ctx) (sites : FuncId → List Tmp) (rounds : Nat) : Nat → Ctx
  | 0 => Γ
  | n + 1 => fun f args H =>
    match Γ f args H with
    | some r => some r
    | none =>
      match P.funcs[f]? with
      | none => none
      | some fn =>
        match fn.body with
        | none => none
        | some c =>
          if enters P f = true then
            match codeE P (callE P Γ sites rounds n) (svOf (sites f) H.length) rounds c ⟨args ++ List.replicate (fn.ntmps - args.length) .und, H ++ List.replicate (sites f).length none, []⟩ with
            | some (.normal, s) => (resP P fn s.tmps s.heap).map fun v => cutE H s.wr (.ret v) s.heap
            | some (.ret, s) => (resP P fn s.tmps s.heap).map fun v => cutE H s.wr (.ret v) s.heap
            | some (.pan x, s) => some (cutE H s.wr (.pan x) s.heap)
            | _ => none
          else none

section
variable {P : Program}

theorem cutE_sound {f : FuncId} {args : List PVal} {H : Heap} {wr : List Nat} {o : Out} {H' : Heap} (h : SimCall P f args H wr o H') {r : List Nat × Out × Heap} (hr : cutE H wr o H' = r) : SimCall P f args H r.1 r.2.1 r.2.2 := by
  unfold cutE at hr
  split at hr
  · rename_i hk
    subst hr
    exact h.keep (Nat.le_refl _) h.len fun _ _ _ _ _ => hk
  · subst hr; exact h

theorem callE_ok (hm : P.follows .mixedOrders = true) {Γ : Ctx} (hΓ : CtxOk P Γ) {sites : FuncId → List Tmp} {rounds : Nat} : ∀ n, CtxOk P (callE P Γ sites rounds n)
  | 0 => hΓ
  | n + 1 => by
    have ih := callE_ok hm hΓ (sites := sites) (rounds := rounds) n
    intro f args H wr o H' h
    unfold callE at h
    split at h
    · rename_i r heq
      simp only [Option.some.injEq] at h; subst h
      exact hΓ _ _ _ _ _ _ heq
    · split at h
      · cases h
      · rename_i fn hf
        split at h
        · cases h
        · rename_i c hb
          split at h
          · rename_i he
            have main : ∀ (e : PEx) (s : St) (o : Out), codeE P (callE P Γ sites rounds n) (svOf (sites f) H.length) rounds c ⟨args ++ List.replicate (fn.ntmps - args.length) .und, H ++ List.replicate (sites f).length none, []⟩ = some (e, s) →
                finP P fn o s.heap e s → SimCall P f args H s.wr o s.heap := fun e s o hrun hfin => by
              have ht := codeE_told ih c _ e s hrun
              refine sim_of ih (sites f).length (svOf (sites f) H.length) hm hf hb he ?_ ?_ (codeE_sound c _ e s _ hrun hfin)
              · have := ht.len; simp at this; omega
              · intro r hr hw
                rw [ht.same r (by simp; omega) hw, List.getElem?_append_left hr]
            split at h
            · rename_i s hrun
              cases hres : resP P fn s.tmps s.heap with
              | none => simp [hres] at h
              | some v =>
                simp only [hres, Option.map_some, Option.some.injEq] at h
                exact cutE_sound (main _ s (.ret v) hrun ⟨rfl, v, rfl, hres⟩) h
            · rename_i s hrun
              cases hres : resP P fn s.tmps s.heap with
              | none => simp [hres] at h
              | some v =>
                simp only [hres, Option.map_some, Option.some.injEq] at h
                exact cutE_sound (main _ s (.ret v) hrun ⟨rfl, v, rfl, hres⟩) h
            · rename_i x s hrun
              simp only [Option.some.injEq] at h
              exact cutE_sound (main _ s (.pan x) hrun ⟨rfl, rfl⟩) h
            · cases h
          · cases h
end
end Go.PM
