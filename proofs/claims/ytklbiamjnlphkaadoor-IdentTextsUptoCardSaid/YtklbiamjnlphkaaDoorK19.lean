/-
  Whatever order the model draws, the plan covers it.
-/
import Derived.Test.YtklbiamjnlphkaaDoorK18
set_option linter.unusedVariables false
set_option linter.unusedSimpArgs false
namespace Go.PM
open Go

section
variable {P : Program} {Γ : Ctx} {sv : Tmp → Option Nat} {ops : Array Oper} {M0 : Own} {Q : Exit → Act → World → Prop}

theorem mem_ready {l : Array Bool} {i : Nat} : i ∈ Region.ready .any ops l ↔ i < ops.size ∧ l.getD i true = false ∧ ∃ o, ops[i]? = some o ∧ ∀ e ∈ o.after, Region.binds .any e = true → l.getD e.on false = true := by
  unfold Region.ready
  simp only [List.mem_filter, List.mem_range, Bool.and_eq_true, Bool.not_eq_true']
  constructor
  · rintro ⟨h1, h2, h3⟩
    refine ⟨h1, h2, ?_⟩
    cases ho : ops[i]? with
    | none => simp [ho] at h3
    | some o =>
      refine ⟨o, rfl, fun e he hb => ?_⟩
      simp only [ho, Option.map_some, Option.getD_some, Array.all_eq_true_iff_forall_mem, Bool.or_eq_true, Bool.not_eq_true'] at h3
      rcases h3 e he with h | h
      · rw [hb] at h; cases h
      · exact h
  · rintro ⟨h1, h2, o, ho, h3⟩
    refine ⟨h1, h2, ?_⟩
    simp only [ho, Option.map_some, Option.getD_some, Array.all_eq_true_iff_forall_mem, Bool.or_eq_true, Bool.not_eq_true']
    intro e he
    cases hb : Region.binds .any e with
    | false => exact .inl rfl
    | true => exact .inr (h3 e he hb)

theorem getD_set {l : Array Bool} {i j : Nat} {d : Bool} (hi : i < l.size) : (l.setIfInBounds i true).getD j d = if i = j then true else l.getD j d := by
  simp only [Array.getD_eq_getD_getElem?, Array.getElem?_setIfInBounds]
  by_cases h : i = j
  · subst h; simp [hi]
  · simp [h]

/-- The static conditions. -/
theorem drawOk_spec (h : drawOk ops = true) : (∀ (i : Nat) (o : Oper), ops[i]? = some o → (∀ e ∈ o.after, e.on < i) ∧ ∀ d, o.dst = some d → d ∉ o.looksAt ops) ∧
    (∀ (i j : Nat) (x y : Oper), ops[i]? = some x → ops[j]? = some y → freeK x = true → i ≠ j → pairOk ops i j x y = true) := by
  unfold drawOk at h
  rw [List.all_eq_true] at h
  constructor
  · intro i o ho
    have hi := (Array.getElem?_eq_some_iff.1 ho).1
    have := h i (by simpa using hi)
    simp only [ho, Bool.and_eq_true, Array.all_eq_true_iff_forall_mem, decide_eq_true_eq] at this
    refine ⟨this.1.1, fun d hd => ?_⟩
    have := this.1.2
    simp only [hd] at this
    simpa using this
  · intro i j x y hx hy hf hne
    have hi := (Array.getElem?_eq_some_iff.1 hx).1
    have hj := (Array.getElem?_eq_some_iff.1 hy).1
    have := h i (by simpa using hi)
    simp only [hx, Bool.and_eq_true, hf, Bool.not_true, Bool.false_or, List.all_eq_true] at this
    have := this.2 j (by simpa using hj)
    simp only [hy, Bool.or_eq_true, beq_iff_eq] at this
    exact this.resolve_left hne

theorem bindsOn_spec {o : Oper} {i : Nat} (h : bindsOn o i = true) : ∃ e ∈ o.after, Region.binds .any e = true ∧ e.on = i := by
  unfold bindsOn at h
  rw [Array.any_eq_true'] at h
  obtain ⟨e, he, h⟩ := h
  simp only [Bool.and_eq_true, beq_iff_eq] at h
  exact ⟨e, he, h.1, h.2⟩

theorem pairOk_spec {i j : Nat} {x y : Oper} (h : pairOk ops i j x y = true) :
    (∀ d, x.dst = some d → d ∈ y.looksAt ops → bindsOn y i = true) ∧ (∀ d, x.dst = some d → y.dst ≠ some d) ∧ (∀ d, y.dst = some d → d ∈ x.looksAt ops → bindsOn x j = true) := by
  unfold pairOk at h
  simp only [Bool.and_eq_true] at h
  refine ⟨fun d hd hm => ?_, fun d hd => ?_, fun d hd hm => ?_⟩
  · simp only [hd, Bool.and_eq_true, Bool.or_eq_true, Bool.not_eq_true'] at h
    rcases h.1.1 with h | h
    · exact absurd hm (by simpa using h)
    · exact h
  · simp only [hd, Bool.and_eq_true] at h
    simpa using h.1.2
  · simp only [hd, Bool.or_eq_true, Bool.not_eq_true'] at h
    rcases h.2 with h | h
    · exact absurd hm (by simpa using h)
    · exact h

/-- What has been taken ahead of the model. -/
def dstOf (ops : Array Oper) (i : Nat) : Option Tmp := (ops[i]?).bind (·.dst)

/-- lm: what the model has done; lp: what the plan has; held: rows that stay. -/
structure DInv (P : Program) (Γ : Ctx) (sv : Tmp → Option Nat) (ops : Array Oper) (M0 : Own) (lm lp : Array Bool) (held : List Nat) (ts : List PVal) (H : Heap) (w : World) (ρ : Place) (a : Act) : Prop where
  sm : lm.size = ops.size
  sp : lp.size = ops.size
  sub : ∀ i, lm.getD i false = true → lp.getD i false = true
  down : ∀ i o, lp.getD i false = true → ops[i]? = some o → ∀ e ∈ o.after, Region.binds .any e = true → lp.getD e.on false = true
  pend : ∀ i o, lp.getD i false = true → lm.getD i false = false → ops[i]? = some o → freeK o = true ∧ ∃ v hs, Pend P Γ sv ops o ts H v hs ∧ (∀ r ∈ hs, r ∈ held) ∧ putT ts o.dst v = ts
  held : ∀ r ∈ held, r < H.length
  rel : ∃ ts', Rl w M0 ρ ts' H a ∧ ts'.length = ts.length ∧ ∀ t, (∀ i, lp.getD i false = true → lm.getD i false = false → dstOf ops i ≠ some t) → ts'[t]? = ts[t]?

theorem getD_ff {l : Array Bool} {i : Nat} (h : l.getD i true = false) : i < l.size ∧ l.getD i false = false := by
  rw [Array.getD_eq_getD_getElem?] at h ⊢
  cases hl : l[i]? with
  | none => simp [hl] at h
  | some b =>
    simp only [hl, Option.getD_some] at h; subst h
    exact ⟨(Array.getElem?_eq_some_iff.1 hl).1, rfl⟩

theorem getD_tf {l : Array Bool} {i : Nat} (hi : i < l.size) (h : l.getD i false = false) : l.getD i true = false := by
  rw [Array.getD_eq_getD_getElem?] at h ⊢
  cases hl : l[i]? with
  | none => simp at hl; omega
  | some b => simpa [hl] using h

theorem getD_lt {l : Array Bool} {i : Nat} (h : l.getD i false = true) : i < l.size := by
  rw [Array.getD_eq_getD_getElem?] at h
  cases hl : l[i]? with
  | none => simp [hl] at h
  | some b => exact (Array.getElem?_eq_some_iff.1 hl).1

theorem getElem?_putT {ts : List PVal} {d : Option Tmp} {v : PVal} {t : Tmp} (h : d ≠ some t) : (putT ts d v)[t]? = ts[t]? := by
  cases d with
  | none => rfl
  | some d => simp only [putT]; rw [List.getElem?_set_ne]; exact fun e => h (by rw [e])

theorem length_putT {ts : List PVal} {d : Option Tmp} {v : PVal} : (putT ts d v).length = ts.length := by
  cases d <;> simp [putT]

theorem putT_comm {ts : List PVal} {d d' : Option Tmp} {v v' : PVal} (h : ∀ t, d = some t → d' ≠ some t) (hv : putT ts d v = ts) : putT (putT ts d' v') d v = putT ts d' v' := by
  cases d with
  | none => rfl
  | some t =>
    apply List.ext_getElem?
    intro j
    by_cases hj : j = t
    · subst hj
      have h1 : (putT ts (some j) v)[j]? = ts[j]? := by rw [hv]
      have h2 := h j rfl
      simp only [putT, List.getElem?_set_self'] at h1 ⊢
      have h3 : (putT ts d' v')[j]? = ts[j]? := getElem?_putT h2
      cases d' with
      | none => exact h1
      | some t' =>
        simp only [putT] at h3 ⊢
        rw [h3]; exact h1
    · rw [getElem?_putT (d := some t) (by simp; exact fun e => hj e.symm)]

/-- The plan takes one that only looks. -/
theorem DInv.free (hd : drawOk ops = true) {lm lp : Array Bool} {held : List Nat} {ts : List PVal} {H : Heap} {w : World} {ρ : Place} {a : Act} (h : DInv P Γ sv ops M0 lm lp held ts H w ρ a) {i : Nat} (hr : i ∈ Region.ready .any ops lp) {o : Oper} (ho : ops[i]? = some o) (hf : freeK o = true)
    {v : PVal} {hs : List Nat} (hp : Pend P Γ sv ops o ts H v hs) (hlt : ∀ r ∈ hs, r < H.length) : DInv P Γ sv ops M0 lm (lp.setIfInBounds i true) (hs ++ held) (putT ts o.dst v) H w ρ a := by
  obtain ⟨hi, hpi, o', ho', hpre⟩ := mem_ready.1 hr
  rw [ho] at ho'; cases ho'
  have hilp : i < lp.size := by rw [h.sp]; exact hi
  obtain ⟨_, hpi'⟩ := getD_ff hpi
  have hdr := drawOk_spec hd
  have hnotself : ¬ bindsOn o i = true := fun hb => by
    obtain ⟨e, he, _, hon⟩ := bindsOn_spec hb
    have := (hdr.1 i o ho).1 e he; omega
  -- whoever is pending, or is this one, does not look at what it writes
  have hagree : ∀ k y, lp.getD k false = true → ops[k]? = some y → freeK y = true → Agree ops y ts (putT ts o.dst v) := fun k y hk hy hfy t ht => by
    have hne : k ≠ i := fun e => by subst e; rw [hpi'] at hk; cases hk
    refine getElem?_putT fun e => ?_
    have hpo := pairOk_spec (hdr.2 k i y o hy ho hfy hne)
    have hb := hpo.2.2 t e ht
    obtain ⟨e', he', hbd, hon⟩ := bindsOn_spec hb
    have := h.down k y hk hy e' he' hbd
    rw [hon, hpi'] at this; cases this
  refine ⟨h.sm, by simpa using h.sp, fun k hk => ?_, fun k y hk hy e he hb => ?_, fun k y hk hkm hy => ?_, fun r hr => ?_, ?_⟩
  · rw [getD_set hilp]; split
    · rfl
    · exact h.sub k hk
  · rw [getD_set hilp] at hk ⊢
    split
    · rfl
    · split at hk
      · rename_i e1; subst e1; rw [ho] at hy; cases hy; exact hpre e he hb
      · exact h.down k y hk hy e he hb
  · rw [getD_set hilp] at hk
    by_cases hki : i = k
    · subst hki
      rw [ho] at hy; cases hy
      refine ⟨hf, v, hs, ?_, fun r hr => by simp [hr], ?_⟩
      · -- does not look at its own result
        intro ts' H' ha hh Kv Kp hk'
        -- looked at after its own writing: it was not looking there
        refine hp ts' H' (fun t ht => ?_) hh Kv Kp hk'
        rw [ha t ht]
        exact getElem?_putT fun e => (hdr.1 i o ho).2 t e ht
      · cases hdst : o.dst with
        | none => rfl
        | some d => simp [putT]
    · simp only [hki, if_false] at hk
      obtain ⟨hfy, v', hs', hp', hh', hput⟩ := h.pend k y hk hkm hy
      refine ⟨hfy, v', hs', hp'.move (hagree k y hk hy hfy) (fun _ _ => rfl), fun r hr => by simp [hh' r hr], ?_⟩
      have hpo := pairOk_spec (hdr.2 i k o y ho hy hf hki)
      exact putT_comm (fun t ht e => hpo.2.1 t e ht) hput
  · rcases List.mem_append.1 hr with hr | hr
    · exact hlt r hr
    · exact h.held r hr
  · obtain ⟨ts', hR, hlen, hag⟩ := h.rel
    refine ⟨ts', hR, by rw [length_putT]; exact hlen, fun t ht => ?_⟩
    have hti : o.dst ≠ some t := by
      have := ht i (by rw [getD_set hilp]; simp) (by
        by_cases hm : lm.getD i false = true
        · have := h.sub i hm; rw [hpi'] at this; cases this
        · simpa using hm)
      simpa [dstOf, ho] using this
    rw [getElem?_putT hti]
    refine hag t fun k hk hkm => ht k (by rw [getD_set hilp]; split <;> first | rfl | exact hk) hkm

end
end Go.PM
