/-
  Whatever order the model draws, the plan covers it (2).
-/
import Derived.Test.YtklbiamjnlphkaaDoorK19
set_option linter.unusedVariables false
set_option linter.unusedSimpArgs false
namespace Go.PM
open Go

section
variable {P : Program} {Γ : Ctx} {sv : Tmp → Option Nat} {ops : Array Oper} {M0 : Own} {Q : Exit → Act → World → Prop}

theorem set_alike {x y : List PVal} (h : x.length = y.length) (t : Nat) (v : PVal) : (x.set t v)[t]? = (y.set t v)[t]? := by
  by_cases hlt : t < x.length
  · rw [List.getElem?_set_self hlt, List.getElem?_set_self (h ▸ hlt)]
  · have h1 : (x.set t v).length ≤ t := by simp; omega
    have h2 : (y.set t v).length ≤ t := by simp; omega
    rw [List.getElem?_eq_none h1, List.getElem?_eq_none h2]

/-- What is ready in the model looks at nothing that is pending. -/
theorem DInv.agree (hd : drawOk ops = true) {lm lp : Array Bool} {held : List Nat} {ts : List PVal} {H : Heap} {w : World} {ρ : Place} {a : Act} (h : DInv P Γ sv ops M0 lm lp held ts H w ρ a) {i : Nat} (hr : i ∈ Region.ready .any ops lm) {o : Oper} (ho : ops[i]? = some o)
    {ts' : List PVal} (hag : ∀ t, (∀ k, lp.getD k false = true → lm.getD k false = false → dstOf ops k ≠ some t) → ts'[t]? = ts[t]?) : Agree ops o ts ts' := by
  obtain ⟨hi, hmi, o', ho', hpre⟩ := mem_ready.1 hr
  rw [ho] at ho'; cases ho'
  have hdr := drawOk_spec hd
  intro t ht
  refine hag t fun k hk hkm hdst => ?_
  unfold dstOf at hdst
  cases hy : ops[k]? with
  | none => simp [hy] at hdst
  | some y =>
    simp only [hy, Option.bind_some] at hdst
    by_cases hki : k = i
    · subst hki
      rw [ho] at hy; cases hy
      exact (hdr.1 k o ho).2 t hdst ht
    · have hfy := (h.pend k y hk hkm hy).1
      have hb := (pairOk_spec (hdr.2 k i y o hy ho hfy hki)).1 t hdst ht
      obtain ⟨e, he, hbd, hon⟩ := bindsOn_spec hb
      have := hpre e he hbd
      rw [hon, hkm] at this; cases this

/-- The model comes to one that the plan has taken before. -/
theorem DInv.model (hΓ : CtxOk P Γ) (hA : Known P M0.fix) (hd : drawOk ops = true) {lm lp : Array Bool} {held : List Nat} {ts : List PVal} {H : Heap} {w : World} {ρ : Place} {a : Act} (h : DInv P Γ sv ops M0 lm lp held ts H w ρ a) {i : Nat} (hr : i ∈ Region.ready .any ops lm) {o : Oper} (ho : ops[i]? = some o) (hl : lp.getD i false = true)
    {Kn : Act → World → Prop} (hn : ∀ a' w' ρ', Tr w ρ w' ρ' → DInv P Γ sv ops M0 (lm.setIfInBounds i true) lp held ts H w' ρ' a' → Kn a' w') : opGoal P ops o a w Kn Q := by
  obtain ⟨hi, hmi, o', ho', hpre⟩ := mem_ready.1 hr
  rw [ho] at ho'; cases ho'
  obtain ⟨himl, hmi'⟩ := getD_ff hmi
  obtain ⟨ts', hR, hlen, hag⟩ := h.rel
  have hagr := h.agree hd hr ho hag
  obtain ⟨hf, v, hs, hp, hhs, hput⟩ := h.pend i o hl hmi' ho
  have hgo := hp ts' H hagr (fun _ _ => rfl) (fun v' H' wr => v' = v ∧ H' = H) (fun _ _ _ => False) ⟨rfl, rfl⟩
  refine goP_sound hΓ hA hgo hR ?_ (fun _ _ _ _ _ _ hF => hF.elim)
  rintro v' H' wr a' w' ρ' ⟨rfl, rfl⟩ t hR'
  refine hn a' w' ρ' t ⟨by simpa using h.sm, h.sp, fun k hk => ?_, h.down, fun k y hk hkm hy => ?_, h.held, ⟨_, hR', by rw [length_putT]; exact hlen, fun t ht => ?_⟩⟩
  · rw [getD_set himl] at hk
    split at hk
    · rename_i e; subst e; exact hl
    · exact h.sub k hk
  · rw [getD_set himl] at hkm
    split at hkm
    · cases hkm
    · exact h.pend k y hk hkm hy
  · by_cases hti : o.dst = some t
    · rw [hti] at hput ⊢
      simp only [putT] at hput ⊢
      have h1 : ts[t]? = (ts.set t v')[t]? := by rw [hput]
      rw [h1]
      exact set_alike hlen t v'
    · rw [getElem?_putT hti]
      refine hag t fun k hk hkm => ?_
      by_cases hki : i = k
      · subst hki; simpa [dstOf, ho] using hti
      · exact ht k hk (by rw [getD_set himl]; simp [hki, hkm])

/-- The model and the plan go on alike. -/
theorem DInv.go (hΓ : CtxOk P Γ) (hA : Known P M0.fix) (hd : drawOk ops = true) {lm lp : Array Bool} {held : List Nat} {ts : List PVal} {H : Heap} {w : World} {ρ : Place} {a : Act} (h : DInv P Γ sv ops M0 lm lp held ts H w ρ a) {i : Nat} (hr : i ∈ Region.ready .any ops lm) {o : Oper} (ho : ops[i]? = some o) (hl : lp.getD i false = false)
    {Kv : PVal → Heap → List Nat → Prop} {Kp : Value → Heap → List Nat → Prop} (hg : goP P Γ sv ops o ts H Kv Kp) (hwr : ∀ v H' wr, Kv v H' wr → ∀ r ∈ wr, r ∉ held) {Kn : Act → World → Prop}
    (hn : ∀ v H' wr a' w' ρ', Kv v H' wr → Tr w ρ w' ρ' → DInv P Γ sv ops M0 (lm.setIfInBounds i true) (lp.setIfInBounds i true) held (putT ts o.dst v) H' w' ρ' a' → Kn a' w')
    (hp : ∀ v H' wr a' w' ρ', Kp v H' wr → Tr w ρ w' ρ' → Rl w' M0 ρ' (unAll ts) H' a' → Q (.panic [{ v, recovered := false }]) a' w') : opGoal P ops o a w Kn Q := by
  obtain ⟨hi, hmi, o', ho', hpre⟩ := mem_ready.1 hr
  rw [ho] at ho'; cases ho'
  obtain ⟨himl, hmi'⟩ := getD_ff hmi
  have hipl : i < lp.size := by rw [h.sp]; exact hi
  obtain ⟨ts', hR, hlen, hag⟩ := h.rel
  have hagr := h.agree hd hr ho hag
  have hdr := drawOk_spec hd
  refine goP_sound hΓ hA (goP_keeps hΓ (goP_congr hagr hg)) hR ?_ ?_
  · rintro v H' wr a' w' ρ' ⟨hk, hkeep⟩ t hR'
    have hheld : ∀ r ∈ held, H'[r]? = H[r]? := fun r hr => hkeep.2 r (h.held r hr) fun hw => hwr v H' wr hk r hw hr
    have hpair : ∀ k y, lp.getD k false = true → lm.getD k false = false → ops[k]? = some y → freeK y = true ∧ k ≠ i ∧ pairOk ops k i y o = true := fun k y hk hkm hy => by
      have hfy := (h.pend k y hk hkm hy).1
      have hne : k ≠ i := fun e => by subst e; rw [hl] at hk; cases hk
      exact ⟨hfy, hne, hdr.2 k i y o hy ho hfy hne⟩
    refine hn v H' wr a' w' ρ' hk t ⟨by simpa using h.sm, by simpa using h.sp, fun k hk => ?_, fun k y hk hy e he hb => ?_, fun k y hk hkm hy => ?_, fun r hr => ?_, ⟨_, hR', ?_, fun t ht => ?_⟩⟩
    · rw [getD_set himl] at hk; rw [getD_set hipl]
      split
      · rfl
      · rename_i hne; simp only [hne, if_false] at hk; exact h.sub k hk
    · rw [getD_set hipl] at hk ⊢
      split
      · rfl
      · split at hk
        · rename_i e1; subst e1
          rw [ho] at hy; cases hy
          exact h.sub _ (hpre e he hb)
        · exact h.down k y hk hy e he hb
    · rw [getD_set hipl] at hk; rw [getD_set himl] at hkm
      by_cases hki : i = k
      · simp [hki] at hkm
      · simp only [hki, if_false] at hk hkm
        obtain ⟨hfy, v', hs', hp', hh', hput⟩ := h.pend k y hk hkm hy
        obtain ⟨_, _, hpo⟩ := hpair k y hk hkm hy
        have hpo := pairOk_spec hpo
        refine ⟨hfy, v', hs', hp'.move (fun t ht => getElem?_putT fun e => ?_) (fun r hr => hheld r (hh' r hr)), hh', putT_comm (fun t ht e => hpo.2.1 t ht e) hput⟩
        obtain ⟨e', he', hbd, hon⟩ := bindsOn_spec (hpo.2.2 t e ht)
        have := h.down k y hk hy e' he' hbd
        rw [hon, hl] at this; cases this
    · exact Nat.lt_of_lt_of_le (h.held r hr) hkeep.1
    · simp only [length_putT]; exact hlen
    · by_cases hti : o.dst = some t
      · rw [hti]; simp only [putT]
        exact set_alike hlen t v
      · rw [getElem?_putT hti, getElem?_putT hti]
        refine hag t fun k hk hkm => ?_
        have hne : ¬ i = k := fun e => by subst e; rw [hl] at hk; cases hk
        exact ht k (by rw [getD_set hipl]; simp [hne, hk]) (by rw [getD_set himl]; simp [hne, hkm])
  · rintro v H' wr a' w' ρ' ⟨hk, hkeep⟩ t hR'
    refine hp v H' wr a' w' ρ' hk t ⟨⟨?_, fun j x hj => ?_⟩, hR'.heap, hR'.defers⟩
    · rw [hR'.tmps.1, hlen]; simp [unAll]
    · unfold unAll at hj
      rw [List.getElem?_map] at hj
      cases hx : ts[j]? with
      | none => simp [hx] at hj
      | some y => simp only [hx, Option.map_some, Option.some.injEq] at hj; subst hj; exact .un _

theorem heads_run {i : Nat} {lp : Array Bool} {held : List Nat} {s : St} {K : PEx → St → Prop} : ∀ (p : Plan), i ∈ p.heads → planOk ops p lp = true → planRun P Γ sv ops p held s K →
    ∃ p', topc ops p' (lp.setIfInBounds i true) = true ∧ planOk ops p' (lp.setIfInBounds i true) = true ∧ planRun P Γ sv ops (.go i p') held s K
  | .done, h, _, _ => by simp [Plan.heads] at h
  | .free _ _, h, _, _ => by simp [Plan.heads] at h
  | .go j p, h, hok, hk => by
    simp only [Plan.heads, List.mem_singleton] at h; subst h
    simp only [planOk, Bool.and_eq_true] at hok
    exact ⟨p, hok.1, hok.2, hk⟩
  | .both p q, h, hok, hk => by
    simp only [Plan.heads, List.mem_append] at h
    simp only [planOk, Bool.and_eq_true] at hok
    simp only [planRun] at hk
    rcases h with h | h
    · exact heads_run p h hok.1 hk.1
    · exact heads_run q h hok.2 hk.2

/-- The plan takes all that only looks. -/
theorem DInv.rest (hd : drawOk ops = true) {lm : Array Bool} {H : Heap} {w : World} {ρ : Place} {a : Act} {K : PEx → St → Prop} {wr : List Nat} : ∀ (p : Plan) (lp : Array Bool) (held : List Nat) (ts : List PVal),
    DInv P Γ sv ops M0 lm lp held ts H w ρ a → topc ops p lp = true → planOk ops p lp = true → planRun P Γ sv ops p held ⟨ts, H, wr⟩ K →
    ∃ p' lp' held' ts', DInv P Γ sv ops M0 lm lp' held' ts' H w ρ a ∧ topc ops p' lp' = true ∧ planOk ops p' lp' = true ∧ planRun P Γ sv ops p' held' ⟨ts', H, wr⟩ K ∧ ∀ i q, p' ≠ .free i q
  | .done, lp, held, ts, h, ht, hok, hk => ⟨_, lp, held, ts, h, ht, hok, hk, by simp⟩
  | .go _ _, lp, held, ts, h, ht, hok, hk => ⟨_, lp, held, ts, h, ht, hok, hk, by simp⟩
  | .both _ _, lp, held, ts, h, ht, hok, hk => ⟨_, lp, held, ts, h, ht, hok, hk, by simp⟩
  | .free i p, lp, held, ts, h, ht, hok, hk => by
    simp only [planOk, Bool.and_eq_true] at hok
    obtain ⟨⟨⟨hr, hf⟩, ht'⟩, hok'⟩ := hok
    simp only [planRun] at hk
    cases ho : ops[i]? with
    | none => simp [ho] at hk
    | some o =>
      simp only [ho] at hk hf
      obtain ⟨v, hs, hk, hp, hlt⟩ := freeP_pend (Γ := Γ) (sv := sv) hk
      exact DInv.rest hd p _ _ _ (h.free hd (by simpa using hr) ho hf hp hlt) ht' hok' hk

theorem eq_of_getD {x y : Array Bool} (hs : x.size = y.size) (h : ∀ i, x.getD i false = y.getD i false) : x = y := by
  apply Array.ext hs
  intro i h1 h2
  have := h i
  simpa [Array.getD_eq_getD_getElem?, h1, h2] using this

/-- Where the model has nothing left, nothing is pending. -/
theorem DInv.end (hd : drawOk ops = true) {lm lp : Array Bool} {held : List Nat} {ts : List PVal} {H : Heap} {w : World} {ρ : Place} {a : Act} (h : DInv P Γ sv ops M0 lm lp held ts H w ρ a) (hr : Region.ready .any ops lm = []) : lm = lp ∧ Rl w M0 ρ ts H a := by
  have hdr := drawOk_spec hd
  have none_pending : ∀ n i, i < n → lp.getD i false = true → lm.getD i false = false → False := by
    intro n
    induction n with
    | zero => intro i hi; omega
    | succ n ih =>
      intro i hi hl hm
      have hil := getD_lt hl
      have ho : ∃ o, ops[i]? = some o := ⟨ops[i]'(by rw [← h.sp]; exact hil), by simp⟩
      obtain ⟨o, ho⟩ := ho
      have : i ∈ Region.ready .any ops lm := mem_ready.2 ⟨by rw [← h.sp]; exact hil, getD_tf (by rw [h.sm, ← h.sp]; exact hil) hm, o, ho, fun e he hb => by
        have hlt := (hdr.1 i o ho).1 e he
        have hle := h.down i o hl ho e he hb
        by_cases hme : lm.getD e.on false = true
        · exact hme
        · exact (ih e.on (by omega) hle (by simpa using hme)).elim⟩
      rw [hr] at this; cases this
  have heq : lm = lp := eq_of_getD (by rw [h.sm, h.sp]) fun i => by
    by_cases hl : lp.getD i false = true
    · by_cases hm : lm.getD i false = true
      · rw [hl, hm]
      · exact (none_pending (i + 1) i (by omega) hl (by simpa using hm)).elim
    · by_cases hm : lm.getD i false = true
      · exact absurd (h.sub i hm) hl
      · have h1 : lp.getD i false = false := by simpa using hl
        have h2 : lm.getD i false = false := by simpa using hm
        rw [h1, h2]
  refine ⟨heq, ?_⟩
  obtain ⟨ts', hR, hlen, hag⟩ := h.rel
  have : ts' = ts := List.ext_getElem? fun t => hag t fun i hl hm => (none_pending (i + 1) i (by omega) hl hm).elim
  rw [← this]; exact hR

theorem count_set {l : Array Bool} {i : Nat} (hi : i < l.size) (h : l.getD i false = false) : (l.setIfInBounds i true).toList.count false + 1 = l.toList.count false := by
  rw [Array.toList_setIfInBounds]
  have h1 : l.toList[i]'(by simpa using hi) = false := by
    simpa [Array.getD_eq_getD_getElem?, hi] using h
  have hpos : 0 < l.toList.count false := List.count_pos_iff.2 (h1 ▸ List.getElem_mem _)
  rw [List.count_set (by simpa using hi), h1]
  have e1 : (false == false) = true := rfl
  have e2 : (true == false) = false := rfl
  simp only [e1, e2, if_true, Bool.false_eq_true, if_false]
  omega

/-- WHATEVER ORDER IS DRAWN, THE PLAN COVERS IT. -/
theorem order_sound (hΓ : CtxOk P Γ) (hA : Known P M0.fix) (hd : drawOk ops = true) {K : PEx → St → Prop} : ∀ (fuel : Nat) (lm : Array Bool) (a : Act) (w : World) (ρ : Place) (p : Plan) (lp : Array Bool) (held : List Nat) (s : St), lm.toList.count false ≤ fuel →
    DInv P Γ sv ops M0 lm lp held s.tmps s.heap w ρ a → topc ops p lp = true → planOk ops p lp = true → planRun P Γ sv ops p held s K → QOk w M0 ρ K Q → wpAny P .any ops Q fuel lm a w := by
  intro fuel
  have fin : ∀ (lm : Array Bool) (a : Act) (w : World) (ρ : Place) (p : Plan) (lp : Array Bool) (held : List Nat) (s : St),
      DInv P Γ sv ops M0 lm lp held s.tmps s.heap w ρ a → topc ops p lp = true → planOk ops p lp = true → planRun P Γ sv ops p held s K → QOk w M0 ρ K Q → (Region.ready .any ops lm = [] → Q .normal a w) := by
    intro lm a w ρ p lp held s h ht hok hk hq hr
    obtain ⟨p', lp', held', ts', h', ht', hok', hk', hnf⟩ := h.rest hd p lp held s.tmps ht hok hk
    obtain ⟨heq, hR⟩ := h'.end hd hr
    subst heq
    cases p' with
    | done => exact hq .normal _ a w ρ hk' (Tr.refl _ _) hR
    | free i q => exact (hnf i q rfl).elim
    | go i q => simp [topc, hr] at ht'
    | both q q' => simp [topc, hr] at ht'
  induction fuel with
  | zero =>
    intro lm a w ρ p lp held s hc h ht hok hk hq
    have hr : Region.ready .any ops lm = [] := by
      rw [List.eq_nil_iff_forall_not_mem]
      intro i hi
      obtain ⟨hi, hmi, _⟩ := mem_ready.1 hi
      obtain ⟨h1, h2⟩ := getD_ff hmi
      have := count_set h1 h2
      omega
    exact ⟨hr, fin lm a w ρ p lp held s h ht hok hk hq hr⟩
  | succ fuel ih =>
    intro lm a w ρ p lp held s hc h ht hok hk hq
    refine ⟨fin lm a w ρ p lp held s h ht hok hk hq, fun i hi => ?_⟩
    obtain ⟨hilt, hmi, o, ho, hpre⟩ := mem_ready.1 hi
    obtain ⟨himl, hmi'⟩ := getD_ff hmi
    have hcnt := count_set himl hmi'
    unfold wpOp
    simp only [ho]
    obtain ⟨p', lp', held', ts', h', ht', hok', hk', hnf⟩ := h.rest hd p lp held s.tmps ht hok hk
    by_cases hl : lp'.getD i false = true
    · refine h'.model hΓ hA hd hi ho hl fun a' w' ρ' t h'' => ?_
      exact ih _ a' w' ρ' p' lp' held' ⟨ts', s.heap, s.wr⟩ (by omega) h'' ht' hok' hk' (hq.tr t)
    · have hl' : lp'.getD i false = false := by simpa using hl
      have hri : i ∈ Region.ready .any ops lp' := mem_ready.2 ⟨hilt, getD_tf (by rw [h'.sp]; exact hilt) hl', o, ho, fun e he hb => h'.sub _ (hpre e he hb)⟩
      have hhead : i ∈ p'.heads := by
        cases p' with
        | done => simp only [topc, List.isEmpty_iff] at ht'; rw [ht'] at hri; cases hri
        | free j q => exact (hnf j q rfl).elim
        | go j q =>
          simp only [topc, Bool.and_eq_true, List.all_eq_true] at ht'
          simpa using ht'.2 i hri
        | both q q' =>
          simp only [topc, Bool.and_eq_true, List.all_eq_true] at ht'
          simpa using ht'.2 i hri
      obtain ⟨q, htq, hokq, hgo⟩ := heads_run p' hhead hok' hk'
      simp only [planRun, ho] at hgo
      refine h'.go hΓ hA hd hi ho hl' hgo ?_ ?_ ?_
      · rintro v H' wr ⟨hw, _⟩ r hr
        have := List.all_eq_true.1 hw r hr
        simpa using this
      · rintro v H' wr a' w' ρ' ⟨_, hk2⟩ t h''
        exact ih _ a' w' ρ' q _ held' ⟨_, H', _⟩ (by omega) h'' htq hokq hk2 (hq.tr t)
      · intro v H' wr a' w' ρ' hk2 t hR'
        exact hq (.pan v) _ a' w' ρ' hk2 t hR'

theorem DInv.start {ts : List PVal} {H : Heap} {w : World} {ρ : Place} {a : Act} (hR : Rl w M0 ρ ts H a) : DInv P Γ sv ops M0 (Array.replicate ops.size false) (Array.replicate ops.size false) [] ts H w ρ a := by
  have hf : ∀ i, (Array.replicate ops.size false).getD i false = false := fun i => by
    rw [Array.getD_eq_getD_getElem?, Array.getElem?_replicate]; split <;> rfl
  exact ⟨by simp, by simp, fun i h => h, fun i o h => (by rw [hf] at h; cases h), fun i o h => (by rw [hf] at h; cases h), by simp, ⟨ts, hR, rfl, fun _ _ => rfl⟩⟩

/-- A region that draws. -/
theorem draw_sound (hΓ : CtxOk P Γ) (hA : Known P M0.fix) (hm : P.follows .mixedOrders = true) {id : Nat} {p : Plan} {s : St} {K : PEx → St → Prop} {w : World} {ρ : Place} {a : Act}
    (hd : drawOk ops = true) (ht : topc ops p (Array.replicate ops.size false) = true) (hok : planOk ops p (Array.replicate ops.size false) = true)
    (hk : planRun P Γ sv ops p [] s K) (hR : Rl w M0 ρ s.tmps s.heap a) (hq : QOk w M0 ρ K Q) : (Code.region id ops true).wp P Q a w := by
  refine wp_region_any hm ?_
  have htr : Tr w ρ w.drew ρ := tr_drew w ρ
  have hR' : Rl w.drew M0 ρ s.tmps s.heap a := hR.tr htr hR.heap.drew
  refine order_sound hΓ hA hd ops.size _ a w.drew ρ p _ [] s ?_ (DInv.start hR') ht hok hk (hq.tr htr)
  simp [List.count_replicate]
end
end Go.PM
