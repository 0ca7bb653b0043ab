/-
  A function's own rows are left behind.
-/
import Derived.Test.YtklbiamjnlphkaaDoorK21
set_option linter.unusedVariables false
set_option linter.unusedSimpArgs false
namespace Go.PM
open Go

/-! ### No row from n on is named -/
mutual
def belC (n : Nat) : PCell → Bool
  | .sc _ => true
  | .ptr r _ _ => decide (r < n)
  | .sl r _ _ _ _ => decide (r < n)
  | .tr _ _ els => belLL n els
  | .tp cs _ => belL n cs
  | .fn _ caps => belL n caps
def belL (n : Nat) : List PCell → Bool
  | [] => true
  | c :: cs => belC n c && belL n cs
def belLL (n : Nat) : List (List PCell) → Bool
  | [] => true
  | l :: ls => belL n l && belLL n ls
end

mutual
def belV (n : Nat) : PVal → Bool
  | .un => true
  | .und => true
  | .c x => belC n x
  | .agg cs => belL n cs
  | .tup vs => belVs n vs
def belVs (n : Nat) : List PVal → Bool
  | [] => true
  | v :: vs => belV n v && belVs n vs
end

theorem belL_iff {n : Nat} : ∀ {cs : List PCell}, belL n cs = true ↔ ∀ c ∈ cs, belC n c = true
  | [] => by simp [belL]
  | c :: cs => by simp [belL, belL_iff (cs := cs)]

theorem belLL_iff {n : Nat} : ∀ {ls : List (List PCell)}, belLL n ls = true ↔ ∀ c ∈ ls.flatten, belC n c = true
  | [] => by simp [belLL]
  | l :: ls => by
    simp only [belLL, Bool.and_eq_true, belL_iff, belLL_iff (ls := ls), List.flatten_cons, List.mem_append]
    constructor
    · rintro ⟨h1, h2⟩ c (h | h)
      · exact h1 c h
      · exact h2 c h
    · exact fun h => ⟨fun c hc => h c (.inl hc), fun c hc => h c (.inr hc)⟩

theorem belVs_iff {n : Nat} : ∀ {vs : List PVal}, belVs n vs = true ↔ ∀ v ∈ vs, belV n v = true
  | [] => by simp [belVs]
  | v :: vs => by simp [belVs, belVs_iff (vs := vs)]

/-- The places of the rows below n alone. -/
def Place.upto (ρ : Place) (n : Nat) : Place := fun r => if r < n then ρ r else none

theorem upto_some {ρ : Place} {n r : Nat} {p : Nat × Nat} : ρ.upto n r = some p ↔ r < n ∧ ρ r = some p := by
  unfold Place.upto; split <;> simp [*]

section
variable {w : World} {ρ : Place} {M M' : Nat → Prop}

theorem VC.upto {n : Nat} (hM : ∀ b, M' b → M b) {c : PCell} {x : Value} (h : VC w M ρ c x) (hb : belC n c = true) : VC w M' (ρ.upto n) c x := by
  induction h with
  | sc v h => exact .sc v h
  | ptr r ver off b v a hl hv h => exact .ptr r ver off b v a (upto_some.2 ⟨by simpa [belC] using hb, hl⟩) hv h
  | sl r ver off sz len b v a cap hl hv hc h => exact .sl r ver off sz len b v a cap (upto_some.2 ⟨by simpa [belC] using hb, hl⟩) hv hc h
  | tr t sz els a cap xs hn ht hsz ha hc ih =>
    rw [belC, belLL_iff] at hb
    refine .tr t sz els a cap xs hn ht hsz ?_ fun j c hj => ih j c hj (hb c (List.mem_of_getElem? hj))
    rcases ha with ha | ⟨b, o, ha, hMb, hlt, hw⟩
    · exact .inl ha
    · exact .inr ⟨b, o, ha, fun h => hMb (hM b h), hlt, hw⟩
  | tp cells off b o xs hbb hw hc ih =>
    rw [belC, belL_iff] at hb
    exact .tp cells off b o xs ⟨fun h => hbb.1 (hM b h), hbb.2⟩ hw fun j c hj => ih j c hj (hb c (List.mem_of_getElem? hj))
  | fn f caps xs hl hc ih =>
    rw [belC, belL_iff] at hb
    exact .fn f caps xs hl fun j c hj => ih j c hj (hb c (List.mem_of_getElem? hj))

theorem VCs.upto {n : Nat} (hM : ∀ b, M' b → M b) {cs : List PCell} {xs : List Value} (h : VCs w M ρ cs xs) (hb : belL n cs = true) : VCs w M' (ρ.upto n) cs xs :=
  ⟨h.1, fun j c hj => (h.2 j c hj).upto hM (belL_iff.1 hb c (List.mem_of_getElem? hj))⟩

theorem VV.upto {n : Nat} (hM : ∀ b, M' b → M b) {v : PVal} {x : Value} (h : VV w M ρ v x) (hb : belV n v = true) : VV w M' (ρ.upto n) v x := by
  induction h with
  | un x => exact .un x
  | und => exact .und
  | c x v h => exact .c x v (h.upto hM (by simpa [belV] using hb))
  | agg cs xs h => exact .agg cs xs (h.upto hM (by simpa [belV] using hb))
  | tup vs xs hl hc ih =>
    rw [belV, belVs_iff] at hb
    exact .tup vs xs hl fun j v hj => ih j v hj (hb v (List.mem_of_getElem? hj))

theorem VC.bel {n : Nat} (hn : ∀ r b v, ρ r = some (b, v) → r < n) {c : PCell} {x : Value} (h : VC w M ρ c x) : belC n c = true := by
  induction h with
  | sc v h => rfl
  | ptr r ver off b v a hl hv h => simpa [belC] using hn r b v hl
  | sl r ver off sz len b v a cap hl hv hc h => simpa [belC] using hn r b v hl
  | tr t sz els a cap xs hle ht hsz ha hc ih =>
    rw [belC, belLL_iff]
    intro c hc'
    obtain ⟨j, hj, rfl⟩ := List.getElem_of_mem hc'
    exact ih j _ (List.getElem?_eq_getElem hj)
  | tp cells off b o xs hbb hw hc ih =>
    rw [belC, belL_iff]
    intro c hc'
    obtain ⟨j, hj, rfl⟩ := List.getElem_of_mem hc'
    exact ih j _ (List.getElem?_eq_getElem hj)
  | fn f caps xs hl hc ih =>
    rw [belC, belL_iff]
    intro c hc'
    obtain ⟨j, hj, rfl⟩ := List.getElem_of_mem hc'
    exact ih j _ (List.getElem?_eq_getElem hj)

theorem VCs.bel {n : Nat} (hn : ∀ r b v, ρ r = some (b, v) → r < n) {cs : List PCell} {xs : List Value} (h : VCs w M ρ cs xs) : belL n cs = true := by
  rw [belL_iff]
  intro c hc
  obtain ⟨j, hj, rfl⟩ := List.getElem_of_mem hc
  exact (h.2 j _ (List.getElem?_eq_getElem hj)).bel hn

theorem VV.bel {n : Nat} (hn : ∀ r b v, ρ r = some (b, v) → r < n) {v : PVal} {x : Value} (h : VV w M ρ v x) : belV n v = true := by
  induction h with
  | un x => rfl
  | und => rfl
  | c x v h => simpa [belV] using h.bel hn
  | agg cs xs h => simpa [belV] using h.bel hn
  | tup vs xs hl hc ih =>
    rw [belV, belVs_iff]
    intro v hv
    obtain ⟨j, hj, rfl⟩ := List.getElem_of_mem hv
    exact ih j _ (List.getElem?_eq_getElem hj)
end

section
variable {P : Program} {f : FuncId} {args : List PVal} {H : Heap} {wr : List Nat} {o : Out} {H' : Heap}

def Out.bel (n : Nat) : Out → Bool
  | .ret v => belV n v
  | .pan _ => true

/-- What a function has changed, or made, up to row m, names no row from m on. -/
def keepOk (m : Nat) (H : Heap) (wr : List Nat) (o : Out) (H' : Heap) : Bool :=
  o.bel m && (List.range m).all fun r => (decide (r < H.length) && !wr.contains r) || match H'[r]? with
    | some (some R) => belL m R.cells
    | _ => true

theorem HR.lim {w : World} {M0 : Own} {ρ : Place} (h : HR w M0 ρ H) : ∀ r b v, ρ r = some (b, v) → r < H.length := fun r b v hr => by
  obtain ⟨R, hR⟩ := h.dom r b v hr
  exact (List.getElem?_eq_some_iff.1 hR).1

theorem SimCall.keep (h : SimCall P f args H wr o H') {m : Nat} (hm : H.length ≤ m) (hm' : m ≤ H'.length)
    (hk : ∀ w (M0 : Own) ρ, HR w M0 ρ H → (∃ xs, VVs w (Mu M0 ρ) ρ args xs) → keepOk m H wr o H' = true) : SimCall P f args H wr o (H'.take m) where
  enters := h.enters
  len := by simp; omega
  same r hr hw := by rw [List.getElem?_take_of_lt (by omega)]; exact h.same r hr hw
  run w M0 ρ xs hA hH hxs := by
    have hk := hk w M0 ρ hH ⟨xs, hxs⟩
    simp only [keepOk, Bool.and_eq_true, List.all_eq_true, List.mem_range, Bool.or_eq_true, decide_eq_true_eq, Bool.not_eq_true'] at hk
    obtain ⟨ho, hrows⟩ := hk
    refine (h.run w M0 ρ xs hA hH hxs).mono ?_
    rintro e w' ⟨ρ', t, hH', hout⟩
    have hMu : ∀ b, Mu M0 (ρ'.upto m) b → Mu M0 ρ' b := by
      rintro b (hb | ⟨r, v, hb⟩)
      · exact .inl hb
      · exact .inr ⟨r, v, (upto_some.1 hb).2⟩
    refine ⟨ρ'.upto m, ⟨t.os, t.tape, t.output, t.size, t.keep, t.fits, fun r b v hr => ?_, fun r b v hr => t.news r b v (upto_some.1 hr).2⟩, ⟨⟨fun b hb => ⟨(hH'.m0.1 b hb).1, fun r v hr => (hH'.m0.1 b hb).2 r v (upto_some.1 hr).2⟩, fun b o hb => ⟨(hH'.m0.2 b o hb).1, fun r v hr => (hH'.m0.2 b o hb).2 r v (upto_some.1 hr).2⟩⟩, fun r b v hr => ?_, fun r R hR => ?_, fun r r' b v v' hr hr' => hH'.inj r r' b v v' (upto_some.1 hr).2 (upto_some.1 hr').2⟩, ?_⟩
    · obtain ⟨b', v', h1, h2, h3⟩ := t.live r b v hr
      exact ⟨b', v', upto_some.2 ⟨Nat.lt_of_lt_of_le (hH.lim r b v hr) hm, h1⟩, h2, h3⟩
    · obtain ⟨h1, h2⟩ := upto_some.1 hr
      obtain ⟨R, hR⟩ := hH'.dom r b v h2
      exact ⟨R, by rw [List.getElem?_take_of_lt h1]; exact hR⟩
    · have hlt : r < m := by
        have := (List.getElem?_eq_some_iff.1 hR).1
        simp at this; omega
      rw [List.getElem?_take_of_lt hlt] at hR
      obtain ⟨b, xs', ys, q1, q2, q3⟩ := hH'.row r R hR
      refine ⟨b, xs', ys, upto_some.2 ⟨hlt, q1⟩, q2, q3.upto hMu ?_⟩
      rcases hrows r hlt with ⟨hr, hw⟩ | hb
      · have hs := h.same r hr (by simpa using hw)
        rw [hR] at hs
        obtain ⟨b0, xs0, ys0, p1, p2, p3⟩ := hH.row r R hs.symm
        exact p3.bel fun r b v hr => Nat.lt_of_lt_of_le (hH.lim r b v hr) hm
      · simpa [hR] using hb
    · cases o with
      | ret v =>
        obtain ⟨x, rfl, hv⟩ := hout
        exact ⟨x, rfl, hv.upto hMu (by simpa [Out.bel] using ho)⟩
      | pan v => exact hout
end
end Go.PM
