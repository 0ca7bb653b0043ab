/-
  All operations that yield a value at once: the theorem.
-/
import Derived.Test.YtklbiamjnlphkaaDoorK8
import Derived.Laws.BytesString
set_option linter.unusedVariables false
set_option linter.unusedSimpArgs false
namespace Go.PM
open Go

section
variable {P : Program} {w : World} {M : Nat → Prop} {ρ : Place}

theorem zeroOf_spec {t : TypeId} {z : List Value} (h : zeroOf P t = some z) : ∃ i zv, P.info? t = some i ∧ i.zero = some zv ∧ zv.cells.toList = z ∧ ∀ x ∈ z, x.oneCell' = true := by
  unfold zeroOf at h
  split at h
  · rename_i i hi
    split at h
    · rename_i zv hz
      split at h
      · rename_i hall
        simp only [Option.some.injEq] at h; subst h
        exact ⟨i, zv, hi, hz, rfl, fun x hx => List.all_eq_true.1 hall x hx⟩
      · cases h
    · cases h
  · cases h

theorem parts_sound {ts : List PVal} {a : Act} (hT : VVs w M ρ ts a.tmps.toList) (parts : Array (Nat × Operand)) :
    ∀ (j : Nat) p q, (parts.toList.map fun p => (p.1, evP ts p.2))[j]? = some p → ((parts.map fun (i, x) => (i, a.eval x)).toList)[j]? = some q → p.1 = q.1 ∧ VV w M ρ p.2 q.2 := by
  intro j p q hp hq
  simp only [Array.toList_map, List.getElem?_map] at hp hq
  cases hj : parts.toList[j]? with
  | none => simp [hj] at hp
  | some x =>
    obtain ⟨i, x⟩ := x
    simp only [hj, Option.map_some, Option.some.injEq] at hp hq
    subst hp; subst hq
    exact ⟨rfl, VV.ev hT x⟩

theorem build_sound {ts : List PVal} {a : Act} (hT : VVs w M ρ ts a.tmps.toList) {t : TypeId} {parts : Array (Nat × Operand)} {pl : Sum (List (Nat × Nat)) Nat} {z : List Value} {cs : List PCell}
    (hp : placesOf P t = some pl) (hz : zeroOf P t = some z) (h : fillP (placeAt pl) (z.map .sc) (parts.toList.map fun p => (p.1, evP ts p.2)) = some cs) :
    ∃ X : List Value, (Instr.build t (parts.map fun (i, x) => (i, a.eval x))).run P w = .ok (.agg X.toArray) w ∧ VCs w M ρ cs X := by
  obtain ⟨i, zv, hi, hzv, hzc, hone⟩ := zeroOf_spec hz
  have hzero : VCs w M ρ (z.map .sc) zv.cells.toList := by rw [hzc]; exact VCs.sc hone
  obtain ⟨Y, hY, hYc⟩ := fill_sound (w := w) (M := M) (ρ := ρ) (place := placeAt pl) _ ((parts.map fun (i, x) => (i, a.eval x)).toList) _ cs zv.cells hzero (by simp) (parts_sound hT parts) h
  refine ⟨Y.toList, ?_, hYc⟩
  unfold placesOf at hp
  split at hp
  · rename_i fs hu
    cases hm : fs.toList.mapM fun f => (P.info? f.type).map fun i => (f.offset, i.size) with
    | none => simp [hm] at hp
    | some places =>
      simp only [hm, Option.map_some, Option.some.injEq] at hp
      subst hp
      refine run_build w t _ Y ?_ |>.trans (by simp)
      simp only [Program.built, hi, hu, hzv, hm]
      have e : placeAt (.inl places) = (places.toArray[·]?) := by funext i; simp [placeAt]
      rw [← e]; exact hY
  · rename_i n e hu
    cases hie : P.info? e with
    | none => simp [hie] at hp
    | some ie =>
      simp only [hie, Option.map_some, Option.some.injEq] at hp
      subst hp
      refine run_build w t _ Y ?_ |>.trans (by simp)
      simp only [Program.built, hi, hu, hzv, hie]
      exact hY
  · cases hp

theorem bytesOf_sound : ∀ (cs : List PCell) (X : List Value) (l : List UInt8), VCs w M ρ cs X → bytesOfCells cs = some l → ∃ ns : List Int, X = ns.map (fun n => .int .u8 n) ∧ l = ns.map fun n => UInt8.ofNat n.toNat
  | [], X, l, hX, h => by
    simp only [bytesOfCells, Option.some.injEq] at h; subst h
    exact ⟨[], by simp [hX.of_nil], rfl⟩
  | c :: cs, X, l, hX, h => by
    obtain ⟨x, X', rfl, hx, hr⟩ := hX.uncons
    cases c <;> try (simp [bytesOfCells] at h; done)
    rename_i v
    cases v <;> try (simp [bytesOfCells] at h; done)
    rename_i k n
    cases k <;> try (simp [bytesOfCells] at h; done)
    simp only [bytesOfCells] at h
    cases hb : bytesOfCells cs with
    | none => simp [hb] at h
    | some l' =>
      simp only [hb, Option.map_some, Option.some.injEq] at h; subst h
      obtain ⟨ns, rfl, rfl⟩ := bytesOf_sound cs X' l' hr hb
      cases hx
      exact ⟨n :: ns, rfl, rfl⟩

theorem foldl_push (ns : List Int) : ∀ (s : ByteArray), ns.foldl (fun s n => s.push (UInt8.ofNat n.toNat)) s = ⟨s.data ++ (ns.map fun n => UInt8.ofNat n.toNat).toArray⟩ := by
  induction ns with
  | nil => intro s; simp
  | cons n ns ih =>
    intro s
    simp only [List.foldl_cons, ih, List.map_cons]
    simp [ByteArray.push]

/-- Octets of memory as a text. -/
theorem run_bytes (b : Addr) (len cap : Nat) (ns : List Int) (hl : ns.length = len) (h : ∀ j n, ns[j]? = some n → w.cell? (b.add j) = some (.int .u8 n)) :
    (Conv.bytesToString (.slice (some b) len cap)).run P w = .ok (.string ⟨(ns.map fun n => UInt8.ofNat n.toNat).toArray⟩) w := by
  have hld := run_loadCells_list (P := P) w b (ns.map (Value.int .u8)) (fun j v hj => by
    rw [List.getElem?_map] at hj
    cases hn : ns[j]? with
    | none => simp [hn] at hj
    | some n => simp only [hn, Option.map_some, Option.some.injEq] at hj; subst hj; exact h j n hn)
  rw [List.length_map, hl] at hld
  rw [run_bytesToString w b len cap ns hld, foldl_push ns ByteArray.empty]
  have e0 : ByteArray.empty = ⟨#[]⟩ := rfl
  simp [e0]

theorem maxInt_sound (k : IntKind) : ∀ (vs : List PVal) (xs : List Value) (x : Int) (v : PVal), VVs w M ρ vs xs → maxInt k x vs = some v →
    ∃ V, (xs.foldlM Builtin.max2 (.int k x)).run P w = .ok V w ∧ VV w M ρ v V
  | [], xs, x, v, hX, h => by
    simp only [maxInt, Option.some.injEq] at h; subst h
    have : xs = [] := List.eq_nil_of_length_eq_zero hX.1
    subst this
    exact ⟨_, by simp, .c _ _ (.sc _ rfl)⟩
  | y :: vs, xs, x, v, hX, h => by
    obtain ⟨hl, hc⟩ := hX
    match xs, hl with
    | Y :: xs, hl =>
      have hy := hc 0 y rfl
      simp only [List.getD_cons_zero] at hy
      unfold maxInt at h
      split at h
      · simp at *
      · rename_i k' y' r heq
        simp only [List.cons.injEq] at heq
        obtain ⟨rfl, rfl⟩ := heq
        obtain ⟨rfl, _⟩ := hy.inv_sc
        obtain ⟨V, h1, h2⟩ := maxInt_sound k vs xs _ v ⟨by simpa using hl, fun j v' hj => by simpa using hc (j + 1) v' (by simpa using hj)⟩ h
        exact ⟨V, by simp only [List.foldlM_cons, Sem.run_bind, Builtin.max2, Sem.run_pure, Result.andThen_ok]; exact h1, h2⟩
      · cases h

theorem minInt_sound (k : IntKind) : ∀ (vs : List PVal) (xs : List Value) (x : Int) (v : PVal), VVs w M ρ vs xs → minInt k x vs = some v →
    ∃ V, (xs.foldlM Builtin.min2 (.int k x)).run P w = .ok V w ∧ VV w M ρ v V
  | [], xs, x, v, hX, h => by
    simp only [minInt, Option.some.injEq] at h; subst h
    have : xs = [] := List.eq_nil_of_length_eq_zero hX.1
    subst this
    exact ⟨_, by simp, .c _ _ (.sc _ rfl)⟩
  | y :: vs, xs, x, v, hX, h => by
    obtain ⟨hl, hc⟩ := hX
    match xs, hl with
    | Y :: xs, hl =>
      have hy := hc 0 y rfl
      simp only [List.getD_cons_zero] at hy
      unfold minInt at h
      split at h
      · simp at *
      · rename_i k' y' r heq
        simp only [List.cons.injEq] at heq
        obtain ⟨rfl, rfl⟩ := heq
        obtain ⟨rfl, _⟩ := hy.inv_sc
        obtain ⟨V, h1, h2⟩ := minInt_sound k vs xs _ v ⟨by simpa using hl, fun j v' hj => by simpa using hc (j + 1) v' (by simpa using hj)⟩ h
        exact ⟨V, by simp only [List.foldlM_cons, Sem.run_bind, Builtin.min2, Sem.run_pure, Result.andThen_ok]; exact h1, h2⟩
      · cases h

theorem capCells_sound : ∀ (vs : List PVal) (xs : List Value) (cs : List PCell), VVs w M ρ vs xs → capCells vs = some cs → VCs w M ρ cs xs
  | [], xs, cs, hX, h => by
    simp only [capCells, Option.some.injEq] at h; subst h
    have : xs = [] := List.eq_nil_of_length_eq_zero hX.1
    subst this
    exact VCs.nil
  | y :: vs, xs, cs, hX, h => by
    obtain ⟨hl, hc⟩ := hX
    match xs, hl with
    | Y :: xs, hl =>
      have hy := hc 0 y rfl
      simp only [List.getD_cons_zero] at hy
      cases y <;> try (simp [capCells] at h; done)
      rename_i c
      simp only [capCells] at h
      cases hr : capCells vs with
      | none => simp [hr] at h
      | some r =>
        simp only [hr, Option.map_some, Option.some.injEq] at h; subst h
        exact (capCells_sound vs xs r ⟨by simpa using hl, fun j v' hj => by simpa using hc (j + 1) v' (by simpa using hj)⟩ hr).cons hy.inv_c

theorem VVs.map_ev {ts : List PVal} {a : Act} (hT : VVs w M ρ ts a.tmps.toList) (xs : List Operand) : VVs w M ρ (xs.map (evP ts)) (xs.map a.eval) := by
  refine ⟨by simp, fun j v hj => ?_⟩
  rw [List.getElem?_map] at hj
  cases hx : xs[j]? with
  | none => simp [hx] at hj
  | some x =>
    simp only [hx, Option.map_some, Option.some.injEq] at hj; subst hj
    simpa [List.getD, hx] using VV.ev hT x

theorem lenP_sound {x : PVal} {X : Value} {n : Int} (hx : VV w M ρ x X) (h : lenP x = some n) :
    ∃ a l c, X = .slice a l c ∧ n = (l : Nat) := by
  unfold lenP at h
  split at h
  · simp only [Option.some.injEq] at h; exact ⟨none, _, _, hx.inv_sc.1, h.symm⟩
  · simp only [Option.some.injEq] at h
    cases hx.inv_c with
    | tr _ _ _ a cap xs h1 h2 h3 h4 h5 => exact ⟨a, _, cap, rfl, h.symm⟩
  · simp only [Option.some.injEq] at h
    cases hx.inv_c with
    | sl _ _ _ _ _ b v0 a cap hl hv hcap hh => exact ⟨_, _, cap, rfl, h.symm⟩
  · cases h

theorem convP_sound {s d : TypeId} {x v : PVal} {X : Value} (hx : VV w M ρ x X) (h : convP P s d x = some (.val v)) : ∃ V, (convert s d X).run P w = .ok V w ∧ VV w M ρ v V := by
  unfold convP at h
  split at h
  · rename_i ds k hs hd
    split at h
    · rename_i k' n
      obtain ⟨rfl, _⟩ := hx.inv_sc
      simp only [Option.some.injEq, Actn.val.injEq] at h; subst h
      exact ⟨_, by simp [convert, run_underlying hs, run_underlying hd, Conv.intToInt], .c _ _ (.sc _ rfl)⟩
    · cases h
  · rename_i e hs hd
    split at h
    · rename_i ie he hie
      split at h
      · cases h
      · rename_i hsz
        split at h
        · obtain ⟨rfl, _⟩ := hx.inv_sc
          simp only [Option.some.injEq, Actn.val.injEq] at h; subst h
          refine ⟨_, ?_, .c _ _ (.sc _ rfl)⟩
          rw [run_convert_bytes_string w s d e _ _ _ hs he hd]
          simp [Conv.bytesToString]
        · rename_i tt sz els
          split at h
          · rename_i hs1
            cases hb : bytesOfCells els.flatten with
            | none => simp [hb] at h
            | some l =>
              simp only [hb, Option.map_some, Option.some.injEq, Actn.val.injEq] at h; subst h
              cases hx.inv_c with
              | tr _ _ _ a cap xs h1 h2 h3 h4 h5 =>
                rw [show (convert s d (.slice a els.length cap)).run P w = _ from run_convert_bytes_string w s d e _ _ _ hs he hd]
                rcases h4 with h4 | ⟨b, o, rfl, hM, hbb, hw⟩
                · subst h4
                  simp only [List.flatten_nil, bytesOfCells, Option.some.injEq] at hb
                  subst hb
                  refine ⟨.string ⟨#[]⟩, ?_, .c _ _ (.sc _ rfl)⟩
                  have e0 : ByteArray.empty = ⟨#[]⟩ := rfl
                  cases a with
                  | none => simp [Conv.bytesToString, e0]
                  | some a => exact (run_bytes a 0 cap [] rfl (fun j n hj => by simp at hj))
                · have hfl := length_flatten_sz els h3
                  obtain ⟨ns, hX, rfl⟩ := bytesOf_sound (w := w) (M := M) (ρ := ρ) els.flatten ((List.range els.flatten.length).map xs) l ⟨by simp, fun j c hj => by
                    have hlt := (List.getElem?_eq_some_iff.1 hj).1
                    rw [List.getD, List.getElem?_map, List.getElem?_range hlt]
                    exact h5 j c hj⟩ hb
                  have hnl : ns.length = els.flatten.length := by
                    have := congrArg List.length hX; rw [List.length_map, List.length_map, List.length_range] at this; exact this.symm
                  refine ⟨_, run_bytes ⟨b, o, none⟩ els.length cap ns (by rw [hnl, hfl, hs1, Nat.mul_one]) (fun j n hj => ?_), .c _ _ (.sc _ rfl)⟩
                  have hlt : j < els.flatten.length := by rw [← hnl]; exact (List.getElem?_eq_some_iff.1 hj).1
                  rw [add_at, hw j hlt]
                  have := congrArg (·[j]?) hX
                  simp only [List.getElem?_map, List.getElem?_range hlt, hj, Option.map_some, Option.some.injEq] at this
                  rw [this]
          · cases h
        · split at h <;> simp at h
        · cases h
    · cases h
  · rename_i hs hd
    split at h
    · obtain ⟨rfl, _⟩ := hx.inv_sc
      simp only [Option.some.injEq, Actn.val.injEq] at h; subst h
      exact ⟨_, by simp [convert, run_underlying hs, run_underlying hd], .c _ _ (.sc _ rfl)⟩
    · cases h
  · cases h

end
end Go.PM
