/- Phrases: what is looked for, and what stands in memory. -/
import Derived.Test.YtaaddckhldccjaaRow
import Derived.Test.YtaaddckhldccjaaRegG
import Derived.Test.YtaaddckhldccjaaOffs
namespace Go.Proofs.Ytaaddckhldccjaa
open Go.RowKit
set_option linter.unusedVariables false
set_option linter.unusedSimpArgs false

/-- A document's positions. -/
def posDoc (ls : List Po) (d : Nat) : List Int := ((ls.find? fun q => q.1 == d).map (·.2)).getD []
theorem posDoc_not {ls : List Po} {d : Nat} (h : ∀ p ∈ ls, p.1 ≠ d) : posDoc ls d = [] := by
  unfold posDoc
  rw [List.find?_eq_none.2 (fun p hp => by simpa using h p hp)]
  rfl
theorem posDoc_mem {ls : List Po} (hr : Rt ls) {p : Po} (hp : p ∈ ls) : posDoc ls p.1 = p.2 := by
  unfold posDoc
  cases h : ls.find? fun q => q.1 == p.1 with
  | none => exact absurd (List.find?_eq_none.1 h p hp) (by simp)
  | some q =>
    have h1 := List.find?_some h
    have h2 := List.mem_of_find?_eq_some h
    have e : q.1 = p.1 := by simpa using h1
    obtain ⟨i, hi, rfl⟩ := List.getElem_of_mem hp
    obtain ⟨j, hj, rfl⟩ := List.getElem_of_mem h2
    rcases Nat.lt_trichotomy i j with h3 | h3 | h3
    · have := rt_lt hr j i h3 hj; omega
    · subst h3; rfl
    · have := rt_lt hr i j h3 hi; omega
theorem rt_at {ls : List Po} (hr : Rt ls) {p : Po} (hp : p ∈ ls) : okPos p.2 ∧ p.2.length ≤ 2000 ∧ p.1 ≤ 2147483647 ∧ 1 ≤ p.2.length := by
  obtain ⟨i, hi, rfl⟩ := List.getElem_of_mem hp
  have := hr i hi
  rw [getD_of ⟨hi, rfl⟩] at this
  exact ⟨this.2.2.2.2, this.2.2.2.1, this.2.1, this.2.2.1⟩
theorem posDoc_ok {ls : List Po} (hr : Rt ls) (d : Nat) : okPos (posDoc ls d) ∧ (posDoc ls d).length ≤ 2000 := by
  unfold posDoc
  cases h : ls.find? fun q => q.1 == d with
  | none => exact ⟨fun i hi => by simp at hi, by simp⟩
  | some q => have := rt_at hr (List.mem_of_find?_eq_some h); exact ⟨this.1, this.2.1⟩
theorem docLt_le {ls : List Po} {k d d' : Nat} (h : DocLt ls k d) (hd : d ≤ d') : DocLt ls k d' := fun j hj hk => Nat.lt_of_lt_of_le (h j hj hk) hd
/-- The words' postings of a document. -/
def wsOf (L : List VV) (d : Nat) : List Po := L.map fun x => (d, posDoc x.l d)
theorem wsOf_len (L : List VV) (d : Nat) : (wsOf L d).length = L.length := by simp [wsOf]
theorem wsOf_pos {L : List VV} {d i : Nat} {x : VV} (h : ∃ hl : i < L.length, L[i] = x) : posOf (wsOf L d) i = posDoc x.l d := by
  obtain ⟨hl, rfl⟩ := h
  exact posOf_at ⟨by simpa [wsOf] using hl, by simp [wsOf]; rfl⟩
theorem wsOf_ok {L : List VV} (h : allRt L) (d : Nat) : PosOk (wsOf L d) := fun i hi => by
  rw [wsOf_len] at hi
  rw [wsOf_pos ⟨hi, rfl⟩]
  exact posDoc_ok (h _ (List.getElem_mem hi)) d
/-- Where a phrase stands in a document. -/
noncomputable def phAt (lo : List Int) (L : List VV) (d : Nat) : List Int := rowL lo (wsOf L d)
theorem phAt_no {lo : List Int} {L : List VV} {d i : Nat} {x : VV} (h : ∃ hl : i < L.length, L[i] = x) (hn : posDoc x.l d = []) : phAt lo L d = [] := by
  unfold phAt rowL rowOf
  rw [List.filter_eq_nil_iff]
  intro p hp
  simp only [decide_eq_true_eq]
  intro hs
  have h1 := hs i (by rw [wsOf_len]; exact h.1)
  rw [wsOf_pos h, hn] at h1
  cases h1
/-- A phrase's postings. -/
noncomputable def phL (lo : List Int) (L : List VV) (l : List Po) : List Po := l.filterMap fun p => if phAt lo L p.1 = [] then none else some (p.1, phAt lo L p.1)
theorem ph_no {lo : List Int} {L : List VV} {l : List Po} {k d : Nat} {q : List Int} (h : ∃ hl : k < l.length, l[k] = (d, q)) (hx : phAt lo L d = []) : phL lo L (l.take (k + 1)) = phL lo L (l.take k) := by
  obtain ⟨hl, e⟩ := h
  rw [List.take_succ_eq_append_getElem hl]
  unfold phL
  rw [List.filterMap_append, e]
  simp [hx]
theorem ph_yes {lo : List Int} {L : List VV} {l : List Po} {k d : Nat} {q : List Int} (h : ∃ hl : k < l.length, l[k] = (d, q)) (hx : phAt lo L d ≠ []) : phL lo L (l.take (k + 1)) = phL lo L (l.take k) ++ [(d, phAt lo L d)] := by
  obtain ⟨hl, e⟩ := h
  rw [List.take_succ_eq_append_getElem hl]
  unfold phL
  rw [List.filterMap_append, e]
  simp [hx]
theorem phL_len (lo : List Int) (L : List VV) (l : List Po) : (phL lo L l).length ≤ l.length := List.length_filterMap_le _ _
open Classical in
noncomputable def phE (lo : List Int) (L : List VV) : Int := if offOk lo L.length then (if allRt L then 0 else 160) else 1
open Classical in
noncomputable def phX (lo : List Int) (L : List VV) : List Po := if offOk lo L.length ∧ allRt L then phL lo L ((L.map (·.l)).getD 0 []) else []

/-- A posting, and where its positions lie. -/
abbrev DV := Po × Option Addr × Nat × Nat
abbrev slV (x : DV) : Value := .slice x.2.1 x.2.2.1 x.2.2.2
abbrev encD (x : DV) : List Value := [.int .u32 (x.1.1 : Nat), slV x]
theorem encD_one : ∀ x, ∀ u ∈ encD x, u.oneCell' = true := by
  intro x u hu
  simp only [encD, List.mem_cons, List.not_mem_nil, or_false] at hu
  rcases hu with rfl | rfl <;> rfl
theorem infoP : (Try.prog.info? 32).map (fun i => (i.zero, i.size, i.bytes)) = some (some (.agg #[.int .u32 0, .slice none 0 0]), 2, 32) := by kernel_rfl
abbrev OwnD (w : World) (base : Nat) (v : Value) (l : List DV) : Prop := OwnK encD 2 32 w base v l
theorem gatheredD {w : World} {n₀ : Nat} {v : Value} {vs : List DV} (hr : OwnD w n₀ v vs) (hx : ∀ y ∈ vs, IS w (slV y) y.1.2 ∧ y.1.1 < 4294967296) : LS w v (vs.map (·.1)) := by
  obtain ⟨A, c, rfl, h1, h2, h3⟩ := OwnK.rd (enc := encD) (fun _ => rfl) hr
  refine ⟨A, vs.length, c, rfl, h1, h2, by simp, by omega, fun h0 => ?_⟩
  obtain ⟨ad, e, hc⟩ := h3.cell h0
  refine ⟨ad, e, fun j hj => ?_⟩
  have hj' : j < vs.length := by simpa using hj
  obtain ⟨h4, h5⟩ := hx vs[j] (List.getElem_mem hj')
  obtain ⟨A5, n5, c5, he, hl5, hc5, hr5⟩ := h4
  have e0 := hc j hj' 0 _ rfl
  have e1 := hc j hj' 1 _ rfl
  rw [add_at _ _ _ (by decide)] at e1
  rw [he] at e1
  refine ⟨A5, n5, c5, ?_, ?_, hl5, hc5, ?_, ?_⟩
  · simpa using e0
  · simpa using e1
  · simpa using hr5
  · simpa using h5
theorem flat_set : ∀ (vs : List DV) (i : Nat) (x : DV), ((vs.flatMap encD).set (i * 2) (.int .u32 (x.1.1 : Nat))).set (i * 2 + 1) (slV x) = (vs.set i x).flatMap encD
  | [], i, x => by simp
  | y :: vs, 0, x => by simp
  | y :: vs, i + 1, x => by
    have e : (i + 1) * 2 = i * 2 + 1 + 1 := by omega
    simp only [List.flatMap_cons, List.set_cons_succ, e]
    rw [← flat_set vs i x]
    simp
theorem OwnD.set {w : World} {base g c : Nat} {vs : List DV} (h : OwnD w base (.slice (some ⟨g, 0, none⟩) vs.length c) vs) (i : Nat) (x : DV) :
    OwnD ((w.setCell ⟨g, i * 2, none⟩ (.int .u32 (x.1.1 : Nat))).setCell ⟨g, i * 2 + 1, none⟩ (slV x)) base (.slice (some ⟨g, 0, none⟩) vs.length c) (vs.set i x) := by
  have h1 := (World.ownsRow.stored (World.ownsRow.stored h (i * 2) (.int .u32 (x.1.1 : Nat))).1 (i * 2 + 1) (slV x)).1
  rw [flat_set] at h1
  unfold OwnD OwnK
  rw [List.length_set]
  exact h1
theorem OwnD.cells {w : World} {base g c : Nat} {vs : List DV} (h : OwnD w base (.slice (some ⟨g, 0, none⟩) vs.length c) vs) {i : Nat} (hi : i < vs.length) :
    w.cell? ⟨g, i * 2, none⟩ = some (.int .u32 (vs[i].1.1 : Nat)) ∧ w.cell? ⟨g, i * 2 + 1, none⟩ = some (slV vs[i]) ∧ w.frozen? ⟨g, i * 2, none⟩ = false ∧ w.frozen? ⟨g, i * 2 + 1, none⟩ = false := by
  refine ⟨?_, ?_, World.ownsRow.frozenAt h _, World.ownsRow.frozenAt h _⟩
  · rw [World.ownsRow.cellAt h (i * 2) (by omega)]
    exact flat_at (enc := encD) (sz := 2) (fun _ => rfl) vs i hi 0 _ rfl
  · rw [World.ownsRow.cellAt h (i * 2 + 1) (by omega)]
    exact flat_at (enc := encD) (sz := 2) (fun _ => rfl) vs i hi 1 _ rfl
theorem made2 (a b : Value) : ∀ n, (madeCells #[a, b] (n * 2)).toList = (List.replicate n [a, b]).flatten
  | 0 => by simp [madeCells]
  | n + 1 => by
    have ih := made2 a b n
    rw [List.replicate_succ', List.flatten_append, ← ih]
    have e : (n + 1) * 2 = n * 2 + 1 + 1 := by omega
    rw [e]
    have e1 : n * 2 % 2 = 0 := by omega
    have e2 : (n * 2 + 1) % 2 = 1 := by omega
    simp only [madeCells, Array.toList_map, Array.toList_range, List.range_succ, List.map_append, List.map_cons, List.map_nil, List.append_assoc]
    simp [e1, e2]
theorem makeP (N : Nat) (h : N ≤ 1000000000) (W : World) : (Instr.makeSlice 28 (.int .i64 (N : Int)) (.int .i64 (N : Int))).run Try.prog W = .ok (.slice (some ⟨W.heap.size, 0, none⟩) N N) (W.alloc (.cells (madeCells #[.int .u32 0, .slice none 0 0] (N * 2)) 32)) := by
  obtain ⟨i, hi, hz⟩ := Option.map_eq_some_iff.1 infoP
  simp only [Prod.mk.injEq] at hz
  have := run_make W 28 32 i (.agg #[.int .u32 0, .slice none 0 0]) Try.underlying28 hi hz.1 .i64 .i64 (N : Int) (N : Int) (by omega) (by omega) (by rw [hz.2.2]; omega) (by omega)
  rw [this, hz.2.1]
  simp [Value.cells]
theorem makeI (N : Nat) (h : N ≤ 1000000000) (W : World) : (Instr.makeSlice 26 (.int .i64 (N : Int)) (.int .i64 (N : Int))).run Try.prog W = .ok (.slice (some ⟨W.heap.size, 0, none⟩) N N) (W.alloc (.cells (madeCells #[.int .i64 0] N) 3)) := by
  obtain ⟨i, hi, hz⟩ := Option.map_eq_some_iff.1 infoI
  simp only [Prod.mk.injEq] at hz
  have := run_make W 26 3 i (.int .i64 0) Try.underlying26 hi hz.1 .i64 .i64 (N : Int) (N : Int) (by omega) (by omega) (by rw [hz.2.2]; omega) (by omega)
  rw [this, hz.2.1]
  simp [Value.cells]
abbrev noD : DV := ((0, []), none, 0, 0)
theorem madeD (w : World) (base N : Nat) (hb : base ≤ w.heap.size) (hN : N ≤ 1000000000) : OwnD (w.alloc (.cells (madeCells #[.int .u32 0, .slice none 0 0] (N * 2)) 32)) base (.slice (some ⟨w.heap.size, 0, none⟩) N N) (List.replicate N noD) := by
  refine OwnK.lit (enc := encD) (sz := 2) (fun _ => rfl) w base 32 (List.replicate N noD) _ N ?_ (by simp) hb (by omega)
  apply Array.ext'
  rw [made2]
  simp only [List.flatMap, List.map_replicate]
  rfl
theorem offOk_bound {l : List Int} {m : Nat} (h : offOk l m) : ∀ i, i < m → 0 ≤ l.getD i 0 ∧ l.getD i 0 ≤ 1048576
  | 0, _ => by rw [h.2.2.2.1]; exact ⟨by decide, by decide⟩
  | i + 1, hi => by
    have h1 := offOk_bound h i (by omega)
    have h2 := h.2.2.2.2 (i + 1) (by omega) hi
    unfold offAt at h2
    rw [Nat.add_sub_cancel] at h2
    exact ⟨by omega, h2.2⟩
end Go.Proofs.Ytaaddckhldccjaa
