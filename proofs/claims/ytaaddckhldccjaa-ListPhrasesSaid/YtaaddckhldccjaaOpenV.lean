/- Postings that came in, opened. -/
import Derived.Test.YtaaddckhldccjaaOpenS
import Derived.Test.YtaaddckhldccjaaOpenU
import Derived.Test.YtaaddckhldccjaaVV
namespace Go.Proofs.Ytaaddckhldccjaa
open Go.ChangeShapes Go.WideShapes Go.ChangeAt Go.RowKit
set_option linter.unusedVariables false
set_option linter.unusedSimpArgs false

theorem RdI.of_cells {w : World} {a : Addr} {n c : Nat} {zs : List Int} (hn : n ≤ c) (hc : c ≤ maxLen) (hz : zs.length = c) (hcell : ∀ j, j < n → w.cell? (a.add j) = some (.int .i64 (zs.getD j 0))) : Rd encI w (some a) n (zs.take n) := by
  unfold maxLen at hc
  refine ⟨by rw [List.length_take]; omega, by omega, fun h0 => ⟨a, rfl, fun j hj => ?_⟩⟩
  rw [List.length_take] at hj
  rw [hcell j (by omega), List.getElem_take, List.getD_eq_getElem?_getD, List.getElem?_eq_getElem (by omega)]
  rfl
theorem postFields : ∃ fs : Array Field, Try.prog.underlying 32 = some (.struct fs) ∧ fs.size = 2 ∧ (∀ (j : Nat) (f : Field), fs[j]? = some f → f.offset = j ∧ Try.prog.cellsOf f.type = 1) ∧
    (∃ f : Field, fs[0]? = some f ∧ f.type = 30) ∧ (∃ f : Field, fs[1]? = some f ∧ f.type = 26) := by
  refine ⟨_, Try.underlying32, rfl, ?_, ⟨_, rfl, rfl⟩, ⟨_, rfl, rfl⟩⟩
  intro j f hf
  match j with
  | 0 => cases hf; exact ⟨rfl, by kernel_rfl⟩
  | 1 => cases hf; exact ⟨rfl, by kernel_rfl⟩
  | j + 2 => simp at hf
theorem open_pv {H : Type} {enc : TypeId × Value → H} {W : World} {base fuel : Nat} {v : Value} {d : DataW H} {p : List MemPlace} (hf : DataW.trod enc Try.prog W base (fun _ => true) true fuel 28 [v] = some (d, p)) :
    ∃ x : VV, v = encVV x ∧ x.ok W := by
  obtain ⟨fs, he, h3, ho, ⟨f0, g0, t0⟩, ⟨f1, g1, t1⟩⟩ := postFields
  rcases open_structs Try.underlying28 he (by kernel_rfl) h3 ho hf with hcs | ⟨a, n, cp, m, k, hcs, hl, hm, hlm, hx⟩
  · simp at hcs
    subst hcs
    exact ⟨⟨none, 0, 0, []⟩, rfl, ⟨Nat.le_refl _, (by decide : (0 : Nat) ≤ 9223372036854775807), RdPo.empty W⟩⟩
  · simp at hcs
    subst hcs
    have hq : ∀ i, i < n → ∃ x : Po, ∃ B m c, W.cell? (a.add (i * 2)) = some (.int .u32 (x.1 : Nat)) ∧ W.cell? ⟨(a.add (i * 2)).block, (a.add (i * 2)).off + 1, none⟩ = some (.slice B m c) ∧ m ≤ c ∧ c ≤ 9223372036854775807 ∧ Rd encI W B m x.2 ∧ x.1 < 4294967296 := by
      intro i hi
      obtain ⟨vs, hvl, hc, ht⟩ := hx i (by omega)
      match vs, hvl with
      | [v0, v1], _ =>
        obtain ⟨y0, k0⟩ := ht 0 f0 v0 g0 rfl
        obtain ⟨y1, k1⟩ := ht 1 f1 v1 g1 rfl
        rw [t0] at k0
        rw [t1] at k1
        obtain ⟨p0, e0, _, w0⟩ := DataW.trod_int Try.underlying30 k0
        simp only [List.cons.injEq, and_true] at e0
        subst e0
        have b0 := bounds_u32 w0
        have c0 := hc 0 _ rfl
        have c1 := hc 1 _ rfl
        have ea : ∀ j, 0 < j → a.add (i * 2 + j) = ⟨(a.add (i * 2)).block, (a.add (i * 2)).off + j, none⟩ := by
          intro j hj
          rw [← add_add'']
          unfold Addr.add
          have : ¬ j = 0 := by omega
          simp [this]
        rw [ea 1 (by decide)] at c1
        obtain ⟨q0, rfl⟩ : ∃ q0 : Nat, p0 = q0 := ⟨p0.toNat, by omega⟩
        rcases open_ints Try.underlying26 Try.underlying3 (by kernel_rfl) k1 with ⟨hcs, _⟩ | ⟨x, l, cp, zs, hcs, _, hl', hm', hz, _, hcell, hwz⟩
        · simp at hcs
          subst hcs
          exact ⟨(q0, []), none, 0, 0, c0, c1, Nat.le_refl _, by decide, Rd.empty W, by show q0 < _; omega⟩
        · simp at hcs
          subst hcs
          simp only [if_true] at hz
          exact ⟨(q0, zs.take l), some x, l, cp, c0, c1, hl', by unfold maxLen at hm'; omega, RdI.of_cells hl' hm' hz (fun j hj => hcell j (by omega)), by show q0 < _; omega⟩
    obtain ⟨f, hf'⟩ := Deep.choose_lt hq
    refine ⟨⟨some a, n, cp, (List.range n).map f⟩, rfl, ⟨hl, by unfold maxLen at hm; show cp ≤ _; omega, ⟨by simp, by unfold maxLen at hm; show n ≤ _; omega, fun h0 => ⟨a, rfl, fun j hj => ?_⟩⟩⟩⟩
    have hj' : j < n := by simpa using hj
    have := hf' j hj'
    simpa using this
set_option maxRecDepth 100000 in
theorem open_vv {H : Type} {enc : TypeId × Value → H} {W : World} {base base' : Nat} {v : Value} {d : DataW H} {p : List MemPlace} (hv : Value.okWide Try.prog W .any base' 25 v)
    (h : DataW.Trod enc Try.prog W base (fun _ => true) true 25 v d p) : ∃ A n c T, v = .slice A n c ∧ (n ≤ c ∧ c ≤ 9223372036854775807) ∧ RdVV W A n T := by
  obtain ⟨A, n, c, rfl⟩ := okWide_slice Try.underlying25 hv
  obtain ⟨fuel, hf⟩ := h
  rcases Deep.open_slice1 Try.underlying25 (by kernel_rfl) hf with ⟨hcs, _⟩ | ⟨a, l, cp, m, f, V, D, Pl, hcs, _, hl, hm, hmm, hx, hel⟩
  · simp [Value.cells] at hcs
    obtain ⟨rfl, rfl, rfl⟩ := hcs
    exact ⟨none, 0, 0, [], rfl, ⟨Nat.le_refl _, by decide⟩, ⟨Rd.empty W, fun x hx => by cases hx⟩⟩
  · simp [Value.cells] at hcs
    obtain ⟨rfl, rfl, rfl⟩ := hcs
    simp only [if_true] at hmm
    have hch : ∀ i, ∃ x : VV, i < n → W.cell? (a.add i) = some (encVV x) ∧ x.ok W := fun i => by
      by_cases hi : i < n
      · obtain ⟨h1, h2⟩ := hel i (by omega)
        obtain ⟨x, e, h3⟩ := open_pv h2
        exact ⟨x, fun _ => ⟨by rw [h1, e], h3⟩⟩
      · exact ⟨⟨none, 0, 0, []⟩, fun h => absurd h hi⟩
    obtain ⟨X, hX⟩ := Classical.axiomOfChoice hch
    refine ⟨some a, n, c, (List.range n).map X, rfl, ⟨hl, by unfold maxLen at hm; omega⟩, ⟨⟨by simp, by unfold maxLen at hm; omega, fun _ => ⟨a, rfl, fun j hj => ?_⟩⟩, fun x hx => ?_⟩⟩
    · rw [List.length_map, List.length_range] at hj
      rw [(hX j hj).1]
      simp
    · obtain ⟨i, hi, rfl⟩ := List.mem_map.1 hx
      exact (hX i (List.mem_range.1 hi)).2
set_option maxRecDepth 100000 in
theorem open_i {H : Type} {enc : TypeId × Value → H} {W : World} {base base' : Nat} {v : Value} {d : DataW H} {p : List MemPlace} (hv : Value.okWide Try.prog W .any base' 26 v)
    (h : DataW.Trod enc Try.prog W base (fun _ => true) true 26 v d p) : ∃ A n c l, v = .slice A n c ∧ (n ≤ c ∧ c ≤ 9223372036854775807) ∧ Rd encI W A n l := by
  obtain ⟨A, n, c, rfl⟩ := okWide_slice Try.underlying26 hv
  obtain ⟨fuel, hf⟩ := h
  rcases open_ints Try.underlying26 Try.underlying3 (by kernel_rfl) hf with ⟨hcs, _⟩ | ⟨x, l, cp, zs, hcs, _, hl, hm, hz, _, hcell, hwz⟩
  · simp [Value.cells] at hcs
    obtain ⟨rfl, rfl, rfl⟩ := hcs
    exact ⟨none, 0, 0, [], rfl, ⟨Nat.le_refl _, by decide⟩, Rd.empty W⟩
  · simp [Value.cells] at hcs
    obtain ⟨rfl, rfl, rfl⟩ := hcs
    simp only [if_true] at hz
    exact ⟨_, n, c, zs.take n, rfl, ⟨hl, by unfold maxLen at hm; omega⟩, RdI.of_cells hl hm hz (fun j hj => hcell j (by omega))⟩
end Go.Proofs.Ytaaddckhldccjaa
