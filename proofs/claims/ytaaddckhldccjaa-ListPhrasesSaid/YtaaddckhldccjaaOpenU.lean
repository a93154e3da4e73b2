/- Rows of numbers that came in, opened; rows of rows. -/
import Derived.Test.YtaaddckhldccjaaOpenB
import Derived.Test.YtaaddckhldccjaaUU
namespace Go.Proofs.Ytaaddckhldccjaa
open Go.ChangeShapes Go.WideShapes Go.ChangeAt Go.RowKit
set_option linter.unusedVariables false
set_option linter.unusedSimpArgs false

theorem RdU.of_cells {w : World} {A : Option Addr} {n c : Nat} {zs : List Int} (hn : n ≤ c) (hc : c ≤ maxLen) (hz : zs.length = c) (hwf : ∀ x ∈ zs, (Lit.int .u32 x).wf = true)
    (hcell : 0 < n → ∃ ad, A = some ad ∧ ∀ j, j < n → w.cell? (ad.add j) = some (.int .u32 (zs.getD j 0))) : RdU w A n (natsOf (zs.take n)) := by
  unfold maxLen at hc
  have hlen : (natsOf (zs.take n)).length = n := by simp [natsOf]; omega
  refine ⟨⟨hlen, by omega, fun h0 => ?_⟩, ?_⟩
  · obtain ⟨ad, e, hcl⟩ := hcell h0
    refine ⟨ad, e, fun j hj => ?_⟩
    have hj1 : j < n := by omega
    rw [hcl j hj1]
    have hj' : j < zs.length := by omega
    have hw := bounds_u32 (hwf (zs[j]) (by simp))
    simp only [natsOf, List.getElem_map, List.getElem_take]
    rw [List.getD_eq_getElem?_getD, List.getElem?_eq_getElem hj']
    simp only [Option.getD_some]
    show some (Value.int .u32 zs[j]) = some (Value.int .u32 ((zs[j].toNat : Nat) : Int))
    rw [Int.toNat_of_nonneg hw.1]
  · intro x hx
    obtain ⟨y, hy, rfl⟩ := List.mem_map.1 hx
    have := bounds_u32 (hwf y (List.mem_of_mem_take hy))
    omega
set_option maxRecDepth 100000 in
theorem open_u {H : Type} {enc : TypeId × Value → H} {W : World} {base base' : Nat} {v : Value} {d : DataW H} {p : List MemPlace} (hv : Value.okWide Try.prog W .any base' 38 v)
    (h : DataW.Trod enc Try.prog W base (fun _ => true) true 38 v d p) : ∃ A n c l, v = .slice A n c ∧ (n ≤ c ∧ c ≤ 9223372036854775807) ∧ RdU W A n l := by
  obtain ⟨A, n, c, rfl⟩ := okWide_slice Try.underlying38 hv
  obtain ⟨fuel, hf⟩ := h
  rcases open_ints Try.underlying38 Try.underlying30 (by kernel_rfl) hf with ⟨hcs, _⟩ | ⟨x, l, cp, zs, hcs, _, hl, hm, hz, _, hcell, hwz⟩
  · simp [Value.cells] at hcs
    obtain ⟨rfl, rfl, rfl⟩ := hcs
    exact ⟨none, 0, 0, [], rfl, ⟨Nat.le_refl _, by decide⟩, ⟨Rd.empty W, U32.nil⟩⟩
  · simp [Value.cells] at hcs
    obtain ⟨rfl, rfl, rfl⟩ := hcs
    simp only [if_true] at hz
    exact ⟨_, n, c, natsOf (zs.take n), rfl, ⟨hl, by unfold maxLen at hm; omega⟩, RdU.of_cells hl hm hz hwz fun h0 => ⟨x, rfl, fun j hj => hcell j (by omega)⟩⟩
theorem open_uv {H : Type} {enc : TypeId × Value → H} {W : World} {base fuel : Nat} {v : Value} {d : DataW H} {p : List MemPlace} (h : DataW.trod enc Try.prog W base (fun _ => true) true fuel 38 [v] = some (d, p)) :
    ∃ x : UV, v = encUV x ∧ x.ok W := by
  rcases open_ints Try.underlying38 Try.underlying30 (by kernel_rfl) h with ⟨hcs, _⟩ | ⟨x, l, cp, zs, hcs, _, hl, hm, hz, hx, hcell, hwz⟩
  · simp at hcs
    subst hcs
    exact ⟨⟨none, 0, 0, []⟩, rfl, ⟨Nat.le_refl _, (by decide : (0 : Nat) ≤ 9223372036854775807), ⟨Rd.empty W, U32.nil⟩⟩⟩
  · simp at hcs
    subst hcs
    simp only [if_true] at hz
    exact ⟨⟨some x, l, cp, natsOf (zs.take l)⟩, rfl, ⟨hl, by unfold maxLen at hm; show cp ≤ _; omega, RdU.of_cells hl hm hz hwz fun h0 => ⟨x, rfl, fun j hj => hcell j (by have hj' : j < l := hj; omega)⟩⟩⟩
set_option maxRecDepth 100000 in
theorem open_uu {H : Type} {enc : TypeId × Value → H} {W : World} {base base' : Nat} {v : Value} {d : DataW H} {p : List MemPlace} (hv : Value.okWide Try.prog W .any base' 43 v)
    (h : DataW.Trod enc Try.prog W base (fun _ => true) true 43 v d p) : ∃ A n c T, v = .slice A n c ∧ (n ≤ c ∧ c ≤ 9223372036854775807) ∧ RdUU W A n T := by
  obtain ⟨A, n, c, rfl⟩ := okWide_slice Try.underlying43 hv
  obtain ⟨fuel, hf⟩ := h
  rcases Deep.open_slice1 Try.underlying43 (by kernel_rfl) hf with ⟨hcs, _⟩ | ⟨a, l, cp, m, f, V, D, Pl, hcs, _, hl, hm, hmm, hx, hel⟩
  · simp [Value.cells] at hcs
    obtain ⟨rfl, rfl, rfl⟩ := hcs
    exact ⟨none, 0, 0, [], rfl, ⟨Nat.le_refl _, by decide⟩, ⟨Rd.empty W, fun x hx => by cases hx⟩⟩
  · simp [Value.cells] at hcs
    obtain ⟨rfl, rfl, rfl⟩ := hcs
    simp only [if_true] at hmm
    have hch : ∀ i, ∃ x : UV, i < n → W.cell? (a.add i) = some (encUV x) ∧ x.ok W := fun i => by
      by_cases hi : i < n
      · obtain ⟨h1, h2⟩ := hel i (by omega)
        obtain ⟨x, e, h3⟩ := open_uv h2
        exact ⟨x, fun _ => ⟨by rw [h1, e], h3⟩⟩
      · exact ⟨⟨none, 0, 0, []⟩, fun h => absurd h hi⟩
    obtain ⟨X, hX⟩ := Classical.axiomOfChoice hch
    refine ⟨some a, n, c, (List.range n).map X, rfl, ⟨hl, by unfold maxLen at hm; omega⟩, ⟨⟨by simp, by unfold maxLen at hm; omega, fun _ => ⟨a, rfl, fun j hj => ?_⟩⟩, fun x hx => ?_⟩⟩
    · rw [List.length_map, List.length_range] at hj
      rw [(hX j hj).1]
      simp
    · obtain ⟨i, hi, rfl⟩ := List.mem_map.1 hx
      exact (hX i (List.mem_range.1 hi)).2
end Go.Proofs.Ytaaddckhldccjaa
