/- Slices of bytes that came in, opened. -/
import Derived.Test.YtaaddckhldccjaaBytes
import Derived.ProofKit
import Derived.OpenShut
import Derived.Deep.Slices
namespace Go.Proofs.Ytaaddckhldccjaa
open Go.ChangeShapes Go.WideShapes Go.ChangeAt Go.RowKit
set_option linter.unusedVariables false
set_option linter.unusedSimpArgs false

/-- Bytes as natural numbers. -/
def natsOf (zs : List Int) : List Nat := zs.map Int.toNat
theorem RdB.of_cells {w : World} {A : Option Addr} {n c : Nat} {zs : List Int} (hn : n ≤ c) (hc : c ≤ maxLen) (hz : zs.length = c) (hwf : ∀ x ∈ zs, (Lit.int .u8 x).wf = true)
    (hcell : 0 < n → ∃ ad, A = some ad ∧ ∀ j, j < n → w.cell? (ad.add j) = some (.int .u8 (zs.getD j 0))) : RdB w A n (natsOf (zs.take n)) := by
  unfold maxLen at hc
  have hlen : (natsOf (zs.take n)).length = n := by simp [natsOf]; omega
  refine ⟨⟨hlen, by omega, fun h0 => ?_⟩, ?_⟩
  · obtain ⟨ad, e, hcl⟩ := hcell h0
    refine ⟨ad, e, fun j hj => ?_⟩
    have hj1 : j < n := by omega
    rw [hcl j hj1]
    have hj' : j < zs.length := by omega
    have hw := bounds_u8 (hwf (zs[j]) (by simp))
    simp only [natsOf, List.getElem_map, List.getElem_take]
    rw [List.getD_eq_getElem?_getD, List.getElem?_eq_getElem hj']
    simp only [Option.getD_some]
    show some (Value.int .u8 zs[j]) = some (Value.int .u8 ((zs[j].toNat : Nat) : Int))
    rw [Int.toNat_of_nonneg hw.1]
  · intro x hx
    obtain ⟨y, hy, rfl⟩ := List.mem_map.1 hx
    have := bounds_u8 (hwf y (List.mem_of_mem_take hy))
    omega
set_option maxRecDepth 100000 in
theorem open_b {H : Type} {enc : TypeId × Value → H} {W : World} {base base' : Nat} {v : Value} {d : DataW H} {p : List MemPlace} (hv : Value.okWide Try.prog W .any base' 23 v)
    (h : DataW.Trod enc Try.prog W base (fun _ => true) true 23 v d p) : ∃ A n c l, v = .slice A n c ∧ (n ≤ c ∧ c ≤ 9223372036854775807) ∧ RdB W A n l := by
  obtain ⟨A, n, c, rfl⟩ := okWide_slice Try.underlying23 hv
  obtain ⟨fuel, hf⟩ := h
  rcases open_ints Try.underlying23 Try.underlying5 (by kernel_rfl) hf with ⟨hcs, _⟩ | ⟨x, l, cp, zs, hcs, _, hl, hm, hz, _, hcell, hwz⟩
  · simp [Value.cells] at hcs
    obtain ⟨rfl, rfl, rfl⟩ := hcs
    exact ⟨none, 0, 0, [], rfl, ⟨Nat.le_refl _, by decide⟩, RdB.empty W⟩
  · simp [Value.cells] at hcs
    obtain ⟨rfl, rfl, rfl⟩ := hcs
    simp only [if_true] at hz
    exact ⟨_, n, c, natsOf (zs.take n), rfl, ⟨hl, by unfold maxLen at hm; omega⟩, RdB.of_cells hl hm hz hwz fun h0 => ⟨x, rfl, fun j hj => hcell j (by omega)⟩⟩
end Go.Proofs.Ytaaddckhldccjaa
