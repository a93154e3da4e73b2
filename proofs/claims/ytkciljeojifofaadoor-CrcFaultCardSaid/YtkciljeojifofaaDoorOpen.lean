/- Slices of bytes that came in, opened as lists of numbers. -/
import Derived.Test.YtkciljeojifofaaDoorWalkD
import Derived.ProofKit
import Derived.OpenShut
import Derived.Deep.Matrix
namespace Go.Proofs.YtkciljeojifofaaDoor
open Go.ChangeShapes Go.WideShapes Go.ChangeAt Go.RowKit Crc

/-- Bytes as natural numbers. -/
def natsOf (zs : List Int) : List Nat := zs.map Int.toNat
theorem byte_bounds {n : Int} (h : (Lit.int .u8 n).wf = true) : 0 ≤ n ∧ n ≤ 255 := bounds_u8 h

theorem RdB.of_cells {w : World} {A : Option Addr} {n c : Nat} {zs : List Int} (hn : n ≤ c) (hc : c ≤ maxLen) (hz : zs.length = c) (hwf : ∀ x ∈ zs, (Lit.int .u8 x).wf = true)
    (hcell : 0 < n → ∃ ad, A = some ad ∧ ∀ j, j < n → w.cell? (ad.add j) = some (.int .u8 (zs.getD j 0))) : RdB w A n (natsOf (zs.take n)) := by
  unfold maxLen at hc
  refine ⟨by simp [natsOf]; omega, by omega, ?_, ?_⟩
  · intro x hx
    obtain ⟨y, hy, rfl⟩ := List.mem_map.1 hx
    have := byte_bounds (hwf y (List.mem_of_mem_take hy))
    omega
  · intro h0
    obtain ⟨ad, e, hcl⟩ := hcell h0
    refine ⟨ad, e, fun j hj => ?_⟩
    rw [hcl j hj]
    have hj' : j < zs.length := by omega
    have hw := byte_bounds (hwf (zs[j]) (by simp))
    simp only [natsOf, List.getD_eq_getElem?_getD, List.getElem?_map, List.getElem?_take, if_pos hj, List.getElem?_eq_getElem hj', Option.map_some, Option.getD_some]
    rw [Int.toNat_of_nonneg hw.1]

theorem open_bb {H : Type} {enc : TypeId × Value → H} {W : World} {base base' : Nat} {v : Value} {d : DataW H} {p : List MemPlace} (hv : Value.okWide Tryd.prog W .any base' 23 v)
    (h : DataW.Trod enc Tryd.prog W base (fun _ => true) true 23 v d p) : ∃ A n c ls, v = .slice A n c ∧ RdBB W A n ls := by
  obtain ⟨A, n, c, rfl⟩ := okWide_slice Tryd.underlying23 hv
  obtain ⟨fuel, hf⟩ := h
  rcases Deep.open_int_rows Tryd.underlying23 Tryd.underlying31 Tryd.underlying5 (by kernel_rfl) (by kernel_rfl) hf with ⟨hcs, _⟩ | ⟨a, l, cp, A', L, C, Z, hcs, _, hl, hm, _, hx⟩
  · simp [Value.cells] at hcs
    obtain ⟨rfl, rfl, rfl⟩ := hcs
    exact ⟨none, 0, 0, [], rfl, rfl, by decide, fun h => by omega⟩
  · simp [Value.cells] at hcs
    obtain ⟨rfl, rfl, rfl⟩ := hcs
    refine ⟨_, n, c, (List.range n).map fun j => natsOf ((Z j).take (L j)), rfl, by simp, by unfold maxLen at hm; omega, fun h0 => ⟨a, rfl, fun j hj => ?_⟩⟩
    obtain ⟨h1, h2, h3, h4, h5, h6, h7⟩ := hx j (by omega)
    refine ⟨A' j, L j, C j, h1, ?_⟩
    have e : ((List.range n).map fun j => natsOf ((Z j).take (L j))).getD j [] = natsOf ((Z j).take (L j)) := by
      simp [List.getD_eq_getElem?_getD, hj]
    rw [e]
    refine RdB.of_cells h2 h3 h4 h5 fun h0 => ?_
    cases ha : A' j with
    | none => have := h6 ha; omega
    | some ad => exact ⟨ad, rfl, fun t ht => (h7 ad ha).2 t (by omega)⟩
end Go.Proofs.YtkciljeojifofaaDoor
