/- A slice of bytes that came in, opened as a list of numbers. -/
import Derived.Test.YtkciljeojifofaaDoorOpen
namespace Go.Proofs.YtkciljeojifofaaDoor
open Go.ChangeShapes Go.WideShapes Go.ChangeAt Go.RowKit Crc
theorem open_b {H : Type} {enc : TypeId × Value → H} {W : World} {base base' : Nat} {v : Value} {d : DataW H} {p : List MemPlace} (hv : Value.okWide Tryd.prog W .any base' 31 v)
    (h : DataW.Trod enc Tryd.prog W base (fun _ => true) true 31 v d p) : ∃ A n c l, v = .slice A n c ∧ n ≤ c ∧ RdB W A n l := by
  obtain ⟨A, n, c, rfl⟩ := okWide_slice Tryd.underlying31 hv
  obtain ⟨fuel, hf⟩ := h
  rcases open_ints Tryd.underlying31 Tryd.underlying5 (by kernel_rfl) hf with ⟨hcs, _⟩ | ⟨x, l, cp, zs, hcs, _, hl, hm, hz, _, hcell, hwz⟩
  · simp [Value.cells] at hcs
    obtain ⟨rfl, rfl, rfl⟩ := hcs
    exact ⟨none, 0, 0, [], rfl, Nat.le_refl _, rfl, by decide, by simp, fun h => by omega⟩
  · simp [Value.cells] at hcs
    obtain ⟨rfl, rfl, rfl⟩ := hcs
    simp only [if_true] at hz
    exact ⟨_, n, c, natsOf (zs.take n), rfl, hl, RdB.of_cells hl hm hz hwz fun h0 => ⟨x, rfl, fun j hj => hcell j (by omega)⟩⟩
end Go.Proofs.YtkciljeojifofaaDoor
