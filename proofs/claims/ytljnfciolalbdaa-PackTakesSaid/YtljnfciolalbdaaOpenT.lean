/- A script that came in, opened. -/
import Derived.Test.YtljnfciolalbdaaTakesLaw
import Derived.Test.YtljnfciolalbdaaOpenB
import Derived.Deep.SlicePairs
namespace Go.Proofs.Ytljnfciolalbdaa
open Go.ChangeShapes Go.WideShapes Go.ChangeAt Go.RowKit
set_option linter.unusedVariables false
set_option linter.unusedSimpArgs false

theorem open_t {H : Type} {enc : TypeId × Value → H} {W : World} {base base' : Nat} {v : Value} {d : DataW H} {p : List MemPlace} (hv : Value.okWide Try.prog W .any base' 44 v)
    (h : DataW.Trod enc Try.prog W base (fun _ => true) true 44 v d p) : ∃ A n c ls, v = .slice A n c ∧ (n ≤ c ∧ c ≤ 9223372036854775807) ∧ RdP W A n ls := by
  obtain ⟨A, n, c, rfl⟩ := okWide_slice Try.underlying44 hv
  obtain ⟨fuel, hf⟩ := h
  rcases Deep.open_slice_pairs Try.underlying44 Try.underlying50 (by kernel_rfl) (by kernel_rfl) (by kernel_rfl) (by kernel_rfl) (by kernel_rfl) hf with ⟨hcs, _⟩ | ⟨a, l, cp, m, k, V0, V1, D0, D1, P0, P1, hcs, _, hl, hm, hmm, _, hx⟩
  · simp [Value.cells] at hcs
    obtain ⟨rfl, rfl, rfl⟩ := hcs
    exact ⟨none, 0, 0, [], rfl, ⟨Nat.le_refl _, by decide⟩, rfl, (fun x h => by cases h), (fun h => by omega)⟩
  · simp [Value.cells] at hcs
    obtain ⟨rfl, rfl, rfl⟩ := hcs
    have hmn : n ≤ m := by rw [hmm]; split <;> omega
    have hq : ∀ i, i < n → ∃ pq : Int × Int, (i64' pq.1 ∧ i64' pq.2) ∧ W.cell? (a.add (i * 2)) = some (.int .i64 pq.1) ∧ W.cell? ⟨(a.add (i * 2)).block, (a.add (i * 2)).off + 1, none⟩ = some (.int .i64 pq.2) := by
      intro i hi
      obtain ⟨h0, h1, k0, k1⟩ := hx i (by omega)
      obtain ⟨p0, e0, _, w0⟩ := DataW.trod_int Try.underlying3 k0
      obtain ⟨p1, e1, _, w1⟩ := DataW.trod_int Try.underlying3 k1
      simp only [List.cons.injEq, and_true] at e0 e1
      rw [e0] at h0
      rw [e1] at h1
      have b0 := bounds_i64 w0
      have b1 := bounds_i64 w1
      refine ⟨(p0, p1), ⟨⟨b0.1, by have := b0.2; omega⟩, ⟨b1.1, by have := b1.2; omega⟩⟩, h0, ?_⟩
      rw [show (⟨(a.add (i * 2)).block, (a.add (i * 2)).off + 1, none⟩ : Addr) = (a.add (i * 2)).add 1 by simp [Addr.add], add_add']
      exact h1
    obtain ⟨f, hf'⟩ := Deep.choose_lt hq
    refine ⟨some a, n, c, (List.range n).map f, rfl, ⟨hl, by unfold maxLen at hm; omega⟩, by simp, ?_, fun h0 => ⟨a, rfl, fun j hj => ?_⟩⟩
    · intro x hx'
      obtain ⟨i, hi, rfl⟩ := List.mem_map.1 hx'
      exact (hf' i (List.mem_range.1 hi)).1
    · have hj' : j < n := by simpa using hj
      have := (hf' j hj').2
      simpa using this
end Go.Proofs.Ytljnfciolalbdaa
