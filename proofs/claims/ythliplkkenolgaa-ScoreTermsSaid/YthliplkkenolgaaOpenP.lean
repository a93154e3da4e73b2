/- A list of pairs, as the row's reader opens it. -/
import Derived.Test.YthliplkkenolgaaSum
import Derived.Lib.SmallJoins
import Derived.Deep.Slices
import Derived.OpenShut
namespace Go.Proofs.Ythliplkkenolgaa
open Go.ChangeShapes Go.WideShapes Go.ChangeAt Go.RowKit
set_option linter.unusedVariables false
set_option linter.unusedSimpArgs false

section
variable {H : Type} {enc : TypeId × Value → H} {P : Program} {w : World} {base : Nat} {spare : Nat → Bool} {held : Bool}
theorem trod_array2 {t e : TypeId} {fuel : Nat} {c0 c1 : Value} {x : DataW H × List MemPlace} (ht : P.underlying t = some (.array 2 e)) (hce : P.cellsOf e = 1)
    (h : DataW.trod enc P w base spare held fuel t [c0, c1] = some x) :
    ∃ y0 y1 n, x = (.agg [y0.1, y1.1], y0.2 ++ y1.2) ∧ DataW.trod enc P w base spare held n e [c0] = some y0 ∧ DataW.trod enc P w base spare held n e [c1] = some y1 := by
  cases fuel with
  | zero => simp [DataW.trod] at h
  | succ n =>
    unfold DataW.trod at h
    rw [ht] at h
    have r3 : List.range 2 = [0, 1] := rfl
    simp [r3, hce] at h
    obtain ⟨_, h⟩ := h
    cases h0 : DataW.trod enc P w base spare held n e [c0] with
    | none => simp [h0] at h
    | some y0 =>
      cases h1 : DataW.trod enc P w base spare held n e [c1] with
      | none => simp [h0, h1] at h
      | some y1 =>
        simp [h0, h1] at h
        exact ⟨y0, y1, n, h.symm, h0, h1⟩
end
theorem open_pairs {H : Type} {enc : TypeId × Value → H} {W : World} {base base' : Nat} {v : Value} {d : DataW H} {p : List MemPlace} (hv : Value.okWide Try.prog W .any base' 38 v)
    (h : DataW.Trod enc Try.prog W base (fun _ => true) true 38 v d p) : ∃ A n c ls, v = .slice A n c ∧ n ≤ 9223372036854775807 ∧ RdP W A n ls := by
  obtain ⟨A, n, c, rfl⟩ := okWide_slice Try.underlying38 hv
  obtain ⟨fuel, hf⟩ := h
  have hce : Try.prog.cellsOf 45 = 2 := by kernel_rfl
  rcases Deep.open_slice Try.underlying38 hf with ⟨hcs, _⟩ | ⟨a, l, cp, m, k, D, Pl, hcs, _, hl, hm, hmm, _, hx⟩
  · simp [Value.cells] at hcs
    obtain ⟨rfl, rfl, rfl⟩ := hcs
    exact ⟨none, 0, 0, [], rfl, by decide, rfl, fun x h => by simp at h, fun h => by omega⟩
  · simp [Value.cells] at hcs
    obtain ⟨rfl, rfl, rfl⟩ := hcs
    have hmn : n ≤ m := by rw [hmm]; split <;> omega
    have hq : ∀ i, i < n → ∃ pq : Int × Int, (i64 pq.1 ∧ i64 pq.2) ∧ W.cell? (a.add (i * 2)) = some (.int .i64 pq.1) ∧ W.cell? ⟨(a.add (i * 2)).block, (a.add (i * 2)).off + 1, none⟩ = some (.int .i64 pq.2) := by
      intro i hi
      obtain ⟨cs', h1, h2⟩ := hx i (by omega)
      rw [hce] at h1
      obtain ⟨_, hlen, hcell⟩ := World.cells?_some h1
      match cs', hlen with
      | [c0, c1], _ =>
        obtain ⟨y0, y1, n', _, k0, k1⟩ := trod_array2 Try.underlying45 (by kernel_rfl) h2
        obtain ⟨p0, e0, _, w0⟩ := DataW.trod_int Try.underlying3 k0
        obtain ⟨p1, e1, _, w1⟩ := DataW.trod_int Try.underlying3 k1
        simp only [List.cons.injEq, and_true] at e0 e1
        subst e0 e1
        have b0 := bounds_i64 w0
        have b1 := bounds_i64 w1
        refine ⟨(p0, p1), ⟨⟨b0.1, by have := b0.2; omega⟩, ⟨b1.1, by have := b1.2; omega⟩⟩, ?_, ?_⟩
        · have := hcell 0 (by omega)
          simpa [Addr.add] using this
        · have := hcell 1 (by omega)
          rw [show (⟨(a.add (i * 2)).block, (a.add (i * 2)).off + 1, none⟩ : Addr) = (a.add (i * 2)).add 1 by simp [Addr.add]]
          simpa using this
    obtain ⟨f, hf'⟩ := Deep.choose_lt hq
    refine ⟨some a, n, c, (List.range n).map f, rfl, by unfold maxLen at hm; omega, by simp, ?_, fun h0 => ⟨a, rfl, fun j hj => ?_⟩⟩
    · intro x hx'
      obtain ⟨i, hi, rfl⟩ := List.mem_map.1 hx'
      exact (hf' i (List.mem_range.1 hi)).1
    · have hj' : j < n := by simpa using hj
      have := (hf' j hj').2
      simpa using this
end Go.Proofs.Ythliplkkenolgaa
