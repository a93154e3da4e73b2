/- Texts that came in, opened. -/
import Derived.Test.YtaaddckhldccjaaOpenB
import Derived.Test.YtaaddckhldccjaaPst
import Derived.Test.YtaaddckhldccjaaRows
namespace Go.Proofs.Ytaaddckhldccjaa
open Go.ChangeShapes Go.WideShapes Go.ChangeAt Go.RowKit
set_option linter.unusedVariables false
set_option linter.unusedSimpArgs false

theorem bulk_one {H : Type} (d : DataW H) : 1 ≤ Rows.uptoBulk d := by
  cases d with
  | lit l => cases l <;> simp [Rows.uptoBulk]
  | _ => simp [Rows.uptoBulk]
theorem bulk_len {H : Type} : ∀ l : List (DataW H), l.length ≤ Rows.uptoBulkAll l
  | [] => Nat.zero_le _
  | d :: r => by
    have h1 := bulk_one d
    have h2 := bulk_len r
    simp only [Rows.uptoBulkAll, List.length_cons]
    omega
theorem bulk_mem {H : Type} : ∀ {l : List (DataW H)} {d : DataW H}, d ∈ l → Rows.uptoBulk d ≤ Rows.uptoBulkAll l
  | [], d, h => by cases h
  | e :: r, d, h => by
    simp only [Rows.uptoBulkAll]
    rcases List.mem_cons.1 h with rfl | h
    · omega
    · have := bulk_mem h; omega
theorem open_tv {H : Type} {enc : TypeId × Value → H} {W : World} {base fuel : Nat} {v : Value} {d : DataW H} {p : List MemPlace} (h : DataW.trod enc Try.prog W base (fun _ => true) true fuel 23 [v] = some (d, p)) :
    ∃ x : TV, v = encTV x ∧ x.ok W ∧ x.n ≤ Rows.uptoBulk d := by
  rcases open_ints Try.underlying23 Try.underlying5 (by kernel_rfl) h with ⟨hcs, _⟩ | ⟨x, l, cp, zs, hcs, _, hl, hm, hz, hx, hcell, hwz⟩
  · simp at hcs
    subst hcs
    exact ⟨⟨none, 0, 0, []⟩, rfl, ⟨Nat.le_refl _, (by decide : (0 : Nat) ≤ 9223372036854775807), RdB.empty W⟩, Nat.zero_le _⟩
  · simp at hcs
    subst hcs
    simp only [if_true] at hz
    refine ⟨⟨some x, l, cp, natsOf (zs.take l)⟩, rfl, ⟨hl, by unfold maxLen at hm; show cp ≤ _; omega, RdB.of_cells hl hm hz hwz fun h0 => ⟨x, rfl, fun j hj => hcell j (by have hj' : j < l := hj; omega)⟩⟩, ?_⟩
    have e : d = .slice (lits .u8 (zs.take l)) (lits .u8 (zs.drop l)) := congrArg Prod.fst hx
    have h1 := bulk_len (lits (H := H) .u8 (zs.take l))
    have h2 : (lits (H := H) .u8 (zs.take l)).length = l := by simp [lits]; omega
    show l ≤ _
    rw [e]
    simp only [Rows.uptoBulk]
    omega
set_option maxRecDepth 100000 in
theorem open_tt {H : Type} {enc : TypeId × Value → H} {W : World} {base base' : Nat} {v : Value} {d : DataW H} {p : List MemPlace} (hv : Value.okWide Try.prog W .any base' 22 v)
    (h : DataW.Trod enc Try.prog W base (fun _ => true) true 22 v d p) : ∃ A n c T, v = .slice A n c ∧ RdTT W A n T ∧ ∀ x ∈ T, x.n ≤ Rows.uptoBulk d := by
  obtain ⟨A, n, c, rfl⟩ := okWide_slice Try.underlying22 hv
  obtain ⟨fuel, hf⟩ := h
  rcases Deep.open_slice1 Try.underlying22 (by kernel_rfl) hf with ⟨hcs, _⟩ | ⟨a, l, cp, m, f, V, D, Pl, hcs, _, hl, hm, hmm, hx, hel⟩
  · simp [Value.cells] at hcs
    obtain ⟨rfl, rfl, rfl⟩ := hcs
    exact ⟨none, 0, 0, [], rfl, ⟨Rd.empty W, fun x hx => by cases hx⟩, fun x hx => by cases hx⟩
  · simp [Value.cells] at hcs
    obtain ⟨rfl, rfl, rfl⟩ := hcs
    simp only [if_true] at hmm
    have hch : ∀ i, ∃ x : TV, i < n → W.cell? (a.add i) = some (encTV x) ∧ x.ok W ∧ x.n ≤ Rows.uptoBulk (D i) := fun i => by
      by_cases hi : i < n
      · obtain ⟨h1, h2⟩ := hel i (by omega)
        obtain ⟨x, e, h3, h4⟩ := open_tv h2
        exact ⟨x, fun _ => ⟨by rw [h1, e], h3, h4⟩⟩
      · exact ⟨⟨none, 0, 0, []⟩, fun h => absurd h hi⟩
    obtain ⟨X, hX⟩ := Classical.axiomOfChoice hch
    have e : d = .slice ((List.range n).map D) ((List.range (m - n)).map fun j => D (n + j)) := congrArg Prod.fst hx
    refine ⟨some a, n, c, (List.range n).map X, rfl, ⟨⟨by simp, by unfold maxLen at hm; omega, fun _ => ⟨a, rfl, fun j hj => ?_⟩⟩, fun x hx => ?_⟩, fun x hx => ?_⟩
    · rw [List.length_map, List.length_range] at hj
      rw [(hX j hj).1]
      simp
    · obtain ⟨i, hi, rfl⟩ := List.mem_map.1 hx
      exact (hX i (List.mem_range.1 hi)).2.1
    · obtain ⟨i, hi, rfl⟩ := List.mem_map.1 hx
      have h1 := (hX i (List.mem_range.1 hi)).2.2
      have h2 := bulk_mem (l := (List.range n).map D) (List.mem_map.2 ⟨i, hi, rfl⟩)
      rw [e]
      simp only [Rows.uptoBulk]
      omega
end Go.Proofs.Ytaaddckhldccjaa
