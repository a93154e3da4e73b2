/- Tables that came in, opened. -/
import Derived.Test.YtkkeodlnejckjaaGreatOpenB
import Derived.Test.YtkkeodlnejckjaaGreatTab
import Derived.Deep.SlicePairs
namespace Go.Proofs.YtkkeodlnejckjaaGreat
open Go.ChangeShapes Go.WideShapes Go.ChangeAt Go.RowKit
set_option linter.unusedVariables false
set_option linter.unusedSimpArgs false

theorem foldFields : ∃ fs : Array Field, Tryz.prog.underlying 96 = some (.struct fs) ∧ fs.size = 3 ∧ (∀ (j : Nat) (f : Field), fs[j]? = some f → f.offset = j ∧ Tryz.prog.cellsOf f.type = 1) ∧
    (∃ f : Field, fs[0]? = some f ∧ f.type = 21) ∧ (∃ f : Field, fs[1]? = some f ∧ f.type = 21) ∧ (∃ f : Field, fs[2]? = some f ∧ f.type = 3) := by
  refine ⟨_, Tryz.underlying96, rfl, ?_, ⟨_, rfl, rfl⟩, ⟨_, rfl, rfl⟩, ⟨_, rfl, rfl⟩⟩
  intro j f hf
  match j with
  | 0 => cases hf; exact ⟨rfl, by kernel_rfl⟩
  | 1 => cases hf; exact ⟨rfl, by kernel_rfl⟩
  | 2 => cases hf; exact ⟨rfl, by kernel_rfl⟩
  | j + 3 => simp at hf
/-- Whole numbers of their kinds. -/
def wfT (tb : List Fo) : Prop := ∀ x ∈ tb, (-2147483648 ≤ x.1 ∧ x.1 ≤ 2147483647) ∧ (-2147483648 ≤ x.2.1 ∧ x.2.1 ≤ 2147483647) ∧ (-9223372036854775808 ≤ x.2.2 ∧ x.2.2 ≤ 9223372036854775807)
set_option maxRecDepth 100000 in
theorem open_f {H : Type} {enc : TypeId × Value → H} {W : World} {base base' : Nat} {v : Value} {d : DataW H} {p : List MemPlace} (hv : Value.okWide Tryz.prog W .any base' 22 v)
    (h : DataW.Trod enc Tryz.prog W base (fun _ => true) true 22 v d p) : ∃ A n c ls, v = .slice A n c ∧ (n ≤ c ∧ c ≤ 9223372036854775807 ∧ wfT ls) ∧ RdT W A n ls := by
  obtain ⟨A, n, c, rfl⟩ := okWide_slice Tryz.underlying22 hv
  obtain ⟨fuel, hf⟩ := h
  obtain ⟨fs, he, h3, ho, ⟨f0, g0, t0⟩, ⟨f1, g1, t1⟩, ⟨f2, g2, t2⟩⟩ := foldFields
  rcases open_structs Tryz.underlying22 he (by kernel_rfl) h3 ho hf with hcs | ⟨a, l, cp, m, k, hcs, hl, hm, hlm, hx⟩
  · simp [Value.cells] at hcs
    obtain ⟨rfl, rfl, rfl⟩ := hcs
    exact ⟨none, 0, 0, [], rfl, ⟨Nat.le_refl _, by decide, fun x hx => by cases hx⟩, RdT.empty W⟩
  · simp [Value.cells] at hcs
    obtain ⟨rfl, rfl, rfl⟩ := hcs
    have hq : ∀ i, i < n → ∃ x : Fo, ((-2147483648 ≤ x.1 ∧ x.1 ≤ 2147483647) ∧ (-2147483648 ≤ x.2.1 ∧ x.2.1 ≤ 2147483647) ∧ (-9223372036854775808 ≤ x.2.2 ∧ x.2.2 ≤ 9223372036854775807)) ∧ W.cell? (a.add (i * 3)) = some (.int .i32 x.1) ∧ W.cell? ⟨(a.add (i * 3)).block, (a.add (i * 3)).off + 1, none⟩ = some (.int .i32 x.2.1) ∧
        W.cell? ⟨(a.add (i * 3)).block, (a.add (i * 3)).off + 2, none⟩ = some (.int .i64 x.2.2) := by
      intro i hi
      obtain ⟨vs, hvl, hc, ht⟩ := hx i (by omega)
      match vs, hvl with
      | [v0, v1, v2], _ =>
        obtain ⟨y0, k0⟩ := ht 0 f0 v0 g0 rfl
        obtain ⟨y1, k1⟩ := ht 1 f1 v1 g1 rfl
        obtain ⟨y2, k2⟩ := ht 2 f2 v2 g2 rfl
        rw [t0] at k0
        rw [t1] at k1
        rw [t2] at k2
        obtain ⟨p0, e0, _, w0⟩ := DataW.trod_int Tryz.underlying21 k0
        obtain ⟨p1, e1, _, w1⟩ := DataW.trod_int Tryz.underlying21 k1
        obtain ⟨p2, e2, _, w2⟩ := DataW.trod_int Tryz.underlying3 k2
        simp only [List.cons.injEq, and_true] at e0 e1 e2
        subst e0
        subst e1
        subst e2
        have b0 := bounds_i32 w0
        have b1 := bounds_i32 w1
        have b2 := bounds_i64 w2
        have c0 := hc 0 _ rfl
        have c1 := hc 1 _ rfl
        have c2 := hc 2 _ rfl
        have ea : ∀ j, 0 < j → a.add (i * 3 + j) = ⟨(a.add (i * 3)).block, (a.add (i * 3)).off + j, none⟩ := by
          intro j hj
          rw [← add_add'']
          unfold Addr.add
          have : ¬ j = 0 := by omega
          simp [this]
        rw [ea 1 (by decide)] at c1
        rw [ea 2 (by decide)] at c2
        exact ⟨(p0, p1, p2), ⟨⟨b0.1, by have := b0.2; omega⟩, ⟨b1.1, by have := b1.2; omega⟩, ⟨b2.1, by have := b2.2; omega⟩⟩, c0, c1, c2⟩
    obtain ⟨f, hf'⟩ := Deep.choose_lt hq
    refine ⟨some a, n, c, (List.range n).map f, rfl, ⟨hl, by unfold maxLen at hm; omega, fun x hx' => ?_⟩, by simp, by unfold maxLen at hm; omega, fun h0 => ⟨a, rfl, fun j hj => ?_⟩⟩
    · obtain ⟨i, hi, rfl⟩ := List.mem_map.1 hx'
      exact (hf' i (List.mem_range.1 hi)).1
    · have hj' : j < n := by simpa using hj
      have := (hf' j hj').2
      simpa using this
end Go.Proofs.YtkkeodlnejckjaaGreat
