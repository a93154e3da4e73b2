/- Slices of structs that came in, opened: any struct whose fields are one cell each. No condition. -/
import Derived.Deep.Slices
import Derived.Deep.Strs
import Derived.Test.YtaaddckhldccjaaOpenB
namespace Go.Proofs.Ytaaddckhldccjaa
open Go.ChangeShapes Go.WideShapes Go.ChangeAt Go.RowKit
set_option linter.unusedVariables false
set_option linter.unusedSimpArgs false

theorem add_add'' (a : Addr) (i j : Nat) : (a.add i).add j = a.add (i + j) := add_add' a i j
theorem open_structs {P : Program} {H : Type} {enc : TypeId × Value → H} {w : World} {base : Nat} {spare : Nat → Bool} {held : Bool} {t e : TypeId} {fs : Array Field} {k : Nat} {fuel : Nat} {cs : List Value} {x : DataW H × List MemPlace}
    (ht : P.underlying t = some (.slice e)) (he : P.underlying e = some (.struct fs)) (ce : P.cellsOf e = k) (hk : fs.size = k) (ho : ∀ (j : Nat) (f : Field), fs[j]? = some f → f.offset = j ∧ P.cellsOf f.type = 1)
    (h : DataW.trod enc P w base spare held fuel t cs = some x) :
    cs = [.slice none 0 0] ∨ ∃ (a : Addr) (len cap m n : Nat), cs = [.slice (some a) len cap] ∧ len ≤ cap ∧ cap ≤ maxLen ∧ len ≤ m ∧
      ∀ i, i < m → ∃ vs : List Value, vs.length = k ∧ (∀ (j : Nat) (v : Value), vs[j]? = some v → w.cell? (a.add (i * k + j)) = some v) ∧
        ∀ (j : Nat) (f : Field) (v : Value), fs[j]? = some f → vs[j]? = some v → ∃ y, DataW.trod enc P w base spare held n f.type [v] = some y := by
  rcases Deep.open_slice ht h with h0 | ⟨a, len, cap, m, n, D, Pl, rfl, hb, hl, hm, hmm, rfl, hx⟩
  · exact Or.inl h0.1
  right
  refine ⟨a, len, cap, m, n - 1, rfl, hl, hm, by rw [hmm]; split <;> omega, fun i hi => ?_⟩
  obtain ⟨cs', h1, h2⟩ := hx i hi
  rw [ce] at h1
  obtain ⟨_, hlen, hcell⟩ := World.cells?_some h1
  obtain ⟨xs, k', hk', hxy, _, hxl, hf⟩ := DataW.trod_struct he h2
  have hn : k' = n - 1 := by omega
  subst hn
  refine ⟨cs', hlen, fun j v hv => ?_, fun j f v hfj hv => ?_⟩
  · have hj : j < k := by rw [← hlen]; exact (List.getElem?_eq_some_iff.1 hv).1
    have := hcell j hj
    rw [add_add'', hv] at this
    exact this
  · have g := hf j f hfj
    obtain ⟨o1, c1⟩ := ho j f hfj
    rw [o1, c1] at g
    have hj : j < cs'.length := (List.getElem?_eq_some_iff.1 hv).1
    have e1 : (cs'.drop j).take 1 = [v] := by
      rw [List.drop_eq_getElem_cons hj]
      have := (List.getElem?_eq_some_iff.1 hv).2
      simp [this]
    rw [e1] at g
    have hjx : j < xs.length := by
      rw [hxl]
      exact (Array.getElem?_eq_some_iff.1 hfj).1
    exact ⟨xs[j], by rw [g, List.getElem?_eq_getElem hjx]⟩
end Go.Proofs.Ytaaddckhldccjaa
