/- Marks of the call's own, as marks that are read; the runes of bytes as a function. -/
import Derived.Test.YtkkeodlnejckjaaGreatRunes
import Derived.Test.YtkkeodlnejckjaaGreatIter
import Derived.Test.YtkkeodlnejckjaaGreatReg
import Derived.WalkLawsBesides
namespace Go.Proofs.YtkkeodlnejckjaaGreat
open Go.RowKit Go.Shelf
set_option linter.unusedVariables false
set_option linter.unusedSimpArgs false

/-- A value that reads as marks. -/
def MS (w : World) (v : Value) (L : List (Nat × Nat)) : Prop := ∃ A n c, v = .slice A n c ∧ n ≤ c ∧ c ≤ 9223372036854775807 ∧ RdM w A n L
theorem MS.below {w w' : World} {v : Value} {L : List (Nat × Nat)} (h : MS w v L) (hb : Below w.heap.size w w') : MS w' v L := by
  obtain ⟨A, n, c, e, h1, h2, h3⟩ := h
  exact ⟨A, n, c, e, h1, h2, h3.below hb⟩
theorem OwnK.ms {w : World} {base : Nat} {v : Value} {L : List (Nat × Nat)} (h : OwnM w base v L) : MS w v L := by
  obtain ⟨A, c, e, h1, h2, h3⟩ := OwnK.rd encMk_len h
  exact ⟨A, _, c, e, h1, h2, h3⟩
end Go.Proofs.YtkkeodlnejckjaaGreat
