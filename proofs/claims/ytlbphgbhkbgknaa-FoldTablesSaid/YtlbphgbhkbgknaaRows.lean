/-
  No cell of these rows narrows 'for every input' (looked for: loops, veiled, ifaces, maps, wideKeys, modest, calm, conditions, laid).
  DERIVED. THE GIVEN ROWS OF THIS SEAT. 5 by the template 'for every input the law returns true; each argument reads behind the call as it read before'; 0 by the template 'total and deterministic' (their statements: YtlbphgbhkbgknaaTotals.lean).
  GIVEN WITH THE SEED: the statements are not yours to turn. If you find one false, say at which input.
  Laid BY PROGRAM, IN A SANDBOX (cutbox-rows.mjs): the forced cells as the released guide's own fill.sh prints them over the translation 4f12cbc255b638c5… (all of the seat's roots in one cut). By AI agents, Wed Nov 11 2026. No macro, syntax, notation, axiom, sorry.
-/
import Derived.Test.YtlbphgbhkbgknaaChecked
import GoSem.Claim
import GoSem.ClaimJoined
import GoSem.ClaimMapViews
import Derived.JoinedTies
import Derived.KernelRfl
namespace Go.Proofs.Ytlbphgbhkbgknaa
/- THE CELL 'sum', in the pinned program and in every row, IS THE sha256 OF THE DUMP (.gsa) THAT YtlbphgbhkbgknaaProg.lean LOADS. Nothing in Lean hashes anything: it is a label: what it is worth is what the hold of that sum in a sandbox is worth. -/
noncomputable def Try.pinned : Pinned := { name := "ytlbphgbhkbgknaa", sum := "4f12cbc255b638c5d8b5c81887a4bf177fc8be805982b90c58c9990e4b45d809", checked := Try.checked }
namespace Rows
def none {H : Type} : Left H := { results := [], args := [] }

/-- 'incipitlaw13.FoldTwice': WHATEVER THE INPUT: true; the input reads as it did. -/
def foldTwiceSpec : ChangeSpec := { name := "foldTwice", fn := fun _ => fun
  | [d1, d2, d3] => { results := [.lit (.bool true)], args := [d1, d2, d3] }
  | _ => none }
def foldTwiceRow : OpenClaim := { program := "ytlbphgbhkbgknaa", sum := "4f12cbc255b638c5d8b5c81887a4bf177fc8be805982b90c58c9990e4b45d809", func := "incipit/incipitlaw13.FoldTwice", spec := "foldTwice", unfollowed := true, recurses := true, apart := false }
def FoldTwiceSaid : Prop := foldTwiceRow.holds Try.pinned (OpenSpec.ofChange foldTwiceSpec)

/-- ITS FALSE NEIGHBOUR: 'it returns false'. Refute it at one input. -/
def foldTwiceWrong : ChangeSpec := { name := "foldTwice", fn := fun _ => fun
  | [d1, d2, d3] => { results := [.lit (.bool false)], args := [d1, d2, d3] }
  | _ => none }
def FoldTwiceWrongFalsely : Prop := foldTwiceRow.holds Try.pinned (OpenSpec.ofChange foldTwiceWrong)

/-- 'incipitlaw13.FoldRunes': WHATEVER THE INPUT: true; the input reads as it did. -/
def foldRunesSpec : ChangeSpec := { name := "foldRunes", fn := fun _ => fun
  | [d1, d2] => { results := [.lit (.bool true)], args := [d1, d2] }
  | _ => none }
def foldRunesRow : OpenClaim := { program := "ytlbphgbhkbgknaa", sum := "4f12cbc255b638c5d8b5c81887a4bf177fc8be805982b90c58c9990e4b45d809", func := "incipit/incipitlaw13.FoldRunes", spec := "foldRunes", unfollowed := true, recurses := true, apart := false }
def FoldRunesSaid : Prop := foldRunesRow.holds Try.pinned (OpenSpec.ofChange foldRunesSpec)

/-- ITS FALSE NEIGHBOUR: 'it returns false'. Refute it at one input. -/
def foldRunesWrong : ChangeSpec := { name := "foldRunes", fn := fun _ => fun
  | [d1, d2] => { results := [.lit (.bool false)], args := [d1, d2] }
  | _ => none }
def FoldRunesWrongFalsely : Prop := foldRunesRow.holds Try.pinned (OpenSpec.ofChange foldRunesWrong)

/-- 'incipitlaw13.FoldLetters': WHATEVER THE INPUT: true; the input reads as it did. -/
def foldLettersSpec : ChangeSpec := { name := "foldLetters", fn := fun _ => fun
  | [d] => { results := [.lit (.bool true)], args := [d] }
  | _ => none }
def foldLettersRow : OpenClaim := { program := "ytlbphgbhkbgknaa", sum := "4f12cbc255b638c5d8b5c81887a4bf177fc8be805982b90c58c9990e4b45d809", func := "incipit/incipitlaw13.FoldLetters", spec := "foldLetters", unfollowed := true, recurses := true, apart := false }
def FoldLettersSaid : Prop := foldLettersRow.holds Try.pinned (OpenSpec.ofChange foldLettersSpec)

/-- ITS FALSE NEIGHBOUR: 'it returns false'. Refute it at one input. -/
def foldLettersWrong : ChangeSpec := { name := "foldLetters", fn := fun _ => fun
  | [d] => { results := [.lit (.bool false)], args := [d] }
  | _ => none }
def FoldLettersWrongFalsely : Prop := foldLettersRow.holds Try.pinned (OpenSpec.ofChange foldLettersWrong)

/-- 'incipitlaw13.FoldPieces': WHATEVER THE INPUT: true; the input reads as it did. -/
def foldPiecesSpec : ChangeSpec := { name := "foldPieces", fn := fun _ => fun
  | [d1, d2] => { results := [.lit (.bool true)], args := [d1, d2] }
  | _ => none }
def foldPiecesRow : OpenClaim := { program := "ytlbphgbhkbgknaa", sum := "4f12cbc255b638c5d8b5c81887a4bf177fc8be805982b90c58c9990e4b45d809", func := "incipit/incipitlaw13.FoldPieces", spec := "foldPieces", unfollowed := true, recurses := true, apart := false }
def FoldPiecesSaid : Prop := foldPiecesRow.holds Try.pinned (OpenSpec.ofChange foldPiecesSpec)

/-- ITS FALSE NEIGHBOUR: 'it returns false'. Refute it at one input. -/
def foldPiecesWrong : ChangeSpec := { name := "foldPieces", fn := fun _ => fun
  | [d1, d2] => { results := [.lit (.bool false)], args := [d1, d2] }
  | _ => none }
def FoldPiecesWrongFalsely : Prop := foldPiecesRow.holds Try.pinned (OpenSpec.ofChange foldPiecesWrong)

/-- 'incipitlaw13.FoldTables': WHATEVER THE INPUT: true; the input reads as it did. -/
def foldTablesSpec : ChangeSpec := { name := "foldTables", fn := fun _ => fun
  | [d1, d2, d3] => { results := [.lit (.bool true)], args := [d1, d2, d3] }
  | _ => none }
def foldTablesRow : OpenClaim := { program := "ytlbphgbhkbgknaa", sum := "4f12cbc255b638c5d8b5c81887a4bf177fc8be805982b90c58c9990e4b45d809", func := "incipit/incipitlaw13.FoldTables", spec := "foldTables", unfollowed := true, recurses := true, apart := false }
def FoldTablesSaid : Prop := foldTablesRow.holds Try.pinned (OpenSpec.ofChange foldTablesSpec)

/-- ITS FALSE NEIGHBOUR: 'it returns false'. Refute it at one input. -/
def foldTablesWrong : ChangeSpec := { name := "foldTables", fn := fun _ => fun
  | [d1, d2, d3] => { results := [.lit (.bool false)], args := [d1, d2, d3] }
  | _ => none }
def FoldTablesWrongFalsely : Prop := foldTablesRow.holds Try.pinned (OpenSpec.ofChange foldTablesWrong)

/- THE SECOND FORM. 'bulk': how many values and letters a reading holds, each counted each time it is reached (what is shared counts as often as it is met; a slice's spare places count too). A statement '..UptoSaid' is the law's where the arguments, and the package variables that the reading takes, are together of bulk at most 1048576: NARROWER than '..Said'. Prove '..Said' where nothing that the law and all that it calls make is longer than what came in: it says more and counts as full. Else prove '..UptoSaid'. A law counts once. -/
mutual
def uptoBulk {H : Type} : DataW H → Nat
  | .lit (.string bytes) => bytes.length + 1
  | .lit _ => 1
  | .nil => 1
  | .ptr d => uptoBulk d + 1
  | .slice elems spare => uptoBulkAll elems + uptoBulkAll spare + 1
  | .agg parts => uptoBulkAll parts + 1
  | .iface _ d => uptoBulk d + 1
  | .map entries => uptoBulkEntries entries + 1
  | .held _ => 1
def uptoBulkAll {H : Type} : List (DataW H) → Nat
  | [] => 0
  | d :: r => uptoBulk d + uptoBulkAll r
def uptoBulkEntries {H : Type} : List (Lit × DataW H) → Nat
  | [] => 0
  | x :: r => uptoBulkEntry x + uptoBulkEntries r
def uptoBulkEntry {H : Type} : Lit × DataW H → Nat
  | (.string bytes, d) => bytes.length + uptoBulk d + 1
  | (_, d) => uptoBulk d + 1
 end
def uptoSmall : (H : Type) → List (DataW H) → Bool := fun _ ds => decide (uptoBulkAll ds ≤ 1048576)
def OpenSpec.upto (s : _root_.Go.ChangeSpec) : _root_.Go.OpenSpec := { _root_.Go.OpenSpec.ofChange s with cond := some uptoSmall }

/-- 'incipitlaw13.FoldTwice', WHERE WHAT IT READS IS OF BULK AT MOST 1048576: true; the input reads as it did. -/
def foldTwiceUptoRow : OpenClaim := { program := "ytlbphgbhkbgknaa", sum := "4f12cbc255b638c5d8b5c81887a4bf177fc8be805982b90c58c9990e4b45d809", func := "incipit/incipitlaw13.FoldTwice", spec := "foldTwice", unfollowed := true, recurses := true, apart := false, narrowed := true }
def FoldTwiceUptoSaid : Prop := foldTwiceUptoRow.holds Try.pinned (OpenSpec.upto foldTwiceSpec)

/-- 'incipitlaw13.FoldRunes', WHERE WHAT IT READS IS OF BULK AT MOST 1048576: true; the input reads as it did. -/
def foldRunesUptoRow : OpenClaim := { program := "ytlbphgbhkbgknaa", sum := "4f12cbc255b638c5d8b5c81887a4bf177fc8be805982b90c58c9990e4b45d809", func := "incipit/incipitlaw13.FoldRunes", spec := "foldRunes", unfollowed := true, recurses := true, apart := false, narrowed := true }
def FoldRunesUptoSaid : Prop := foldRunesUptoRow.holds Try.pinned (OpenSpec.upto foldRunesSpec)

/-- 'incipitlaw13.FoldLetters', WHERE WHAT IT READS IS OF BULK AT MOST 1048576: true; the input reads as it did. -/
def foldLettersUptoRow : OpenClaim := { program := "ytlbphgbhkbgknaa", sum := "4f12cbc255b638c5d8b5c81887a4bf177fc8be805982b90c58c9990e4b45d809", func := "incipit/incipitlaw13.FoldLetters", spec := "foldLetters", unfollowed := true, recurses := true, apart := false, narrowed := true }
def FoldLettersUptoSaid : Prop := foldLettersUptoRow.holds Try.pinned (OpenSpec.upto foldLettersSpec)

/-- 'incipitlaw13.FoldPieces', WHERE WHAT IT READS IS OF BULK AT MOST 1048576: true; the input reads as it did. -/
def foldPiecesUptoRow : OpenClaim := { program := "ytlbphgbhkbgknaa", sum := "4f12cbc255b638c5d8b5c81887a4bf177fc8be805982b90c58c9990e4b45d809", func := "incipit/incipitlaw13.FoldPieces", spec := "foldPieces", unfollowed := true, recurses := true, apart := false, narrowed := true }
def FoldPiecesUptoSaid : Prop := foldPiecesUptoRow.holds Try.pinned (OpenSpec.upto foldPiecesSpec)

/-- 'incipitlaw13.FoldTables', WHERE WHAT IT READS IS OF BULK AT MOST 1048576: true; the input reads as it did. -/
def foldTablesUptoRow : OpenClaim := { program := "ytlbphgbhkbgknaa", sum := "4f12cbc255b638c5d8b5c81887a4bf177fc8be805982b90c58c9990e4b45d809", func := "incipit/incipitlaw13.FoldTables", spec := "foldTables", unfollowed := true, recurses := true, apart := false, narrowed := true }
def FoldTablesUptoSaid : Prop := foldTablesUptoRow.holds Try.pinned (OpenSpec.upto foldTablesSpec)

end Rows
end Go.Proofs.Ytlbphgbhkbgknaa
