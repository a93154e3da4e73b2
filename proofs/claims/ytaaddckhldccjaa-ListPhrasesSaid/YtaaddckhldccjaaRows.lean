/-
  No cell of these rows narrows 'for every input' (looked for: loops, veiled, ifaces, maps, wideKeys, modest, calm, conditions, laid).
  DERIVED. THE GIVEN ROWS OF THIS SEAT. 6 by the template 'for every input the law returns true; each argument reads behind the call as it read before'; 0 by the template 'total and deterministic' (their statements: YtaaddckhldccjaaTotals.lean).
  GIVEN WITH THE SEED: the statements are not yours to turn. If you find one false, say at which input.
  Laid BY PROGRAM, IN A SANDBOX (cutbox-rows.mjs): the forced cells as the released guide's own fill.sh prints them over the translation 16dec83f8d4b5b36… (all of the seat's roots in one cut). By AI agents, Wed Nov 11 2026. No macro, syntax, notation, axiom, sorry.
-/
import Derived.Test.YtaaddckhldccjaaChecked
import GoSem.Claim
import GoSem.ClaimJoined
import GoSem.ClaimMapViews
import Derived.JoinedTies
import Derived.KernelRfl
namespace Go.Proofs.Ytaaddckhldccjaa
/- THE CELL 'sum', in the pinned program and in every row, IS THE sha256 OF THE DUMP (.gsa) THAT YtaaddckhldccjaaProg.lean LOADS. Nothing in Lean hashes anything: it is a label: what it is worth is what the hold of that sum in a sandbox is worth. -/
noncomputable def Try.pinned : Pinned := { name := "ytaaddckhldccjaa", sum := "16dec83f8d4b5b36de0888613548eeb9e5d32e07220323eb558f65321420c197", checked := Try.checked }
namespace Rows
def none {H : Type} : Left H := { results := [], args := [] }

/-- 'incipitlaw16.ListRows': WHATEVER THE INPUT: true; the input reads as it did. -/
def listRowsSpec : ChangeSpec := { name := "listRows", fn := fun _ => fun
  | [d1, d2, d3] => { results := [.lit (.bool true)], args := [d1, d2, d3] }
  | _ => none }
def listRowsRow : OpenClaim := { program := "ytaaddckhldccjaa", sum := "16dec83f8d4b5b36de0888613548eeb9e5d32e07220323eb558f65321420c197", func := "incipit/incipitlaw16.ListRows", spec := "listRows", unfollowed := true, recurses := true, apart := false }
def ListRowsSaid : Prop := listRowsRow.holds Try.pinned (OpenSpec.ofChange listRowsSpec)

/-- ITS FALSE NEIGHBOUR: 'it returns false'. Refute it at one input. -/
def listRowsWrong : ChangeSpec := { name := "listRows", fn := fun _ => fun
  | [d1, d2, d3] => { results := [.lit (.bool false)], args := [d1, d2, d3] }
  | _ => none }
def ListRowsWrongFalsely : Prop := listRowsRow.holds Try.pinned (OpenSpec.ofChange listRowsWrong)

/-- 'incipitlaw16.ListGoes': WHATEVER THE INPUT: true; the input reads as it did. -/
def listGoesSpec : ChangeSpec := { name := "listGoes", fn := fun _ => fun
  | [d1, d2, d3] => { results := [.lit (.bool true)], args := [d1, d2, d3] }
  | _ => none }
def listGoesRow : OpenClaim := { program := "ytaaddckhldccjaa", sum := "16dec83f8d4b5b36de0888613548eeb9e5d32e07220323eb558f65321420c197", func := "incipit/incipitlaw16.ListGoes", spec := "listGoes", unfollowed := true, recurses := true, apart := false }
def ListGoesSaid : Prop := listGoesRow.holds Try.pinned (OpenSpec.ofChange listGoesSpec)

/-- ITS FALSE NEIGHBOUR: 'it returns false'. Refute it at one input. -/
def listGoesWrong : ChangeSpec := { name := "listGoes", fn := fun _ => fun
  | [d1, d2, d3] => { results := [.lit (.bool false)], args := [d1, d2, d3] }
  | _ => none }
def ListGoesWrongFalsely : Prop := listGoesRow.holds Try.pinned (OpenSpec.ofChange listGoesWrong)

/-- 'incipitlaw16.ListSets': WHATEVER THE INPUT: true; the input reads as it did. -/
def listSetsSpec : ChangeSpec := { name := "listSets", fn := fun _ => fun
  | [d1, d2, d3] => { results := [.lit (.bool true)], args := [d1, d2, d3] }
  | _ => none }
def listSetsRow : OpenClaim := { program := "ytaaddckhldccjaa", sum := "16dec83f8d4b5b36de0888613548eeb9e5d32e07220323eb558f65321420c197", func := "incipit/incipitlaw16.ListSets", spec := "listSets", unfollowed := true, recurses := true, apart := false }
def ListSetsSaid : Prop := listSetsRow.holds Try.pinned (OpenSpec.ofChange listSetsSpec)

/-- ITS FALSE NEIGHBOUR: 'it returns false'. Refute it at one input. -/
def listSetsWrong : ChangeSpec := { name := "listSets", fn := fun _ => fun
  | [d1, d2, d3] => { results := [.lit (.bool false)], args := [d1, d2, d3] }
  | _ => none }
def ListSetsWrongFalsely : Prop := listSetsRow.holds Try.pinned (OpenSpec.ofChange listSetsWrong)

/-- 'incipitlaw16.ListAlgebra': WHATEVER THE INPUT: true; the input reads as it did. -/
def listAlgebraSpec : ChangeSpec := { name := "listAlgebra", fn := fun _ => fun
  | [d1, d2, d3] => { results := [.lit (.bool true)], args := [d1, d2, d3] }
  | _ => none }
def listAlgebraRow : OpenClaim := { program := "ytaaddckhldccjaa", sum := "16dec83f8d4b5b36de0888613548eeb9e5d32e07220323eb558f65321420c197", func := "incipit/incipitlaw16.ListAlgebra", spec := "listAlgebra", unfollowed := true, recurses := true, apart := false }
def ListAlgebraSaid : Prop := listAlgebraRow.holds Try.pinned (OpenSpec.ofChange listAlgebraSpec)

/-- ITS FALSE NEIGHBOUR: 'it returns false'. Refute it at one input. -/
def listAlgebraWrong : ChangeSpec := { name := "listAlgebra", fn := fun _ => fun
  | [d1, d2, d3] => { results := [.lit (.bool false)], args := [d1, d2, d3] }
  | _ => none }
def ListAlgebraWrongFalsely : Prop := listAlgebraRow.holds Try.pinned (OpenSpec.ofChange listAlgebraWrong)

/-- 'incipitlaw16.ListParts': WHATEVER THE INPUT: true; the input reads as it did. -/
def listPartsSpec : ChangeSpec := { name := "listParts", fn := fun _ => fun
  | [d1, d2] => { results := [.lit (.bool true)], args := [d1, d2] }
  | _ => none }
def listPartsRow : OpenClaim := { program := "ytaaddckhldccjaa", sum := "16dec83f8d4b5b36de0888613548eeb9e5d32e07220323eb558f65321420c197", func := "incipit/incipitlaw16.ListParts", spec := "listParts", unfollowed := true, recurses := true, apart := false }
def ListPartsSaid : Prop := listPartsRow.holds Try.pinned (OpenSpec.ofChange listPartsSpec)

/-- ITS FALSE NEIGHBOUR: 'it returns false'. Refute it at one input. -/
def listPartsWrong : ChangeSpec := { name := "listParts", fn := fun _ => fun
  | [d1, d2] => { results := [.lit (.bool false)], args := [d1, d2] }
  | _ => none }
def ListPartsWrongFalsely : Prop := listPartsRow.holds Try.pinned (OpenSpec.ofChange listPartsWrong)

/-- 'incipitlaw16.ListPhrases': WHATEVER THE INPUT: true; the input reads as it did. -/
def listPhrasesSpec : ChangeSpec := { name := "listPhrases", fn := fun _ => fun
  | [d1, d2] => { results := [.lit (.bool true)], args := [d1, d2] }
  | _ => none }
def listPhrasesRow : OpenClaim := { program := "ytaaddckhldccjaa", sum := "16dec83f8d4b5b36de0888613548eeb9e5d32e07220323eb558f65321420c197", func := "incipit/incipitlaw16.ListPhrases", spec := "listPhrases", unfollowed := true, recurses := true, apart := false }
def ListPhrasesSaid : Prop := listPhrasesRow.holds Try.pinned (OpenSpec.ofChange listPhrasesSpec)

/-- ITS FALSE NEIGHBOUR: 'it returns false'. Refute it at one input. -/
def listPhrasesWrong : ChangeSpec := { name := "listPhrases", fn := fun _ => fun
  | [d1, d2] => { results := [.lit (.bool false)], args := [d1, d2] }
  | _ => none }
def ListPhrasesWrongFalsely : Prop := listPhrasesRow.holds Try.pinned (OpenSpec.ofChange listPhrasesWrong)

/- THE SECOND FORM. 'bulk': how many values and letters a reading holds, each counted each time it is reached (what is shared counts as often as it is met; a slice's spare places count too). A statement '..UptoSaid' is the law's where the arguments, and the package variables that the reading takes, are together of bulk at most 1048576: NARROWER than '..Said'. Prove '..Said' where nothing that the law and all that it calls make is longer than what came in: it says more and counts as full. Else prove '..UptoSaid'. A law counts once. -/
mutual
def uptoBulk {H : Type} : DataW H → Nat
  | .lit (.string bytes) => bytes.length + 1
  | .lit _ => 1
  | .nil => 1
  | .ptr d => uptoBulk d + 1
  | .slice elems spare => uptoBulkAll elems + uptoBulkAll spare + 1
  | .agg parts => uptoBulkAll parts + 1
  | .iface _ d => uptoBulk d + 1
  | .map entries => uptoBulkEntries entries + 1
  | .held _ => 1
def uptoBulkAll {H : Type} : List (DataW H) → Nat
  | [] => 0
  | d :: r => uptoBulk d + uptoBulkAll r
def uptoBulkEntries {H : Type} : List (Lit × DataW H) → Nat
  | [] => 0
  | x :: r => uptoBulkEntry x + uptoBulkEntries r
def uptoBulkEntry {H : Type} : Lit × DataW H → Nat
  | (.string bytes, d) => bytes.length + uptoBulk d + 1
  | (_, d) => uptoBulk d + 1
 end
def uptoSmall : (H : Type) → List (DataW H) → Bool := fun _ ds => decide (uptoBulkAll ds ≤ 1048576)
def OpenSpec.upto (s : _root_.Go.ChangeSpec) : _root_.Go.OpenSpec := { _root_.Go.OpenSpec.ofChange s with cond := some uptoSmall }

/-- 'incipitlaw16.ListRows', WHERE WHAT IT READS IS OF BULK AT MOST 1048576: true; the input reads as it did. -/
def listRowsUptoRow : OpenClaim := { program := "ytaaddckhldccjaa", sum := "16dec83f8d4b5b36de0888613548eeb9e5d32e07220323eb558f65321420c197", func := "incipit/incipitlaw16.ListRows", spec := "listRows", unfollowed := true, recurses := true, apart := false, narrowed := true }
def ListRowsUptoSaid : Prop := listRowsUptoRow.holds Try.pinned (OpenSpec.upto listRowsSpec)

/-- 'incipitlaw16.ListGoes', WHERE WHAT IT READS IS OF BULK AT MOST 1048576: true; the input reads as it did. -/
def listGoesUptoRow : OpenClaim := { program := "ytaaddckhldccjaa", sum := "16dec83f8d4b5b36de0888613548eeb9e5d32e07220323eb558f65321420c197", func := "incipit/incipitlaw16.ListGoes", spec := "listGoes", unfollowed := true, recurses := true, apart := false, narrowed := true }
def ListGoesUptoSaid : Prop := listGoesUptoRow.holds Try.pinned (OpenSpec.upto listGoesSpec)

/-- 'incipitlaw16.ListSets', WHERE WHAT IT READS IS OF BULK AT MOST 1048576: true; the input reads as it did. -/
def listSetsUptoRow : OpenClaim := { program := "ytaaddckhldccjaa", sum := "16dec83f8d4b5b36de0888613548eeb9e5d32e07220323eb558f65321420c197", func := "incipit/incipitlaw16.ListSets", spec := "listSets", unfollowed := true, recurses := true, apart := false, narrowed := true }
def ListSetsUptoSaid : Prop := listSetsUptoRow.holds Try.pinned (OpenSpec.upto listSetsSpec)

/-- 'incipitlaw16.ListAlgebra', WHERE WHAT IT READS IS OF BULK AT MOST 1048576: true; the input reads as it did. -/
def listAlgebraUptoRow : OpenClaim := { program := "ytaaddckhldccjaa", sum := "16dec83f8d4b5b36de0888613548eeb9e5d32e07220323eb558f65321420c197", func := "incipit/incipitlaw16.ListAlgebra", spec := "listAlgebra", unfollowed := true, recurses := true, apart := false, narrowed := true }
def ListAlgebraUptoSaid : Prop := listAlgebraUptoRow.holds Try.pinned (OpenSpec.upto listAlgebraSpec)

/-- 'incipitlaw16.ListParts', WHERE WHAT IT READS IS OF BULK AT MOST 1048576: true; the input reads as it did. -/
def listPartsUptoRow : OpenClaim := { program := "ytaaddckhldccjaa", sum := "16dec83f8d4b5b36de0888613548eeb9e5d32e07220323eb558f65321420c197", func := "incipit/incipitlaw16.ListParts", spec := "listParts", unfollowed := true, recurses := true, apart := false, narrowed := true }
def ListPartsUptoSaid : Prop := listPartsUptoRow.holds Try.pinned (OpenSpec.upto listPartsSpec)

/-- 'incipitlaw16.ListPhrases', WHERE WHAT IT READS IS OF BULK AT MOST 1048576: true; the input reads as it did. -/
def listPhrasesUptoRow : OpenClaim := { program := "ytaaddckhldccjaa", sum := "16dec83f8d4b5b36de0888613548eeb9e5d32e07220323eb558f65321420c197", func := "incipit/incipitlaw16.ListPhrases", spec := "listPhrases", unfollowed := true, recurses := true, apart := false, narrowed := true }
def ListPhrasesUptoSaid : Prop := listPhrasesUptoRow.holds Try.pinned (OpenSpec.upto listPhrasesSpec)

end Rows
end Go.Proofs.Ytaaddckhldccjaa
