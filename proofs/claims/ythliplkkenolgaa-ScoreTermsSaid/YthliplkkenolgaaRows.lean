/-
  No cell of these rows narrows 'for every input' (looked for: loops, veiled, ifaces, maps, wideKeys, modest, calm, conditions, laid).
  DERIVED. THE GIVEN ROWS OF THIS SEAT. 5 by the template 'for every input the law returns true; each argument reads behind the call as it read before'; 0 by the template 'total and deterministic' (their statements: YthliplkkenolgaaTotals.lean).
  GIVEN WITH THE SEED: the statements are not yours to turn. If you find one false, say at which input.
  Laid BY PROGRAM, IN A SANDBOX (cutbox-rows.mjs): the forced cells as the released guide's own fill.sh prints them over the translation 7981f0f3fd0bc573… (all of the seat's roots in one cut). By AI agents, Wed Nov 11 2026. No macro, syntax, notation, axiom, sorry.
-/
import Derived.Test.YthliplkkenolgaaChecked
import GoSem.Claim
import GoSem.ClaimJoined
import GoSem.ClaimMapViews
import Derived.JoinedTies
import Derived.KernelRfl
namespace Go.Proofs.Ythliplkkenolgaa
/- THE CELL 'sum', in the pinned program and in every row, IS THE sha256 OF THE DUMP (.gsa) THAT YthliplkkenolgaaProg.lean LOADS. Nothing in Lean hashes anything: it is a label: what it is worth is what the hold of that sum in a sandbox is worth. -/
noncomputable def Try.pinned : Pinned := { name := "ythliplkkenolgaa", sum := "7981f0f3fd0bc5733a0660d4f4083f212e7d9cd7ae3aeffbaa4fe16f940a0022", checked := Try.checked }
namespace Rows
def none {H : Type} : Left H := { results := [], args := [] }

/-- 'incipitlaw22.ScoreLogs': WHATEVER THE INPUT: true; the input reads as it did. -/
def scoreLogsSpec : ChangeSpec := { name := "scoreLogs", fn := fun _ => fun
  | [d1, d2, d3, d4] => { results := [.lit (.bool true)], args := [d1, d2, d3, d4] }
  | _ => none }
def scoreLogsRow : OpenClaim := { program := "ythliplkkenolgaa", sum := "7981f0f3fd0bc5733a0660d4f4083f212e7d9cd7ae3aeffbaa4fe16f940a0022", func := "incipit/incipitlaw22.ScoreLogs", spec := "scoreLogs", apart := false }
def ScoreLogsSaid : Prop := scoreLogsRow.holds Try.pinned (OpenSpec.ofChange scoreLogsSpec)

/-- ITS FALSE NEIGHBOUR: 'it returns false'. Refute it at one input. -/
def scoreLogsWrong : ChangeSpec := { name := "scoreLogs", fn := fun _ => fun
  | [d1, d2, d3, d4] => { results := [.lit (.bool false)], args := [d1, d2, d3, d4] }
  | _ => none }
def ScoreLogsWrongFalsely : Prop := scoreLogsRow.holds Try.pinned (OpenSpec.ofChange scoreLogsWrong)

/-- 'incipitlaw22.ScoreRatio': WHATEVER THE INPUT: true; the input reads as it did. -/
def scoreRatioSpec : ChangeSpec := { name := "scoreRatio", fn := fun _ => fun
  | [d1, d2, d3, d4] => { results := [.lit (.bool true)], args := [d1, d2, d3, d4] }
  | _ => none }
def scoreRatioRow : OpenClaim := { program := "ythliplkkenolgaa", sum := "7981f0f3fd0bc5733a0660d4f4083f212e7d9cd7ae3aeffbaa4fe16f940a0022", func := "incipit/incipitlaw22.ScoreRatio", spec := "scoreRatio", apart := false }
def ScoreRatioSaid : Prop := scoreRatioRow.holds Try.pinned (OpenSpec.ofChange scoreRatioSpec)

/-- ITS FALSE NEIGHBOUR: 'it returns false'. Refute it at one input. -/
def scoreRatioWrong : ChangeSpec := { name := "scoreRatio", fn := fun _ => fun
  | [d1, d2, d3, d4] => { results := [.lit (.bool false)], args := [d1, d2, d3, d4] }
  | _ => none }
def ScoreRatioWrongFalsely : Prop := scoreRatioRow.holds Try.pinned (OpenSpec.ofChange scoreRatioWrong)

/-- 'incipitlaw22.ScoreBounds': WHATEVER THE INPUT: true; the input reads as it did. -/
def scoreBoundsSpec : ChangeSpec := { name := "scoreBounds", fn := fun _ => fun
  | [d1, d2, d3, d4] => { results := [.lit (.bool true)], args := [d1, d2, d3, d4] }
  | _ => none }
def scoreBoundsRow : OpenClaim := { program := "ythliplkkenolgaa", sum := "7981f0f3fd0bc5733a0660d4f4083f212e7d9cd7ae3aeffbaa4fe16f940a0022", func := "incipit/incipitlaw22.ScoreBounds", spec := "scoreBounds", apart := false }
def ScoreBoundsSaid : Prop := scoreBoundsRow.holds Try.pinned (OpenSpec.ofChange scoreBoundsSpec)

/-- ITS FALSE NEIGHBOUR: 'it returns false'. Refute it at one input. -/
def scoreBoundsWrong : ChangeSpec := { name := "scoreBounds", fn := fun _ => fun
  | [d1, d2, d3, d4] => { results := [.lit (.bool false)], args := [d1, d2, d3, d4] }
  | _ => none }
def ScoreBoundsWrongFalsely : Prop := scoreBoundsRow.holds Try.pinned (OpenSpec.ofChange scoreBoundsWrong)

/-- 'incipitlaw22.ScoreBetter': WHATEVER THE INPUT: true; the input reads as it did. -/
def scoreBetterSpec : ChangeSpec := { name := "scoreBetter", fn := fun _ => fun
  | [d1, d2, d3, d4, d5] => { results := [.lit (.bool true)], args := [d1, d2, d3, d4, d5] }
  | _ => none }
def scoreBetterRow : OpenClaim := { program := "ythliplkkenolgaa", sum := "7981f0f3fd0bc5733a0660d4f4083f212e7d9cd7ae3aeffbaa4fe16f940a0022", func := "incipit/incipitlaw22.ScoreBetter", spec := "scoreBetter", apart := false }
def ScoreBetterSaid : Prop := scoreBetterRow.holds Try.pinned (OpenSpec.ofChange scoreBetterSpec)

/-- ITS FALSE NEIGHBOUR: 'it returns false'. Refute it at one input. -/
def scoreBetterWrong : ChangeSpec := { name := "scoreBetter", fn := fun _ => fun
  | [d1, d2, d3, d4, d5] => { results := [.lit (.bool false)], args := [d1, d2, d3, d4, d5] }
  | _ => none }
def ScoreBetterWrongFalsely : Prop := scoreBetterRow.holds Try.pinned (OpenSpec.ofChange scoreBetterWrong)

/-- 'incipitlaw22.ScoreTerms': WHATEVER THE INPUT: true; the input reads as it did. -/
def scoreTermsSpec : ChangeSpec := { name := "scoreTerms", fn := fun _ => fun
  | [d1, d2, d3, d4, d5] => { results := [.lit (.bool true)], args := [d1, d2, d3, d4, d5] }
  | _ => none }
def scoreTermsRow : OpenClaim := { program := "ythliplkkenolgaa", sum := "7981f0f3fd0bc5733a0660d4f4083f212e7d9cd7ae3aeffbaa4fe16f940a0022", func := "incipit/incipitlaw22.ScoreTerms", spec := "scoreTerms", apart := false }
def ScoreTermsSaid : Prop := scoreTermsRow.holds Try.pinned (OpenSpec.ofChange scoreTermsSpec)

/-- ITS FALSE NEIGHBOUR: 'it returns false'. Refute it at one input. -/
def scoreTermsWrong : ChangeSpec := { name := "scoreTerms", fn := fun _ => fun
  | [d1, d2, d3, d4, d5] => { results := [.lit (.bool false)], args := [d1, d2, d3, d4, d5] }
  | _ => none }
def ScoreTermsWrongFalsely : Prop := scoreTermsRow.holds Try.pinned (OpenSpec.ofChange scoreTermsWrong)

/- THE SECOND FORM. 'bulk': how many values and letters a reading holds, each counted each time it is reached (what is shared counts as often as it is met; a slice's spare places count too). A statement '..UptoSaid' is the law's where the arguments, and the package variables that the reading takes, are together of bulk at most 1048576: NARROWER than '..Said'. Prove '..Said' where nothing that the law and all that it calls make is longer than what came in: it says more and counts as full. Else prove '..UptoSaid'. A law counts once. -/
mutual
def uptoBulk {H : Type} : DataW H → Nat
  | .lit (.string bytes) => bytes.length + 1
  | .lit _ => 1
  | .nil => 1
  | .ptr d => uptoBulk d + 1
  | .slice elems spare => uptoBulkAll elems + uptoBulkAll spare + 1
  | .agg parts => uptoBulkAll parts + 1
  | .iface _ d => uptoBulk d + 1
  | .map entries => uptoBulkEntries entries + 1
  | .held _ => 1
def uptoBulkAll {H : Type} : List (DataW H) → Nat
  | [] => 0
  | d :: r => uptoBulk d + uptoBulkAll r
def uptoBulkEntries {H : Type} : List (Lit × DataW H) → Nat
  | [] => 0
  | x :: r => uptoBulkEntry x + uptoBulkEntries r
def uptoBulkEntry {H : Type} : Lit × DataW H → Nat
  | (.string bytes, d) => bytes.length + uptoBulk d + 1
  | (_, d) => uptoBulk d + 1
 end
def uptoSmall : (H : Type) → List (DataW H) → Bool := fun _ ds => decide (uptoBulkAll ds ≤ 1048576)
def OpenSpec.upto (s : _root_.Go.ChangeSpec) : _root_.Go.OpenSpec := { _root_.Go.OpenSpec.ofChange s with cond := some uptoSmall }

/-- 'incipitlaw22.ScoreLogs', WHERE WHAT IT READS IS OF BULK AT MOST 1048576: true; the input reads as it did. -/
def scoreLogsUptoRow : OpenClaim := { program := "ythliplkkenolgaa", sum := "7981f0f3fd0bc5733a0660d4f4083f212e7d9cd7ae3aeffbaa4fe16f940a0022", func := "incipit/incipitlaw22.ScoreLogs", spec := "scoreLogs", apart := false, narrowed := true }
def ScoreLogsUptoSaid : Prop := scoreLogsUptoRow.holds Try.pinned (OpenSpec.upto scoreLogsSpec)

/-- 'incipitlaw22.ScoreRatio', WHERE WHAT IT READS IS OF BULK AT MOST 1048576: true; the input reads as it did. -/
def scoreRatioUptoRow : OpenClaim := { program := "ythliplkkenolgaa", sum := "7981f0f3fd0bc5733a0660d4f4083f212e7d9cd7ae3aeffbaa4fe16f940a0022", func := "incipit/incipitlaw22.ScoreRatio", spec := "scoreRatio", apart := false, narrowed := true }
def ScoreRatioUptoSaid : Prop := scoreRatioUptoRow.holds Try.pinned (OpenSpec.upto scoreRatioSpec)

/-- 'incipitlaw22.ScoreBounds', WHERE WHAT IT READS IS OF BULK AT MOST 1048576: true; the input reads as it did. -/
def scoreBoundsUptoRow : OpenClaim := { program := "ythliplkkenolgaa", sum := "7981f0f3fd0bc5733a0660d4f4083f212e7d9cd7ae3aeffbaa4fe16f940a0022", func := "incipit/incipitlaw22.ScoreBounds", spec := "scoreBounds", apart := false, narrowed := true }
def ScoreBoundsUptoSaid : Prop := scoreBoundsUptoRow.holds Try.pinned (OpenSpec.upto scoreBoundsSpec)

/-- 'incipitlaw22.ScoreBetter', WHERE WHAT IT READS IS OF BULK AT MOST 1048576: true; the input reads as it did. -/
def scoreBetterUptoRow : OpenClaim := { program := "ythliplkkenolgaa", sum := "7981f0f3fd0bc5733a0660d4f4083f212e7d9cd7ae3aeffbaa4fe16f940a0022", func := "incipit/incipitlaw22.ScoreBetter", spec := "scoreBetter", apart := false, narrowed := true }
def ScoreBetterUptoSaid : Prop := scoreBetterUptoRow.holds Try.pinned (OpenSpec.upto scoreBetterSpec)

/-- 'incipitlaw22.ScoreTerms', WHERE WHAT IT READS IS OF BULK AT MOST 1048576: true; the input reads as it did. -/
def scoreTermsUptoRow : OpenClaim := { program := "ythliplkkenolgaa", sum := "7981f0f3fd0bc5733a0660d4f4083f212e7d9cd7ae3aeffbaa4fe16f940a0022", func := "incipit/incipitlaw22.ScoreTerms", spec := "scoreTerms", apart := false, narrowed := true }
def ScoreTermsUptoSaid : Prop := scoreTermsUptoRow.holds Try.pinned (OpenSpec.upto scoreTermsSpec)

end Rows
end Go.Proofs.Ythliplkkenolgaa
