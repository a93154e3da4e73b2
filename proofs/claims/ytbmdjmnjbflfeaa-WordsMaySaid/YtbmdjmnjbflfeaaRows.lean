/-
  No cell of these rows narrows 'for every input' (looked for: loops, veiled, ifaces, maps, wideKeys, modest, calm, conditions, laid).
  DERIVED. THE GIVEN ROWS OF THIS SEAT. 7 by the template 'for every input the law returns true; each argument reads behind the call as it read before'; 0 by the template 'total and deterministic' (their statements: YtbmdjmnjbflfeaaTotals.lean).
  GIVEN WITH THE SEED: the statements are not yours to turn. If you find one false, say at which input.
  Laid BY PROGRAM, IN A SANDBOX (cutbox-rows.mjs): the forced cells as the released guide's own fill.sh prints them over the translation 426295b5d4d05526… (all of the seat's roots in one cut). By AI agents, Wed Nov 11 2026. No macro, syntax, notation, axiom, sorry.
-/
import Derived.Test.YtbmdjmnjbflfeaaChecked
import GoSem.Claim
import GoSem.ClaimJoined
import GoSem.ClaimMapViews
import Derived.JoinedTies
import Derived.KernelRfl
namespace Go.Proofs.Ytbmdjmnjbflfeaa
/- THE CELL 'sum', in the pinned program and in every row, IS THE sha256 OF THE DUMP (.gsa) THAT YtbmdjmnjbflfeaaProg.lean LOADS. Nothing in Lean hashes anything: it is a label: what it is worth is what the hold of that sum in a sandbox is worth. -/
noncomputable def Try.pinned : Pinned := { name := "ytbmdjmnjbflfeaa", sum := "426295b5d4d05526be6d447af18ad14f658760cd62dbf2e2217e30f8174291fe", checked := Try.checked }
namespace Rows
def none {H : Type} : Left H := { results := [], args := [] }

/-- 'incipitlaw14.WordsTokens': WHATEVER THE INPUT: true; the input reads as it did. -/
def wordsTokensSpec : ChangeSpec := { name := "wordsTokens", fn := fun _ => fun
  | [d1, d2, d3] => { results := [.lit (.bool true)], args := [d1, d2, d3] }
  | _ => none }
def wordsTokensRow : OpenClaim := { program := "ytbmdjmnjbflfeaa", sum := "426295b5d4d05526be6d447af18ad14f658760cd62dbf2e2217e30f8174291fe", func := "incipit/incipitlaw14.WordsTokens", spec := "wordsTokens", inPlace := ["internal/abi.NoEscape"], unfollowed := true, recurses := true, apart := false }
def WordsTokensSaid : Prop := wordsTokensRow.holds Try.pinned (OpenSpec.ofChange wordsTokensSpec)

/-- ITS FALSE NEIGHBOUR: 'it returns false'. Refute it at one input. -/
def wordsTokensWrong : ChangeSpec := { name := "wordsTokens", fn := fun _ => fun
  | [d1, d2, d3] => { results := [.lit (.bool false)], args := [d1, d2, d3] }
  | _ => none }
def WordsTokensWrongFalsely : Prop := wordsTokensRow.holds Try.pinned (OpenSpec.ofChange wordsTokensWrong)

/-- 'incipitlaw14.WordsFolded': WHATEVER THE INPUT: true; the input reads as it did. -/
def wordsFoldedSpec : ChangeSpec := { name := "wordsFolded", fn := fun _ => fun
  | [d1, d2] => { results := [.lit (.bool true)], args := [d1, d2] }
  | _ => none }
def wordsFoldedRow : OpenClaim := { program := "ytbmdjmnjbflfeaa", sum := "426295b5d4d05526be6d447af18ad14f658760cd62dbf2e2217e30f8174291fe", func := "incipit/incipitlaw14.WordsFolded", spec := "wordsFolded", inPlace := ["internal/abi.NoEscape"], unfollowed := true, recurses := true, apart := false }
def WordsFoldedSaid : Prop := wordsFoldedRow.holds Try.pinned (OpenSpec.ofChange wordsFoldedSpec)

/-- ITS FALSE NEIGHBOUR: 'it returns false'. Refute it at one input. -/
def wordsFoldedWrong : ChangeSpec := { name := "wordsFolded", fn := fun _ => fun
  | [d1, d2] => { results := [.lit (.bool false)], args := [d1, d2] }
  | _ => none }
def WordsFoldedWrongFalsely : Prop := wordsFoldedRow.holds Try.pinned (OpenSpec.ofChange wordsFoldedWrong)

/-- 'incipitlaw14.WordsOwn': WHATEVER THE INPUT: true; the input reads as it did. -/
def wordsOwnSpec : ChangeSpec := { name := "wordsOwn", fn := fun _ => fun
  | [d1, d2] => { results := [.lit (.bool true)], args := [d1, d2] }
  | _ => none }
def wordsOwnRow : OpenClaim := { program := "ytbmdjmnjbflfeaa", sum := "426295b5d4d05526be6d447af18ad14f658760cd62dbf2e2217e30f8174291fe", func := "incipit/incipitlaw14.WordsOwn", spec := "wordsOwn", inPlace := ["internal/abi.NoEscape"], unfollowed := true, recurses := true, apart := false }
def WordsOwnSaid : Prop := wordsOwnRow.holds Try.pinned (OpenSpec.ofChange wordsOwnSpec)

/-- ITS FALSE NEIGHBOUR: 'it returns false'. Refute it at one input. -/
def wordsOwnWrong : ChangeSpec := { name := "wordsOwn", fn := fun _ => fun
  | [d1, d2] => { results := [.lit (.bool false)], args := [d1, d2] }
  | _ => none }
def WordsOwnWrongFalsely : Prop := wordsOwnRow.holds Try.pinned (OpenSpec.ofChange wordsOwnWrong)

/-- 'incipitlaw14.WordsBehind': WHATEVER THE INPUT: true; the input reads as it did. -/
def wordsBehindSpec : ChangeSpec := { name := "wordsBehind", fn := fun _ => fun
  | [d1, d2, d3] => { results := [.lit (.bool true)], args := [d1, d2, d3] }
  | _ => none }
def wordsBehindRow : OpenClaim := { program := "ytbmdjmnjbflfeaa", sum := "426295b5d4d05526be6d447af18ad14f658760cd62dbf2e2217e30f8174291fe", func := "incipit/incipitlaw14.WordsBehind", spec := "wordsBehind", inPlace := ["internal/abi.NoEscape"], unfollowed := true, recurses := true, apart := false }
def WordsBehindSaid : Prop := wordsBehindRow.holds Try.pinned (OpenSpec.ofChange wordsBehindSpec)

/-- ITS FALSE NEIGHBOUR: 'it returns false'. Refute it at one input. -/
def wordsBehindWrong : ChangeSpec := { name := "wordsBehind", fn := fun _ => fun
  | [d1, d2, d3] => { results := [.lit (.bool false)], args := [d1, d2, d3] }
  | _ => none }
def WordsBehindWrongFalsely : Prop := wordsBehindRow.holds Try.pinned (OpenSpec.ofChange wordsBehindWrong)

/-- 'incipitlaw14.WordsBack': WHATEVER THE INPUT: true; the input reads as it did. -/
def wordsBackSpec : ChangeSpec := { name := "wordsBack", fn := fun _ => fun
  | [d1, d2] => { results := [.lit (.bool true)], args := [d1, d2] }
  | _ => none }
def wordsBackRow : OpenClaim := { program := "ytbmdjmnjbflfeaa", sum := "426295b5d4d05526be6d447af18ad14f658760cd62dbf2e2217e30f8174291fe", func := "incipit/incipitlaw14.WordsBack", spec := "wordsBack", inPlace := ["internal/abi.NoEscape"], unfollowed := true, recurses := true, apart := false }
def WordsBackSaid : Prop := wordsBackRow.holds Try.pinned (OpenSpec.ofChange wordsBackSpec)

/-- ITS FALSE NEIGHBOUR: 'it returns false'. Refute it at one input. -/
def wordsBackWrong : ChangeSpec := { name := "wordsBack", fn := fun _ => fun
  | [d1, d2] => { results := [.lit (.bool false)], args := [d1, d2] }
  | _ => none }
def WordsBackWrongFalsely : Prop := wordsBackRow.holds Try.pinned (OpenSpec.ofChange wordsBackWrong)

/-- 'incipitlaw14.WordsMay': WHATEVER THE INPUT: true; the input reads as it did. -/
def wordsMaySpec : ChangeSpec := { name := "wordsMay", fn := fun _ => fun
  | [d1, d2, d3] => { results := [.lit (.bool true)], args := [d1, d2, d3] }
  | _ => none }
def wordsMayRow : OpenClaim := { program := "ytbmdjmnjbflfeaa", sum := "426295b5d4d05526be6d447af18ad14f658760cd62dbf2e2217e30f8174291fe", func := "incipit/incipitlaw14.WordsMay", spec := "wordsMay", inPlace := ["internal/abi.NoEscape"], unfollowed := true, recurses := true, apart := false }
def WordsMaySaid : Prop := wordsMayRow.holds Try.pinned (OpenSpec.ofChange wordsMaySpec)

/-- ITS FALSE NEIGHBOUR: 'it returns false'. Refute it at one input. -/
def wordsMayWrong : ChangeSpec := { name := "wordsMay", fn := fun _ => fun
  | [d1, d2, d3] => { results := [.lit (.bool false)], args := [d1, d2, d3] }
  | _ => none }
def WordsMayWrongFalsely : Prop := wordsMayRow.holds Try.pinned (OpenSpec.ofChange wordsMayWrong)

/-- 'incipitlaw14.WordsTerms': WHATEVER THE INPUT: true; the input reads as it did. -/
def wordsTermsSpec : ChangeSpec := { name := "wordsTerms", fn := fun _ => fun
  | [d1, d2, d3] => { results := [.lit (.bool true)], args := [d1, d2, d3] }
  | _ => none }
def wordsTermsRow : OpenClaim := { program := "ytbmdjmnjbflfeaa", sum := "426295b5d4d05526be6d447af18ad14f658760cd62dbf2e2217e30f8174291fe", func := "incipit/incipitlaw14.WordsTerms", spec := "wordsTerms", inPlace := ["internal/abi.NoEscape"], unfollowed := true, recurses := true, apart := false }
def WordsTermsSaid : Prop := wordsTermsRow.holds Try.pinned (OpenSpec.ofChange wordsTermsSpec)

/-- ITS FALSE NEIGHBOUR: 'it returns false'. Refute it at one input. -/
def wordsTermsWrong : ChangeSpec := { name := "wordsTerms", fn := fun _ => fun
  | [d1, d2, d3] => { results := [.lit (.bool false)], args := [d1, d2, d3] }
  | _ => none }
def WordsTermsWrongFalsely : Prop := wordsTermsRow.holds Try.pinned (OpenSpec.ofChange wordsTermsWrong)

/- THE SECOND FORM. 'bulk': how many values and letters a reading holds, each counted each time it is reached (what is shared counts as often as it is met; a slice's spare places count too). A statement '..UptoSaid' is the law's where the arguments, and the package variables that the reading takes, are together of bulk at most 1048576: NARROWER than '..Said'. Prove '..Said' where nothing that the law and all that it calls make is longer than what came in: it says more and counts as full. Else prove '..UptoSaid'. A law counts once. -/
mutual
def uptoBulk {H : Type} : DataW H → Nat
  | .lit (.string bytes) => bytes.length + 1
  | .lit _ => 1
  | .nil => 1
  | .ptr d => uptoBulk d + 1
  | .slice elems spare => uptoBulkAll elems + uptoBulkAll spare + 1
  | .agg parts => uptoBulkAll parts + 1
  | .iface _ d => uptoBulk d + 1
  | .map entries => uptoBulkEntries entries + 1
  | .held _ => 1
def uptoBulkAll {H : Type} : List (DataW H) → Nat
  | [] => 0
  | d :: r => uptoBulk d + uptoBulkAll r
def uptoBulkEntries {H : Type} : List (Lit × DataW H) → Nat
  | [] => 0
  | x :: r => uptoBulkEntry x + uptoBulkEntries r
def uptoBulkEntry {H : Type} : Lit × DataW H → Nat
  | (.string bytes, d) => bytes.length + uptoBulk d + 1
  | (_, d) => uptoBulk d + 1
 end
def uptoSmall : (H : Type) → List (DataW H) → Bool := fun _ ds => decide (uptoBulkAll ds ≤ 1048576)
def OpenSpec.upto (s : _root_.Go.ChangeSpec) : _root_.Go.OpenSpec := { _root_.Go.OpenSpec.ofChange s with cond := some uptoSmall }

/-- 'incipitlaw14.WordsTokens', WHERE WHAT IT READS IS OF BULK AT MOST 1048576: true; the input reads as it did. -/
def wordsTokensUptoRow : OpenClaim := { program := "ytbmdjmnjbflfeaa", sum := "426295b5d4d05526be6d447af18ad14f658760cd62dbf2e2217e30f8174291fe", func := "incipit/incipitlaw14.WordsTokens", spec := "wordsTokens", inPlace := ["internal/abi.NoEscape"], unfollowed := true, recurses := true, apart := false, narrowed := true }
def WordsTokensUptoSaid : Prop := wordsTokensUptoRow.holds Try.pinned (OpenSpec.upto wordsTokensSpec)

/-- 'incipitlaw14.WordsFolded', WHERE WHAT IT READS IS OF BULK AT MOST 1048576: true; the input reads as it did. -/
def wordsFoldedUptoRow : OpenClaim := { program := "ytbmdjmnjbflfeaa", sum := "426295b5d4d05526be6d447af18ad14f658760cd62dbf2e2217e30f8174291fe", func := "incipit/incipitlaw14.WordsFolded", spec := "wordsFolded", inPlace := ["internal/abi.NoEscape"], unfollowed := true, recurses := true, apart := false, narrowed := true }
def WordsFoldedUptoSaid : Prop := wordsFoldedUptoRow.holds Try.pinned (OpenSpec.upto wordsFoldedSpec)

/-- 'incipitlaw14.WordsOwn', WHERE WHAT IT READS IS OF BULK AT MOST 1048576: true; the input reads as it did. -/
def wordsOwnUptoRow : OpenClaim := { program := "ytbmdjmnjbflfeaa", sum := "426295b5d4d05526be6d447af18ad14f658760cd62dbf2e2217e30f8174291fe", func := "incipit/incipitlaw14.WordsOwn", spec := "wordsOwn", inPlace := ["internal/abi.NoEscape"], unfollowed := true, recurses := true, apart := false, narrowed := true }
def WordsOwnUptoSaid : Prop := wordsOwnUptoRow.holds Try.pinned (OpenSpec.upto wordsOwnSpec)

/-- 'incipitlaw14.WordsBehind', WHERE WHAT IT READS IS OF BULK AT MOST 1048576: true; the input reads as it did. -/
def wordsBehindUptoRow : OpenClaim := { program := "ytbmdjmnjbflfeaa", sum := "426295b5d4d05526be6d447af18ad14f658760cd62dbf2e2217e30f8174291fe", func := "incipit/incipitlaw14.WordsBehind", spec := "wordsBehind", inPlace := ["internal/abi.NoEscape"], unfollowed := true, recurses := true, apart := false, narrowed := true }
def WordsBehindUptoSaid : Prop := wordsBehindUptoRow.holds Try.pinned (OpenSpec.upto wordsBehindSpec)

/-- 'incipitlaw14.WordsBack', WHERE WHAT IT READS IS OF BULK AT MOST 1048576: true; the input reads as it did. -/
def wordsBackUptoRow : OpenClaim := { program := "ytbmdjmnjbflfeaa", sum := "426295b5d4d05526be6d447af18ad14f658760cd62dbf2e2217e30f8174291fe", func := "incipit/incipitlaw14.WordsBack", spec := "wordsBack", inPlace := ["internal/abi.NoEscape"], unfollowed := true, recurses := true, apart := false, narrowed := true }
def WordsBackUptoSaid : Prop := wordsBackUptoRow.holds Try.pinned (OpenSpec.upto wordsBackSpec)

/-- 'incipitlaw14.WordsMay', WHERE WHAT IT READS IS OF BULK AT MOST 1048576: true; the input reads as it did. -/
def wordsMayUptoRow : OpenClaim := { program := "ytbmdjmnjbflfeaa", sum := "426295b5d4d05526be6d447af18ad14f658760cd62dbf2e2217e30f8174291fe", func := "incipit/incipitlaw14.WordsMay", spec := "wordsMay", inPlace := ["internal/abi.NoEscape"], unfollowed := true, recurses := true, apart := false, narrowed := true }
def WordsMayUptoSaid : Prop := wordsMayUptoRow.holds Try.pinned (OpenSpec.upto wordsMaySpec)

/-- 'incipitlaw14.WordsTerms', WHERE WHAT IT READS IS OF BULK AT MOST 1048576: true; the input reads as it did. -/
def wordsTermsUptoRow : OpenClaim := { program := "ytbmdjmnjbflfeaa", sum := "426295b5d4d05526be6d447af18ad14f658760cd62dbf2e2217e30f8174291fe", func := "incipit/incipitlaw14.WordsTerms", spec := "wordsTerms", inPlace := ["internal/abi.NoEscape"], unfollowed := true, recurses := true, apart := false, narrowed := true }
def WordsTermsUptoSaid : Prop := wordsTermsUptoRow.holds Try.pinned (OpenSpec.upto wordsTermsSpec)

end Rows
end Go.Proofs.Ytbmdjmnjbflfeaa
