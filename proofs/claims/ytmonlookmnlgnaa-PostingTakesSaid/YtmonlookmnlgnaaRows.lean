/-
  No cell of these rows narrows 'for every input' (looked for: loops, veiled, ifaces, maps, wideKeys, modest, calm, conditions, laid).
  DERIVED. THE GIVEN ROWS OF THIS SEAT. 5 by the template 'for every input the law returns true; each argument reads behind the call as it read before'; 0 by the template 'total and deterministic' (their statements: YtmonlookmnlgnaaTotals.lean).
  GIVEN WITH THE SEED: the statements are not yours to turn. If you find one false, say at which input.
  Laid BY PROGRAM, IN A SANDBOX (cutbox-rows.mjs): the forced cells as the released guide's own fill.sh prints them over the translation dd69210e6e5d8583… (all of the seat's roots in one cut). By AI agents, Wed Nov 11 2026. No macro, syntax, notation, axiom, sorry.
-/
import Derived.Test.YtmonlookmnlgnaaChecked
import GoSem.Claim
import GoSem.ClaimJoined
import GoSem.ClaimMapViews
import Derived.JoinedTies
import Derived.KernelRfl
namespace Go.Proofs.Ytmonlookmnlgnaa
/- THE CELL 'sum', in the pinned program and in every row, IS THE sha256 OF THE DUMP (.gsa) THAT YtmonlookmnlgnaaProg.lean LOADS. Nothing in Lean hashes anything: it is a label: what it is worth is what the hold of that sum in a sandbox is worth. -/
noncomputable def Try.pinned : Pinned := { name := "ytmonlookmnlgnaa", sum := "dd69210e6e5d8583d94262652ad43f43018597504fe404e232582fdef54fa368", checked := Try.checked }
namespace Rows
def none {H : Type} : Left H := { results := [], args := [] }

/-- 'incipitlaw15.PostingOn': WHATEVER THE INPUT: true; the input reads as it did. -/
def postingOnSpec : ChangeSpec := { name := "postingOn", fn := fun _ => fun
  | [d1, d2] => { results := [.lit (.bool true)], args := [d1, d2] }
  | _ => none }
def postingOnRow : OpenClaim := { program := "ytmonlookmnlgnaa", sum := "dd69210e6e5d8583d94262652ad43f43018597504fe404e232582fdef54fa368", func := "incipit/incipitlaw15.PostingOn", spec := "postingOn", unfollowed := true, recurses := true, apart := false }
def PostingOnSaid : Prop := postingOnRow.holds Try.pinned (OpenSpec.ofChange postingOnSpec)

/-- ITS FALSE NEIGHBOUR: 'it returns false'. Refute it at one input. -/
def postingOnWrong : ChangeSpec := { name := "postingOn", fn := fun _ => fun
  | [d1, d2] => { results := [.lit (.bool false)], args := [d1, d2] }
  | _ => none }
def PostingOnWrongFalsely : Prop := postingOnRow.holds Try.pinned (OpenSpec.ofChange postingOnWrong)

/-- 'incipitlaw15.PostingBack': WHATEVER THE INPUT: true; the input reads as it did. -/
def postingBackSpec : ChangeSpec := { name := "postingBack", fn := fun _ => fun
  | [d1, d2] => { results := [.lit (.bool true)], args := [d1, d2] }
  | _ => none }
def postingBackRow : OpenClaim := { program := "ytmonlookmnlgnaa", sum := "dd69210e6e5d8583d94262652ad43f43018597504fe404e232582fdef54fa368", func := "incipit/incipitlaw15.PostingBack", spec := "postingBack", unfollowed := true, recurses := true, apart := false }
def PostingBackSaid : Prop := postingBackRow.holds Try.pinned (OpenSpec.ofChange postingBackSpec)

/-- ITS FALSE NEIGHBOUR: 'it returns false'. Refute it at one input. -/
def postingBackWrong : ChangeSpec := { name := "postingBack", fn := fun _ => fun
  | [d1, d2] => { results := [.lit (.bool false)], args := [d1, d2] }
  | _ => none }
def PostingBackWrongFalsely : Prop := postingBackRow.holds Try.pinned (OpenSpec.ofChange postingBackWrong)

/-- 'incipitlaw15.PostingRises': WHATEVER THE INPUT: true; the input reads as it did. -/
def postingRisesSpec : ChangeSpec := { name := "postingRises", fn := fun _ => fun
  | [d] => { results := [.lit (.bool true)], args := [d] }
  | _ => none }
def postingRisesRow : OpenClaim := { program := "ytmonlookmnlgnaa", sum := "dd69210e6e5d8583d94262652ad43f43018597504fe404e232582fdef54fa368", func := "incipit/incipitlaw15.PostingRises", spec := "postingRises", unfollowed := true, recurses := true, apart := false }
def PostingRisesSaid : Prop := postingRisesRow.holds Try.pinned (OpenSpec.ofChange postingRisesSpec)

/-- ITS FALSE NEIGHBOUR: 'it returns false'. Refute it at one input. -/
def postingRisesWrong : ChangeSpec := { name := "postingRises", fn := fun _ => fun
  | [d] => { results := [.lit (.bool false)], args := [d] }
  | _ => none }
def PostingRisesWrongFalsely : Prop := postingRisesRow.holds Try.pinned (OpenSpec.ofChange postingRisesWrong)

/-- 'incipitlaw15.PostingPuts': WHATEVER THE INPUT: true; the input reads as it did. -/
def postingPutsSpec : ChangeSpec := { name := "postingPuts", fn := fun _ => fun
  | [d1, d2, d3] => { results := [.lit (.bool true)], args := [d1, d2, d3] }
  | _ => none }
def postingPutsRow : OpenClaim := { program := "ytmonlookmnlgnaa", sum := "dd69210e6e5d8583d94262652ad43f43018597504fe404e232582fdef54fa368", func := "incipit/incipitlaw15.PostingPuts", spec := "postingPuts", unfollowed := true, recurses := true, apart := false }
def PostingPutsSaid : Prop := postingPutsRow.holds Try.pinned (OpenSpec.ofChange postingPutsSpec)

/-- ITS FALSE NEIGHBOUR: 'it returns false'. Refute it at one input. -/
def postingPutsWrong : ChangeSpec := { name := "postingPuts", fn := fun _ => fun
  | [d1, d2, d3] => { results := [.lit (.bool false)], args := [d1, d2, d3] }
  | _ => none }
def PostingPutsWrongFalsely : Prop := postingPutsRow.holds Try.pinned (OpenSpec.ofChange postingPutsWrong)

/-- 'incipitlaw15.PostingTakes': WHATEVER THE INPUT: true; the input reads as it did. -/
def postingTakesSpec : ChangeSpec := { name := "postingTakes", fn := fun _ => fun
  | [d1, d2, d3] => { results := [.lit (.bool true)], args := [d1, d2, d3] }
  | _ => none }
def postingTakesRow : OpenClaim := { program := "ytmonlookmnlgnaa", sum := "dd69210e6e5d8583d94262652ad43f43018597504fe404e232582fdef54fa368", func := "incipit/incipitlaw15.PostingTakes", spec := "postingTakes", unfollowed := true, recurses := true, apart := false }
def PostingTakesSaid : Prop := postingTakesRow.holds Try.pinned (OpenSpec.ofChange postingTakesSpec)

/-- ITS FALSE NEIGHBOUR: 'it returns false'. Refute it at one input. -/
def postingTakesWrong : ChangeSpec := { name := "postingTakes", fn := fun _ => fun
  | [d1, d2, d3] => { results := [.lit (.bool false)], args := [d1, d2, d3] }
  | _ => none }
def PostingTakesWrongFalsely : Prop := postingTakesRow.holds Try.pinned (OpenSpec.ofChange postingTakesWrong)

/- THE SECOND FORM. 'bulk': how many values and letters a reading holds, each counted each time it is reached (what is shared counts as often as it is met; a slice's spare places count too). A statement '..UptoSaid' is the law's where the arguments, and the package variables that the reading takes, are together of bulk at most 1048576: NARROWER than '..Said'. Prove '..Said' where nothing that the law and all that it calls make is longer than what came in: it says more and counts as full. Else prove '..UptoSaid'. A law counts once. -/
mutual
def uptoBulk {H : Type} : DataW H → Nat
  | .lit (.string bytes) => bytes.length + 1
  | .lit _ => 1
  | .nil => 1
  | .ptr d => uptoBulk d + 1
  | .slice elems spare => uptoBulkAll elems + uptoBulkAll spare + 1
  | .agg parts => uptoBulkAll parts + 1
  | .iface _ d => uptoBulk d + 1
  | .map entries => uptoBulkEntries entries + 1
  | .held _ => 1
def uptoBulkAll {H : Type} : List (DataW H) → Nat
  | [] => 0
  | d :: r => uptoBulk d + uptoBulkAll r
def uptoBulkEntries {H : Type} : List (Lit × DataW H) → Nat
  | [] => 0
  | x :: r => uptoBulkEntry x + uptoBulkEntries r
def uptoBulkEntry {H : Type} : Lit × DataW H → Nat
  | (.string bytes, d) => bytes.length + uptoBulk d + 1
  | (_, d) => uptoBulk d + 1
 end
def uptoSmall : (H : Type) → List (DataW H) → Bool := fun _ ds => decide (uptoBulkAll ds ≤ 1048576)
def OpenSpec.upto (s : _root_.Go.ChangeSpec) : _root_.Go.OpenSpec := { _root_.Go.OpenSpec.ofChange s with cond := some uptoSmall }

/-- 'incipitlaw15.PostingOn', WHERE WHAT IT READS IS OF BULK AT MOST 1048576: true; the input reads as it did. -/
def postingOnUptoRow : OpenClaim := { program := "ytmonlookmnlgnaa", sum := "dd69210e6e5d8583d94262652ad43f43018597504fe404e232582fdef54fa368", func := "incipit/incipitlaw15.PostingOn", spec := "postingOn", unfollowed := true, recurses := true, apart := false, narrowed := true }
def PostingOnUptoSaid : Prop := postingOnUptoRow.holds Try.pinned (OpenSpec.upto postingOnSpec)

/-- 'incipitlaw15.PostingBack', WHERE WHAT IT READS IS OF BULK AT MOST 1048576: true; the input reads as it did. -/
def postingBackUptoRow : OpenClaim := { program := "ytmonlookmnlgnaa", sum := "dd69210e6e5d8583d94262652ad43f43018597504fe404e232582fdef54fa368", func := "incipit/incipitlaw15.PostingBack", spec := "postingBack", unfollowed := true, recurses := true, apart := false, narrowed := true }
def PostingBackUptoSaid : Prop := postingBackUptoRow.holds Try.pinned (OpenSpec.upto postingBackSpec)

/-- 'incipitlaw15.PostingRises', WHERE WHAT IT READS IS OF BULK AT MOST 1048576: true; the input reads as it did. -/
def postingRisesUptoRow : OpenClaim := { program := "ytmonlookmnlgnaa", sum := "dd69210e6e5d8583d94262652ad43f43018597504fe404e232582fdef54fa368", func := "incipit/incipitlaw15.PostingRises", spec := "postingRises", unfollowed := true, recurses := true, apart := false, narrowed := true }
def PostingRisesUptoSaid : Prop := postingRisesUptoRow.holds Try.pinned (OpenSpec.upto postingRisesSpec)

/-- 'incipitlaw15.PostingPuts', WHERE WHAT IT READS IS OF BULK AT MOST 1048576: true; the input reads as it did. -/
def postingPutsUptoRow : OpenClaim := { program := "ytmonlookmnlgnaa", sum := "dd69210e6e5d8583d94262652ad43f43018597504fe404e232582fdef54fa368", func := "incipit/incipitlaw15.PostingPuts", spec := "postingPuts", unfollowed := true, recurses := true, apart := false, narrowed := true }
def PostingPutsUptoSaid : Prop := postingPutsUptoRow.holds Try.pinned (OpenSpec.upto postingPutsSpec)

/-- 'incipitlaw15.PostingTakes', WHERE WHAT IT READS IS OF BULK AT MOST 1048576: true; the input reads as it did. -/
def postingTakesUptoRow : OpenClaim := { program := "ytmonlookmnlgnaa", sum := "dd69210e6e5d8583d94262652ad43f43018597504fe404e232582fdef54fa368", func := "incipit/incipitlaw15.PostingTakes", spec := "postingTakes", unfollowed := true, recurses := true, apart := false, narrowed := true }
def PostingTakesUptoSaid : Prop := postingTakesUptoRow.holds Try.pinned (OpenSpec.upto postingTakesSpec)

end Rows
end Go.Proofs.Ytmonlookmnlgnaa
