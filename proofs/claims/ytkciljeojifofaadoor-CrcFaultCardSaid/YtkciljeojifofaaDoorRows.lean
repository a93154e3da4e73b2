/-
  NARROWER THAN 'FOR EVERY INPUT', by the rows' own cells (each row's printed sentence says how): CrcSums: laid · CrcLinear: laid · CrcSeals: laid · CrcFault: laid · CrcTwo: laid · CrcPieces: laid.
  DERIVED. THE GIVEN ROWS OF THIS SEAT. 6 by the template 'for every input the law returns true; each argument reads behind the call as it read before'; 0 by the template 'total and deterministic' (their statements: YtkciljeojifofaaDoorTotals.lean).
  GIVEN WITH THE SEED: the statements are not yours to turn. If you find one false, say at which input.
  Laid BY PROGRAM, IN A SANDBOX (cutbox-rows.mjs): the forced cells as the released guide's own fill.sh prints them over the translation e2448ab091678aec… (all of the seat's roots in one cut). By AI agents, Wed Nov 11 2026. No macro, syntax, notation, axiom, sorry.
-/
import Derived.Test.YtkciljeojifofaaDoorChecked
import GoSem.Claim
import GoSem.ClaimJoined
import GoSem.ClaimMapViews
import Derived.JoinedTies
import Derived.KernelRfl
namespace Go.Proofs.YtkciljeojifofaaDoor
/- THE CELL 'sum', in the pinned program and in every row, IS THE sha256 OF THE DUMP (.gsa) THAT YtkciljeojifofaaDoorProg.lean LOADS. Nothing in Lean hashes anything: it is a label: what it is worth is what the hold of that sum in a sandbox is worth. -/
noncomputable def Tryd.pinned : Pinned := { name := "ytkciljeojifofaadoor", sum := "e2448ab091678aec4449d0f6020105fe93776cfb36fbced044a663436f7cdb17", checked := Tryd.checked }
namespace Rows
def none {H : Type} : Left H := { results := [], args := [] }

/- WHAT THE LISTED PACKAGE-LEVEL VARIABLES READ AS WHEN THE CALL BEGINS. Each datum BY PROGRAM (the guide's laid-datum.mjs) off the statement by which the dump's own 'gosem.cut.vars' lays the variable. In a bare row this is a premise. The card (YtkciljeojifofaaDoorCards.lean) ties it to the program's text. -/
def laid_incipit_crc_table {H : Type} : DataW H := .agg [.lit (.int .u32 0), .lit (.int .u32 274646895), .lit (.int .u32 549293790), .lit (.int .u32 820201905), .lit (.int .u32 1098587580), .lit (.int .u32 1361435347), .lit (.int .u32 1640403810), .lit (.int .u32 1905808397), .lit (.int .u32 2197175160), .lit (.int .u32 2460548119), .lit (.int .u32 2722870694), .lit (.int .u32 2987750089), .lit (.int .u32 3280807620), .lit (.int .u32 3553878443), .lit (.int .u32 3811616794), .lit (.int .u32 4084100981)]

/-- 'incipitlaw02.CrcSums': WHATEVER THE INPUT: true; the input reads as it did. -/
def crcSumsSpec : ChangeSpec := { name := "crcSums", fn := fun _ => fun
  | [d1, d2] => { results := [.lit (.bool true)], args := [d1, d2] }
  | _ => none }
def crcSumsRow : OpenClaim := { program := "ytkciljeojifofaadoor", sum := "e2448ab091678aec4449d0f6020105fe93776cfb36fbced044a663436f7cdb17", func := "incipit/incipitlaw02.CrcSums", spec := "crcSums", named := ["incipit/crc.table"], apart := false, laid := [("incipit/crc.table", laid_incipit_crc_table)] }
def CrcSumsSaid : Prop := crcSumsRow.holds Tryd.pinned (OpenSpec.ofChange crcSumsSpec)

/-- ITS FALSE NEIGHBOUR: 'it returns false'. Refute it at one input. -/
def crcSumsWrong : ChangeSpec := { name := "crcSums", fn := fun _ => fun
  | [d1, d2] => { results := [.lit (.bool false)], args := [d1, d2] }
  | _ => none }
def CrcSumsWrongFalsely : Prop := crcSumsRow.holds Tryd.pinned (OpenSpec.ofChange crcSumsWrong)

/-- 'incipitlaw02.CrcLinear': WHATEVER THE INPUT: true; the input reads as it did. -/
def crcLinearSpec : ChangeSpec := { name := "crcLinear", fn := fun _ => fun
  | [d1, d2] => { results := [.lit (.bool true)], args := [d1, d2] }
  | _ => none }
def crcLinearRow : OpenClaim := { program := "ytkciljeojifofaadoor", sum := "e2448ab091678aec4449d0f6020105fe93776cfb36fbced044a663436f7cdb17", func := "incipit/incipitlaw02.CrcLinear", spec := "crcLinear", named := ["incipit/crc.table"], apart := false, laid := [("incipit/crc.table", laid_incipit_crc_table)] }
def CrcLinearSaid : Prop := crcLinearRow.holds Tryd.pinned (OpenSpec.ofChange crcLinearSpec)

/-- ITS FALSE NEIGHBOUR: 'it returns false'. Refute it at one input. -/
def crcLinearWrong : ChangeSpec := { name := "crcLinear", fn := fun _ => fun
  | [d1, d2] => { results := [.lit (.bool false)], args := [d1, d2] }
  | _ => none }
def CrcLinearWrongFalsely : Prop := crcLinearRow.holds Tryd.pinned (OpenSpec.ofChange crcLinearWrong)

/-- 'incipitlaw02.CrcSeals': WHATEVER THE INPUT: true; the input reads as it did. -/
def crcSealsSpec : ChangeSpec := { name := "crcSeals", fn := fun _ => fun
  | [d] => { results := [.lit (.bool true)], args := [d] }
  | _ => none }
def crcSealsRow : OpenClaim := { program := "ytkciljeojifofaadoor", sum := "e2448ab091678aec4449d0f6020105fe93776cfb36fbced044a663436f7cdb17", func := "incipit/incipitlaw02.CrcSeals", spec := "crcSeals", named := ["incipit/crc.table"], apart := false, laid := [("incipit/crc.table", laid_incipit_crc_table)] }
def CrcSealsSaid : Prop := crcSealsRow.holds Tryd.pinned (OpenSpec.ofChange crcSealsSpec)

/-- ITS FALSE NEIGHBOUR: 'it returns false'. Refute it at one input. -/
def crcSealsWrong : ChangeSpec := { name := "crcSeals", fn := fun _ => fun
  | [d] => { results := [.lit (.bool false)], args := [d] }
  | _ => none }
def CrcSealsWrongFalsely : Prop := crcSealsRow.holds Tryd.pinned (OpenSpec.ofChange crcSealsWrong)

/-- 'incipitlaw02.CrcFault': WHATEVER THE INPUT: true; the input reads as it did. -/
def crcFaultSpec : ChangeSpec := { name := "crcFault", fn := fun _ => fun
  | [d1, d2, d3] => { results := [.lit (.bool true)], args := [d1, d2, d3] }
  | _ => none }
def crcFaultRow : OpenClaim := { program := "ytkciljeojifofaadoor", sum := "e2448ab091678aec4449d0f6020105fe93776cfb36fbced044a663436f7cdb17", func := "incipit/incipitlaw02.CrcFault", spec := "crcFault", named := ["incipit/crc.table"], apart := false, laid := [("incipit/crc.table", laid_incipit_crc_table)] }
def CrcFaultSaid : Prop := crcFaultRow.holds Tryd.pinned (OpenSpec.ofChange crcFaultSpec)

/-- ITS FALSE NEIGHBOUR: 'it returns false'. Refute it at one input. -/
def crcFaultWrong : ChangeSpec := { name := "crcFault", fn := fun _ => fun
  | [d1, d2, d3] => { results := [.lit (.bool false)], args := [d1, d2, d3] }
  | _ => none }
def CrcFaultWrongFalsely : Prop := crcFaultRow.holds Tryd.pinned (OpenSpec.ofChange crcFaultWrong)

/-- 'incipitlaw02.CrcTwo': WHATEVER THE INPUT: true; the input reads as it did. -/
def crcTwoSpec : ChangeSpec := { name := "crcTwo", fn := fun _ => fun
  | [d1, d2, d3, d4] => { results := [.lit (.bool true)], args := [d1, d2, d3, d4] }
  | _ => none }
def crcTwoRow : OpenClaim := { program := "ytkciljeojifofaadoor", sum := "e2448ab091678aec4449d0f6020105fe93776cfb36fbced044a663436f7cdb17", func := "incipit/incipitlaw02.CrcTwo", spec := "crcTwo", named := ["incipit/crc.table"], apart := false, laid := [("incipit/crc.table", laid_incipit_crc_table)] }
def CrcTwoSaid : Prop := crcTwoRow.holds Tryd.pinned (OpenSpec.ofChange crcTwoSpec)

/-- ITS FALSE NEIGHBOUR: 'it returns false'. Refute it at one input. -/
def crcTwoWrong : ChangeSpec := { name := "crcTwo", fn := fun _ => fun
  | [d1, d2, d3, d4] => { results := [.lit (.bool false)], args := [d1, d2, d3, d4] }
  | _ => none }
def CrcTwoWrongFalsely : Prop := crcTwoRow.holds Tryd.pinned (OpenSpec.ofChange crcTwoWrong)

/-- 'incipitlaw02.CrcPieces': WHATEVER THE INPUT: true; the input reads as it did. -/
def crcPiecesSpec : ChangeSpec := { name := "crcPieces", fn := fun _ => fun
  | [d1, d2, d3] => { results := [.lit (.bool true)], args := [d1, d2, d3] }
  | _ => none }
def crcPiecesRow : OpenClaim := { program := "ytkciljeojifofaadoor", sum := "e2448ab091678aec4449d0f6020105fe93776cfb36fbced044a663436f7cdb17", func := "incipit/incipitlaw02.CrcPieces", spec := "crcPieces", named := ["incipit/crc.table"], apart := false, laid := [("incipit/crc.table", laid_incipit_crc_table)] }
def CrcPiecesSaid : Prop := crcPiecesRow.holds Tryd.pinned (OpenSpec.ofChange crcPiecesSpec)

/-- ITS FALSE NEIGHBOUR: 'it returns false'. Refute it at one input. -/
def crcPiecesWrong : ChangeSpec := { name := "crcPieces", fn := fun _ => fun
  | [d1, d2, d3] => { results := [.lit (.bool false)], args := [d1, d2, d3] }
  | _ => none }
def CrcPiecesWrongFalsely : Prop := crcPiecesRow.holds Tryd.pinned (OpenSpec.ofChange crcPiecesWrong)

/- THE SECOND FORM. 'bulk': how many values and letters a reading holds, each counted each time it is reached (what is shared counts as often as it is met; a slice's spare places count too). A statement '..UptoSaid' is the law's where the arguments, and the package variables that the reading takes, are together of bulk at most 1048576: NARROWER than '..Said'. Prove '..Said' where nothing that the law and all that it calls make is longer than what came in: it says more and counts as full. Else prove '..UptoSaid'. A law counts once. -/
mutual
def uptoBulk {H : Type} : DataW H → Nat
  | .lit (.string bytes) => bytes.length + 1
  | .lit _ => 1
  | .nil => 1
  | .ptr d => uptoBulk d + 1
  | .slice elems spare => uptoBulkAll elems + uptoBulkAll spare + 1
  | .agg parts => uptoBulkAll parts + 1
  | .iface _ d => uptoBulk d + 1
  | .map entries => uptoBulkEntries entries + 1
  | .held _ => 1
def uptoBulkAll {H : Type} : List (DataW H) → Nat
  | [] => 0
  | d :: r => uptoBulk d + uptoBulkAll r
def uptoBulkEntries {H : Type} : List (Lit × DataW H) → Nat
  | [] => 0
  | x :: r => uptoBulkEntry x + uptoBulkEntries r
def uptoBulkEntry {H : Type} : Lit × DataW H → Nat
  | (.string bytes, d) => bytes.length + uptoBulk d + 1
  | (_, d) => uptoBulk d + 1
 end
def uptoSmall : (H : Type) → List (DataW H) → Bool := fun _ ds => decide (uptoBulkAll ds ≤ 1048576)
def OpenSpec.upto (s : _root_.Go.ChangeSpec) : _root_.Go.OpenSpec := { _root_.Go.OpenSpec.ofChange s with cond := some uptoSmall }

/-- 'incipitlaw02.CrcSums', WHERE WHAT IT READS IS OF BULK AT MOST 1048576: true; the input reads as it did. -/
def crcSumsUptoRow : OpenClaim := { program := "ytkciljeojifofaadoor", sum := "e2448ab091678aec4449d0f6020105fe93776cfb36fbced044a663436f7cdb17", func := "incipit/incipitlaw02.CrcSums", spec := "crcSums", named := ["incipit/crc.table"], apart := false, laid := [("incipit/crc.table", laid_incipit_crc_table)], narrowed := true }
def CrcSumsUptoSaid : Prop := crcSumsUptoRow.holds Tryd.pinned (OpenSpec.upto crcSumsSpec)

/-- 'incipitlaw02.CrcLinear', WHERE WHAT IT READS IS OF BULK AT MOST 1048576: true; the input reads as it did. -/
def crcLinearUptoRow : OpenClaim := { program := "ytkciljeojifofaadoor", sum := "e2448ab091678aec4449d0f6020105fe93776cfb36fbced044a663436f7cdb17", func := "incipit/incipitlaw02.CrcLinear", spec := "crcLinear", named := ["incipit/crc.table"], apart := false, laid := [("incipit/crc.table", laid_incipit_crc_table)], narrowed := true }
def CrcLinearUptoSaid : Prop := crcLinearUptoRow.holds Tryd.pinned (OpenSpec.upto crcLinearSpec)

/-- 'incipitlaw02.CrcSeals', WHERE WHAT IT READS IS OF BULK AT MOST 1048576: true; the input reads as it did. -/
def crcSealsUptoRow : OpenClaim := { program := "ytkciljeojifofaadoor", sum := "e2448ab091678aec4449d0f6020105fe93776cfb36fbced044a663436f7cdb17", func := "incipit/incipitlaw02.CrcSeals", spec := "crcSeals", named := ["incipit/crc.table"], apart := false, laid := [("incipit/crc.table", laid_incipit_crc_table)], narrowed := true }
def CrcSealsUptoSaid : Prop := crcSealsUptoRow.holds Tryd.pinned (OpenSpec.upto crcSealsSpec)

/-- 'incipitlaw02.CrcFault', WHERE WHAT IT READS IS OF BULK AT MOST 1048576: true; the input reads as it did. -/
def crcFaultUptoRow : OpenClaim := { program := "ytkciljeojifofaadoor", sum := "e2448ab091678aec4449d0f6020105fe93776cfb36fbced044a663436f7cdb17", func := "incipit/incipitlaw02.CrcFault", spec := "crcFault", named := ["incipit/crc.table"], apart := false, laid := [("incipit/crc.table", laid_incipit_crc_table)], narrowed := true }
def CrcFaultUptoSaid : Prop := crcFaultUptoRow.holds Tryd.pinned (OpenSpec.upto crcFaultSpec)

/-- 'incipitlaw02.CrcTwo', WHERE WHAT IT READS IS OF BULK AT MOST 1048576: true; the input reads as it did. -/
def crcTwoUptoRow : OpenClaim := { program := "ytkciljeojifofaadoor", sum := "e2448ab091678aec4449d0f6020105fe93776cfb36fbced044a663436f7cdb17", func := "incipit/incipitlaw02.CrcTwo", spec := "crcTwo", named := ["incipit/crc.table"], apart := false, laid := [("incipit/crc.table", laid_incipit_crc_table)], narrowed := true }
def CrcTwoUptoSaid : Prop := crcTwoUptoRow.holds Tryd.pinned (OpenSpec.upto crcTwoSpec)

/-- 'incipitlaw02.CrcPieces', WHERE WHAT IT READS IS OF BULK AT MOST 1048576: true; the input reads as it did. -/
def crcPiecesUptoRow : OpenClaim := { program := "ytkciljeojifofaadoor", sum := "e2448ab091678aec4449d0f6020105fe93776cfb36fbced044a663436f7cdb17", func := "incipit/incipitlaw02.CrcPieces", spec := "crcPieces", named := ["incipit/crc.table"], apart := false, laid := [("incipit/crc.table", laid_incipit_crc_table)], narrowed := true }
def CrcPiecesUptoSaid : Prop := crcPiecesUptoRow.holds Tryd.pinned (OpenSpec.upto crcPiecesSpec)

end Rows
end Go.Proofs.YtkciljeojifofaaDoor
