/- A text is taken. -/
import Derived.Test.YtmonlookmnlgnaaTake
namespace Go.Proofs.Ytmonlookmnlgnaa
open Go.RowKit
set_option linter.unusedVariables false
set_option linter.unusedSimpArgs false

/-- A text is taken: its bytes, what is left, the error. -/
def txtL (most : Int) (l : List Nat) (e : Int) : List Nat × List Nat × Int :=
  if e = 0 then (if most < 0 then ([], l, 1) else if l.length = 0 then ([], l, 10) else if most < (l.getD 0 0 : Nat) then ([], l, 3) else if l.length ≤ l.getD 0 0 then ([], l, 10) else ((l.take (1 + l.getD 0 0)).drop 1, l.drop (1 + l.getD 0 0), 0)) else ([], l, e)

end Go.Proofs.Ytmonlookmnlgnaa
