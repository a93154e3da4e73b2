/- wide: a number behind bytes, the highest byte first; U16, U32, U64. -/
import Derived.Test.YtmonlookmnlgnaaGrown
import Derived.Laws.Shifts
namespace Go.Proofs.Ytmonlookmnlgnaa
open Go.RowKit
set_option linter.unusedVariables false
set_option linter.unusedSimpArgs false

/-- A number in so many bytes, the highest first. -/
def be : Nat → Nat → List Nat
  | 0, _ => []
  | i + 1, v => (v / 256 ^ i % 256) :: be i v
theorem be_length : ∀ (i v : Nat), (be i v).length = i
  | 0, _ => rfl
  | i + 1, v => by simp [be, be_length i v]
theorem be_byt : ∀ (i v : Nat), Byt (be i v)
  | 0, _ => Byt.nil
  | i + 1, v => Byt.cons (Nat.mod_lt _ (by decide)) (be_byt i v)
theorem be_set (l : List Nat) (k i x : Nat) (b : List Nat) (h : i < k) (hb : b.length = i) : (l ++ (List.replicate (k - i) 0 ++ b)).set (l.length + (k - 1 - i)) x = l ++ (List.replicate (k - (i + 1)) 0 ++ (x :: b)) := by
  rw [List.set_append_right _ _ (by omega), Nat.add_sub_cancel_left]
  congr 1
  rw [show k - i = (k - 1 - i) + 1 by omega, List.replicate_succ']
  rw [List.append_assoc, List.set_append_right _ _ (by simp), List.length_replicate, Nat.sub_self]
  rw [show k - (i + 1) = k - 1 - i by omega]
  rfl
theorem run_shr64 (v i : Nat) (hi : i < 8) : (Op.shift .shr .u64 (v : Int) .u64 (8 * (i : Int)) : Sem Value) = pure (.int .u64 ((v / 256 ^ i : Nat) : Int)) := by
  rw [shift_shr_any _ _ _ _ (by omega)]
  have e : min (8 * (i : Int)).toNat IntKind.u64.bits = 8 * i := by
    show min _ 64 = _
    omega
  rw [e]
  have e2 : (256 : Nat) ^ i = 2 ^ (8 * i) := by rw [Nat.pow_mul]
  rw [e2]
  congr 2
theorem wrap_byte (x : Nat) : IntKind.u8.wrap (x : Int) = ((x % 256 : Nat) : Int) := by
  rw [IntKind.wrap_u8]; omega

end Go.Proofs.Ytmonlookmnlgnaa
