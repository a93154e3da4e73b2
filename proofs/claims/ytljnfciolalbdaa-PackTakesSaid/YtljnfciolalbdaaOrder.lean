/- The law PackOrder. -/
import Derived.Test.YtljnfciolalbdaaLive
namespace Go.Proofs.Ytljnfciolalbdaa
open Go.RowKit
set_option linter.unusedVariables false
set_option linter.unusedSimpArgs false

theorem wrap16 (a : Nat) : IntKind.u16.wrap (a : Int) = ((a % 65536 : Nat) : Int) := by
  simp [IntKind.wrap, IntKind.bits, IntKind.signed]
def ordL (x y : Nat) : Int := if x < y then -1 else if y < x then 1 else 0
theorem be_cmp : ∀ (k a b : Nat), cmpL (be k a) (be k b) = ordL (a % 256 ^ k) (b % 256 ^ k)
  | 0, a, b => by simp [be, cmpL, ordL, Nat.mod_one]
  | k + 1, a, b => by
    have h := be_cmp k a b
    have e : ∀ v : Nat, v % 256 ^ (k + 1) = v / 256 ^ k % 256 * 256 ^ k + v % 256 ^ k := fun v => by
      rw [Nat.pow_succ, Nat.mod_mul, Nat.add_comm, Nat.mul_comm]
    have hp : 0 < 256 ^ k := Nat.pow_pos (by decide)
    have la := Nat.mod_lt a hp
    have lb := Nat.mod_lt b hp
    rw [e a, e b]
    unfold be cmpL
    generalize a / 256 ^ k % 256 = x at *
    generalize b / 256 ^ k % 256 = y at *
    rw [h]
    generalize a % 256 ^ k = p at *
    generalize b % 256 ^ k = q at *
    generalize 256 ^ k = m at *
    by_cases hxy : x = y
    · rw [if_pos hxy, hxy]
      unfold ordL
      have h1 : y * m + p < y * m + q ↔ p < q := by omega
      have h2 : y * m + q < y * m + p ↔ q < p := by omega
      simp only [h1, h2]
    · rw [if_neg hxy]
      unfold ordL
      by_cases hlt : x < y
      · have h1 : (x + 1) * m ≤ y * m := Nat.mul_le_mul_right m hlt
        rw [Nat.add_mul] at h1
        rw [if_pos hlt, if_pos (by omega)]
      · have h1 : (y + 1) * m ≤ x * m := Nat.mul_le_mul_right m (by omega)
        rw [Nat.add_mul] at h1
        rw [if_neg hlt, if_neg (by omega), if_pos (by omega)]
set_option maxRecDepth 100000 in
theorem order_any (x y : Nat) (w : World) : Calls Try.prog 10 #[.int .u64 x, .int .u64 y] w fun e w' => e = .returned (.int .i64 (ordL x y)) ∧ w = w' := by
  rcases Nat.lt_trichotomy x y with h | h | h
  · have hv : ordL x y = -1 := if_pos h
    rw [hv]
    have g1 : (x : Int) < (y : Int) := by omega
    clear hv h
    go_enter Try.func10, Try.ntmps10
    go_wp2
    go_ret
    exact ⟨rfl, rfl⟩
  · have hv : ordL x y = 0 := by unfold ordL; rw [if_neg (by omega), if_neg (by omega)]
    rw [hv]
    have g1 : ¬ (x : Int) < (y : Int) := by omega
    have g2 : ¬ (y : Int) < (x : Int) := by omega
    clear hv h
    go_enter Try.func10, Try.ntmps10
    go_wp2
    go_ret
    exact ⟨rfl, rfl⟩
  · have hv : ordL x y = 1 := by unfold ordL; rw [if_neg (by omega), if_pos h]
    rw [hv]
    have g1 : ¬ (x : Int) < (y : Int) := by omega
    have g2 : (y : Int) < (x : Int) := by omega
    clear hv h
    go_enter Try.func10, Try.ntmps10
    go_wp2
    go_ret
    exact ⟨rfl, rfl⟩

set_option maxRecDepth 100000 in
set_option maxHeartbeats 2000000 in
theorem order_law (a b : Nat) (w : World) (ha : a < 18446744073709551616) (hb : b < 18446744073709551616) :
    Calls Try.prog 3 #[.int .u64 a, .int .u64 b] w fun e w' => e = .returned (.bool true) ∧ Below w.heap.size w w' := by
  have HA : Hid (a < 18446744073709551616) := ha
  have HBd : Hid (b < 18446744073709551616) := hb
  clear ha hb
  go_enter Try.func3, Try.ntmps3
  go_wp2_with fail
  refine (live_any _).mono ?_
  rintro e w1 ⟨rfl, hb⟩
  have HB := Lib.hid hb
  clear hb
  go_wp2_with fail
  refine (U64_bs a _ (BS.nil _) (by have := HA.out; omega) (by decide)).mono ?_
  rintro e w2 ⟨r, rfl, h1, hb⟩
  have H1 := Lib.hid h1
  have HB2 := Lib.hid (Below.thn HB.out hb)
  clear hb HB h1
  go_wp2_with fail
  refine (U64_bs b _ (BS.nil _) (by have := HBd.out; omega) (by decide)).mono ?_
  rintro e w3 ⟨r', rfl, h2, hb⟩
  have H1' := Lib.hid (H1.out.bs.below hb)
  have H2 := Lib.hid h2.bs
  have HB3 := Lib.hid (Below.thn HB2.out hb)
  clear hb HB2 h2 H1
  go_wp2_with fail
  refine (Compare_bs _ H1'.out H2.out).mono ?_
  rintro e w4 ⟨rfl, hb⟩
  have HB := Lib.hid (Below.thn HB3.out hb)
  clear hb HB3 H1' H2
  rw [List.nil_append, List.nil_append, be_cmp, show 256 ^ 8 = 18446744073709551616 from by decide, Nat.mod_eq_of_lt HA.out, Nat.mod_eq_of_lt HBd.out]
  go_wp2_with fail
  refine (order_any a b _).mono ?_
  rintro e w5 ⟨rfl, rfl⟩
  go_wp2_with fail
  rw [show (a : Int) % 4294967296 = ((a % 4294967296 : Nat) : Int) by omega]
  refine (U32_bs (a % 4294967296) _ (BS.nil _) (by have := HA.out; omega) (by decide)).mono ?_
  rintro e w2 ⟨r, rfl, h1, hb⟩
  have H1 := Lib.hid h1
  have HB2 := Lib.hid (Below.thn HB.out hb)
  clear hb HB h1
  go_wp2_with fail
  rw [show (b : Int) % 4294967296 = ((b % 4294967296 : Nat) : Int) by omega]
  refine (U32_bs (b % 4294967296) _ (BS.nil _) (by have := HBd.out; omega) (by decide)).mono ?_
  rintro e w3 ⟨r', rfl, h2, hb⟩
  have H1' := Lib.hid (H1.out.bs.below hb)
  have H2 := Lib.hid h2.bs
  have HB3 := Lib.hid (Below.thn HB2.out hb)
  clear hb HB2 h2 H1
  go_wp2_with fail
  refine (Compare_bs _ H1'.out H2.out).mono ?_
  rintro e w4 ⟨rfl, hb⟩
  have HB := Lib.hid (Below.thn HB3.out hb)
  clear hb HB3 H1' H2
  rw [List.nil_append, List.nil_append, be_cmp, show 256 ^ 4 = 4294967296 from by decide, Nat.mod_mod, Nat.mod_mod]
  go_wp2_with fail
  rw [show (a : Int) % 4294967296 = ((a % 4294967296 : Nat) : Int) by omega]
  rw [show (b : Int) % 4294967296 = ((b % 4294967296 : Nat) : Int) by omega]
  refine (order_any (a % 4294967296) (b % 4294967296) _).mono ?_
  rintro e w5 ⟨rfl, rfl⟩
  go_wp2_with fail
  rw [wrap16 a]
  refine (U16_bs (a % 65536) _ (BS.nil _) (by have := HA.out; omega) (by decide)).mono ?_
  rintro e w2 ⟨r, rfl, h1, hb⟩
  have H1 := Lib.hid h1
  have HB2 := Lib.hid (Below.thn HB.out hb)
  clear hb HB h1
  go_wp2_with fail
  rw [wrap16 b]
  refine (U16_bs (b % 65536) _ (BS.nil _) (by have := HBd.out; omega) (by decide)).mono ?_
  rintro e w3 ⟨r', rfl, h2, hb⟩
  have H1' := Lib.hid (H1.out.bs.below hb)
  have H2 := Lib.hid h2.bs
  have HB3 := Lib.hid (Below.thn HB2.out hb)
  clear hb HB2 h2 H1
  go_wp2_with fail
  refine (Compare_bs _ H1'.out H2.out).mono ?_
  rintro e w4 ⟨rfl, hb⟩
  have HB := Lib.hid (Below.thn HB3.out hb)
  clear hb HB3 H1' H2
  rw [List.nil_append, List.nil_append, be_cmp, show 256 ^ 2 = 65536 from by decide, Nat.mod_mod, Nat.mod_mod]
  go_wp2_with fail
  rw [show (a : Int) % 65536 = ((a % 65536 : Nat) : Int) by omega]
  rw [show (b : Int) % 65536 = ((b % 65536 : Nat) : Int) by omega]
  refine (order_any (a % 65536) (b % 65536) _).mono ?_
  rintro e w5 ⟨rfl, rfl⟩
  go_wp2
  go_ret
  exact ⟨rfl, HB.out⟩
end Go.Proofs.Ytljnfciolalbdaa
