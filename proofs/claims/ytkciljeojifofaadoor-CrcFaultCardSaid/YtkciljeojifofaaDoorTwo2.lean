/- The sum of two sums: what Two of the program and of the reference tell; the walk of the law CrcTwo. -/
import Derived.Test.YtkciljeojifofaaDoorTwo
namespace Go.Proofs.YtkciljeojifofaaDoor
open Go.RowKit Crc
set_option linter.unusedVariables false
set_option linter.unusedSimpArgs false

theorem ofInt64 (a : Nat) (ha : a < 18446744073709551616) : (BitVec.ofInt 64 (a : Int)).toNat = a := by
  rw [BitVec.ofInt_natCast, BitVec.toNat_ofNat]; exact Nat.mod_eq_of_lt (by omega)
theorem i64_and1 (a : Nat) (ha : a < 9223372036854775808) : bits .and .i64 (a : Int) 1 = ((a % 2 : Nat) : Int) := by
  have hx : a &&& 1 = a % 2 := Nat.and_two_pow_sub_one_eq_mod a 1
  show IntKind.i64.wrap ((BitVec.ofInt 64 (a : Int) &&& BitVec.ofInt 64 ((1 : Nat) : Int)).toNat : Int) = _
  rw [BitVec.toNat_and, ofInt64 a (by omega), ofInt64 1 (by decide), IntKind.wrap_i64, hx]
  omega
theorem Mat.one {w : World} {g : Nat} (h : Mat w g st8) : Mat w g (itN 1) := h
theorem Mat.two {w : World} {g e : Nat} (h : Mat w g (fun r => itN e (itN e r))) : Mat w g (itN (e + e)) := fun i hi => by rw [h i hi, itN_add]
theorem itN_half (e m r : Nat) (h : m % 2 = 1) : itN ((e + e) * (m / 2)) (itN e r) = itN (e * m) r := by
  rw [← itN_add]
  congr 1
  have : m = 2 * (m / 2) + 1 := by omega
  conv => rhs; rw [this]
  rw [Nat.mul_add, Nat.mul_one, ← Nat.mul_assoc, Nat.mul_two]
theorem itN_half0 (e m r : Nat) (h : ¬ m % 2 = 1) : itN ((e + e) * (m / 2)) r = itN (e * m) r := by
  congr 1
  have : m = 2 * (m / 2) := by omega
  conv => rhs; rw [this]
  rw [← Nat.mul_assoc, Nat.mul_two]

/-- What both tell. -/
def twoN (a b : Nat) (n : Int) : Nat := if n < 0 then a else itN n.toNat a ^^^ b

set_option maxRecDepth 100000 in
set_option maxHeartbeats 1000000 in
theorem Two_any (a b n : Int) (w : World) (h0 : 0 ≤ a) (h1 : a < 4294967296) (h2 : 0 ≤ b) (h3 : b < 4294967296) (hn : n ≤ 9223372036854775807) (hT : Tab w) :
    Calls Tryd.prog 21 #[.int .u32 a, .int .u32 b, .int .i64 n] w fun e w' => e = .returned (.int .u32 (twoN a.toNat b.toNat n : Nat)) ∧ Below w.heap.size w w' := by
  obtain ⟨a, rfl⟩ := Int.eq_ofNat_of_zero_le h0
  obtain ⟨b, rfl⟩ := Int.eq_ofNat_of_zero_le h2
  have HT := Lib.hid hT
  clear hT
  by_cases hneg : n < 0
  · have HV : Hid (twoN a b n = a) := by show _ = _; unfold twoN; rw [if_pos hneg]
    go_enter Tryd.func21, Tryd.ntmps21
    go_wp2
    go_ret
    exact ⟨by simp only [Int.toNat_natCast]; rw [HV.out]; rfl, Below.refl _ _⟩
  · obtain ⟨n, rfl⟩ := Int.eq_ofNat_of_zero_le (show 0 ≤ n by omega)
    have HV : Hid (twoN a b n = itN n a ^^^ b) := by show _ = _; unfold twoN; rw [if_neg hneg]; simp
    go_enter Tryd.func21, Tryd.ntmps21
    go_wp2_with fail
    refine (nought_any w HT.out).mono ?_
    rintro e w1 ⟨g0, rfl, hM0, hb0⟩
    have HM0 := Lib.hid hM0.one
    have HB0 := Lib.hid hb0
    clear hM0 hb0
    go_wp2_with fail
    go_loopw [2, 7, 8] (fun n' r s wr => ∃ m q e g : Nat, n' = .int .i64 m ∧ r = .int .u32 q ∧ s = .pointer (some ⟨g, 0, none⟩) ∧ Mat wr g (itN e) ∧ itN (e * m) q = itN n a ∧ q < 4294967296 ∧ m ≤ n ∧ Below w.heap.size w wr)
      (fun n' _ _ _ => (intOf n').toNat)
    case atStart => exact ⟨n, a, 1, g0, rfl, rfl, rfl, HM0.out, by rw [Nat.one_mul], by omega, Nat.le_refl _, HB0.out⟩
    case round =>
      obtain ⟨m, q, e, g, rfl, rfl, rfl, hM, hit, hq, hmn, hB⟩ := hrel
      have HM := Lib.hid hM
      have HI := Lib.hid hit
      have HQ := Lib.hid hq
      have HB := Lib.hid hB
      clear hM hit hq hB
      by_cases hm : (0 : Int) < (m : Int)
      · have hm' : 0 < m := by omega
        have hb := i64_and1 m (by omega)
        by_cases hodd : m % 2 = 1
        · rw [hodd] at hb
          have HO := Lib.hid hodd
          clear hodd
          go_wp2_with fail
          refine (times_any _ _ _ _ (lin_itN e) (by omega) (by have := HQ.out; omega) HM.out).mono ?_
          rintro e1 w' ⟨rfl, rfl⟩
          simp only [Int.toNat_natCast]
          have HQ2 := Lib.hid ((lin_itN e).lt q HQ.out)
          go_wp2_with fail
          refine (twice_any _ _ _ (lin_itN e) HM.out).mono ?_
          rintro e1 w2 ⟨g2, rfl, hM2, hb2⟩
          have HM2 := Lib.hid hM2.two
          have HB2 := Lib.hid hb2
          clear hM2 hb2
          go_wp2
          go_roundw
          case rel => exact ⟨m / 2, itN e q, e + e, g2, by simp, rfl, rfl, HM2.out, by rw [itN_half e m q HO.out, HI.out], HQ2.out, by omega, Below.then HB.out HB2.out⟩
          case measure => simp [intOf]; omega
        · rw [show m % 2 = 0 by omega] at hb
          have HO := Lib.hid hodd
          clear hodd
          have ht : (((0 : Nat) : Int) == 1) = false := by decide
          go_wp2_with fail
          refine (twice_any _ _ _ (lin_itN e) HM.out).mono ?_
          rintro e1 w2 ⟨g2, rfl, hM2, hb2⟩
          have HM2 := Lib.hid hM2.two
          have HB2 := Lib.hid hb2
          clear hM2 hb2
          go_wp2
          go_roundw
          case rel => exact ⟨m / 2, q, e + e, g2, by simp, rfl, rfl, HM2.out, by rw [itN_half0 e m q HO.out, HI.out], HQ.out, by omega, Below.then HB.out HB2.out⟩
          case measure => simp [intOf]; omega
      · have hm' : ¬ 0 < m := by omega
        have hx := u32_xor q b HQ.out (by omega)
        go_wp2
        go_ret
        refine ⟨?_, HB.out⟩
        have e0 : q = itN n a := by
          have h := HI.out
          rw [show m = 0 by omega, Nat.mul_zero] at h
          exact h
        simp only [Int.toNat_natCast]
        rw [HV.out, ← e0]
        rfl

set_option maxRecDepth 100000 in
set_option maxHeartbeats 1000000 in
theorem refTwo_any (a b n : Int) (w : World) (h0 : 0 ≤ a) (h1 : a < 4294967296) (h2 : 0 ≤ b) (h3 : b < 4294967296) (hn : n ≤ 9223372036854775807) :
    Calls Tryd.prog 22 #[.int .u32 a, .int .u32 b, .int .i64 n] w fun e w' => e = .returned (.int .u32 (twoN a.toNat b.toNat n : Nat)) ∧ w = w' := by
  obtain ⟨a, rfl⟩ := Int.eq_ofNat_of_zero_le h0
  obtain ⟨b, rfl⟩ := Int.eq_ofNat_of_zero_le h2
  by_cases hneg : n < 0
  · have HV : Hid (twoN a b n = a) := by show _ = _; unfold twoN; rw [if_pos hneg]
    go_enter Tryd.func22, Tryd.ntmps22
    go_wp2
    go_ret
    exact ⟨by simp only [Int.toNat_natCast]; rw [HV.out]; rfl, rfl⟩
  · obtain ⟨n, rfl⟩ := Int.eq_ofNat_of_zero_le (show 0 ≤ n by omega)
    have HV : Hid (twoN a b n = itN n a ^^^ b) := by show _ = _; unfold twoN; rw [if_neg hneg]; simp
    go_enter Tryd.func22, Tryd.ntmps22
    go_wp2
    go_loop [0, 7] (fun r i => ∃ k : Nat, k ≤ n ∧ i = .int .i64 k ∧ r = .int .u32 (itN k a : Nat)) (fun _ i => n - (intOf i).toNat)
    case atStart => exact ⟨0, Nat.zero_le _, rfl, rfl⟩
    case round =>
      rename_i hwr; clear hwr
      obtain ⟨k, hk, rfl, rfl⟩ := hrel
      have hql : ((itN k a : Nat) : Int) < 4294967296 := by have := (lin_itN k).lt a (by omega); omega
      by_cases hlt : (k : Int) < (n : Int)
      · have HX : Hid (itN (k + 1) a = goB (itN k a) 0) := by
          show _ = _
          rw [Nat.add_comm, itN_add]
          unfold goB
          rw [Nat.xor_zero]
          rfl
        generalize itN k a = q at *
        go_wp2_with (go_at_call 26; refine (goes_any _ _ w (by omega) (by omega) (by omega) (by omega)).mono ?_; rintro e w' ⟨rfl, rfl⟩; try simp only [Int.toNat_natCast])
        go_round
        case rel => exact ⟨k + 1, by omega, by go_num, by rw [HX.out]; rfl⟩
        case measure => simp [intOf]; omega
      · have hx := u32_xor (itN k a) b (by omega) (by omega)
        have hkn : k = n := by omega
        have HK := Lib.hid hkn
        clear hkn
        go_wp2
        go_ret
        exact ⟨by simp only [Int.toNat_natCast]; rw [HV.out, ← HK.out]; rfl, rfl⟩

set_option maxRecDepth 100000 in
set_option maxHeartbeats 1000000 in
theorem two_any (a b n k : Int) (w : World) (h0 : 0 ≤ a) (h1 : a < 4294967296) (h2 : 0 ≤ b) (h3 : b < 4294967296) (hn0 : 0 ≤ n) (hn : n ≤ 65535) (hk0 : -128 ≤ k) (hk : k ≤ 127) (hT : Tab w) :
    Calls Tryd.prog 7 #[.int .u32 a, .int .u32 b, .int .u16 n, .int .i8 k] w fun e w' => e = .returned (.bool true) ∧ Below w.heap.size w w' := by
  have HT := Lib.hid hT
  clear hT
  by_cases hneg : k < 0
  · go_enter Tryd.func7, Tryd.ntmps7
    go_wp2_with fail
    refine (live_any w HT.out).mono ?_
    rintro e w1 ⟨rfl, hb1⟩
    have HB1 := Lib.hid hb1
    have HT1 := Lib.hid (HT.out.below hb1)
    clear hb1
    go_wp2_with fail
    refine (Two_any _ _ _ _ h0 h1 h2 h3 (by omega) HT1.out).mono ?_
    rintro e w2 ⟨rfl, hb2⟩
    have HB2 := Lib.hid hb2
    clear hb2
    go_wp2_with fail
    refine (refTwo_any _ _ _ _ h0 h1 h2 h3 (by omega)).mono ?_
    rintro e w3 ⟨rfl, rfl⟩
    go_wp2
    go_ret
    exact ⟨rfl, Below.then HB1.out HB2.out⟩
  · go_enter Tryd.func7, Tryd.ntmps7
    go_wp2_with fail
    refine (live_any w HT.out).mono ?_
    rintro e w1 ⟨rfl, hb1⟩
    have HB1 := Lib.hid hb1
    have HT1 := Lib.hid (HT.out.below hb1)
    clear hb1
    go_wp2_with fail
    refine (Two_any _ _ _ _ h0 h1 h2 h3 (by omega) HT1.out).mono ?_
    rintro e w2 ⟨rfl, hb2⟩
    have HB2 := Lib.hid hb2
    clear hb2
    go_wp2_with fail
    refine (refTwo_any _ _ _ _ h0 h1 h2 h3 (by omega)).mono ?_
    rintro e w3 ⟨rfl, rfl⟩
    go_wp2
    go_ret
    exact ⟨rfl, Below.then HB1.out HB2.out⟩
end Go.Proofs.YtkciljeojifofaaDoor
