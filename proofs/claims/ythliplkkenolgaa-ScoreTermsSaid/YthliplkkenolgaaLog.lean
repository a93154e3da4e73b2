/- What Log of the program and of the reference tell. -/
import Derived.Test.YthliplkkenolgaaMath
import Derived.Test.YthliplkkenolgaaLen
import Derived.Lib.Hide
import Derived.IntWalk
import Derived.Laws.Shifts
namespace Go.Proofs.Ythliplkkenolgaa
open Go.RowKit
set_option linter.unusedVariables false
set_option linter.unusedSimpArgs false

noncomputable def logX (a b : Int) : Int := if 1 ≤ b ∧ b ≤ a ∧ a ≤ 2147483647 then (logN a.toNat b.toNat : Nat) else 0
def logE (a b : Int) : Int := if 1 ≤ b ∧ b ≤ a ∧ a ≤ 2147483647 then 0 else 220
theorem log_no {a b : Int} (h : ¬ (1 ≤ b ∧ b ≤ a ∧ a ≤ 2147483647)) : logX a b = 0 ∧ logE a b = 220 := ⟨if_neg h, if_neg h⟩
theorem log_yes {a b : Nat} (h : 1 ≤ b ∧ b ≤ a ∧ a < 2147483648) : logX a b = (logN a b : Nat) ∧ logE a b = 0 := by
  have h' : 1 ≤ (b : Int) ∧ (b : Int) ≤ a ∧ (a : Int) ≤ 2147483647 := by omega
  exact ⟨if_pos h', if_pos h'⟩

theorem i64_or1 (o : Nat) (h : o < 8192) : bits .or .i64 ((o : Int) * 2) 1 = ((2 * o + 1 : Nat) : Int) := by
  show IntKind.i64.wrap ((BitVec.ofInt 64 ((o : Int) * 2) ||| BitVec.ofInt 64 1).toNat : Int) = _
  have e : (o : Int) * 2 = ((2 * o : Nat) : Int) := by omega
  rw [e, BitVec.toNat_or, BitVec.ofInt_natCast, BitVec.toNat_ofNat]
  have e1 : (BitVec.ofInt 64 1).toNat = 1 := by decide
  rw [e1, Nat.mod_eq_of_lt (by omega), ← Nat.two_pow_add_eq_or_of_lt (i := 1) (by decide) o]
  rw [IntWalk.i64_in _ (by omega)]
theorem itL_facts {a b : Nat} (hb : 0 < b) (h : b ≤ a) (ha : a < 2147483648) (j : Nat) (hj : j ≤ 8) :
    1073741824 ≤ (itL j (mant a b, whole a b)).1 ∧ (itL j (mant a b, whole a b)).1 < 2147483648 ∧ (itL j (mant a b, whole a b)).2 < 8192 := by
  have h1 := itL_bounds (s := (mant a b, whole a b)) (mant_bounds hb h) j
  obtain ⟨_, h2, h3⟩ := itL_out (mant a b) (whole a b) j
  have hw := whole_lt hb h ha
  have hp : 2 ^ j ≤ 2 ^ 8 := Nat.pow_le_pow_right (by decide) hj
  have hm : 2 ^ j * whole a b ≤ 256 * 30 := Nat.mul_le_mul hp hw
  exact ⟨h1.1, h1.2, by omega⟩

set_option maxRecDepth 100000 in
set_option maxHeartbeats 1000000 in
theorem Log_any (a b : Int) (w : World) (ha : -9223372036854775808 ≤ a ∧ a ≤ 9223372036854775807) (hb : -9223372036854775808 ≤ b ∧ b ≤ 9223372036854775807) :
    Calls Try.prog 8 #[.int .i64 a, .int .i64 b] w fun e w' => e = .returned (.tuple #[.int .i64 (logX a b), .int .i64 (logE a b)]) ∧ w = w' := by
  by_cases h1 : b < 1
  · have HV := Lib.hid (log_no (a := a) (b := b) (by omega))
    go_enter Try.func8, Try.ntmps8
    go_wp2
    go_ret2
    exact ⟨by rw [HV.out.1, HV.out.2]; rfl, rfl⟩
  by_cases h2 : a < b
  · have HV := Lib.hid (log_no (a := a) (b := b) (by omega))
    go_enter Try.func8, Try.ntmps8
    go_wp2
    go_ret2
    exact ⟨by rw [HV.out.1, HV.out.2]; rfl, rfl⟩
  by_cases h3 : 2147483647 < a
  · have HV := Lib.hid (log_no (a := a) (b := b) (by omega))
    go_enter Try.func8, Try.ntmps8
    go_wp2
    go_ret2
    exact ⟨by rw [HV.out.1, HV.out.2]; rfl, rfl⟩
  obtain ⟨a, rfl⟩ := Int.eq_ofNat_of_zero_le (show 0 ≤ a by omega)
  obtain ⟨b, rfl⟩ := Int.eq_ofNat_of_zero_le (show 0 ≤ b by omega)
  have HV := Lib.hid (log_yes (a := a) (b := b) (by omega))
  obtain ⟨r, hr, hr31, hbr, hw1, hw2⟩ := bits_whole (a := a) (b := b) (by omega) (by omega) (by omega)
  have HR0 := Lib.hid (And.intro hr (And.intro hbr (And.intro hw1 hw2)))
  clear hr hbr hw1 hw2 ha hb
  have hwa : IntKind.u64.wrap (a : Int) = (a : Int) := IntWalk.u64_in _ (by omega)
  have hwb : IntKind.u64.wrap (b : Int) = (b : Int) := IntWalk.u64_in _ (by omega)
  have c1 := Try.bits_Len64 (a : Int) w (by omega) (by omega)
  have c2 := Try.bits_Len64 (b : Int) w (by omega) (by omega)
  rw [Int.toNat_natCast] at c1 c2
  have hla : (Lib.bitLen a : Int) ≤ 64 := Int.ofNat_le.2 (Lib.bitLen_le _ 64 (by decide) (Nat.lt_of_lt_of_le (show a < 2147483648 by omega) (by decide)))
  have hlb : (Lib.bitLen b : Int) ≤ 64 := Int.ofNat_le.2 (Lib.bitLen_le _ 64 (by decide) (Nat.lt_of_lt_of_le (show b < 2147483648 by omega) (by decide)))
  have hd : ((Lib.bitLen a : Nat) : Int) - ((Lib.bitLen b : Nat) : Int) = (r : Int) := by
    have := HR0.out.1
    omega
  have HR := Lib.hid HR0.out.2
  clear HR0
  obtain ⟨la, hla2⟩ : ∃ l, l = Lib.bitLen a := ⟨_, rfl⟩
  obtain ⟨lb, hlb2⟩ : ∃ l, l = Lib.bitLen b := ⟨_, rfl⟩
  rw [← hla2] at hd hla c1
  rw [← hlb2] at hd hlb c2
  obtain ⟨hb1, hb2⟩ := mant_bounds (a := a) (b := b) (by omega) (by omega)
  have hwl := whole_lt (a := a) (b := b) (by omega) (by omega) (by omega)
  obtain ⟨hs1, hs2⟩ := whole_spec (a := a) (b := b) (by omega) (by omega)
  have hIT := Lib.hid (itL_facts (a := a) (b := b) (by omega) (by omega) (by omega))
  have hmd : mant a b = a * 1073741824 / (b * 2 ^ whole a b) := rfl
  have hLd : Hid (logN a b = (itL k8 (mant a b, whole a b)).2) := rfl
  obtain ⟨m0, hm0⟩ : ∃ m, m = mant a b := ⟨_, rfl⟩
  obtain ⟨W, hW⟩ : ∃ m, m = whole a b := ⟨_, rfl⟩
  rw [← hW] at hwl hs1 hs2 hIT hmd hLd HR
  rw [← hm0] at hIT hmd hLd hb1 hb2
  clear hW hm0
  obtain ⟨c, hc⟩ : ∃ c, c = b * 2 ^ r := ⟨_, rfl⟩
  obtain ⟨d, hd9⟩ : ∃ c, c = b * 2 ^ W := ⟨_, rfl⟩
  obtain ⟨A, hA⟩ : ∃ c, c = a * 1073741824 := ⟨_, rfl⟩
  rw [← hc] at HR
  rw [← hd9] at hmd hs1
  rw [← hA] at hmd
  have hd0 : 0 < d := by rw [hd9]; exact Nat.mul_pos (by omega) (Nat.two_pow_pos _)
  have sh1 : Op.shift .shl .i64 (b : Int) .i64 (r : Int) = pure (.int .i64 (c : Int)) := by
    rw [shift_shl_any _ _ _ _ (Int.natCast_nonneg _), Int.toNat_natCast, show min r IntKind.i64.bits = r from Nat.min_eq_left (by show r ≤ 64; omega)]
    have e : (b : Int) * 2 ^ r = (c : Int) := by rw [hc]; simp
    have := HR.out.1
    rw [e, IntWalk.i64_in _ (by omega)]
  have sh2 : Op.shift .shl .i64 (b : Int) .i64 (W : Int) = pure (.int .i64 (d : Int)) := by
    rw [shift_shl_any _ _ _ _ (Int.natCast_nonneg _), Int.toNat_natCast, show min W IntKind.i64.bits = W from Nat.min_eq_left (by show W ≤ 64; omega)]
    have e : (b : Int) * 2 ^ W = (d : Int) := by rw [hd9]; simp
    rw [e, IntWalk.i64_in _ (by omega)]
  have sh3 : Op.shift .shl .i64 (a : Int) .u64 30 = pure (.int .i64 (A : Int)) := by
    rw [shift_shl_any _ _ _ _ (by decide)]
    have e : (a : Int) * 2 ^ min (30 : Int).toNat IntKind.i64.bits = (A : Int) := by
      rw [show min (30 : Int).toNat IntKind.i64.bits = 30 from rfl, hA]; simp
    rw [e, IntWalk.i64_in _ (by omega)]
  have hq : (A : Int) / (d : Int) = (m0 : Int) := by rw [hmd]; simp
  have hd1 : ¬ (d : Int) = 0 := by omega
  have hd2 : (0 : Int) < (d : Int) := by omega
  have hA2 : (0 : Int) ≤ (A : Int) := by omega
  have HK := Lib.hid k8_eq
  have hm2 : (m0 : Int) ≤ 2147483647 := by omega
  have hcc : Hid ((¬ (a : Int) < c → W = r ∧ d = c) ∧ ((a : Int) < c → (r : Int) - 1 = W)) := by
    obtain ⟨g1, g2, g3⟩ := HR.out
    exact ⟨fun h => by have e := g2 (by omega); subst e; exact ⟨rfl, hd9.trans hc.symm⟩, fun h => by have := g3 (by omega); omega⟩
  have C1 := Lib.hid c1
  have C2 := Lib.hid c2
  have HB := Lib.hid hb1
  clear hla2 hlb2 c1 c2 hs1 hs2 hmd hc hd9 hA HR hb1 hb2 hd0 hr31
  go_enter Try.func8, Try.ntmps8
  go_wp2_with fail
  refine C1.out.mono ?_
  rintro e w' ⟨rfl, rfl⟩
  go_wp2_with fail
  refine C2.out.mono ?_
  rintro e w'' ⟨rfl, rfl⟩
  have hlx : Hid (∀ j, (itL (j + 1) (m0, W)) = stpL (itL j (m0, W))) := fun _ => rfl
  by_cases hac : (a : Int) < (c : Int)
  all_goals
    first
      | (have hrw : (r : Int) - 1 = (W : Int) := hcc.out.2 (by omega))
      | (obtain ⟨rfl, rfl⟩ : W = r ∧ d = c := hcc.out.1 (by omega))
    clear hcc
    go_wp2
    try clear hrw
    clear sh1 sh2 sh3 hq hd1 hd2 hA2 hla hlb hd hwa hwb hac hm2
    go_loop [7, 8, 41] (fun m o i => ∃ j : Nat, j ≤ 8 ∧ i = .int .i64 j ∧ m = .int .i64 ((itL j (m0, W)).1 : Nat) ∧ o = .int .i64 ((itL j (m0, W)).2 : Nat)) (fun _ _ i => 8 - (intOf i).toNat)
    case atStart => exact ⟨0, by omega, rfl, rfl, rfl⟩
    case round =>
      rename_i hwr
      clear hwr
      obtain ⟨j, hj, rfl, rfl, rfl⟩ := hrel
      obtain ⟨f1, f2, f3⟩ := hIT.out j hj
      have g := hlx.out j
      obtain ⟨s, hs⟩ : ∃ s, s = itL j (m0, W) := ⟨_, rfl⟩
      rw [← hs] at f1 f2 f3 g ⊢
      have HSJ := Lib.hid hs
      obtain ⟨m, o⟩ := s
      simp only at f1 f2 f3 g ⊢
      have hmm : m * m < 4611686018427387904 := Nat.mul_lt_mul'' f2 f2
      obtain ⟨q2, hq2⟩ : ∃ q2 : Int, q2 = ((m * m : Nat) : Int) := ⟨_, rfl⟩
      have hw1 : IntKind.i64.wrap ((m : Int) * (m : Int)) = q2 := by rw [hq2, Int.natCast_mul]; exact IntWalk.i64_in _ (by rw [← Int.natCast_mul]; omega)
      obtain ⟨q, hq⟩ : ∃ q : Int, q = ((m * m / 1073741824 : Nat) : Int) := ⟨_, rfl⟩
      have hq3 : q2 / 1073741824 = q := by rw [hq, hq2]; omega
      have hw2 : IntKind.i64.wrap ((o : Int) * 2) = (o : Int) * 2 := IntWalk.i64_in _ (by omega)
      have hor := i64_or1 o f3
      have HS := Lib.hid g
      have HQ : Hid (q = ((m * m / 1073741824 : Nat) : Int)) := hq
      clear f1 f2 f3 g hs hmm hq2 hq
      by_cases hlt : (j : Int) < 8
      · by_cases hge : (2147483648 : Int) ≤ q
        · go_wp2
          go_round
          case rel =>
            refine ⟨j + 1, by omega, by go_num, ?_, ?_⟩
            · rw [HS.out]; unfold stpL; rw [if_pos (by have := HQ.out; simp only; omega)]; have := HQ.out; congr 1; simp only; omega
            · rw [HS.out]; unfold stpL; rw [if_pos (by have := HQ.out; simp only; omega)]; congr 1
          case measure => simp [intOf]; omega
        · go_wp2
          refine ⟨⟨_, _, _, ⟨j + 1, by omega, rfl, rfl, rfl⟩, ?_, ?_, by go_num⟩, ?_⟩
          · rw [HS.out]; unfold stpL; rw [if_neg (by have := HQ.out; simp only; omega)]; exact congrArg (Value.int .i64) HQ.out
          · rw [HS.out]; unfold stpL; rw [if_neg (by have := HQ.out; simp only; omega)]; congr 1; simp only; omega
          · simp [intOf]; omega
      · have hj8 : Hid (j = k8) := by show _ = _; rw [HK.out]; omega
        have hout : Hid ((o : Int) = (logN a b : Nat)) := by
          show _ = _
          rw [hLd.out, ← hj8.out, ← HSJ.out]
        go_wp2
        go_ret2
        exact ⟨by rw [HV.out.1, HV.out.2, ← hout.out]; rfl, rfl⟩
end Go.Proofs.Ythliplkkenolgaa
