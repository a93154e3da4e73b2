/- What Log of the reference tells. -/
import Derived.Test.YthliplkkenolgaaLog
namespace Go.Proofs.Ythliplkkenolgaa
open Go.RowKit
set_option linter.unusedVariables false
set_option linter.unusedSimpArgs false

theorem pow_whole {a b : Nat} (hb : 0 < b) (h : b ≤ a) {k : Nat} (hk : b * 2 ^ k ≤ a) : k ≤ whole a b ∧ (a < b * 2 ^ k * 2 → k = whole a b) := by
  refine ⟨?_, fun h2 => whole_uniq hb hk (by rw [Nat.pow_succ, ← Nat.mul_assoc]; exact h2)⟩
  obtain ⟨g1, g2⟩ := whole_spec hb h
  have : 2 ^ k < 2 ^ (whole a b + 1) := Nat.lt_of_mul_lt_mul_left (Nat.lt_of_le_of_lt hk g2)
  have := (Nat.pow_lt_pow_iff_right (a := 2) (by decide)).1 this
  omega

set_option maxRecDepth 100000 in
set_option maxHeartbeats 1000000 in
theorem refLog_any (a b : Int) (w : World) (ha : -9223372036854775808 ≤ a ∧ a ≤ 9223372036854775807) (hb : -9223372036854775808 ≤ b ∧ b ≤ 9223372036854775807) :
    Calls Try.prog 9 #[.int .i64 a, .int .i64 b] w fun e w' => e = .returned (.tuple #[.int .i64 (logX a b), .int .i64 (logE a b)]) ∧ w = w' := by
  by_cases h1 : b < 1
  · have HV := Lib.hid (log_no (a := a) (b := b) (by omega))
    go_enter Try.func9, Try.ntmps9
    go_wp2
    go_ret2
    exact ⟨by rw [HV.out.1, HV.out.2]; rfl, rfl⟩
  by_cases h2 : a < b
  · have HV := Lib.hid (log_no (a := a) (b := b) (by omega))
    go_enter Try.func9, Try.ntmps9
    go_wp2
    go_ret2
    exact ⟨by rw [HV.out.1, HV.out.2]; rfl, rfl⟩
  by_cases h3 : 2147483647 < a
  · have HV := Lib.hid (log_no (a := a) (b := b) (by omega))
    go_enter Try.func9, Try.ntmps9
    go_wp2
    go_ret2
    exact ⟨by rw [HV.out.1, HV.out.2]; rfl, rfl⟩
  obtain ⟨a, rfl⟩ := Int.eq_ofNat_of_zero_le (show 0 ≤ a by omega)
  obtain ⟨b, rfl⟩ := Int.eq_ofNat_of_zero_le (show 0 ≤ b by omega)
  have HV := Lib.hid (log_yes (a := a) (b := b) (by omega))
  have HPW : Hid (∀ k, b * 2 ^ k ≤ a → k ≤ whole a b ∧ (a < b * 2 ^ k * 2 → k = whole a b)) := fun k hk => pow_whole (by omega) (by omega) hk
  have hwl := whole_lt (a := a) (b := b) (by omega) (by omega) (by omega)
  have hMB := Lib.hid (mant_bounds (a := a) (b := b) (by omega) (by omega))
  have hmd : Hid (mant a b = a * 1073741824 / (b * 2 ^ whole a b)) := rfl
  have hLd : Hid (logN a b = (itL k8 (mant a b, whole a b)).2) := rfl
  obtain ⟨m0, hm0⟩ : ∃ m, m = mant a b := ⟨_, rfl⟩
  obtain ⟨W, hW⟩ : ∃ m, m = whole a b := ⟨_, rfl⟩
  rw [← hW] at hwl hmd hLd HPW
  rw [← hm0] at hmd hLd hMB
  clear hW hm0
  have HK := Lib.hid k8_eq
  have hlx : Hid (∀ j, (itL (j + 1) (m0, 0)) = stpL (itL j (m0, 0))) := fun _ => rfl
  have hIT : Hid (∀ j, j ≤ 8 → (itL j (m0, 0)).1 < 2147483648 ∧ (itL j (m0, 0)).2 < 256) := by
    intro j hj
    have h1 := itL_bounds (s := (m0, 0)) hMB.out j
    obtain ⟨_, _, h3⟩ := itL_out m0 0 j
    have hp : 2 ^ j ≤ 2 ^ 8 := Nat.pow_le_pow_right (by decide) hj
    exact ⟨h1.2, by omega⟩
  have hEND : Hid ((logN a b : Nat) = 256 * W + (itL k8 (m0, 0)).2) := by
    show _ = _
    rw [hLd.out, (itL_out m0 W k8).2.1, show 2 ^ k8 = 256 by rw [k8_eq]]
  clear ha hb
  go_enter Try.func9, Try.ntmps9
  go_wp2
  go_loop [1, 6] (fun d i => ∃ k D : Nat, i = .int .i64 k ∧ d = .int .i64 D ∧ D = b * 2 ^ k ∧ D ≤ a) (fun _ i => 31 - (intOf i).toNat)
  case atStart => exact ⟨0, b, rfl, rfl, by simp, by omega⟩
  case round =>
    rename_i hwr
    clear hwr
    obtain ⟨k, D, rfl, rfl, hD, hDa⟩ := hrel
    obtain ⟨hk, hke⟩ := HPW.out k (by omega)
    rw [← hD] at hke
    have HD := Lib.hid hD
    have HKE := Lib.hid hke
    clear hD hke
    by_cases hlt : (D : Int) * 2 ≤ (a : Int)
    · go_wp2
      go_round
      case rel => exact ⟨k + 1, D * 2, by go_num, by go_num, by rw [HD.out, Nat.pow_succ, Nat.mul_assoc], by omega⟩
      case measure => simp [intOf]; omega
    · have hkW : k = W := HKE.out (by omega)
      have hD1 : 0 < D := by rw [HD.out]; exact Nat.mul_pos (by omega) (Nat.two_pow_pos _)
      subst hkW
      have hq : (a : Int) * 1073741824 / (D : Int) = (m0 : Int) := by rw [hmd.out, ← HD.out]; simp
      have hm2 : (m0 : Int) ≤ 2147483647 := by have := hMB.out; omega
      have hD0 : ¬ (D : Int) = 0 := by omega
      have hD2 : (0 : Int) < (D : Int) := by omega
      clear hD1
      go_wp2
      clear hq hD0 hD2 hm2 hlt hDa hk
      go_loop [7, 8, 9] (fun m o i => ∃ j : Nat, j ≤ 8 ∧ i = .int .i64 j ∧ m = .int .i64 ((itL j (m0, 0)).1 : Nat) ∧ o = .int .i64 ((itL j (m0, 0)).2 : Nat)) (fun _ _ i => 8 - (intOf i).toNat)
      case atStart => exact ⟨0, by omega, rfl, rfl, rfl⟩
      case round =>
        rename_i hwr2
        clear hwr2
        obtain ⟨j, hj, rfl, rfl, rfl⟩ := hrel
        obtain ⟨f2, f3⟩ := hIT.out j hj
        have g := hlx.out j
        obtain ⟨s, hs⟩ : ∃ s, s = itL j (m0, 0) := ⟨_, rfl⟩
        rw [← hs] at f2 f3 g ⊢
        have HSJ := Lib.hid hs
        obtain ⟨m, o⟩ := s
        simp only at f2 f3 g ⊢
        have hmm : m * m < 4611686018427387904 := Nat.mul_lt_mul'' f2 f2
        obtain ⟨q2, hq2⟩ : ∃ q2 : Int, q2 = ((m * m : Nat) : Int) := ⟨_, rfl⟩
        have hw1 : IntKind.i64.wrap ((m : Int) * (m : Int)) = q2 := by rw [hq2, Int.natCast_mul]; exact IntWalk.i64_in _ (by rw [← Int.natCast_mul]; omega)
        obtain ⟨q, hq⟩ : ∃ q : Int, q = ((m * m / 1073741824 : Nat) : Int) := ⟨_, rfl⟩
        have hq3 : q2 / 1073741824 = q := by rw [hq, hq2]; omega
        have hq5 : (0 : Int) ≤ q2 := by rw [hq2]; omega
        have hq6 : q2 ≤ 4611686018427387904 := by rw [hq2]; omega
        have hq7 : (0 : Int) ≤ q := by omega
        have hq8 : q ≤ 4294967296 := by rw [hq]; omega
        have ho : (o : Int) ≤ 255 := by omega
        have HS := Lib.hid g
        have HQ : Hid (q = ((m * m / 1073741824 : Nat) : Int)) := hq
        clear f2 f3 g hs hmm hq2 hq
        by_cases hlt2 : (j : Int) < 8
        · by_cases hge : (2147483648 : Int) ≤ q
          · go_wp2
            go_round
            case rel =>
              refine ⟨j + 1, by omega, by go_num, ?_, ?_⟩
              · rw [HS.out]; unfold stpL; rw [if_pos (by have := HQ.out; simp only; omega)]; have := HQ.out; congr 1; simp only; omega
              · rw [HS.out]; unfold stpL; rw [if_pos (by have := HQ.out; simp only; omega)]; congr 1; simp only; omega
            case measure => simp [intOf]; omega
          · go_wp2
            refine ⟨⟨_, _, _, ⟨j + 1, by omega, rfl, rfl, rfl⟩, ?_, ?_, by go_num⟩, ?_⟩
            · rw [HS.out]; unfold stpL; rw [if_neg (by have := HQ.out; simp only; omega)]; exact congrArg (Value.int .i64) HQ.out
            · rw [HS.out]; unfold stpL; rw [if_neg (by have := HQ.out; simp only; omega)]; congr 1; simp only; omega
            · simp [intOf]; omega
        · have hj8 : Hid (j = k8) := by show _ = _; rw [HK.out]; omega
          have hout : Hid ((256 : Int) * (k : Int) + (o : Int) = (logN a b : Nat)) := by
            show _ = _
            rw [hEND.out, ← hj8.out, ← HSJ.out]
            simp
          go_wp2
          go_ret2
          exact ⟨by rw [HV.out.1, HV.out.2, ← hout.out]; rfl, rfl⟩
end Go.Proofs.Ythliplkkenolgaa
