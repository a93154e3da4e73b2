/- How many bytes both begin with: the program's and the document's. -/
import Derived.Test.YtmonlookmnlgnaaCmp
import Derived.WalkKit
import Derived.BigQuiet
import Derived.Deep.DeepCutAuto
namespace Go.Proofs.Ytmonlookmnlgnaa
open Go.RowKit
set_option linter.unusedVariables false
set_option linter.unusedSimpArgs false

set_option maxRecDepth 100000 in
set_option maxHeartbeats 2000000 in
theorem refPrefix_any (A B : Option Addr) (n m c c' : Nat) (a b : List Nat) (w : World) (ha : RdB w A n a) (hb : RdB w B m b) :
    Calls Try.prog 45 #[.slice A n c, .slice B m c'] w fun e w' => e = .returned (.int .i64 (prefL a b : Nat)) ∧ ∃ j, w' = w.drewN j := by
  have HA := Lib.hid ha
  have HB := Lib.hid hb
  have hn := ha.max
  have hm := hb.max
  clear ha hb
  go_enter Try.func45, Try.ntmps45
  go_wp2_with fail
  go_loopw [5] (fun i wr => ∃ k j : Nat, i = .int .i64 k ∧ k ≤ n ∧ k ≤ m ∧ Hid (∀ x, x < k → a.getD x 0 = b.getD x 0) ∧ wr = w.drewN j) (fun i _ => n - (intOf i).toNat)
  case atStart => exact ⟨0, 0, rfl, Nat.zero_le _, Nat.zero_le _, fun x h => absurd h (Nat.not_lt_zero _), rfl⟩
  case round =>
    obtain ⟨k, j, rfl, hk1, hk2, HE, rfl⟩ := hrel
    by_cases h1 : (k : Int) < (n : Int)
    · have h1' : k < n := by omega
      have g1 : decide ((k : Int) < (n : Int)) = true := decide_eq_true h1
      obtain ⟨ad, x, rfl, HX, hxb, hca⟩ := HA.out.at h1'
      by_cases h2 : (k : Int) < (m : Int)
      · have h2' : k < m := by omega
        have g2 : decide ((k : Int) < (m : Int)) = true := decide_eq_true h2
        obtain ⟨bd, y, rfl, HY, hyb, hcb⟩ := HB.out.at h2'
        go_upto_region 2 with fail
        go_quiet (fail)
        by_cases h3 : x = y
        · have g3 : ((x : Int) == (y : Int)) = true := by simp [h3]
          have HE3 := Lib.hid h3
          clear h3 h1' h2' g1 g2 hca hcb
          go_wp2
          refine ⟨⟨k + 1, j + nq, by go_num, by omega, by omega, ?_, rfl⟩, by simp [intOf]; omega⟩
          intro z hz
          rcases Nat.lt_succ_iff_lt_or_eq.1 hz with h | rfl
          · exact HE.out z h
          · rw [← HX.out, ← HY.out]; exact HE3.out
        · have g3 : ((x : Int) == (y : Int)) = false := by simp; omega
          have HE3 := Lib.hid h3
          clear h3 h1' h2' g1 g2 hca hcb
          go_wp2
          go_ret
          refine ⟨?_, j + nq, by first | rfl | exact World.drewN_drewN _ _ _⟩
          rw [prefL_uniq a b k (by rw [HA.out.len]; omega) (by rw [HB.out.len]; omega) HE.out (.inr (.inr (by rw [← HX.out, ← HY.out]; exact HE3.out)))]
          rfl
      · have g2 : decide ((k : Int) < (m : Int)) = false := decide_eq_false h2
        go_upto_region 2 with fail
        go_quiet (fail)
        clear g1 g2 hca
        go_wp2
        go_ret
        refine ⟨?_, j + nq, by first | rfl | exact World.drewN_drewN _ _ _⟩
        rw [prefL_uniq a b k (by rw [HA.out.len]; omega) (by rw [HB.out.len]; omega) HE.out (.inr (.inl (by rw [HB.out.len]; omega)))]
        rfl
    · have g1 : decide ((k : Int) < (n : Int)) = false := decide_eq_false h1
      go_upto_region 2 with fail
      go_quiet (fail)
      clear g1
      go_wp2
      go_ret
      refine ⟨?_, j + nq, by first | rfl | exact World.drewN_drewN _ _ _⟩
      rw [prefL_uniq a b k (by rw [HA.out.len]; omega) (by rw [HB.out.len]; omega) HE.out (.inl (by rw [HA.out.len]; omega))]
      rfl
end Go.Proofs.Ytmonlookmnlgnaa
