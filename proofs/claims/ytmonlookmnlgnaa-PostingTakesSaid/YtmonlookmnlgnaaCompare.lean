/- Which one stands ahead, and whether two are the same: the program's and the document's. -/
import Derived.Test.YtmonlookmnlgnaaPrefix
namespace Go.Proofs.Ytmonlookmnlgnaa
open Go.RowKit
set_option linter.unusedVariables false
set_option linter.unusedSimpArgs false

set_option maxRecDepth 100000 in
set_option maxHeartbeats 4000000 in
theorem refCompare_any (A B : Option Addr) (n m c c' : Nat) (a b : List Nat) (w : World) (ha : RdB w A n a) (hb : RdB w B m b) :
    Calls Try.prog 32 #[.slice A n c, .slice B m c'] w fun e w' => e = .returned (.int .i64 (cmpL a b)) ∧ ∃ j, w' = w.drewN j := by
  have HA := Lib.hid ha
  have HB := Lib.hid hb
  have hn := ha.max
  have hm := hb.max
  obtain ⟨hp1, hp2⟩ := prefL_le a b
  rw [ha.len] at hp1
  rw [hb.len] at hp2
  obtain ⟨p, hp⟩ : ∃ p, p = prefL a b := ⟨_, rfl⟩
  have HP := Lib.hid hp.symm
  rw [← hp] at hp1 hp2
  have HC' := cmpL_pref a b
  rw [← hp, ha.len, hb.len] at HC'
  clear ha hb hp
  by_cases h1 : p = n
  · rw [if_pos h1] at HC'
    by_cases h2 : p = m
    · rw [if_pos h2] at HC'
      have HC := Lib.hid HC'
      clear HC'
      have q1 : (p : Int) = (n : Int) := by omega
      have q2 : (p : Int) = (m : Int) := by omega
      have g1 : ((p : Int) == (n : Int)) = true := by simp [h1]
      have g2 : ((p : Int) == (m : Int)) = true := by simp [h2]
      clear h1 h2
      go_enter Try.func32, Try.ntmps32
      go_wp2_with fail
      refine (refPrefix_any _ _ _ _ _ _ _ _ _ HA.out HB.out).mono ?_
      rintro e w1 ⟨rfl, j, rfl⟩
      rw [HP.out]
      go_wp2
      go_ret
      refine ⟨?_, _, rfl⟩
      rw [HC.out]
      rfl
    · rw [if_neg h2] at HC'
      have HC := Lib.hid HC'
      clear HC'
      have q1 : (p : Int) = (n : Int) := by omega
      have q2 : ¬ (p : Int) = (m : Int) := by omega
      have g1 : ((p : Int) == (n : Int)) = true := by simp [h1]
      have g2 : ((p : Int) == (m : Int)) = false := by simp; omega
      clear h1 h2
      go_enter Try.func32, Try.ntmps32
      go_wp2_with fail
      refine (refPrefix_any _ _ _ _ _ _ _ _ _ HA.out HB.out).mono ?_
      rintro e w1 ⟨rfl, j, rfl⟩
      rw [HP.out]
      go_wp2
      go_ret
      refine ⟨?_, _, rfl⟩
      rw [HC.out]
      rfl
  · rw [if_neg h1] at HC'
    have q1 : ¬ (p : Int) = (n : Int) := by omega
    have g1 : ((p : Int) == (n : Int)) = false := by simp; omega
    by_cases h2 : p = m
    · rw [if_pos h2] at HC'
      have HC := Lib.hid HC'
      clear HC'
      have q2 : (p : Int) = (m : Int) := by omega
      have q3 : ¬ (p : Int) < (m : Int) := by omega
      have g2 : ((p : Int) == (m : Int)) = true := by simp [h2]
      have g3 : decide ((p : Int) < (m : Int)) = false := decide_eq_false q3
      clear h1 h2
      go_enter Try.func32, Try.ntmps32
      go_wp2_with fail
      refine (refPrefix_any _ _ _ _ _ _ _ _ _ HA.out HB.out).mono ?_
      rintro e w1 ⟨rfl, j, rfl⟩
      rw [HP.out]
      go_upto_region 6 with fail
      go_quiet (fail)
      go_wp2
      go_ret
      refine ⟨?_, j + nq, by first | rfl | exact World.drewN_drewN _ _ _⟩
      rw [HC.out]
      rfl
    · rw [if_neg h2] at HC'
      have q2 : ¬ (p : Int) = (m : Int) := by omega
      have q3 : (p : Int) < (m : Int) := by omega
      have g2 : ((p : Int) == (m : Int)) = false := by simp; omega
      have g3 : decide ((p : Int) < (m : Int)) = true := decide_eq_true q3
      have k1 : p < n := by omega
      have k2 : p < m := by omega
      have r1 : (p : Int) < (n : Int) := by omega
      obtain ⟨ad, x, rfl, HX, hxb, hca⟩ := HA.out.at k1
      obtain ⟨bd, y, rfl, HY, hyb, hcb⟩ := HB.out.at k2
      rw [← HX.out, ← HY.out] at HC'
      have hxy : x ≠ y := by
        have := (prefL_spec a b).2 (by rw [HP.out, HA.out.len]; exact k1) (by rw [HP.out, HB.out.len]; exact k2)
        rw [HP.out, ← HX.out, ← HY.out] at this
        exact this
      by_cases h4 : x < y
      · rw [if_pos h4] at HC'
        have HC := Lib.hid HC'
        clear HC'
        have g4 : decide ((x : Int) < (y : Int)) = true := decide_eq_true (by omega)
        have g5 : decide ((y : Int) < (x : Int)) = false := decide_eq_false (by omega)
        have q4 : (x : Int) < (y : Int) := by omega
        clear h1 h2 h4 hxy
        go_enter Try.func32, Try.ntmps32
        go_wp2_with fail
        refine (refPrefix_any _ _ _ _ _ _ _ _ _ HA.out HB.out).mono ?_
        rintro e w1 ⟨rfl, j, rfl⟩
        rw [HP.out]
        go_upto_region 6 with fail
        go_quiet (fail)
        go_wp2
        go_ret
        refine ⟨?_, j + nq, by first | rfl | exact World.drewN_drewN _ _ _⟩
        rw [HC.out]
        rfl
      · rw [if_neg h4] at HC'
        have HC := Lib.hid HC'
        clear HC'
        have g4 : decide ((x : Int) < (y : Int)) = false := decide_eq_false (by omega)
        have g5 : decide ((y : Int) < (x : Int)) = true := decide_eq_true (by omega)
        have q4 : (y : Int) < (x : Int) := by omega
        clear h1 h2 h4 hxy
        go_enter Try.func32, Try.ntmps32
        go_wp2_with fail
        refine (refPrefix_any _ _ _ _ _ _ _ _ _ HA.out HB.out).mono ?_
        rintro e w1 ⟨rfl, j, rfl⟩
        rw [HP.out]
        go_upto_region 6 with fail
        go_quiet (fail)
        go_wp2
        go_ret
        refine ⟨?_, j + nq, by first | rfl | exact World.drewN_drewN _ _ _⟩
        rw [HC.out]
        rfl
set_option maxRecDepth 100000 in
theorem Same_any (A B : Option Addr) (n m c c' : Nat) (a b : List Nat) (w : World) (ha : RdB w A n a) (hb : RdB w B m b) :
    Calls Try.prog 12 #[.slice A n c, .slice B m c'] w fun e w' => e = .returned (.bool (decide (cmpL a b = 0))) ∧ ∃ j, w' = w.drewN j := by
  have HA := Lib.hid ha
  have HB := Lib.hid hb
  clear ha hb
  go_enter Try.func12, Try.ntmps12
  go_wp2_with fail
  refine (refCompare_any _ _ _ _ _ _ _ _ _ HA.out HB.out).mono ?_
  rintro e w1 ⟨rfl, j, rfl⟩
  go_wp2
  go_ret
  refine ⟨?_, _, rfl⟩
  by_cases h : cmpL a b = 0 <;> simp [h]
theorem Below.drewN (w : World) (j : Nat) : Below w.heap.size w (w.drewN j) := by
  induction j with
  | zero => exact Below.refl _ _
  | succ j ih => exact ih.drew
theorem refCompare_bs {va vb : Value} {a b : List Nat} (w : World) (ha : BS w va a) (hb : BS w vb b) :
    Calls Try.prog 32 #[va, vb] w fun e w' => e = .returned (.int .i64 (cmpL a b)) ∧ Below w.heap.size w w' := by
  obtain ⟨A, n, c, rfl, _, _, h1⟩ := ha
  obtain ⟨B, m, c', rfl, _, _, h2⟩ := hb
  refine (refCompare_any _ _ _ _ _ _ _ _ _ h1 h2).mono ?_
  rintro e w' ⟨he, j, rfl⟩
  exact ⟨he, Below.drewN w j⟩
theorem Same_bs {va vb : Value} {a b : List Nat} (w : World) (ha : BS w va a) (hb : BS w vb b) :
    Calls Try.prog 12 #[va, vb] w fun e w' => e = .returned (.bool (decide (cmpL a b = 0))) ∧ Below w.heap.size w w' := by
  obtain ⟨A, n, c, rfl, _, _, h1⟩ := ha
  obtain ⟨B, m, c', rfl, _, _, h2⟩ := hb
  refine (Same_any _ _ _ _ _ _ _ _ _ h1 h2).mono ?_
  rintro e w' ⟨he, j, rfl⟩
  exact ⟨he, Below.drewN w j⟩
theorem refPrefix_bs {va vb : Value} {a b : List Nat} (w : World) (ha : BS w va a) (hb : BS w vb b) :
    Calls Try.prog 45 #[va, vb] w fun e w' => e = .returned (.int .i64 (prefL a b : Nat)) ∧ Below w.heap.size w w' := by
  obtain ⟨A, n, c, rfl, _, _, h1⟩ := ha
  obtain ⟨B, m, c', rfl, _, _, h2⟩ := hb
  refine (refPrefix_any _ _ _ _ _ _ _ _ _ h1 h2).mono ?_
  rintro e w' ⟨he, j, rfl⟩
  exact ⟨he, Below.drewN w j⟩
end Go.Proofs.Ytmonlookmnlgnaa
