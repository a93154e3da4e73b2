/- The laws PackCompares and PackBetween. -/
import Derived.Test.YtljnfciolalbdaaAfter
namespace Go.Proofs.Ytljnfciolalbdaa
open Go.RowKit
set_option linter.unusedVariables false
set_option linter.unusedSimpArgs false

set_option maxRecDepth 100000 in
set_option maxHeartbeats 2000000 in
theorem compares_law (A B : Option Addr) (n m c c' : Nat) (a b : List Nat) (w : World) (ha : RdB w A n a) (hb : RdB w B m b) (hc1 : n ≤ c) (hc2 : m ≤ c') (hx1 : c ≤ 9223372036854775807) (hx2 : c' ≤ 9223372036854775807) :
    Calls Try.prog 4 #[.slice A n c, .slice B m c'] w fun e w' => e = .returned (.bool true) ∧ Below w.heap.size w w' := by
  have HA := Lib.hid (ha.bs hc1 hx1)
  have HB := Lib.hid (hb.bs hc2 hx2)
  have hla := Lib.hid ha.len
  have hlb := Lib.hid hb.len
  clear ha hb
  by_cases hbig : 2000 < n ∨ 2000 < m
  · rcases (show 2000 < n ∨ (n ≤ 2000 ∧ 2000 < m) by omega) with hb | hb
    · have q1 : (2000 : Int) < (n : Int) := by omega
      clear hbig hb
      go_enter Try.func4, Try.ntmps4
      go_wp2_with fail
      refine (live_any _).mono ?_
      rintro e w1 ⟨rfl, hb⟩
      have KB := Lib.hid hb
      clear hb
      go_wp2_with fail
      refine (live_any _).mono ?_
      rintro e w2 ⟨rfl, hb⟩
      have KB2 := Lib.hid (Below.thn KB.out hb)
      clear hb KB
      go_wp2
      go_ret
      exact ⟨rfl, KB2.out⟩
    · have q1 : ¬ (2000 : Int) < (n : Int) := by omega
      have q2 : (2000 : Int) < (m : Int) := by omega
      clear hbig hb
      go_enter Try.func4, Try.ntmps4
      go_wp2_with fail
      refine (live_any _).mono ?_
      rintro e w1 ⟨rfl, hb⟩
      have KB := Lib.hid hb
      clear hb
      go_wp2_with fail
      refine (live_any _).mono ?_
      rintro e w2 ⟨rfl, hb⟩
      have KB2 := Lib.hid (Below.thn KB.out hb)
      clear hb KB
      go_wp2
      go_ret
      exact ⟨rfl, KB2.out⟩
  · have q1 : ¬ (2000 : Int) < (n : Int) := by omega
    have q2 : ¬ (2000 : Int) < (m : Int) := by omega
    have hla2 : Hid (a.length ≤ 2000) := Lib.hid (by rw [hla.out]; omega)
    have hlb2 : Hid (b.length ≤ 2000) := Lib.hid (by rw [hlb.out]; omega)
    clear hbig
    go_enter Try.func4, Try.ntmps4
    go_wp2_with fail
    refine (live_any _).mono ?_
    rintro e w1 ⟨rfl, hb⟩
    have KB := Lib.hid hb
    clear hb
    have HA := Lib.hid (HA.out.below KB.out)
    have HB := Lib.hid (HB.out.below KB.out)
    go_wp2_with fail
    refine (After_bs _ HA.out (by have := hla2.out; omega)).mono ?_
    rintro e w2 ⟨x, rfl, hx, hb⟩
    have KB2 := Lib.hid (Below.thn KB.out hb)
    have HA_2 := Lib.hid (HA.out.below hb)
    have HB_2 := Lib.hid (HB.out.below hb)
    clear hb KB HA HB
    have KB := KB2
    clear KB2
    have HA := HA_2
    clear HA_2
    have HB := HB_2
    clear HB_2
    have HX := Lib.hid hx
    clear hx
    go_wp2_with fail
    refine (refAfter_bs _ HA.out (by have := hla2.out; omega)).mono ?_
    rintro e w3 ⟨y, rfl, hy, hb⟩
    have KB3 := Lib.hid (Below.thn KB.out hb)
    have HA_3 := Lib.hid (HA.out.below hb)
    have HB_3 := Lib.hid (HB.out.below hb)
    have HX_3 := Lib.hid (HX.out.below hb)
    clear hb KB HA HB HX
    have KB := KB3
    clear KB3
    have HA := HA_3
    clear HA_3
    have HB := HB_3
    clear HB_3
    have HX := HX_3
    clear HX_3
    have HY := Lib.hid hy
    clear hy
    go_wp2_with fail
    refine (Compare_bs _ HA.out HB.out).mono ?_
    rintro e w4 ⟨rfl, hb⟩
    have KB4 := Lib.hid (Below.thn KB.out hb)
    have HA_4 := Lib.hid (HA.out.below hb)
    have HB_4 := Lib.hid (HB.out.below hb)
    have HX_4 := Lib.hid (HX.out.below hb)
    have HY_4 := Lib.hid (HY.out.below hb)
    clear hb KB HA HB HX HY
    have KB := KB4
    clear KB4
    have HA := HA_4
    clear HA_4
    have HB := HB_4
    clear HB_4
    have HX := HX_4
    clear HX_4
    have HY := HY_4
    clear HY_4
    go_wp2_with fail
    refine (refCompare_bs _ HA.out HB.out).mono ?_
    rintro e w5 ⟨rfl, hb⟩
    have KB5 := Lib.hid (Below.thn KB.out hb)
    have HA_5 := Lib.hid (HA.out.below hb)
    have HB_5 := Lib.hid (HB.out.below hb)
    have HX_5 := Lib.hid (HX.out.below hb)
    have HY_5 := Lib.hid (HY.out.below hb)
    clear hb KB HA HB HX HY
    have KB := KB5
    clear KB5
    have HA := HA_5
    clear HA_5
    have HB := HB_5
    clear HB_5
    have HX := HX_5
    clear HX_5
    have HY := HY_5
    clear HY_5
    go_wp2_with fail
    refine (Compare_bs _ HA.out HA.out).mono ?_
    rintro e w6 ⟨rfl, hb⟩
    have KB6 := Lib.hid (Below.thn KB.out hb)
    have HA_6 := Lib.hid (HA.out.below hb)
    have HB_6 := Lib.hid (HB.out.below hb)
    have HX_6 := Lib.hid (HX.out.below hb)
    have HY_6 := Lib.hid (HY.out.below hb)
    clear hb KB HA HB HX HY
    have KB := KB6
    clear KB6
    have HA := HA_6
    clear HA_6
    have HB := HB_6
    clear HB_6
    have HX := HX_6
    clear HX_6
    have HY := HY_6
    clear HY_6
    rw [cmpL_self]
    go_wp2_with fail
    refine (Prefix_bs _ HA.out HB.out).mono ?_
    rintro e w7 ⟨rfl, hb⟩
    have KB7 := Lib.hid (Below.thn KB.out hb)
    have HA_7 := Lib.hid (HA.out.below hb)
    have HB_7 := Lib.hid (HB.out.below hb)
    have HX_7 := Lib.hid (HX.out.below hb)
    have HY_7 := Lib.hid (HY.out.below hb)
    clear hb KB HA HB HX HY
    have KB := KB7
    clear KB7
    have HA := HA_7
    clear HA_7
    have HB := HB_7
    clear HB_7
    have HX := HX_7
    clear HX_7
    have HY := HY_7
    clear HY_7
    go_wp2_with fail
    refine (refPrefix_bs _ HA.out HB.out).mono ?_
    rintro e w8 ⟨rfl, hb⟩
    have KB8 := Lib.hid (Below.thn KB.out hb)
    have HA_8 := Lib.hid (HA.out.below hb)
    have HB_8 := Lib.hid (HB.out.below hb)
    have HX_8 := Lib.hid (HX.out.below hb)
    have HY_8 := Lib.hid (HY.out.below hb)
    clear hb KB HA HB HX HY
    have KB := KB8
    clear KB8
    have HA := HA_8
    clear HA_8
    have HB := HB_8
    clear HB_8
    have HX := HX_8
    clear HX_8
    have HY := HY_8
    clear HY_8
    go_wp2_with fail
    refine (Same_bs _ HX.out HY.out).mono ?_
    rintro e w9 ⟨rfl, hb⟩
    have KB9 := Lib.hid (Below.thn KB.out hb)
    clear hb KB
    have KB := KB9
    clear KB9
    rw [cmpL_self, decide_eq_true rfl]
    go_wp2
    go_ret
    exact ⟨rfl, KB.out⟩

set_option maxRecDepth 100000 in
set_option maxHeartbeats 2000000 in
theorem between_any (A B : Option Addr) (n m c c' : Nat) (a b : List Nat) (w : World) (ha : RdB w A n a) (hb : RdB w B m b) (hc1 : n ≤ c) (hc2 : m ≤ c') (hx1 : c ≤ 9223372036854775807) (hx2 : c' ≤ 9223372036854775807) :
    Calls Try.prog 5 #[.slice A n c, .slice B m c'] w fun e w' => e = .returned (.bool true) ∧ Below w.heap.size w w' := by
  have HA := Lib.hid (ha.bs hc1 hx1)
  have HB := Lib.hid (hb.bs hc2 hx2)
  have hla := Lib.hid ha.len
  have hlb := Lib.hid hb.len
  clear ha hb
  by_cases hbig : 2000 < n ∨ 2000 < m
  · rcases (show 2000 < n ∨ (n ≤ 2000 ∧ 2000 < m) by omega) with hb | hb
    · have q1 : (2000 : Int) < (n : Int) := by omega
      clear hbig hb
      go_enter Try.func5, Try.ntmps5
      go_wp2_with fail
      refine (live_any _).mono ?_
      rintro e w1 ⟨rfl, hb⟩
      have KB := Lib.hid hb
      clear hb
      go_wp2_with fail
      refine (live_any _).mono ?_
      rintro e w2 ⟨rfl, hb⟩
      have KB2 := Lib.hid (Below.thn KB.out hb)
      clear hb KB
      go_wp2
      go_ret
      exact ⟨rfl, KB2.out⟩
    · have q1 : ¬ (2000 : Int) < (n : Int) := by omega
      have q2 : (2000 : Int) < (m : Int) := by omega
      clear hbig hb
      go_enter Try.func5, Try.ntmps5
      go_wp2_with fail
      refine (live_any _).mono ?_
      rintro e w1 ⟨rfl, hb⟩
      have KB := Lib.hid hb
      clear hb
      go_wp2_with fail
      refine (live_any _).mono ?_
      rintro e w2 ⟨rfl, hb⟩
      have KB2 := Lib.hid (Below.thn KB.out hb)
      clear hb KB
      go_wp2
      go_ret
      exact ⟨rfl, KB2.out⟩
  · have q1 : ¬ (2000 : Int) < (n : Int) := by omega
    have q2 : ¬ (2000 : Int) < (m : Int) := by omega
    have hla2 : Hid (a.length ≤ 2000) := Lib.hid (by rw [hla.out]; omega)
    have hlb2 : Hid (b.length ≤ 2000) := Lib.hid (by rw [hlb.out]; omega)
    clear hbig
    go_enter Try.func5, Try.ntmps5
    go_wp2_with fail
    refine (live_any _).mono ?_
    rintro e w1 ⟨rfl, hb⟩
    have KB := Lib.hid hb
    clear hb
    have HA := Lib.hid (HA.out.below KB.out)
    have HB := Lib.hid (HB.out.below KB.out)
    go_wp2_with fail
    refine (After_bs _ HB.out (by have := hlb2.out; omega)).mono ?_
    rintro e w2 ⟨x, rfl, hx, hb⟩
    have KB2 := Lib.hid (Below.thn KB.out hb)
    have HA_2 := Lib.hid (HA.out.below hb)
    have HB_2 := Lib.hid (HB.out.below hb)
    clear hb KB HA HB
    have KB := KB2
    clear KB2
    have HA := HA_2
    clear HA_2
    have HB := HB_2
    clear HB_2
    have HX := Lib.hid hx
    clear hx
    have HL := Lib.hid (between_law a b HA.out.byt)
    rw [hla.out, hlb.out] at HL
    have hlb' := hlb.out
    rw [hlb']
    obtain ⟨hp1, hp2⟩ := prefL_le a b
    rw [hla.out] at hp1
    rw [hlb.out] at hp2
    obtain ⟨p, hp⟩ : ∃ p, p = prefL a b := ⟨_, rfl⟩
    obtain ⟨t, ht⟩ : ∃ t, t = trimN b m := ⟨_, rfl⟩
    obtain ⟨q, hq⟩ : ∃ q, q = cmpL a b := ⟨_, rfl⟩
    obtain ⟨z, hz⟩ : ∃ z, z = cmpL a (afterL b) := ⟨_, rfl⟩
    rw [← hp] at hp1 hp2
    have HP := Lib.hid hp
    have HQ := Lib.hid hq
    have HZ := Lib.hid hz
    rw [← hp, ← hq, ← hz, ← ht] at HL
    rw [← ht]
    clear hp ht hq hz hlb'
    
    by_cases g1 : m ≤ n
    · skip
      by_cases p1 : p = m
      · skip
        by_cases g3 : 0 ≤ q
        · skip
          by_cases g4 : t = 0
          · skip
            have HL2 := HL
            rw [decide_eq_true g1, decide_eq_true p1, decide_eq_true g3, decide_eq_true g4] at HL2
            have e1 : (m : Int) ≤ (n : Int) := by omega
            have e2 : ((p : Int) == (m : Int)) = true := by simp; omega
            have e3 : decide (0 ≤ q) = true := by simp; omega
            have e4 : decide (t ≠ 0) = false := by simp; omega
            rw [e4]
            clear g1 g3 g4 p1
            go_wp2_with fail
            refine (Prefix_bs _ HA.out HB.out).mono ?_
            rintro e w2 ⟨rfl, hb⟩
            have KB2 := Lib.hid (Below.thn KB.out hb)
            have HA_2 := Lib.hid (HA.out.below hb)
            have HB_2 := Lib.hid (HB.out.below hb)
            have HX_2 := Lib.hid (HX.out.below hb)
            clear hb KB HA HB HX
            have KB := KB2
            clear KB2
            have HA := HA_2
            clear HA_2
            have HB := HB_2
            clear HB_2
            have HX := HX_2
            clear HX_2
            rw [← HP.out]
            go_wp2_with fail
            refine (Compare_bs _ HA.out HB.out).mono ?_
            rintro e w3 ⟨rfl, hb⟩
            have KB3 := Lib.hid (Below.thn KB.out hb)
            have HA_3 := Lib.hid (HA.out.below hb)
            have HB_3 := Lib.hid (HB.out.below hb)
            have HX_3 := Lib.hid (HX.out.below hb)
            clear hb KB HA HB HX
            have KB := KB3
            clear KB3
            have HA := HA_3
            clear HA_3
            have HB := HB_3
            clear HB_3
            have HX := HX_3
            clear HX_3
            rw [← HQ.out]
            go_wp2
            go_ret
            refine ⟨?_, KB.out⟩
            have h := HL2.out
            generalize decide (z < 0) = bz at h ⊢
            cases bz <;> first | rfl | (exfalso; simp at h)
          · skip
            have HL2 := HL
            rw [decide_eq_true g1, decide_eq_true p1, decide_eq_true g3, decide_eq_false g4] at HL2
            have e1 : (m : Int) ≤ (n : Int) := by omega
            have e2 : ((p : Int) == (m : Int)) = true := by simp; omega
            have e3 : decide (0 ≤ q) = true := by simp; omega
            have e4 : decide (t ≠ 0) = true := by simp; omega
            rw [e4]
            clear g1 g3 g4 p1
            go_wp2_with fail
            refine (Prefix_bs _ HA.out HB.out).mono ?_
            rintro e w2 ⟨rfl, hb⟩
            have KB2 := Lib.hid (Below.thn KB.out hb)
            have HA_2 := Lib.hid (HA.out.below hb)
            have HB_2 := Lib.hid (HB.out.below hb)
            have HX_2 := Lib.hid (HX.out.below hb)
            clear hb KB HA HB HX
            have KB := KB2
            clear KB2
            have HA := HA_2
            clear HA_2
            have HB := HB_2
            clear HB_2
            have HX := HX_2
            clear HX_2
            rw [← HP.out]
            go_wp2_with fail
            refine (Compare_bs _ HA.out HB.out).mono ?_
            rintro e w3 ⟨rfl, hb⟩
            have KB3 := Lib.hid (Below.thn KB.out hb)
            have HA_3 := Lib.hid (HA.out.below hb)
            have HB_3 := Lib.hid (HB.out.below hb)
            have HX_3 := Lib.hid (HX.out.below hb)
            clear hb KB HA HB HX
            have KB := KB3
            clear KB3
            have HA := HA_3
            clear HA_3
            have HB := HB_3
            clear HB_3
            have HX := HX_3
            clear HX_3
            rw [← HQ.out]
            go_wp2_with fail
            refine (Compare_bs _ HA.out HX.out).mono ?_
            rintro e w4 ⟨rfl, hb⟩
            have KB4 := Lib.hid (Below.thn KB.out hb)
            clear hb KB
            have KB := KB4
            clear KB4
            rw [← HZ.out]
            go_wp2
            go_ret
            refine ⟨?_, KB.out⟩
            have h := HL2.out
            generalize decide (z < 0) = bz at h ⊢
            cases bz <;> first | rfl | (exfalso; simp at h)
        · skip
          by_cases g4 : t = 0
          · skip
            have HL2 := HL
            rw [decide_eq_true g1, decide_eq_true p1, decide_eq_false g3, decide_eq_true g4] at HL2
            exact absurd HL2.out (by simp)
          · skip
            have HL2 := HL
            rw [decide_eq_true g1, decide_eq_true p1, decide_eq_false g3, decide_eq_false g4] at HL2
            exact absurd HL2.out (by simp)
      · skip
        by_cases g3 : 0 ≤ q
        · skip
          by_cases g4 : t = 0
          · skip
            have HL2 := HL
            rw [decide_eq_true g1, decide_eq_false p1, decide_eq_true g3, decide_eq_true g4] at HL2
            exact absurd HL2.out (by simp)
          · skip
            have HL2 := HL
            rw [decide_eq_true g1, decide_eq_false p1, decide_eq_true g3, decide_eq_false g4] at HL2
            have e1 : (m : Int) ≤ (n : Int) := by omega
            have e2 : ((p : Int) == (m : Int)) = false := by simp; omega
            have e3 : decide (0 ≤ q) = true := by simp; omega
            have e4 : decide (t ≠ 0) = true := by simp; omega
            rw [e4]
            clear g1 g3 g4 p1
            go_wp2_with fail
            refine (Prefix_bs _ HA.out HB.out).mono ?_
            rintro e w2 ⟨rfl, hb⟩
            have KB2 := Lib.hid (Below.thn KB.out hb)
            have HA_2 := Lib.hid (HA.out.below hb)
            have HB_2 := Lib.hid (HB.out.below hb)
            have HX_2 := Lib.hid (HX.out.below hb)
            clear hb KB HA HB HX
            have KB := KB2
            clear KB2
            have HA := HA_2
            clear HA_2
            have HB := HB_2
            clear HB_2
            have HX := HX_2
            clear HX_2
            rw [← HP.out]
            go_wp2_with fail
            refine (Compare_bs _ HA.out HB.out).mono ?_
            rintro e w3 ⟨rfl, hb⟩
            have KB3 := Lib.hid (Below.thn KB.out hb)
            have HA_3 := Lib.hid (HA.out.below hb)
            have HB_3 := Lib.hid (HB.out.below hb)
            have HX_3 := Lib.hid (HX.out.below hb)
            clear hb KB HA HB HX
            have KB := KB3
            clear KB3
            have HA := HA_3
            clear HA_3
            have HB := HB_3
            clear HB_3
            have HX := HX_3
            clear HX_3
            rw [← HQ.out]
            go_wp2_with fail
            refine (Compare_bs _ HA.out HX.out).mono ?_
            rintro e w4 ⟨rfl, hb⟩
            have KB4 := Lib.hid (Below.thn KB.out hb)
            clear hb KB
            have KB := KB4
            clear KB4
            rw [← HZ.out]
            go_wp2
            go_ret
            refine ⟨?_, KB.out⟩
            have h := HL2.out
            generalize decide (z < 0) = bz at h ⊢
            cases bz <;> first | rfl | (exfalso; simp at h)
        · skip
          by_cases g4 : t = 0
          · skip
            have HL2 := HL
            rw [decide_eq_true g1, decide_eq_false p1, decide_eq_false g3, decide_eq_true g4] at HL2
            have e1 : (m : Int) ≤ (n : Int) := by omega
            have e2 : ((p : Int) == (m : Int)) = false := by simp; omega
            have e3 : decide (0 ≤ q) = false := by simp; omega
            have e4 : decide (t ≠ 0) = false := by simp; omega
            rw [e4]
            clear g1 g3 g4 p1
            go_wp2_with fail
            refine (Prefix_bs _ HA.out HB.out).mono ?_
            rintro e w2 ⟨rfl, hb⟩
            have KB2 := Lib.hid (Below.thn KB.out hb)
            have HA_2 := Lib.hid (HA.out.below hb)
            have HB_2 := Lib.hid (HB.out.below hb)
            have HX_2 := Lib.hid (HX.out.below hb)
            clear hb KB HA HB HX
            have KB := KB2
            clear KB2
            have HA := HA_2
            clear HA_2
            have HB := HB_2
            clear HB_2
            have HX := HX_2
            clear HX_2
            rw [← HP.out]
            go_wp2_with fail
            refine (Compare_bs _ HA.out HB.out).mono ?_
            rintro e w3 ⟨rfl, hb⟩
            have KB3 := Lib.hid (Below.thn KB.out hb)
            have HA_3 := Lib.hid (HA.out.below hb)
            have HB_3 := Lib.hid (HB.out.below hb)
            have HX_3 := Lib.hid (HX.out.below hb)
            clear hb KB HA HB HX
            have KB := KB3
            clear KB3
            have HA := HA_3
            clear HA_3
            have HB := HB_3
            clear HB_3
            have HX := HX_3
            clear HX_3
            rw [← HQ.out]
            go_wp2
            go_ret
            refine ⟨?_, KB.out⟩
            have h := HL2.out
            generalize decide (z < 0) = bz at h ⊢
            cases bz <;> first | rfl | (exfalso; simp at h)
          · skip
            have HL2 := HL
            rw [decide_eq_true g1, decide_eq_false p1, decide_eq_false g3, decide_eq_false g4] at HL2
            have e1 : (m : Int) ≤ (n : Int) := by omega
            have e2 : ((p : Int) == (m : Int)) = false := by simp; omega
            have e3 : decide (0 ≤ q) = false := by simp; omega
            have e4 : decide (t ≠ 0) = true := by simp; omega
            rw [e4]
            clear g1 g3 g4 p1
            go_wp2_with fail
            refine (Prefix_bs _ HA.out HB.out).mono ?_
            rintro e w2 ⟨rfl, hb⟩
            have KB2 := Lib.hid (Below.thn KB.out hb)
            have HA_2 := Lib.hid (HA.out.below hb)
            have HB_2 := Lib.hid (HB.out.below hb)
            have HX_2 := Lib.hid (HX.out.below hb)
            clear hb KB HA HB HX
            have KB := KB2
            clear KB2
            have HA := HA_2
            clear HA_2
            have HB := HB_2
            clear HB_2
            have HX := HX_2
            clear HX_2
            rw [← HP.out]
            go_wp2_with fail
            refine (Compare_bs _ HA.out HB.out).mono ?_
            rintro e w3 ⟨rfl, hb⟩
            have KB3 := Lib.hid (Below.thn KB.out hb)
            have HA_3 := Lib.hid (HA.out.below hb)
            have HB_3 := Lib.hid (HB.out.below hb)
            have HX_3 := Lib.hid (HX.out.below hb)
            clear hb KB HA HB HX
            have KB := KB3
            clear KB3
            have HA := HA_3
            clear HA_3
            have HB := HB_3
            clear HB_3
            have HX := HX_3
            clear HX_3
            rw [← HQ.out]
            go_wp2
            go_ret
            refine ⟨?_, KB.out⟩
            have h := HL2.out
            generalize decide (z < 0) = bz at h ⊢
            cases bz <;> first | rfl | (exfalso; simp at h)
    · skip
      by_cases g3 : 0 ≤ q
      · skip
        by_cases g4 : t = 0
        · skip
          have HL2 := HL
          rw [decide_eq_false g1, decide_eq_true g3, decide_eq_true g4] at HL2
          exact absurd HL2.out (by simp)
        · skip
          have HL2 := HL
          rw [decide_eq_false g1, decide_eq_true g3, decide_eq_false g4] at HL2
          have e1 : ¬ (m : Int) ≤ (n : Int) := by omega
          have e3 : decide (0 ≤ q) = true := by simp; omega
          have e4 : decide (t ≠ 0) = true := by simp; omega
          rw [e4]
          clear g1 g3 g4
          go_wp2_with fail
          refine (Compare_bs _ HA.out HB.out).mono ?_
          rintro e w2 ⟨rfl, hb⟩
          have KB2 := Lib.hid (Below.thn KB.out hb)
          have HA_2 := Lib.hid (HA.out.below hb)
          have HB_2 := Lib.hid (HB.out.below hb)
          have HX_2 := Lib.hid (HX.out.below hb)
          clear hb KB HA HB HX
          have KB := KB2
          clear KB2
          have HA := HA_2
          clear HA_2
          have HB := HB_2
          clear HB_2
          have HX := HX_2
          clear HX_2
          rw [← HQ.out]
          go_wp2_with fail
          refine (Compare_bs _ HA.out HX.out).mono ?_
          rintro e w3 ⟨rfl, hb⟩
          have KB3 := Lib.hid (Below.thn KB.out hb)
          clear hb KB
          have KB := KB3
          clear KB3
          rw [← HZ.out]
          go_wp2
          go_ret
          refine ⟨?_, KB.out⟩
          have h := HL2.out
          generalize decide (z < 0) = bz at h ⊢
          cases bz <;> first | rfl | (exfalso; simp at h)
      · skip
        by_cases g4 : t = 0
        · skip
          have HL2 := HL
          rw [decide_eq_false g1, decide_eq_false g3, decide_eq_true g4] at HL2
          have e1 : ¬ (m : Int) ≤ (n : Int) := by omega
          have e3 : decide (0 ≤ q) = false := by simp; omega
          have e4 : decide (t ≠ 0) = false := by simp; omega
          rw [e4]
          clear g1 g3 g4
          go_wp2_with fail
          refine (Compare_bs _ HA.out HB.out).mono ?_
          rintro e w2 ⟨rfl, hb⟩
          have KB2 := Lib.hid (Below.thn KB.out hb)
          have HA_2 := Lib.hid (HA.out.below hb)
          have HB_2 := Lib.hid (HB.out.below hb)
          have HX_2 := Lib.hid (HX.out.below hb)
          clear hb KB HA HB HX
          have KB := KB2
          clear KB2
          have HA := HA_2
          clear HA_2
          have HB := HB_2
          clear HB_2
          have HX := HX_2
          clear HX_2
          rw [← HQ.out]
          go_wp2
          go_ret
          refine ⟨?_, KB.out⟩
          have h := HL2.out
          generalize decide (z < 0) = bz at h ⊢
          cases bz <;> first | rfl | (exfalso; simp at h)
        · skip
          have HL2 := HL
          rw [decide_eq_false g1, decide_eq_false g3, decide_eq_false g4] at HL2
          have e1 : ¬ (m : Int) ≤ (n : Int) := by omega
          have e3 : decide (0 ≤ q) = false := by simp; omega
          have e4 : decide (t ≠ 0) = true := by simp; omega
          rw [e4]
          clear g1 g3 g4
          go_wp2_with fail
          refine (Compare_bs _ HA.out HB.out).mono ?_
          rintro e w2 ⟨rfl, hb⟩
          have KB2 := Lib.hid (Below.thn KB.out hb)
          have HA_2 := Lib.hid (HA.out.below hb)
          have HB_2 := Lib.hid (HB.out.below hb)
          have HX_2 := Lib.hid (HX.out.below hb)
          clear hb KB HA HB HX
          have KB := KB2
          clear KB2
          have HA := HA_2
          clear HA_2
          have HB := HB_2
          clear HB_2
          have HX := HX_2
          clear HX_2
          rw [← HQ.out]
          go_wp2
          go_ret
          refine ⟨?_, KB.out⟩
          have h := HL2.out
          generalize decide (z < 0) = bz at h ⊢
          cases bz <;> first | rfl | (exfalso; simp at h)
end Go.Proofs.Ytljnfciolalbdaa
