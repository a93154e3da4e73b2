/- The document's reader: numbers. -/
import Derived.Test.YtmonlookmnlgnaaRefReader
namespace Go.Proofs.Ytmonlookmnlgnaa
open Go.RowKit
set_option linter.unusedVariables false
set_option linter.unusedSimpArgs false

theorem rawI_nat (k : Nat) (l : List Nat) (e : Int) : rawI (k : Int) l e = rawL k l e := by
  unfold rawI
  by_cases h : e = 0
  · rw [if_pos h, if_neg (by omega), h]; rfl
  · rw [if_neg h, rawL_err h]
set_option maxRecDepth 100000 in
set_option maxHeartbeats 4000000 in
theorem rVar_any {w : World} {g : Nat} {l : List Nat} {e : Int} {z : Nat} (h : Rf w g l e z) (hz : z < w.heap.size) (hl : l.length ≤ 70368744177600) :
    Calls Try.prog 42 #[.pointer (some ⟨g, 0, none⟩)] w fun e' w' => e' = .returned (.int .u32 (if e = 0 then (takeV l).1 else 0 : Nat)) ∧ Rf w' g (if e = 0 then takeR l else l) (if e = 0 then (takeV l).2 else e) z ∧ w.grownBy w' (some g) := by
  have HH := Lib.hid h
  have k1 := h.err
  by_cases h0 : e = 0
  · subst h0
    simp only [if_true]
    obtain ⟨A, n, c, k0, hnc, hc, k3, _⟩ := h.b
    have kf := h.f0
    have HR := Lib.hid k3
    have hn := k3.max
    have HCF := Lib.hid (fun e2 => rfail_any h e2)
    have HF := Lib.hid (fun e2 => h.fail e2)
    have HL : Hid (l.length ≤ 70368744177600 ∧ z < w.heap.size ∧ g < w.heap.size) := ⟨hl, hz, h.lt⟩
    clear h k3 hl hz
    go_enter Try.func42, Try.ntmps42
    go_wp2_with fail
    go_loop [3, 4, 5] (fun y t x => ∃ i v T : Nat, x = .int .i64 i ∧ y = .int .u64 v ∧ t = .int .u64 T ∧ i ≤ 4 ∧ T ≤ 268435456 ∧ v < T ∧ Hid (T = 128 ^ i) ∧ Hid (takeV l = tvF (l.drop i) i v) ∧ Hid (tvN l 0 = tvN (l.drop i) i) ∧ Hid (i ≤ n)) (fun _ _ x => 5 - (intOf x).toNat)
    case atStart => exact ⟨0, 0, 1, rfl, rfl, rfl, by decide, by decide, by decide, Lib.hid rfl, Lib.hid rfl, Lib.hid rfl, Lib.hid (Nat.zero_le _)⟩
    case round =>
      rename_i hwr
      clear hwr
      obtain ⟨i, v, T, rfl, rfl, rfl, hi4, hT, hv, HT, HV, HNN, HI⟩ := hrel
      by_cases hlt : (i : Int) < (n : Int)
      · have hltn : i < n := by omega
        obtain ⟨ad, x, rfl, HX, hxb, hcell⟩ := HR.out.at (k := i) hltn
        have hD : l.drop i = x :: l.drop (i + 1) := by
          have hil : i < l.length := by rw [HR.out.len]; omega
          rw [List.drop_eq_getElem_cons hil, HX.out, List.getD_eq_getElem?_getD, List.getElem?_eq_getElem hil]
          rfl
        have HD := Lib.hid hD
        clear hD
        obtain ⟨y, hy⟩ : ∃ y, y = x % 128 * T := ⟨_, rfl⟩
        have hyb : y ≤ 127 * T := by rw [hy]; exact Nat.mul_le_mul_right _ (by omega)
        have e1 : ((x : Int) % 128) * (T : Int) = (y : Int) := by rw [hy, Int.natCast_mul]; rfl
        have HY := Lib.hid hy
        clear hy
        have g9 : (i : Int) < 5 := by omega
        rcases (show (i = 4 ∧ 15 < x) ∨ (i = 4 ∧ x = 0) ∨ (i = 4 ∧ 0 < x ∧ x ≤ 15) ∨ (i = 0 ∧ x < 128) ∨ (i = 0 ∧ 128 ≤ x) ∨ (0 < i ∧ i < 4 ∧ x = 0) ∨ (0 < i ∧ i < 4 ∧ 0 < x ∧ x < 128) ∨ (0 < i ∧ i < 4 ∧ 128 ≤ x) from by omega) with hca | hca | hca | hca | hca | hca | hca | hca
        · have b_p4 : ((i : Int) == 4) = true := by simp; omega
          have b_gt : decide (15 < (x : Int)) = true := by simp; omega
          have q_gt : 15 < (x : Int) := by omega
          have r_gt : 15 < x := by omega
          have hbad : (i = 4 ∧ 15 < x) ∨ (0 < i ∧ x = 0) := by omega
          have h1 : takeV l = (0, 11) := by rw [HV.out, HD.out, tvF, if_pos hbad]
          have hr : takeR l = l := by unfold takeR; rw [h1]; rfl
          have HRR := Lib.hid hr
          have HH2 := Lib.hid h1
          have HCF' := Lib.hid (HCF.out 11)
          have HF' := Lib.hid (HF.out 11)
          clear hca hbad h1 hr HCF HF
          go_wp2_with fail
          refine HCF'.out.mono ?_
          rintro e w2 ⟨rfl, rfl⟩
          go_wp2
          go_ret
          rw [HRR.out, HH2.out]
          exact ⟨rfl, HF'.out.1, HF'.out.2⟩
        · have b_p4 : ((i : Int) == 4) = true := by simp; omega
          have b_pos : decide (0 < (i : Int)) = true := by simp; omega
          have q_pos : 0 < (i : Int) := by omega
          have r_pos : 0 < i := by omega
          have b_gt : decide (15 < (x : Int)) = false := by simp; omega
          have q_gt : ¬ (15 < (x : Int)) := by omega
          have r_gt : ¬ 15 < x := by omega
          have b_z : ((x : Int) == 0) = true := by simp; omega
          have hbad : (i = 4 ∧ 15 < x) ∨ (0 < i ∧ x = 0) := by omega
          have h1 : takeV l = (0, 11) := by rw [HV.out, HD.out, tvF, if_pos hbad]
          have hr : takeR l = l := by unfold takeR; rw [h1]; rfl
          have HRR := Lib.hid hr
          have HH2 := Lib.hid h1
          have HCF' := Lib.hid (HCF.out 11)
          have HF' := Lib.hid (HF.out 11)
          clear hca hbad h1 hr HCF HF
          go_wp2_with fail
          refine HCF'.out.mono ?_
          rintro e w2 ⟨rfl, rfl⟩
          go_wp2
          go_ret
          rw [HRR.out, HH2.out]
          exact ⟨rfl, HF'.out.1, HF'.out.2⟩
        · have b_p4 : ((i : Int) == 4) = true := by simp; omega
          have b_pos : decide (0 < (i : Int)) = true := by simp; omega
          have q_pos : 0 < (i : Int) := by omega
          have r_pos : 0 < i := by omega
          have b_gt : decide (15 < (x : Int)) = false := by simp; omega
          have q_gt : ¬ (15 < (x : Int)) := by omega
          have r_gt : ¬ 15 < x := by omega
          have b_z : ((x : Int) == 0) = false := by simp; omega
          have q_z : ¬ ((x : Int) = 0) := by omega
          have b_lt : decide ((x : Int) < 128) = true := by simp; omega
          have q_lt : (x : Int) < 128 := by omega
          have r_lt : x < 128 := by omega
          have hbad : ¬ ((i = 4 ∧ 15 < x) ∨ (0 < i ∧ x = 0)) := by omega
          have h1 : takeV l = (v + x * 128 ^ i, 0) := by rw [HV.out, HD.out, tvF, if_neg hbad, if_pos (by omega)]
          have h2 : tvN l 0 = i + 1 := by rw [HNN.out, HD.out, tvN, if_neg hbad, if_pos (by omega)]
          have hr : takeR l = l.drop (i + 1) := by unfold takeR; rw [h1, h2]; rfl
          have HRR := Lib.hid hr
          have hyx : y = x * 128 ^ i := by rw [HY.out, Nat.mod_eq_of_lt (by omega), HT.out]
          have HH2 : Hid (takeV l = (v + y, 0)) := Lib.hid (by rw [h1, hyx])
          have hy32 : v + y < 4294967296 := by
            have h5 : y = x * T := by rw [hyx, HT.out]
            have hTi := HT.out
            rcases (show i = 0 ∨ i = 1 ∨ i = 2 ∨ i = 3 ∨ i = 4 by omega) with rfl | rfl | rfl | rfl | rfl <;> omega
          have HBS2 : Hid (BS w (.slice (cutAt (some ad) c (i + 1)) (n - (i + 1)) (c - (i + 1))) (l.drop (i + 1))) := Lib.hid ((HR.out.cut (c := c) (k := i + 1) (by omega) hnc).bs (by omega) (by omega))
          have HLD : Hid ((l.drop (i + 1)).length ≤ 70368744177600) := Lib.hid (by have := HL.out.1; rw [List.length_drop]; omega)
          have q31 : ((v : Int) + (y : Int)) % 4294967296 = ((v + y : Nat) : Int) := by omega
          have Q31 := Lib.hid q31
          clear hca hbad h1 h2 hr hyx q31
          go_wp2_with fail
          all_goals
            have hbs2 := HBS2.out
            unfold cutAt at hbs2
            first
              | (have hcase : ¬ c = i + 1 := by assumption
                 rw [if_neg hcase] at hbs2)
              | (have hcase : c = i + 1 := by assumption
                 rw [if_pos hcase, show c - (i + 1) = 0 from by omega] at hbs2)
            refine (Join_bs w (BS.nil w) hbs2 (by have := HLD.out; simp only [List.length_nil]; omega)).mono ?_
            rintro e w2 ⟨r2, rfl, ho2, hb2⟩
            rw [List.nil_append] at ho2
            obtain ⟨A2, n2, c2', rfl⟩ := ho2.sh
            have HO2 := Lib.hid ho2
            have HB2 := Lib.hid hb2
            have HF2 := Lib.hid (HH.out.below hb2)
            have c1 := (hb2.cell (cell_lt' k0)).trans k0
            have c2 := HF2.out.f0
            clear ho2 hb2 k0 hbs2
            go_wp2
            go_ret
            rw [HRR.out, HH2.out]
            have hp := HF2.out.put HO2.out ⟨HL.out.2.2, HL.out.2.1⟩
            refine ⟨?_, hp.1, (grown_below HB2.out _).trans hp.2⟩
            first
              | exact congrArg (fun z => Ending.returned (Value.int .u32 z)) Q31.out
              | rfl
        · have b_p4 : ((i : Int) == 4) = false := by simp; omega
          have q_p4 : ¬ ((i : Int) = 4) := by omega
          have b_pos : decide (0 < (i : Int)) = false := by simp; omega
          have b_lt : decide ((x : Int) < 128) = true := by simp; omega
          have q_lt : (x : Int) < 128 := by omega
          have r_lt : x < 128 := by omega
          have hbad : ¬ ((i = 4 ∧ 15 < x) ∨ (0 < i ∧ x = 0)) := by omega
          have h1 : takeV l = (v + x * 128 ^ i, 0) := by rw [HV.out, HD.out, tvF, if_neg hbad, if_pos (by omega)]
          have h2 : tvN l 0 = i + 1 := by rw [HNN.out, HD.out, tvN, if_neg hbad, if_pos (by omega)]
          have hr : takeR l = l.drop (i + 1) := by unfold takeR; rw [h1, h2]; rfl
          have HRR := Lib.hid hr
          have hyx : y = x * 128 ^ i := by rw [HY.out, Nat.mod_eq_of_lt (by omega), HT.out]
          have HH2 : Hid (takeV l = (v + y, 0)) := Lib.hid (by rw [h1, hyx])
          have hy32 : v + y < 4294967296 := by
            have h5 : y = x * T := by rw [hyx, HT.out]
            have hTi := HT.out
            rcases (show i = 0 ∨ i = 1 ∨ i = 2 ∨ i = 3 ∨ i = 4 by omega) with rfl | rfl | rfl | rfl | rfl <;> omega
          have HBS2 : Hid (BS w (.slice (cutAt (some ad) c (i + 1)) (n - (i + 1)) (c - (i + 1))) (l.drop (i + 1))) := Lib.hid ((HR.out.cut (c := c) (k := i + 1) (by omega) hnc).bs (by omega) (by omega))
          have HLD : Hid ((l.drop (i + 1)).length ≤ 70368744177600) := Lib.hid (by have := HL.out.1; rw [List.length_drop]; omega)
          have q31 : ((v : Int) + (y : Int)) % 4294967296 = ((v + y : Nat) : Int) := by omega
          have Q31 := Lib.hid q31
          clear hca hbad h1 h2 hr hyx q31
          go_wp2_with fail
          all_goals (try (exfalso; have hb0 := of_decide_eq_false b_pos; omega))
          all_goals
            have hbs2 := HBS2.out
            unfold cutAt at hbs2
            first
              | (have hcase : ¬ c = i + 1 := by assumption
                 rw [if_neg hcase] at hbs2)
              | (have hcase : c = i + 1 := by assumption
                 rw [if_pos hcase, show c - (i + 1) = 0 from by omega] at hbs2)
            refine (Join_bs w (BS.nil w) hbs2 (by have := HLD.out; simp only [List.length_nil]; omega)).mono ?_
            rintro e w2 ⟨r2, rfl, ho2, hb2⟩
            rw [List.nil_append] at ho2
            obtain ⟨A2, n2, c2', rfl⟩ := ho2.sh
            have HO2 := Lib.hid ho2
            have HB2 := Lib.hid hb2
            have HF2 := Lib.hid (HH.out.below hb2)
            have c1 := (hb2.cell (cell_lt' k0)).trans k0
            have c2 := HF2.out.f0
            clear ho2 hb2 k0 hbs2
            go_wp2
            go_ret
            rw [HRR.out, HH2.out]
            have hp := HF2.out.put HO2.out ⟨HL.out.2.2, HL.out.2.1⟩
            refine ⟨?_, hp.1, (grown_below HB2.out _).trans hp.2⟩
            first
              | exact congrArg (fun z => Ending.returned (Value.int .u32 z)) Q31.out
              | rfl
        · have b_p4 : ((i : Int) == 4) = false := by simp; omega
          have q_p4 : ¬ ((i : Int) = 4) := by omega
          have b_pos : decide (0 < (i : Int)) = false := by simp; omega
          have b_lt : decide ((x : Int) < 128) = false := by simp; omega
          have q_lt : ¬ ((x : Int) < 128) := by omega
          have r_lt : ¬ x < 128 := by omega
          have hbad : ¬ ((i = 4 ∧ 15 < x) ∨ (0 < i ∧ x = 0)) := by omega
          have h1 : takeV l = tvF (l.drop (i + 1)) (i + 1) (v + x % 128 * 128 ^ i) := by rw [HV.out, HD.out, tvF, if_neg hbad, if_neg (by omega)]
          have h2 : tvN l 0 = tvN (l.drop (i + 1)) (i + 1) := by rw [HNN.out, HD.out, tvN, if_neg hbad, if_neg (by omega)]
          rw [← HT.out, ← HY.out] at h1
          have h3 := Lib.hid (And.intro h1 h2)
          have hi3 : Hid (i < 4) := Lib.hid (by omega)
          have hT2 : Hid (T * 128 = 128 ^ (i + 1) ∧ T * 128 ≤ 268435456) := Lib.hid (by
            have hTi := HT.out
            have hlt4 := hi3.out
            rw [hTi]
            refine ⟨(Nat.pow_succ ..).symm, ?_⟩
            rcases (show i = 0 ∨ i = 1 ∨ i = 2 ∨ i = 3 by omega) with rfl | rfl | rfl | rfl <;> omega)
          have HIn : Hid (i + 1 ≤ n) := Lib.hid (by omega)
          clear hca hbad h1 h2
          go_wp2
          all_goals
            have hi5 := hi3.out
            have hT3 := hT2.out.2
            exact ⟨⟨i + 1, v + y, T * 128, by go_num, by simp, by simp, by omega, hT2.out.2, by omega, hT2.out.1, h3.out.1, h3.out.2, HIn⟩, by simp [intOf]; omega⟩
        · have b_p4 : ((i : Int) == 4) = false := by simp; omega
          have q_p4 : ¬ ((i : Int) = 4) := by omega
          have b_pos : decide (0 < (i : Int)) = true := by simp; omega
          have q_pos : 0 < (i : Int) := by omega
          have r_pos : 0 < i := by omega
          have b_z : ((x : Int) == 0) = true := by simp; omega
          have hbad : (i = 4 ∧ 15 < x) ∨ (0 < i ∧ x = 0) := by omega
          have h1 : takeV l = (0, 11) := by rw [HV.out, HD.out, tvF, if_pos hbad]
          have hr : takeR l = l := by unfold takeR; rw [h1]; rfl
          have HRR := Lib.hid hr
          have HH2 := Lib.hid h1
          have HCF' := Lib.hid (HCF.out 11)
          have HF' := Lib.hid (HF.out 11)
          clear hca hbad h1 hr HCF HF
          go_wp2_with fail
          refine HCF'.out.mono ?_
          rintro e w2 ⟨rfl, rfl⟩
          go_wp2
          go_ret
          rw [HRR.out, HH2.out]
          exact ⟨rfl, HF'.out.1, HF'.out.2⟩
        · have b_p4 : ((i : Int) == 4) = false := by simp; omega
          have q_p4 : ¬ ((i : Int) = 4) := by omega
          have b_pos : decide (0 < (i : Int)) = true := by simp; omega
          have q_pos : 0 < (i : Int) := by omega
          have r_pos : 0 < i := by omega
          have b_z : ((x : Int) == 0) = false := by simp; omega
          have q_z : ¬ ((x : Int) = 0) := by omega
          have b_lt : decide ((x : Int) < 128) = true := by simp; omega
          have q_lt : (x : Int) < 128 := by omega
          have r_lt : x < 128 := by omega
          have hbad : ¬ ((i = 4 ∧ 15 < x) ∨ (0 < i ∧ x = 0)) := by omega
          have h1 : takeV l = (v + x * 128 ^ i, 0) := by rw [HV.out, HD.out, tvF, if_neg hbad, if_pos (by omega)]
          have h2 : tvN l 0 = i + 1 := by rw [HNN.out, HD.out, tvN, if_neg hbad, if_pos (by omega)]
          have hr : takeR l = l.drop (i + 1) := by unfold takeR; rw [h1, h2]; rfl
          have HRR := Lib.hid hr
          have hyx : y = x * 128 ^ i := by rw [HY.out, Nat.mod_eq_of_lt (by omega), HT.out]
          have HH2 : Hid (takeV l = (v + y, 0)) := Lib.hid (by rw [h1, hyx])
          have hy32 : v + y < 4294967296 := by
            have h5 : y = x * T := by rw [hyx, HT.out]
            have hTi := HT.out
            rcases (show i = 0 ∨ i = 1 ∨ i = 2 ∨ i = 3 ∨ i = 4 by omega) with rfl | rfl | rfl | rfl | rfl <;> omega
          have HBS2 : Hid (BS w (.slice (cutAt (some ad) c (i + 1)) (n - (i + 1)) (c - (i + 1))) (l.drop (i + 1))) := Lib.hid ((HR.out.cut (c := c) (k := i + 1) (by omega) hnc).bs (by omega) (by omega))
          have HLD : Hid ((l.drop (i + 1)).length ≤ 70368744177600) := Lib.hid (by have := HL.out.1; rw [List.length_drop]; omega)
          have q31 : ((v : Int) + (y : Int)) % 4294967296 = ((v + y : Nat) : Int) := by omega
          have Q31 := Lib.hid q31
          clear hca hbad h1 h2 hr hyx q31
          go_wp2_with fail
          all_goals
            have hbs2 := HBS2.out
            unfold cutAt at hbs2
            first
              | (have hcase : ¬ c = i + 1 := by assumption
                 rw [if_neg hcase] at hbs2)
              | (have hcase : c = i + 1 := by assumption
                 rw [if_pos hcase, show c - (i + 1) = 0 from by omega] at hbs2)
            refine (Join_bs w (BS.nil w) hbs2 (by have := HLD.out; simp only [List.length_nil]; omega)).mono ?_
            rintro e w2 ⟨r2, rfl, ho2, hb2⟩
            rw [List.nil_append] at ho2
            obtain ⟨A2, n2, c2', rfl⟩ := ho2.sh
            have HO2 := Lib.hid ho2
            have HB2 := Lib.hid hb2
            have HF2 := Lib.hid (HH.out.below hb2)
            have c1 := (hb2.cell (cell_lt' k0)).trans k0
            have c2 := HF2.out.f0
            clear ho2 hb2 k0 hbs2
            go_wp2
            go_ret
            rw [HRR.out, HH2.out]
            have hp := HF2.out.put HO2.out ⟨HL.out.2.2, HL.out.2.1⟩
            refine ⟨?_, hp.1, (grown_below HB2.out _).trans hp.2⟩
            first
              | exact congrArg (fun z => Ending.returned (Value.int .u32 z)) Q31.out
              | rfl
        · have b_p4 : ((i : Int) == 4) = false := by simp; omega
          have q_p4 : ¬ ((i : Int) = 4) := by omega
          have b_pos : decide (0 < (i : Int)) = true := by simp; omega
          have q_pos : 0 < (i : Int) := by omega
          have r_pos : 0 < i := by omega
          have b_z : ((x : Int) == 0) = false := by simp; omega
          have q_z : ¬ ((x : Int) = 0) := by omega
          have b_lt : decide ((x : Int) < 128) = false := by simp; omega
          have q_lt : ¬ ((x : Int) < 128) := by omega
          have r_lt : ¬ x < 128 := by omega
          have hbad : ¬ ((i = 4 ∧ 15 < x) ∨ (0 < i ∧ x = 0)) := by omega
          have h1 : takeV l = tvF (l.drop (i + 1)) (i + 1) (v + x % 128 * 128 ^ i) := by rw [HV.out, HD.out, tvF, if_neg hbad, if_neg (by omega)]
          have h2 : tvN l 0 = tvN (l.drop (i + 1)) (i + 1) := by rw [HNN.out, HD.out, tvN, if_neg hbad, if_neg (by omega)]
          rw [← HT.out, ← HY.out] at h1
          have h3 := Lib.hid (And.intro h1 h2)
          have hi3 : Hid (i < 4) := Lib.hid (by omega)
          have hT2 : Hid (T * 128 = 128 ^ (i + 1) ∧ T * 128 ≤ 268435456) := Lib.hid (by
            have hTi := HT.out
            have hlt4 := hi3.out
            rw [hTi]
            refine ⟨(Nat.pow_succ ..).symm, ?_⟩
            rcases (show i = 0 ∨ i = 1 ∨ i = 2 ∨ i = 3 by omega) with rfl | rfl | rfl | rfl <;> omega)
          have HIn : Hid (i + 1 ≤ n) := Lib.hid (by omega)
          clear hca hbad h1 h2
          go_wp2
          all_goals
            have hi5 := hi3.out
            have hT3 := hT2.out.2
            exact ⟨⟨i + 1, v + y, T * 128, by go_num, by simp, by simp, by omega, hT2.out.2, by omega, hT2.out.1, h3.out.1, h3.out.2, HIn⟩, by simp [intOf]; omega⟩
      · have h10 : l.drop i = [] := by rw [List.drop_eq_nil_iff, HR.out.len]; omega
        have h1 : takeV l = (0, 10) := by rw [HV.out, h10]; rfl
        have hr : takeR l = l := by unfold takeR; rw [h1]; rfl
        have HRR := Lib.hid hr
        have HH2 := Lib.hid h1
        have HCF' := Lib.hid (HCF.out 10)
        have HF' := Lib.hid (HF.out 10)
        have g9 : (i : Int) < 5 := by omega
        clear h10 h1 hr HCF HF
        go_wp2_with fail
        refine HCF'.out.mono ?_
        rintro e w2 ⟨rfl, rfl⟩
        go_wp2
        go_ret
        rw [HRR.out, HH2.out]
        exact ⟨rfl, HF'.out.1, HF'.out.2⟩
  · have hb : (e == 0) = false := by simp [h0]
    have hb2 : (e != 0) = true := by simp [h0]
    simp only [if_neg h0]
    clear h h0
    go_enter Try.func42, Try.ntmps42
    go_wp2
    go_ret
    exact ⟨rfl, HH.out, World.grownBy.refl w _⟩
end Go.Proofs.Ytmonlookmnlgnaa
