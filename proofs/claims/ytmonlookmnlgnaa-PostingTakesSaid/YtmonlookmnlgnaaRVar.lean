/- A short number is taken. -/
import Derived.Test.YtmonlookmnlgnaaReader
namespace Go.Proofs.Ytmonlookmnlgnaa
open Go.RowKit
set_option linter.unusedVariables false
set_option linter.unusedSimpArgs false

/-- What taking a short number answers, from its byte i on, v being taken: the number and its error. -/
def tvF : List Nat → Nat → Nat → Nat × Int
  | [], _, _ => (0, 10)
  | c :: r, i, v => if (i = 4 ∧ 15 < c) ∨ (0 < i ∧ c = 0) then (0, 11) else if c < 128 then (v + c * 128 ^ i, 0) else tvF r (i + 1) (v + c % 128 * 128 ^ i)
/-- How many bytes are taken. -/
def tvN : List Nat → Nat → Nat
  | [], i => i
  | c :: r, i => if (i = 4 ∧ 15 < c) ∨ (0 < i ∧ c = 0) then i else if c < 128 then i + 1 else tvN r (i + 1)
def takeV (l : List Nat) : Nat × Int := tvF l 0 0
def takeR (l : List Nat) : List Nat := if (takeV l).2 = 0 then l.drop (tvN l 0) else l

theorem bits_or_u32 (v x i : Nat) (hv : v < 2 ^ i) (hx : v + x * 2 ^ i < 4294967296) : bits .or .u32 (v : Int) ((x * 2 ^ i : Nat) : Int) = ((v + x * 2 ^ i : Nat) : Int) := by
  show IntKind.u32.wrap ((BitVec.ofInt 32 (v : Int) ||| BitVec.ofInt 32 ((x * 2 ^ i : Nat) : Int)).toNat : Int) = _
  rw [BitVec.toNat_or, BitVec.ofInt_natCast, BitVec.ofInt_natCast, BitVec.toNat_ofNat, BitVec.toNat_ofNat, Nat.mod_eq_of_lt (show v < 2 ^ 32 by omega), Nat.mod_eq_of_lt (show x * 2 ^ i < 2 ^ 32 by omega)]
  rw [Nat.or_comm, Nat.mul_comm x, ← Nat.two_pow_add_eq_or_of_lt hv, Nat.add_comm (2 ^ i * x) v, Nat.mul_comm (2 ^ i) x]
  generalize x * 2 ^ i = y at *
  rw [IntKind.wrap_u32]; omega
theorem bits_and_u8 : ∀ (a : Nat), a < 256 → bits .and .u8 (a : Int) 127 = ((a % 128 : Nat) : Int) := by decide +kernel

theorem shl_or (v x i : Nat) (hi : i ≤ 4) (hv : v < 128 ^ i) (hx : x < 128 ∧ (i = 4 → x ≤ 15)) : bits .or .u32 (v : Int) ((x : Int) * 2 ^ (7 * i) % 4294967296) = ((v + x * 128 ^ i : Nat) : Int) := by
  have e : (128 : Nat) ^ i = 2 ^ (7 * i) := by rw [Nat.pow_mul]
  rw [e] at hv ⊢
  have hb : 2 ^ (7 * i) + x * 2 ^ (7 * i) ≤ 4294967296 := by
    rcases (show i = 0 ∨ i = 1 ∨ i = 2 ∨ i = 3 ∨ i = 4 by omega) with rfl | rfl | rfl | rfl | rfl <;> omega
  have e2 : (x : Int) * 2 ^ (7 * i) % 4294967296 = ((x * 2 ^ (7 * i) : Nat) : Int) := by
    have e3 : (x : Int) * 2 ^ (7 * i) = ((x * 2 ^ (7 * i) : Nat) : Int) := by rw [Int.natCast_mul, Int.natCast_pow]; rfl
    rw [e3]
    have h0 := Nat.two_pow_pos (7 * i)
    omega
  rw [e2]
  exact bits_or_u32 v x (7 * i) hv (by omega)

theorem shl_lt (v x i : Nat) (hi : i < 4) (hv : v < 128 ^ i) (hx : x < 128) : v + x * 128 ^ i < 128 ^ (i + 1) ∧ v + x * 128 ^ i < 4294967296 := by
  rcases (show i = 0 ∨ i = 1 ∨ i = 2 ∨ i = 3 by omega) with rfl | rfl | rfl | rfl <;> omega

set_option maxRecDepth 100000 in
set_option maxHeartbeats 4000000 in
theorem RVar_any {w : World} {g : Nat} {l : List Nat} {lo hi : Nat} (h : Rdr w g l 0 lo hi) :
    Calls Try.prog 38 #[.pointer (some ⟨g, 0, none⟩)] w fun e' w' => e' = .returned (.int .u32 ((takeV l).1 : Nat)) ∧ Rdr w' g (takeR l) (takeV l).2 lo hi ∧ w.grownBy w' (some g) := by
  have H := Lib.hid h
  have C0 := Lib.hid (none_any h)
  have CF := Lib.hid (fun e2 => fails_any h e2)
  have HF := Lib.hid (fun e2 => h.fail e2)
  obtain ⟨A, n, c, k0, hnc, hc, k3, k4⟩ := h.b
  have kf := h.f0
  have HR := Lib.hid k3
  have hn := k3.max
  clear h k3 k4
  rw [show decide ((0 : Int) ≠ 0) = false by decide] at C0
  go_enter Try.func38, Try.ntmps38
  go_wp2
  go_step3
  go_wp2_with fail
  refine C0.out.mono ?_
  rintro e w1 ⟨rfl, rfl⟩
  go_wp2
  go_step3
  go_wp2_with fail
  go_loop [3, 4, 14] (fun y z x => ∃ i v : Nat, x = .int .i64 i ∧ y = .int .u32 v ∧ z = .int .i64 10 ∧ i ≤ n ∧ i ≤ 4 ∧ v < 4294967296 ∧ Hid (v < 128 ^ i) ∧ Hid (takeV l = tvF (l.drop i) i v) ∧ Hid (tvN l 0 = tvN (l.drop i) i)) (fun _ _ x => n - (intOf x).toNat)
  case atStart => exact ⟨0, 0, rfl, rfl, rfl, Nat.zero_le _, by decide, by decide, by show _ < _; decide, Lib.hid rfl, Lib.hid rfl⟩
  case round =>
    rename_i hwr
    clear hwr
    obtain ⟨i, v, rfl, rfl, rfl, hi, hi4, hv, HV, HT, HNN⟩ := hrel
    by_cases hlt : (i : Int) < (n : Int)
    · obtain ⟨ad, x, rfl, HX, hxb, hcell⟩ := HR.out.at (k := i) (by omega)
      have hD : l.drop i = x :: l.drop (i + 1) := by
        have hil : i < l.length := by rw [HR.out.len]; omega
        rw [List.drop_eq_getElem_cons hil, HX.out, List.getD_eq_getElem?_getD, List.getElem?_eq_getElem hil]
        rfl
      have HD := Lib.hid hD
      clear hD
      rcases (show (i = 4 ∧ 15 < x) ∨ (i = 4 ∧ x = 0) ∨ (i = 4 ∧ 0 < x ∧ x ≤ 15) ∨ (i = 0 ∧ x < 128) ∨ (i = 0 ∧ 128 ≤ x) ∨ (0 < i ∧ i < 4 ∧ x = 0) ∨ (0 < i ∧ i < 4 ∧ 0 < x ∧ x < 128) ∨ (0 < i ∧ i < 4 ∧ 128 ≤ x) from by omega) with hca | hca | hca | hca | hca | hca | hca | hca
      · have b_p4 : ((i : Int) == 4) = true := by simp; omega
        have b_pos : decide (0 < (i : Int)) = true := by simp; omega
        have q_pos : 0 < (i : Int) := by omega
        have r_pos : 0 < i := by omega
        have b_gt : decide (15 < (x : Int)) = true := by simp; omega
        have q_gt : 15 < (x : Int) := by omega
        have r_gt : 15 < x := by omega
        have b_z : ((x : Int) == 0) = false := by simp; omega
        have q_z : ¬ ((x : Int) = 0) := by omega
        have hbad : (i = 4 ∧ 15 < x) ∨ (0 < i ∧ x = 0) := by omega
        have h1 : takeV l = (0, 11) := by rw [HT.out, HD.out, tvF, if_pos hbad]
        have hr : takeR l = l := by unfold takeR; rw [h1]; rfl
        have HRR := Lib.hid hr
        have HH := Lib.hid h1
        have HCF := Lib.hid (CF.out 11)
        have HF' := Lib.hid (HF.out 11)
        clear hca hbad h1 hr CF HF
        go_wp2_with fail
        refine HCF.out.mono ?_
        rintro e w2 ⟨rfl, rfl⟩
        go_wp2
        (try rw [Exit.noGoto_ret])
        go_ret
        rw [HRR.out, HH.out]
        exact ⟨rfl, HF'.out.1, HF'.out.2⟩
      · have b_p4 : ((i : Int) == 4) = true := by simp; omega
        have b_pos : decide (0 < (i : Int)) = true := by simp; omega
        have q_pos : 0 < (i : Int) := by omega
        have r_pos : 0 < i := by omega
        have b_gt : decide (15 < (x : Int)) = false := by simp; omega
        have q_gt : ¬ (15 < (x : Int)) := by omega
        have r_gt : ¬ 15 < x := by omega
        have b_z : ((x : Int) == 0) = true := by simp; omega
        have hbad : (i = 4 ∧ 15 < x) ∨ (0 < i ∧ x = 0) := by omega
        have h1 : takeV l = (0, 11) := by rw [HT.out, HD.out, tvF, if_pos hbad]
        have hr : takeR l = l := by unfold takeR; rw [h1]; rfl
        have HRR := Lib.hid hr
        have HH := Lib.hid h1
        have HCF := Lib.hid (CF.out 11)
        have HF' := Lib.hid (HF.out 11)
        clear hca hbad h1 hr CF HF
        go_wp2_with fail
        refine HCF.out.mono ?_
        rintro e w2 ⟨rfl, rfl⟩
        go_wp2
        (try rw [Exit.noGoto_ret])
        go_ret
        rw [HRR.out, HH.out]
        exact ⟨rfl, HF'.out.1, HF'.out.2⟩
      · have b_p4 : ((i : Int) == 4) = true := by simp; omega
        have b_pos : decide (0 < (i : Int)) = true := by simp; omega
        have q_pos : 0 < (i : Int) := by omega
        have r_pos : 0 < i := by omega
        have b_gt : decide (15 < (x : Int)) = false := by simp; omega
        have q_gt : ¬ (15 < (x : Int)) := by omega
        have r_gt : ¬ 15 < x := by omega
        have b_z : ((x : Int) == 0) = false := by simp; omega
        have q_z : ¬ ((x : Int) = 0) := by omega
        have b_lt : decide ((x : Int) < 128) = true := by simp; omega
        have q_lt : (x : Int) < 128 := by omega
        have r_lt : x < 128 := by omega
        have hbad : ¬ ((i = 4 ∧ 15 < x) ∨ (0 < i ∧ x = 0)) := by omega
        have h1 : takeV l = (v + x * 128 ^ i, 0) := by rw [HT.out, HD.out, tvF, if_neg hbad, if_pos (by omega)]
        have h2 : tvN l 0 = i + 1 := by rw [HNN.out, HD.out, tvN, if_neg hbad, if_pos (by omega)]
        have hr : takeR l = l.drop (i + 1) := by unfold takeR; rw [h1, h2]; rfl
        have HRR := Lib.hid hr
        have HH := Lib.hid h1
        have hor := Lib.hid (shl_or v x i hi4 HV.out (by omega))
        have hcu := Lib.hid (H.out.cut k0 (k := i + 1) (by omega))
        clear hca hbad h1 h2 hr
        go_wp2
        all_goals
          (try rw [Exit.noGoto_ret])
          go_ret
          rw [HRR.out, HH.out]
          have hc2 := hcu.out
          unfold cutAt at hc2
          first
            | (have hcase : ¬ c = i + 1 := by assumption
               rw [if_neg hcase] at hc2
               exact ⟨congrArg (fun z => Ending.returned (Value.int .u32 z)) hor.out, hc2.1, hc2.2⟩)
            | (have hcase : c = i + 1 := by assumption
               rw [if_pos hcase, show c - (i + 1) = 0 from by omega] at hc2
               exact ⟨congrArg (fun z => Ending.returned (Value.int .u32 z)) hor.out, hc2.1, hc2.2⟩)
      · obtain ⟨hi0, hx0⟩ := hca
        subst hi0
        have hcell0 : w.cell? ad = some (.int .u8 (x : Int)) := by simpa [Addr.add] using hcell
        have hlt0 : 0 < n := by omega
        clear hcell
        have b_lt : decide ((x : Int) < 128) = true := by simp; omega
        have r_lt : x < 128 := by omega
        have hbad : ¬ ((0 = 4 ∧ 15 < x) ∨ (0 < 0 ∧ x = 0)) := by omega
        have h1 : takeV l = (v + x * 128 ^ 0, 0) := by rw [HT.out, HD.out, tvF, if_neg hbad, if_pos (by omega)]
        have h2 : tvN l 0 = 0 + 1 := by rw [HNN.out, HD.out, tvN, if_neg hbad, if_pos (by omega)]
        have hr : takeR l = l.drop (0 + 1) := by unfold takeR; rw [h1, h2]; rfl
        have HRR := Lib.hid hr
        have HH := Lib.hid h1
        have hor := Lib.hid (shl_or v x 0 hi4 HV.out (by omega))
        have hcu := Lib.hid (H.out.cut k0 (k := 0 + 1) (by omega))
        clear hx0 hbad h1 h2 hr
        go_wp2
        all_goals
          (try rw [Exit.noGoto_ret])
          go_ret
          rw [HRR.out, HH.out]
          have hor2 : bits .or .u32 (v : Int) (x : Int) = ((v + x * 128 ^ 0 : Nat) : Int) := by
            have := hor.out
            rw [show (7 * 0 : Nat) = 0 from rfl, Int.pow_zero, Int.mul_one, Int.emod_eq_of_lt (by omega) (by omega)] at this
            exact this
          have hc2 := hcu.out
          unfold cutAt at hc2
          refine ⟨congrArg (fun z => Ending.returned (Value.int .u32 z)) hor2, ?_⟩
          first
            | (have hcase : ¬ c = 1 := by assumption
               rw [if_neg (by omega)] at hc2
               simpa [Addr.add] using hc2)
            | (have hcase : c = 1 := by assumption
               rw [if_pos (by omega)] at hc2
               subst hcase
               simpa [Addr.add] using hc2)
      · obtain ⟨hi0, hx0⟩ := hca
        subst hi0
        have hcell0 : w.cell? ad = some (.int .u8 (x : Int)) := by simpa [Addr.add] using hcell
        have hlt0 : 0 < n := by omega
        clear hcell
        have b_lt : decide ((x : Int) < 128) = false := by simp; omega
        have r_lt : ¬ x < 128 := by omega
        have hbad : ¬ ((0 = 4 ∧ 15 < x) ∨ (0 < 0 ∧ x = 0)) := by omega
        have hor : Hid (bits .or .u32 (v : Int) (((x : Int) % 128) * 2 ^ (7 * 0) % 4294967296) = ((v + x % 128 * 128 ^ 0 : Nat) : Int)) := Lib.hid <| by
          have := shl_or v (x % 128) 0 hi4 HV.out (by omega)
          rwa [show ((x % 128 : Nat) : Int) = (x : Int) % 128 from by omega] at this
        have hvn := Lib.hid (shl_lt v (x % 128) 0 (by omega) HV.out (by omega))
        have h1 : takeV l = tvF (l.drop (0 + 1)) (0 + 1) (v + x % 128 * 128 ^ 0) := by rw [HT.out, HD.out, tvF, if_neg hbad, if_neg (by omega)]
        have h2 : tvN l 0 = tvN (l.drop (0 + 1)) (0 + 1) := by rw [HNN.out, HD.out, tvN, if_neg hbad, if_neg (by omega)]
        have h3 := Lib.hid (And.intro h1 h2)
        have hand := bits_and_u8 x hxb
        have hi3 : Hid (0 < 4) := Lib.hid (by omega)
        clear hx0 hbad h1 h2
        go_wp2
        have hi5 := hi3.out
        refine ⟨⟨0 + 1, v + x % 128 * 128 ^ 0, by go_num, by have := hor.out; rw [show (7 * 0 : Nat) = 0 from rfl, Int.pow_zero, Int.mul_one, Int.emod_eq_of_lt (by omega) (by omega)] at this; rw [this], rfl, by omega, by omega, hvn.out.2, hvn.out.1, h3.out.1, h3.out.2⟩, by simp [intOf]; omega⟩
      · have b_p4 : ((i : Int) == 4) = false := by simp; omega
        have q_p4 : ¬ ((i : Int) = 4) := by omega
        have b_pos : decide (0 < (i : Int)) = true := by simp; omega
        have q_pos : 0 < (i : Int) := by omega
        have r_pos : 0 < i := by omega
        have b_z : ((x : Int) == 0) = true := by simp; omega
        have hbad : (i = 4 ∧ 15 < x) ∨ (0 < i ∧ x = 0) := by omega
        have h1 : takeV l = (0, 11) := by rw [HT.out, HD.out, tvF, if_pos hbad]
        have hr : takeR l = l := by unfold takeR; rw [h1]; rfl
        have HRR := Lib.hid hr
        have HH := Lib.hid h1
        have HCF := Lib.hid (CF.out 11)
        have HF' := Lib.hid (HF.out 11)
        clear hca hbad h1 hr CF HF
        go_wp2_with fail
        refine HCF.out.mono ?_
        rintro e w2 ⟨rfl, rfl⟩
        go_wp2
        (try rw [Exit.noGoto_ret])
        go_ret
        rw [HRR.out, HH.out]
        exact ⟨rfl, HF'.out.1, HF'.out.2⟩
      · have b_p4 : ((i : Int) == 4) = false := by simp; omega
        have q_p4 : ¬ ((i : Int) = 4) := by omega
        have b_pos : decide (0 < (i : Int)) = true := by simp; omega
        have q_pos : 0 < (i : Int) := by omega
        have r_pos : 0 < i := by omega
        have b_z : ((x : Int) == 0) = false := by simp; omega
        have q_z : ¬ ((x : Int) = 0) := by omega
        have b_lt : decide ((x : Int) < 128) = true := by simp; omega
        have q_lt : (x : Int) < 128 := by omega
        have r_lt : x < 128 := by omega
        have hbad : ¬ ((i = 4 ∧ 15 < x) ∨ (0 < i ∧ x = 0)) := by omega
        have h1 : takeV l = (v + x * 128 ^ i, 0) := by rw [HT.out, HD.out, tvF, if_neg hbad, if_pos (by omega)]
        have h2 : tvN l 0 = i + 1 := by rw [HNN.out, HD.out, tvN, if_neg hbad, if_pos (by omega)]
        have hr : takeR l = l.drop (i + 1) := by unfold takeR; rw [h1, h2]; rfl
        have HRR := Lib.hid hr
        have HH := Lib.hid h1
        have hor := Lib.hid (shl_or v x i hi4 HV.out (by omega))
        have hcu := Lib.hid (H.out.cut k0 (k := i + 1) (by omega))
        clear hca hbad h1 h2 hr
        go_wp2
        all_goals
          (try rw [Exit.noGoto_ret])
          go_ret
          rw [HRR.out, HH.out]
          have hc2 := hcu.out
          unfold cutAt at hc2
          first
            | (have hcase : ¬ c = i + 1 := by assumption
               rw [if_neg hcase] at hc2
               exact ⟨congrArg (fun z => Ending.returned (Value.int .u32 z)) hor.out, hc2.1, hc2.2⟩)
            | (have hcase : c = i + 1 := by assumption
               rw [if_pos hcase, show c - (i + 1) = 0 from by omega] at hc2
               exact ⟨congrArg (fun z => Ending.returned (Value.int .u32 z)) hor.out, hc2.1, hc2.2⟩)
      · have b_p4 : ((i : Int) == 4) = false := by simp; omega
        have q_p4 : ¬ ((i : Int) = 4) := by omega
        have b_pos : decide (0 < (i : Int)) = true := by simp; omega
        have q_pos : 0 < (i : Int) := by omega
        have r_pos : 0 < i := by omega
        have b_z : ((x : Int) == 0) = false := by simp; omega
        have q_z : ¬ ((x : Int) = 0) := by omega
        have b_lt : decide ((x : Int) < 128) = false := by simp; omega
        have q_lt : ¬ ((x : Int) < 128) := by omega
        have r_lt : ¬ x < 128 := by omega
        have hbad : ¬ ((i = 4 ∧ 15 < x) ∨ (0 < i ∧ x = 0)) := by omega
        have hor : Hid (bits .or .u32 (v : Int) (((x : Int) % 128) * 2 ^ (7 * i) % 4294967296) = ((v + x % 128 * 128 ^ i : Nat) : Int)) := Lib.hid <| by
          have := shl_or v (x % 128) i hi4 HV.out (by omega)
          rwa [show ((x % 128 : Nat) : Int) = (x : Int) % 128 from by omega] at this
        have hvn := Lib.hid (shl_lt v (x % 128) i (by omega) HV.out (by omega))
        have h1 : takeV l = tvF (l.drop (i + 1)) (i + 1) (v + x % 128 * 128 ^ i) := by rw [HT.out, HD.out, tvF, if_neg hbad, if_neg (by omega)]
        have h2 : tvN l 0 = tvN (l.drop (i + 1)) (i + 1) := by rw [HNN.out, HD.out, tvN, if_neg hbad, if_neg (by omega)]
        have h3 := Lib.hid (And.intro h1 h2)
        have hand := bits_and_u8 x hxb
        have hi3 : Hid (i < 4) := Lib.hid (by omega)
        clear hca hbad h1 h2
        go_wp2
        have hi5 := hi3.out
        refine ⟨⟨i + 1, v + x % 128 * 128 ^ i, by go_num, by rw [hor.out], rfl, by omega, by omega, hvn.out.2, hvn.out.1, h3.out.1, h3.out.2⟩, by simp [intOf]; omega⟩
    · have hin : i = n := by omega
      have hDn : l.drop i = [] := by rw [hin, List.drop_eq_nil_iff]; rw [HR.out.len]; omega
      have h1 : takeV l = (0, 10) := by rw [HT.out, hDn]; rfl
      have hr : takeR l = l := by unfold takeR; rw [h1]; rfl
      have HRR := Lib.hid hr
      have HH := Lib.hid h1
      have HCF := Lib.hid (CF.out 10)
      have HF' := Lib.hid (HF.out 10)
      clear h1 hr CF HF hDn hin
      go_wp2_with fail
      refine HCF.out.mono ?_
      rintro e w2 ⟨rfl, rfl⟩
      go_wp2
      (try rw [Exit.noGoto_ret])
      go_ret
      rw [HRR.out, HH.out]
      exact ⟨rfl, HF'.out.1, HF'.out.2⟩
end Go.Proofs.Ytmonlookmnlgnaa
