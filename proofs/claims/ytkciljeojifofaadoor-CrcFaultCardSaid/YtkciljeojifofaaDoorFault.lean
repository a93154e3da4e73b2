/- The law of a burst upon what is sealed. -/
import Derived.Test.YtkciljeojifofaaDoorBurst
namespace Go.Proofs.YtkciljeojifofaaDoor
open Go.RowKit Crc
set_option linter.unusedVariables false
set_option linter.unusedSimpArgs false

/-- What lies where while the copy is changed. -/
structure FaultI (w W : World) (f : Nat) (vs vb : Value) (y : List Nat) : Prop where
  below : Below w.heap.size w W
  s : OwnL encB 5 W w.heap.size vs y
  b : ∃ m, Near f y m ∧ OwnL encB 5 W w.heap.size vb m
theorem FaultI.setB {w W : World} {f g n c k z : Nat} {vs : Value} {y : List Nat} (h : FaultI w W f vs (.slice (some ⟨g, 0, none⟩) n c) y) (hd : Apart (.slice (some ⟨g, 0, none⟩) n c) vs) (hk : k < 4) (hz : z < 256) :
    FaultI w (W.setCell ⟨g, f + k, none⟩ (.int .u8 (z : Int))) f vs (.slice (some ⟨g, 0, none⟩) n c) y := by
  obtain ⟨m, hm, hb⟩ := h.b
  obtain ⟨hg, hbg⟩ := grown_one hb (f + k) z
  have hn : m.length = n := by
    obtain ⟨A1, c1, e, _⟩ := hb.rd
    injection e with e1 e2 e3
    exact e2.symm
  subst hn
  exact ⟨h.below.setCell hbg _, h.s.kept hg (.inr (hd g rfl)), m.set (f + k) z, hm.set k z hk hz, (hb.set (f + k) z).1⟩

theorem u8_part (b d k : Nat) (hb : b < 256) : ∃ z : Nat, z < 256 ∧ (bits .xor .u8 (b : Int) ((d : Int) / 2 ^ k % 256) : Int) = (z : Int) :=
  ⟨b ^^^ (d / 2 ^ k % 256), Nat.xor_lt_two_pow (n := 8) hb (Nat.mod_lt _ (by decide)), by
    rw [← u8_xor b (d / 2 ^ k % 256) hb (Nat.mod_lt _ (by decide))]
    simp⟩

set_option maxRecDepth 100000 in
set_option maxHeartbeats 1000000 in
theorem fault_any (A : Option Addr) (n c : Nat) (l : List Nat) (at_ bt : Int) (w : World) (hT : Tab w) (hl : RdB w A n l) (hc : n ≤ c) (ha0 : 0 ≤ at_) (ha1 : at_ < 65536) (hb0 : 0 ≤ bt) (hb1 : bt < 4294967296) :
    Calls Tryd.prog 6 #[.slice A n c, .int .u16 at_, .int .u32 bt] w fun e w' => e = .returned (.bool true) ∧ Below w.heap.size w w' := by
  have HT := Lib.hid hT
  have HL := Lib.hid hl
  have HN := Lib.hid hl.1
  have hmax := hl.2.1
  clear hT hl
  by_cases hn : (3000 : Int) < (n : Int)
  · go_enter Tryd.func6, Tryd.ntmps6
    go_wp2_with fail
    refine (live_any w HT.out).mono ?_
    rintro e w1 ⟨rfl, hb1⟩
    have HB1 := Lib.hid hb1
    clear hb1
    go_wp2_with fail
    refine (live_any w1 (HT.out.below HB1.out)).mono ?_
    rintro e w2 ⟨rfl, hb2⟩
    have HB2 := Lib.hid (Below.thn HB1.out hb2)
    clear hb2
    go_wp2
    go_ret
    exact ⟨rfl, HB2.out⟩
  · have HYB : Hid (∀ x ∈ sumB (crcAdd 0 l) ++ l, x < 256) := by
      intro x hx
      rcases List.mem_append.1 hx with h | h
      · exact sumB_bytes _ x h
      · exact HL.out.bytes x h
    have HSO := Lib.hid (sealed_open l)
    have HYN : Hid ((sumB (crcAdd 0 l) ++ l).length = n + 4) := by show _ = _; rw [List.length_append, HN.out]; simp [sumB]; omega
    have HNO : Hid (∀ (f : Nat) (m : List Nat), (f = 0 ∨ 4 ≤ f) → Near f (sumB (crcAdd 0 l) ++ l) m → m ≠ sumB (crcAdd 0 l) ++ l → openB m = false) := fun f m hf h hne => near_open HL.out.bytes hf h hne
    obtain ⟨y, hy⟩ : ∃ y, y = sumB (crcAdd 0 l) ++ l := ⟨_, rfl⟩
    have HY := Lib.hid hy
    rw [← hy] at HYB HSO HYN HNO
    clear hy
    go_enter Tryd.func6, Tryd.ntmps6
    go_wp2_with fail
    refine (live_any w HT.out).mono ?_
    rintro e w1 ⟨rfl, hb1⟩
    have HB1 := Lib.hid hb1
    clear hb1
    go_wp2_with fail
    refine (Seal_any _ _ _ _ _ (HT.out.below HB1.out) (HL.out.below HB1.out) (by omega)).mono ?_
    rintro e w2 ⟨vs, rfl, ho, hb2⟩
    rw [← HY.out] at ho
    have HB2 := Lib.hid (Below.thn HB1.out hb2)
    obtain ⟨A3, c3, rfl, hc3, hr3⟩ := ho.rdB HYB.out HYN.out
    have HOS2 := Lib.hid ho
    have HRS2 := Lib.hid hr3
    clear ho hb2 hr3
    go_wp2_with fail
    refine (Clone_any _ _ _ _ _ HRS2.out (by omega)).mono ?_
    rintro e w3 ⟨vb, rfl, ho, hb3⟩
    have HB3 := Lib.hid (Below.thn HB2.out hb3)
    obtain ⟨A4, c4, rfl, hc4, hr4⟩ := ho.rdB HYB.out HYN.out
    have HOB3 := Lib.hid ho
    have HD := Lib.hid (apart_later HOS2.out ho).2
    have HF : Hid (∀ f, FaultI w w3 f (.slice A3 (n + 4) c3) (.slice A4 (n + 4) c4) y) := fun f => ⟨HB3.out, (HOS2.out.below hb3).mono HB1.out.size, y, Near.refl f HYB.out, ho.mono HB2.out.size⟩
    clear ho hb3 hr4
    obtain ⟨a, rfl⟩ := Int.eq_ofNat_of_zero_le ha0
    obtain ⟨d, rfl⟩ := Int.eq_ofNat_of_zero_le hb0
    have HA1 := Lib.hid ha1
    have HD1 := Lib.hid hb1
    clear ha1 hb1 ha0 hb0 hmax
    by_cases hodd : (a : Int) % 2 = 1
    · by_cases h0 : (0 : Int) < (n : Int)
      · have hq : (a : Int) / 2 = ((a / 2 : Nat) : Int) := by omega
        have hq1 : ((a / 2 : Nat) : Int) < 32768 := by have := HA1.out; omega
        have hm : ((a / 2 : Nat) : Int) % (n : Int) = ((a / 2 % n : Nat) : Int) := by simp
        have hm1 : ((a / 2 % n : Nat) : Int) < (n : Int) := Int.ofNat_lt.2 (Nat.mod_lt _ (by omega))
        obtain ⟨h, he⟩ : ∃ h, h = a / 2 := ⟨_, rfl⟩
        rw [← he] at hq hq1 hm hm1
        clear he
        obtain ⟨k, he⟩ : ∃ k, k = h % n := ⟨_, rfl⟩
        rw [← he] at hm hm1
        clear he
        have hn0 : ¬ (n : Int) = 0 := by omega
        have h0n : 0 < n := by omega
        go_wp2
        obtain ⟨f, hf⟩ : ∃ f : Nat, (4 : Int) + (k : Int) = (f : Int) := ⟨4 + k, by omega⟩
        rw [hf]
        have hf4 : 4 ≤ f := by omega
        have hfn : (f : Int) < (n : Int) + 4 := by omega
        clear hf hm hm1 hq hq1 hodd
        go_loopw [46] (fun i wr => ∃ j : Nat, j ≤ 4 ∧ i = .int .i64 j ∧ Hid (FaultI w wr f (.slice A3 (n + 4) c3) (.slice A4 (n + 4) c4) y)) (fun i _ => 4 - (intOf i).toNat)
        case atStart => exact ⟨0, by omega, rfl, HF.out f⟩
        case round =>
          obtain ⟨j, hj, rfl, HI⟩ := hrel
          by_cases hlt : (j : Int) < 4
          · by_cases hin : (f : Int) + (j : Int) < (n : Int) + 4
            · obtain ⟨m, hm9, hb9⟩ := HI.out.b
              obtain ⟨g, b, rfl, hcell, hfroz, hmem⟩ := hb9.elem (f + j) (by omega)
              have hb256 : b < 256 := hm9.2.1 b hmem
              obtain ⟨z, hz1, hz⟩ := u8_part b d (8 * j) hb256
              try simp only [Nat.zero_add] at hcell hfroz
              clear hm9 hb9 hmem hb256
              go_wp2
              go_roundw
              case rel => exact ⟨j + 1, by omega, by go_num, Lib.hid (by have := HI.out.setB HD.out (k := j) (by omega) hz1; simpa using this)⟩
              case measure => simp [intOf]; omega
            · go_wp2
              go_roundw
              case rel => exact ⟨j + 1, by omega, by go_num, HI⟩
              case measure => simp [intOf]; omega
          · obtain ⟨m, hm, hb⟩ := HI.out.b
            obtain ⟨A5, c5, e5, hc5, hr5⟩ := hb.rdB hm.2.1 (hm.1.trans HYN.out)
            injection e5 with e51 e52 e53
            subst e51 e53
            have HR5 := Lib.hid hr5
            have HRS := Lib.hid (HI.out.s.rdB' HYB.out)
            have HBI := Lib.hid HI.out.below
            have HN2 : Hid (m ≠ y → openB m = false) := HNO.out f m (by omega) hm
            clear hm hb hr5
            go_wp2_with fail
            refine (Open_any _ _ _ _ _ (HT.out.below HBI.out) HR5.out hc4 (by omega)).mono ?_
            rintro e w7 ⟨vx, rfl, ho, hb7⟩
            have HB7 := Lib.hid (Below.thn HBI.out hb7)
            have HRS7 := Lib.hid (HRS.out.below hb7)
            have HR7 := Lib.hid (HR5.out.below hb7)
            by_cases hmy : m = y
            · subst hmy
              rw [HSO.out.2] at ho
              rw [HSO.out.1]
              obtain ⟨A6, c6, rfl, _, hr6⟩ := ho.rdB HL.out.bytes HN.out
              have HR6 := Lib.hid hr6
              have HRB := Lib.hid (HL.out.below HB7.out)
              clear ho hb7 hr6
              go_wp2_with fail
              refine (Equal_any _ _ _ _ _ _ _ _ _ HR7.out HRS7.out).mono ?_
              rintro e w8 ⟨rfl, rfl⟩
              rw [decide_eq_true rfl]
              go_wp2_with fail
              refine (Equal_any _ _ _ _ _ _ _ _ _ HR6.out HRB.out).mono ?_
              rintro e w8 ⟨rfl, rfl⟩
              rw [decide_eq_true rfl]
              go_wp2
              go_ret
              exact ⟨rfl, HB7.out⟩
            · have ho2 := HN2.out hmy
              rw [openL_no ho2] at ho
              rw [ho2]
              obtain ⟨A6, c6, rfl, _, hr6⟩ := ho.rd
              have HMY : Hid (¬ m = y) := hmy
              clear ho hb7 hr6 ho2 hmy
              go_wp2_with fail
              refine (Equal_any _ _ _ _ _ _ _ _ _ HR7.out HRS7.out).mono ?_
              rintro e w8 ⟨rfl, rfl⟩
              rw [decide_eq_false HMY.out]
              go_wp2
              go_ret
              exact ⟨rfl, HB7.out⟩
      · have h0n : ¬ 0 < n := by omega
        go_wp2
        clear hodd
        go_loopw [46] (fun i wr => ∃ j : Nat, j ≤ 4 ∧ i = .int .i64 j ∧ Hid (FaultI w wr 0 (.slice A3 (n + 4) c3) (.slice A4 (n + 4) c4) y)) (fun i _ => 4 - (intOf i).toNat)
        case atStart => exact ⟨0, by omega, rfl, HF.out 0⟩
        case round =>
          obtain ⟨j, hj, rfl, HI⟩ := hrel
          by_cases hlt : (j : Int) < 4
          · by_cases hin : (j : Int) < (n : Int) + 4
            · obtain ⟨m, hm9, hb9⟩ := HI.out.b
              obtain ⟨g, b, rfl, hcell, hfroz, hmem⟩ := hb9.elem (0 + j) (by omega)
              have hb256 : b < 256 := hm9.2.1 b hmem
              obtain ⟨z, hz1, hz⟩ := u8_part b d (8 * j) hb256
              try simp only [Nat.zero_add] at hcell hfroz
              clear hm9 hb9 hmem hb256
              go_wp2
              go_roundw
              case rel => exact ⟨j + 1, by omega, by go_num, Lib.hid (by have := HI.out.setB HD.out (k := j) (by omega) hz1; simpa using this)⟩
              case measure => simp [intOf]; omega
            · go_wp2
              go_roundw
              case rel => exact ⟨j + 1, by omega, by go_num, HI⟩
              case measure => simp [intOf]; omega
          · obtain ⟨m, hm, hb⟩ := HI.out.b
            obtain ⟨A5, c5, e5, hc5, hr5⟩ := hb.rdB hm.2.1 (hm.1.trans HYN.out)
            injection e5 with e51 e52 e53
            subst e51 e53
            have HR5 := Lib.hid hr5
            have HRS := Lib.hid (HI.out.s.rdB' HYB.out)
            have HBI := Lib.hid HI.out.below
            have HN2 : Hid (m ≠ y → openB m = false) := HNO.out 0 m (by omega) hm
            clear hm hb hr5
            go_wp2_with fail
            refine (Open_any _ _ _ _ _ (HT.out.below HBI.out) HR5.out hc4 (by omega)).mono ?_
            rintro e w7 ⟨vx, rfl, ho, hb7⟩
            have HB7 := Lib.hid (Below.thn HBI.out hb7)
            have HRS7 := Lib.hid (HRS.out.below hb7)
            have HR7 := Lib.hid (HR5.out.below hb7)
            by_cases hmy : m = y
            · subst hmy
              rw [HSO.out.2] at ho
              rw [HSO.out.1]
              obtain ⟨A6, c6, rfl, _, hr6⟩ := ho.rdB HL.out.bytes HN.out
              have HR6 := Lib.hid hr6
              have HRB := Lib.hid (HL.out.below HB7.out)
              clear ho hb7 hr6
              go_wp2_with fail
              refine (Equal_any _ _ _ _ _ _ _ _ _ HR7.out HRS7.out).mono ?_
              rintro e w8 ⟨rfl, rfl⟩
              rw [decide_eq_true rfl]
              go_wp2_with fail
              refine (Equal_any _ _ _ _ _ _ _ _ _ HR6.out HRB.out).mono ?_
              rintro e w8 ⟨rfl, rfl⟩
              rw [decide_eq_true rfl]
              go_wp2
              go_ret
              exact ⟨rfl, HB7.out⟩
            · have ho2 := HN2.out hmy
              rw [openL_no ho2] at ho
              rw [ho2]
              obtain ⟨A6, c6, rfl, _, hr6⟩ := ho.rd
              have HMY : Hid (¬ m = y) := hmy
              clear ho hb7 hr6 ho2 hmy
              go_wp2_with fail
              refine (Equal_any _ _ _ _ _ _ _ _ _ HR7.out HRS7.out).mono ?_
              rintro e w8 ⟨rfl, rfl⟩
              rw [decide_eq_false HMY.out]
              go_wp2
              go_ret
              exact ⟨rfl, HB7.out⟩
    · go_wp2
      clear hodd
      go_loopw [46] (fun i wr => ∃ j : Nat, j ≤ 4 ∧ i = .int .i64 j ∧ Hid (FaultI w wr 0 (.slice A3 (n + 4) c3) (.slice A4 (n + 4) c4) y)) (fun i _ => 4 - (intOf i).toNat)
      case atStart => exact ⟨0, by omega, rfl, HF.out 0⟩
      case round =>
        obtain ⟨j, hj, rfl, HI⟩ := hrel
        by_cases hlt : (j : Int) < 4
        · by_cases hin : (j : Int) < (n : Int) + 4
          · obtain ⟨m, hm9, hb9⟩ := HI.out.b
            obtain ⟨g, b, rfl, hcell, hfroz, hmem⟩ := hb9.elem (0 + j) (by omega)
            have hb256 : b < 256 := hm9.2.1 b hmem
            obtain ⟨z, hz1, hz⟩ := u8_part b d (8 * j) hb256
            try simp only [Nat.zero_add] at hcell hfroz
            clear hm9 hb9 hmem hb256
            go_wp2
            go_roundw
            case rel => exact ⟨j + 1, by omega, by go_num, Lib.hid (by have := HI.out.setB HD.out (k := j) (by omega) hz1; simpa using this)⟩
            case measure => simp [intOf]; omega
          · go_wp2
            go_roundw
            case rel => exact ⟨j + 1, by omega, by go_num, HI⟩
            case measure => simp [intOf]; omega
        · obtain ⟨m, hm, hb⟩ := HI.out.b
          obtain ⟨A5, c5, e5, hc5, hr5⟩ := hb.rdB hm.2.1 (hm.1.trans HYN.out)
          injection e5 with e51 e52 e53
          subst e51 e53
          have HR5 := Lib.hid hr5
          have HRS := Lib.hid (HI.out.s.rdB' HYB.out)
          have HBI := Lib.hid HI.out.below
          have HN2 : Hid (m ≠ y → openB m = false) := HNO.out 0 m (by omega) hm
          clear hm hb hr5
          go_wp2_with fail
          refine (Open_any _ _ _ _ _ (HT.out.below HBI.out) HR5.out hc4 (by omega)).mono ?_
          rintro e w7 ⟨vx, rfl, ho, hb7⟩
          have HB7 := Lib.hid (Below.thn HBI.out hb7)
          have HRS7 := Lib.hid (HRS.out.below hb7)
          have HR7 := Lib.hid (HR5.out.below hb7)
          by_cases hmy : m = y
          · subst hmy
            rw [HSO.out.2] at ho
            rw [HSO.out.1]
            obtain ⟨A6, c6, rfl, _, hr6⟩ := ho.rdB HL.out.bytes HN.out
            have HR6 := Lib.hid hr6
            have HRB := Lib.hid (HL.out.below HB7.out)
            clear ho hb7 hr6
            go_wp2_with fail
            refine (Equal_any _ _ _ _ _ _ _ _ _ HR7.out HRS7.out).mono ?_
            rintro e w8 ⟨rfl, rfl⟩
            rw [decide_eq_true rfl]
            go_wp2_with fail
            refine (Equal_any _ _ _ _ _ _ _ _ _ HR6.out HRB.out).mono ?_
            rintro e w8 ⟨rfl, rfl⟩
            rw [decide_eq_true rfl]
            go_wp2
            go_ret
            exact ⟨rfl, HB7.out⟩
          · have ho2 := HN2.out hmy
            rw [openL_no ho2] at ho
            rw [ho2]
            obtain ⟨A6, c6, rfl, _, hr6⟩ := ho.rd
            have HMY : Hid (¬ m = y) := hmy
            clear ho hb7 hr6 ho2 hmy
            go_wp2_with fail
            refine (Equal_any _ _ _ _ _ _ _ _ _ HR7.out HRS7.out).mono ?_
            rintro e w8 ⟨rfl, rfl⟩
            rw [decide_eq_false HMY.out]
            go_wp2
            go_ret
            exact ⟨rfl, HB7.out⟩
end Go.Proofs.YtkciljeojifofaaDoor
