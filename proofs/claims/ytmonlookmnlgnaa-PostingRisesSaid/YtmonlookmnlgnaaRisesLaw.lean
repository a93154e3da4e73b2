/- What is told of any bytes rises: the law. -/
import Derived.Test.YtmonlookmnlgnaaRisesMath
import Derived.Test.YtmonlookmnlgnaaSameAll
import Derived.Test.YtmonlookmnlgnaaLive
namespace Go.Proofs.Ytmonlookmnlgnaa
open Go.RowKit
set_option linter.unusedVariables false
set_option linter.unusedSimpArgs false

set_option maxRecDepth 100000 in
set_option maxHeartbeats 8000000 in
theorem Rises_any (A : Option Addr) (n c : Nat) (b : List Nat) (w : World) (h : RdB w A n b) (hnc : n ≤ c) (hc : c ≤ 9223372036854775807) :
    Calls Try.prog 5 #[.slice A n c] w fun e w' => e = .returned (.bool true) ∧ Below w.heap.size w w' := by
  have HS := Lib.hid h
  have HLn := Lib.hid h.len
  clear h
  go_enter Try.func5, Try.ntmps5
  go_wp2_with fail
  refine (live_any w).mono ?_
  rintro e w2 ⟨rfl, hb⟩
  have HB2 := Lib.hid hb
  have HS2 := Lib.hid (HS.out.below hb)
  clear hb
  by_cases hbig : (3000 : Int) < (n : Int)
  · go_wp2_with fail
    refine (live_any _).mono ?_
    rintro e w9 ⟨rfl, hb⟩
    have HB9 := Lib.hid (Below.thn HB2.out hb)
    clear hb
    go_wp2
    go_ret
    exact ⟨rfl, HB9.out⟩
  · go_wp2_with fail
    refine (All_any A n c 0 w2).mono ?_
    rintro e w3 ⟨rfl, hW3⟩
    have h5 := Boxed.new w2 23 (.slice A n c)
    have h6 := Boxed.new (w2.alloc (.cells #[.slice A n c] 23)) 29 (.int .u32 0)
    have h5' := h5.alloc (.cells #[.int .u32 0] 29)
    rw [← hW3] at h5' h6
    have hb23 : Below w2.heap.size w2 w3 := by rw [hW3]; exact ((Below.refl _ _).alloc (Nat.le_refl _) _).alloc (by simp) _
    simp only [World.size_alloc] at h6
    have C := Lib.hid (told_any (w2.heap.size + 1) w2.heap.size A n c b 0 1048576 w3 (HS2.out.below hb23) hnc hc (by omega) (by decide) (by decide) h6.cell h5')
    rw [all_take (by rw [HLn.out]; omega) 0] at C
    unfold ToldE at C
    have HB3 := Lib.hid (Below.thn HB2.out hb23)
    have HS3 := Lib.hid (HS2.out.below hb23)
    clear hW3 h5 h6 h5' hb23
    go_wp2_with fail
    refine C.out.mono ?_
    rintro e wT ⟨v, u, rfl, hv, hu, hb⟩
    obtain ⟨A4, n4, c4, rfl, hn4, hc4, hr4⟩ := hv
    obtain ⟨A5, n5, c5, rfl, hn5, hc5, hr5⟩ := hu
    have HBT := Lib.hid (Below.thn HB3.out hb)
    have HST := Lib.hid (HS3.out.below hb)
    have hl4 : n4 = (allL b 0).length := by rw [← hr4.len]; simp
    have hl5 : n5 = (allL b 0).length := by rw [← hr5.len]; simp
    obtain ⟨NL, hNL⟩ : ∃ NL, NL = (allL b 0).length := ⟨_, rfl⟩
    rw [← hNL] at hl4 hl5
    subst hl4
    subst hl5
    have HL4 := Lib.hid hr4
    have HL5 := Lib.hid hr5
    have HNL := Lib.hid hNL
    have hN3 : n5 ≤ 3000 := by
      have := allL_len b 0
      have := HLn.out
      omega
    have HCh : Hid (chn 0 0 (allL b 0)) := Lib.hid (chn_all b _ 0 0)
    clear hb hr4 hr5 C HB3 HS3 HB2 HS2 hNL
    go_wp2_with fail
    go_loopw [5, 6, 30] (fun x5 x6 x30 wr => ∃ k : Nat, k ≤ n5 ∧ x30 = .int .i64 k ∧ ∃ last : Nat, x5 = .int .u32 last ∧ last ≤ 4294967295 ∧ ∃ at_ : Nat, x6 = .int .i64 at_ ∧ at_ ≤ n ∧ Hid (last = docP 0 (allL b 0) k ∧ at_ = endP 0 (allL b 0) k ∧ Below wT.heap.size wT wr)) (fun _ _ x30 _ => n5 - (intOf x30).toNat)
    case atStart => exact ⟨0, by omega, rfl, 0, rfl, by omega, 0, rfl, by omega, Lib.hid ⟨rfl, rfl, Below.refl _ _⟩⟩
    case round =>
      obtain ⟨k, hk, rfl, last, rfl, hlast, at_, rfl, hat, HI⟩ := hrel
      by_cases hlt : (k : Int) < (n5 : Int)
      · obtain ⟨ad, B, mm, c', d, xs, rfl, HX, e0, e1, hm1, hm2, HPo, hd⟩ := (HL4.out.below HI.out.2.2).at (k := k) (by omega)
        obtain ⟨ae, y, rfl, HY, y0⟩ := rdI_at (HL5.out.below HI.out.2.2) (k := k) (by omega)
        have hkl : k < (allL b 0).length := by rw [← HNL.out]; omega
        have hXk : (allL b 0)[k].2 = (d, xs) := by obtain ⟨_, e⟩ := HX.out; simpa using e
        have hYk : (((allL b 0)[k].1 : Nat) : Int) = y := by obtain ⟨_, e⟩ := HY.out; simpa using e
        obtain ⟨y', rfl⟩ : ∃ y' : Nat, y = y' := ⟨_, hYk.symm⟩
        have hYk' : (allL b 0)[k].1 = y' := by omega
        have hgetD : (allL b 0).getD k (0, 0, []) = (y', d, xs) := by rw [List.getD_eq_getElem?_getD, List.getElem?_eq_getElem hkl, ← hXk, ← hYk']; rfl
        have hat1 := chn_at _ 0 0 HCh.out k hkl
        have hfd := chn_find _ 0 0 HCh.out k hkl
        have hen := allL_end (List.getElem_mem hkl)
        rw [hXk] at hat1 hfd
        rw [hYk'] at hat1 hen
        rw [HLn.out] at hen
        rw [← HI.out.1, ← HI.out.2.1] at hat1
        obtain ⟨ha1, ha2, pv, hok⟩ := hat1
        simp only at ha2 hfd
        have HOk := Lib.hid hok
        have HFd := Lib.hid hfd
        have HGD := Lib.hid hgetD
        have hml : mm = xs.length := by rw [HPo.out.len]
        have hm1' : 1 ≤ mm := by rw [hml]; exact hok.2.2.1
        have hm2' : mm ≤ 2000 := by rw [hml]; exact hok.2.2.2.1
        have q1 : ¬ (d : Int) ≤ (last : Int) := by omega
        have q2 : ¬ (y' : Int) ≤ (at_ : Int) := by omega
        have q3 : ¬ (n : Int) < (y' : Int) := by omega
        have q4 : ((mm : Int) == 0) = false := by simp; omega
        have HML := Lib.hid hml
        have HBx := Lib.hid (HI.out.2.2.alloc HI.out.2.2.size (.cells #[.int .u32 (d : Nat), .slice B mm c'] 32))
        have HBw := Lib.hid ((Below.refl wr.heap.size wr).alloc (Nat.le_refl _) (.cells #[.int .u32 (d : Nat), .slice B mm c'] 32))
        have HH := Lib.hid (Box2.new wr 32 (.int .u32 (d : Nat)) (.slice B mm c'))
        obtain ⟨c0, c1, _, _⟩ := HH.out.facts
        have y1 := cell_keep HBw.out y0
        clear hkl hXk hYk hYk' hgetD hfd hok hml
        go_wp2_with fail
        clear e0 e1 y0
        obtain ⟨g, hg⟩ : ∃ g, g = wr.heap.size := ⟨_, rfl⟩
        obtain ⟨wB, hwB⟩ : ∃ wB, wB = wr.alloc (.cells #[.int .u32 (d : Nat), .slice B mm c'] 32) := ⟨_, rfl⟩
        have HPB := Lib.hid (HPo.out.below HBw.out)
        rw [← hwB] at HBx HH y1 HPB c0 c1 ⊢
        rw [← hg] at HH c0 c1 ⊢
        clear hwB hg HBw
        have HY1 := Lib.hid y1
        clear y1 c0 c1
        go_loopw [9] (fun x9 wr => ∃ j : Nat, 1 ≤ j ∧ j ≤ mm ∧ x9 = .int .i64 j ∧ Hid (Below wB.heap.size wB wr)) (fun x9 _ => mm - (intOf x9).toNat)
        case atStart => exact ⟨1, by omega, by omega, rfl, Lib.hid (Below.refl _ _)⟩
        case round =>
          obtain ⟨j, hj1, hj, rfl, HJ⟩ := hrel
          obtain ⟨c0, c1, _, _⟩ := (HH.out.below HJ.out).facts
          by_cases hjl : (j : Int) < (mm : Int)
          · obtain ⟨ap, p, rfl, HP, p0⟩ := rdI_at (HPB.out.below HJ.out) (k := j) (by omega)
            obtain ⟨aq, q, e, HQ, p1⟩ := rdI_at (HPB.out.below HJ.out) (k := j - 1) (by omega)
            cases e
            have hlt2 : q < p := by
              have := (HOk.out.2.2.2.2 j (by show j < xs.length; rw [← HML.out]; omega)).2.2 (by omega)
              simp only at this
              rw [posAt HP.out, posAt HQ.out] at this
              exact this
            have r1 : ¬ p ≤ q := by omega
            have r2 : (0 : Int) ≤ (j : Int) - 1 := by omega
            have r3 : (j : Int) - 1 < (mm : Int) := by omega
            have r4 : ((j : Int) - 1).toNat = j - 1 := by omega
            go_upto_region 13 with fail
            go_quiet (fail)
            clear p0 p1 c0 c1
            go_wp2
            exact ⟨⟨j + 1, by omega, by omega, by go_num, Lib.hid (below_drewN HJ.out nq)⟩, by simp [intOf]; omega⟩
          · obtain rfl : j = mm := by omega
            have HBr := Lib.hid (Below.thn HBx.out HJ.out)
            have C := Lib.hid (Find_any A n c b d wr (HST.out.below HBr.out) hnc hc (by omega) hd)
            unfold FindE at C
            rw [HFd.out] at C
            have HHr := Lib.hid (HH.out.below HJ.out)
            have HPr := Lib.hid (HPB.out.below HJ.out)
            have HYr := Lib.hid (cell_keep HJ.out HY1.out)
            go_wp2_with fail
            refine C.out.mono ?_
            rintro e w5 ⟨uu, rfl, ho, hb⟩
            obtain ⟨A7, c7, huu, hl7, hc7, hr7⟩ := ho.rd
            subst huu
            simp only at hl7 hr7 ⊢
            have HB5 := Lib.hid (Below.thn HBr.out hb)
            have hb56 : Below w5.heap.size w5 (w5.alloc (.cells #[.int .u32 (d : Nat), .slice A7 xs.length c7] 32)) := (Below.refl _ _).alloc (Nat.le_refl _) _
            have hg8 := (HHr.out.below hb).below hb56
            have hq10 := Box2.new w5 32 (.int .u32 (d : Nat)) (.slice A7 xs.length c7)
            obtain ⟨c0', c1', _, _⟩ := hg8.facts
            obtain ⟨d0', d1', _, _⟩ := hq10.facts
            have C2 := Lib.hid (refSame_pv (.agg #[.int .u32 (d : Nat), .slice B j c']) (.agg #[.int .u32 (d : Nat), .slice A7 xs.length c7]) (d, xs) (d, xs) (w5.alloc (.cells #[.int .u32 (d : Nat), .slice A7 xs.length c7] 32)) (RdPo.pv ((HPr.out.below hb).below hb56) hm1 hm2 hd) (RdPo.pv (hr7.below hb56) hl7 hc7 hd))
            rw [decide_eq_true rfl] at C2
            have HY5 := Lib.hid (cell_keep hb56 (cell_keep hb HYr.out))
            have HG8 := Lib.hid hg8
            have HB6 := Lib.hid (Below.thn HB5.out hb56)
            obtain ⟨xl, hxl⟩ : ∃ xl, xl = xs.length := ⟨_, rfl⟩
            rw [← hxl] at hl7 hq10 d1' c0' c1' d0' C2 HY5 HG8 HB6 ⊢
            clear hb ho hr7 C hb56 hg8 hq10 c0 c1 hxl
            go_wp2_with fail
            refine C2.out.mono ?_
            rintro e w7 ⟨rfl, hb⟩
            have y7 := cell_keep hb HY5.out
            obtain ⟨k0, k1, _, _⟩ := (HG8.out.below hb).facts
            have HB7 := Lib.hid (Below.thn HB6.out hb)
            clear hb C2 c0' c1' d0' d1'
            go_wp2_with fail
            go_upto_region 18 with fail
            go_quiet (fail)
            clear y7 k0 k1
            go_wp2
            exact ⟨⟨k + 1, by omega, by go_num, d, rfl, hd, y', rfl, hen, Lib.hid ⟨by rw [docP_succ, HGD.out], by rw [endP_succ, HGD.out], below_drewN HB7.out nq⟩⟩, by simp [intOf]; omega⟩
      · obtain rfl : k = n5 := by omega
        have hae : at_ = endL (allL b 0) := by
          rw [HI.out.2.1, HNL.out]
          exact endP_last 0 _ rfl
        have HBr := Lib.hid (Below.thn HBT.out HI.out.2.2)
        have hSr := HST.out.below HI.out.2.2
        have C := Lib.hid (Parse_any A at_ c (b.take at_) wr (hSr.take at_ hat) (by omega) hc (by omega))
        unfold ParseE at C
        have hpr := prs_rise (b := b) HST.out.byt
        rw [← hae] at hpr
        rw [hpr] at C
        have HL6 := Lib.hid (HL4.out.below HI.out.2.2)
        have hatc : at_ ≤ c := by omega
        clear hpr hSr hae
        go_wp2_with fail
        refine C.out.mono ?_
        rintro e w5 ⟨v, rfl, hv, hb⟩
        obtain ⟨A7, n7, c7, rfl, hn7, hc7, hr7⟩ := hv
        have C2 := Lib.hid (SameAll_any A7 A4 n7 k c7 c4 _ _ w5 hr7 (HL6.out.below hb))
        rw [decide_eq_true rfl] at C2
        have HB5 := Lib.hid (Below.thn HBr.out hb)
        clear hb hr7 C
        go_wp2_with fail
        refine C2.out.mono ?_
        rintro e w6 ⟨rfl, hb⟩
        have HB6 := Lib.hid (Below.thn HB5.out hb)
        clear hb C2
        go_wp2
        go_ret
        exact ⟨rfl, HB6.out⟩
end Go.Proofs.Ytmonlookmnlgnaa
