/- A way is read of its form as it was, and what is read of any bytes has just these bytes: the law. -/
import Derived.Test.YtbmdjmnjbflfeaaSameW
import Derived.BigQuiet
namespace Go.Proofs.Ytbmdjmnjbflfeaa
open Go.RowKit Go.Shelf
set_option linter.unusedVariables false
set_option linter.unusedSimpArgs false

theorem parX_ok {l : List Nat} {pc : Cf} (h : (parX l).2 = 0) (hp : pc = (parX l).1) : bytX pc = (l, 0) := by
  subst hp
  unfold parX at h ⊢
  split at h
  next h1 => rw [if_pos h1]; exact h1.2
  next h1 => simp at h
theorem parX_no {l : List Nat} (h : (parX l).2 ≠ 0) : (parX l).1 = ⟨[], [], 0⟩ ∧ (parX l).2 = 140 := by
  unfold parX at h ⊢
  split at h
  next h1 => simp at h
  next h1 => rw [if_neg h1]; exact ⟨rfl, rfl⟩
theorem bytX_ok {cf : Cf} (h : (bytX cf).2 = 0) : mayC cf ∧ (fmtC cf).length ≤ 240 ∧ (bytX cf).1 = fmtC cf := by
  unfold bytX at h ⊢
  split at h
  next h1 =>
    split at h
    next h2 => simp at h
    next h2 => rw [if_pos h1, if_neg h2]; exact ⟨h1, by omega, rfl⟩
  next h1 => simp at h
set_option maxRecDepth 100000 in
set_option maxHeartbeats 8000000 in
theorem BackLaw_any (A : Option Addr) (n c : Nat) (B : Option Addr) (m d : Nat) (cf : Cf) (T : Option Addr) (nt ct : Nat) (l : List Nat) (w : World) (h : RdC0 w A n c B m d cf) (ht : RdB w T nt l) (htc : nt ≤ ct) (htc2 : ct ≤ 9223372036854775807) :
    Calls Try.prog 7 #[confV A n c B m d cf.cap, .slice T nt ct] w fun e w' => e = .returned (.bool true) ∧ Below w.heap.size w w' := by
  have HR := Lib.hid h
  have HT := Lib.hid ht
  have HLn := Lib.hid ht.len
  clear ht
  obtain ⟨cp, hcp⟩ : ∃ cp, cp = cf.cap := ⟨_, rfl⟩
  have hbx := (Below.refl w.heap.size w).alloc (Nat.le_refl _) (.cells #[.slice A n c, .slice B m d, .int .i64 cp] 25)
  have hcell := World.alloc_heap_new w (.cells #[.slice A n c, .slice B m d, .int .i64 cp] 25)
  obtain ⟨w1, hw1⟩ : ∃ w1, w1 = w.alloc (.cells #[.slice A n c, .slice B m d, .int .i64 cp] 25) := ⟨_, rfl⟩
  obtain ⟨g, hg⟩ : ∃ g, g = w.heap.size := ⟨_, rfl⟩
  rw [← hw1] at hbx hcell
  rw [← hg] at hcell
  have HW1 := Lib.hid hw1
  have HG := Lib.hid hg
  have HCP := Lib.hid hcp
  have HB1 := Lib.hid hbx
  rw [← hcp]
  have HC1 := Lib.hid hcell
  clear h hw1 hg hcp hbx hcell
  go_enter Try.func7, Try.ntmps7
  go_wp2_with fail
  rw [← HW1.out, ← HG.out]
  clear HW1
  refine (live_any w1).mono ?_
  rintro e w2 ⟨rfl, hb⟩
  have HC2 := Lib.hid ((hb.block g (Array.getElem?_eq_some_iff.1 HC1.out).1).trans HC1.out)
  have HB2 := Lib.hid (Below.thn HB1.out hb)
  obtain ⟨c0, c1, c2⟩ := cells3 HC2.out
  have CF := Lib.hid (few1_any ⟨A, n, c, B, m, d, cf⟩ w2 (HR.out.below HB2.out))
  simp only at CF
  rw [← HCP.out] at CF
  clear hb HC1 HB1
  go_wp2_with fail
  refine CF.out.mono ?_
  rintro e w3 ⟨⟨b, rfl, hbf⟩, hb⟩
  have HC3 := Lib.hid ((hb.block g (Array.getElem?_eq_some_iff.1 HC2.out).1).trans HC2.out)
  have HB3 := Lib.hid (Below.thn HB2.out hb)
  have HFw := Lib.hid hbf
  clear hb hbf CF c0 c1 c2 HC2 HB2
  cases b
  case false =>
    go_wp2_with fail
    refine (live_any _).mono ?_
    rintro e w9 ⟨rfl, hb⟩
    have HB9 := Lib.hid (Below.thn HB3.out hb)
    clear hb
    go_wp2
    go_ret
    exact ⟨rfl, HB9.out⟩
  have hfw := HFw.out.1 (by simp)
  have HRC := Lib.hid (RdC0.full HR.out (by exact hfw.2.2))
  have hm100 : m ≤ 100 := hfw.2.1
  clear hfw HFw
  by_cases hbig : (1000 : Int) < (nt : Int)
  · go_wp2_with fail
    refine (live_any _).mono ?_
    rintro e w9 ⟨rfl, hb⟩
    have HB9 := Lib.hid (Below.thn HB3.out hb)
    clear hb
    go_wp2
    go_ret
    exact ⟨rfl, HB9.out⟩
  have hnt : nt ≤ 1000 := by omega
  obtain ⟨c0, c1, c2⟩ := cells3 HC3.out
  have CK := Lib.hid (BytesW_any A n c B m d cf w3 (HRC.out.below HB3.out))
  obtain ⟨e0, he0⟩ : ∃ e0, e0 = (bytX cf).2 := ⟨_, rfl⟩
  obtain ⟨x0, hx0⟩ : ∃ x0, x0 = (bytX cf).1 := ⟨_, rfl⟩
  rw [← HCP.out, ← he0, ← hx0] at CK
  have HE0 := Lib.hid he0
  have HX0 := Lib.hid hx0
  clear he0 hx0
  go_wp2_with fail
  refine CK.out.mono ?_
  rintro e w4 ⟨r, rfl, ho, hb⟩
  have HC4 := Lib.hid ((hb.block g (Array.getElem?_eq_some_iff.1 HC3.out).1).trans HC3.out)
  have HB4 := Lib.hid (Below.thn HB3.out hb)
  obtain ⟨A5, c5, rfl, h51, h52, h53⟩ := OwnL.rd ho.1
  obtain ⟨N5, hN5⟩ : ∃ N5, N5 = x0.length := ⟨_, rfl⟩
  rw [← hN5] at h51 h53 ⊢
  have HX5 : Hid (RdB w4 A5 N5 x0) := Lib.hid ⟨h53, ho.2⟩
  have HN5 := Lib.hid hN5
  clear hb ho CK c0 c1 c2 h53 hN5
  by_cases hz0 : e0 = 0
  · have HOK := Lib.hid (bytX_ok (by rw [← HE0.out]; exact hz0))
    have hN : N5 ≤ 240 := by
      rw [HN5.out, HX0.out, HOK.out.2.2]
      exact HOK.out.2.1
    have hPF : parX x0 = (cf, 0) := by
      rw [HX0.out, HOK.out.2.2]
      exact parX_form HOK.out.1 HOK.out.2.1
    have CP := Lib.hid (ParseW_any A5 N5 c5 x0 w4 HX5.out h51 h52 (by omega))
    rw [hPF, ← HCP.out] at CP
    subst hz0
    clear hPF
    go_wp2_with fail
    refine CP.out.mono ?_
    rintro e w5 ⟨A2, n2, c2, B2, m2, d2, rfl, hr2, hb⟩
    simp only
    have hbx := (Below.refl w5.heap.size w5).alloc (Nat.le_refl _) (.cells #[.slice A2 n2 c2, .slice B2 m2 d2, .int .i64 cp] 25)
    have hcell := World.alloc_heap_new w5 (.cells #[.slice A2 n2 c2, .slice B2 m2 d2, .int .i64 cp] 25)
    obtain ⟨wx, hwx⟩ : ∃ wx, wx = w5.alloc (.cells #[.slice A2 n2 c2, .slice B2 m2 d2, .int .i64 cp] 25) := ⟨_, rfl⟩
    rw [← hwx] at hbx hcell
    obtain ⟨g7, hg7⟩ : ∃ g7, g7 = w5.heap.size := ⟨_, rfl⟩
    rw [← hg7] at hcell
    have HBX := Lib.hid (Below.thn (Below.thn HB4.out hb) hbx)
    have HRX := Lib.hid (hr2.below hbx)
    have hc4 := (hbx.block g (by have := (Array.getElem?_eq_some_iff.1 HC4.out).1; have := hb.size; omega)).trans ((hb.block g (Array.getElem?_eq_some_iff.1 HC4.out).1).trans HC4.out)
    have HCX := Lib.hid hc4
    have CS := Lib.hid (SameW_any A2 n2 c2 B2 m2 d2 cf A n c B m d cf wx HRX.out (HRC.out.below HBX.out))
    rw [decide_eq_true (rfl : cf = cf), ← HCP.out] at CS
    obtain ⟨c0, c1, c2⟩ := cells3 hcell
    obtain ⟨d0, d1, d2⟩ := cells3 hc4
    rw [hwx, hg7] at c0 c1 c2
    rw [hwx] at d0 d1 d2
    have HWX := Lib.hid hwx
    clear hr2 hb hbx hcell hwx hg7 CP hc4 HC4 HC3
    go_wp2_with fail
    rw [← HWX.out]
    clear c0 c1 c2 d0 d1 d2
    refine CS.out.mono ?_
    rintro e w6 ⟨rfl, hb⟩
    have HB6 := Lib.hid (Below.thn HBX.out hb)
    have HC6 := Lib.hid ((hb.block g (Array.getElem?_eq_some_iff.1 HCX.out).1).trans HCX.out)
    clear CS hb
    have CP := Lib.hid (ParseW_any T nt ct l w6 (HT.out.below HB6.out) htc htc2 (by omega))
    obtain ⟨pe, hpe⟩ : ∃ pe, pe = (parX l).2 := ⟨_, rfl⟩
    obtain ⟨pc, hpc⟩ : ∃ pc, pc = (parX l).1 := ⟨_, rfl⟩
    rw [← hpe, ← hpc] at CP
    have HPE := Lib.hid hpe
    have HPC := Lib.hid hpc
    clear hpe hpc
    go_wp2_with fail
    refine CP.out.mono ?_
    rintro e w7 ⟨A2, n2, c2, B2, m2, d2, rfl, hr2, hb⟩
    obtain ⟨cq, hcq⟩ : ∃ cq, cq = pc.cap := ⟨_, rfl⟩
    rw [← hcq]
    have hbx := (Below.refl w7.heap.size w7).alloc (Nat.le_refl _) (.cells #[.slice A2 n2 c2, .slice B2 m2 d2, .int .i64 cq] 25)
    have hcell := World.alloc_heap_new w7 (.cells #[.slice A2 n2 c2, .slice B2 m2 d2, .int .i64 cq] 25)
    obtain ⟨w8, hw8⟩ : ∃ w8, w8 = w7.alloc (.cells #[.slice A2 n2 c2, .slice B2 m2 d2, .int .i64 cq] 25) := ⟨_, rfl⟩
    rw [← hw8] at hbx hcell
    obtain ⟨g9, hg9⟩ : ∃ g9, g9 = w7.heap.size := ⟨_, rfl⟩
    rw [← hg9] at hcell
    have HB8 := Lib.hid (Below.thn (Below.thn HB6.out hb) hbx)
    have HR8 := Lib.hid (hr2.below hbx)
    have HC8 := Lib.hid hcell
    have HCQ := Lib.hid hcq
    have HW8 := Lib.hid hw8
    have HG9 := Lib.hid hg9
    clear hr2 hb hbx hcell hcq hw8 hg9 CP HC6
    by_cases hp0 : pe = 0
    · have hpb : (pe != 0) = false := by rw [hp0]; rfl
      have HX : Hid (bytX pc = (l, 0)) := Lib.hid (parX_ok (by rw [← HPE.out]; exact hp0) HPC.out)
      have CB := Lib.hid (BytesW_any A2 n2 c2 B2 m2 d2 pc w8 HR8.out)
      rw [HX.out, ← HCQ.out] at CB
      obtain ⟨c0, c1, c2⟩ := cells3 HC8.out
      rw [HW8.out, HG9.out] at c0 c1 c2
      clear hp0
      go_wp2_with fail
      rw [← HW8.out]
      clear c0 c1 c2
      refine CB.out.mono ?_
      rintro e w9 ⟨r, rfl, ho, hb⟩
      obtain ⟨A5, c5, rfl, h51, h52, h53⟩ := OwnL.rd ho.1
      have CE := Lib.hid (bytesEqual_any A5 l.length c5 l T nt ct l w9 ⟨h53, ho.2⟩ h51 ((HT.out.below HB8.out).below hb) htc)
      rw [decide_eq_true (rfl : l = l)] at CE
      obtain ⟨N5, hN5⟩ : ∃ N5, N5 = l.length := ⟨_, rfl⟩
      rw [← hN5] at CE ⊢
      have HB9 := Lib.hid (Below.thn HB8.out hb)
      clear CB hb ho h51 h52 h53 hN5
      go_wp2_with fail
      refine CE.out.mono ?_
      rintro e w10 ⟨rfl, rfl⟩
      clear CE
      go_wp2
      go_ret
      exact ⟨rfl, HB9.out⟩
    · have HX : Hid (pc = ⟨[], [], 0⟩ ∧ pe = 140) := Lib.hid (by rw [HPC.out, HPE.out]; exact parX_no (by rw [← HPE.out]; exact hp0))
      obtain ⟨hpc, rfl⟩ := HX.out
      subst hpc
      obtain rfl : cq = 0 := HCQ.out
      have hz : ∀ (W : World), (Instr.build 25 #[]).run Try.prog W = .ok (.agg #[.slice none 0 0, .slice none 0 0, .int .i64 0]) W := fun W => run_build W 25 _ _ (by kernel_rfl)
      have CS := Lib.hid (SameW_any A2 n2 c2 B2 m2 d2 ⟨[], [], 0⟩ none 0 0 none 0 0 ⟨[], [], 0⟩ w8 HR8.out (rdc_nil w8))
      rw [decide_eq_true (rfl : (⟨[], [], 0⟩ : Cf) = _)] at CS
      obtain ⟨c0, c1, c2⟩ := cells3 HC8.out
      rw [HW8.out, HG9.out] at c0 c1 c2
      clear hp0 HX HCQ
      go_wp2_with fail
      rw [← HW8.out]
      clear c0 c1 c2
      refine CS.out.mono ?_
      rintro e w9 ⟨rfl, hb⟩
      have HB9 := Lib.hid (Below.thn HB8.out hb)
      clear CS hb
      go_wp2
      go_ret
      exact ⟨rfl, HB9.out⟩
  · have hzb : (e0 == 0) = false := by simp; exact hz0
    obtain ⟨w6, rfl⟩ : ∃ w6, w6 = w4 := ⟨_, rfl⟩
    have HB6 := HB4
    have HC6 := HC4
    have CP := Lib.hid (ParseW_any T nt ct l w6 (HT.out.below HB6.out) htc htc2 (by omega))
    obtain ⟨pe, hpe⟩ : ∃ pe, pe = (parX l).2 := ⟨_, rfl⟩
    obtain ⟨pc, hpc⟩ : ∃ pc, pc = (parX l).1 := ⟨_, rfl⟩
    rw [← hpe, ← hpc] at CP
    have HPE := Lib.hid hpe
    have HPC := Lib.hid hpc
    clear hpe hpc
    go_wp2_with fail
    refine CP.out.mono ?_
    rintro e w7 ⟨A2, n2, c2, B2, m2, d2, rfl, hr2, hb⟩
    obtain ⟨cq, hcq⟩ : ∃ cq, cq = pc.cap := ⟨_, rfl⟩
    rw [← hcq]
    have hbx := (Below.refl w7.heap.size w7).alloc (Nat.le_refl _) (.cells #[.slice A2 n2 c2, .slice B2 m2 d2, .int .i64 cq] 25)
    have hcell := World.alloc_heap_new w7 (.cells #[.slice A2 n2 c2, .slice B2 m2 d2, .int .i64 cq] 25)
    obtain ⟨w8, hw8⟩ : ∃ w8, w8 = w7.alloc (.cells #[.slice A2 n2 c2, .slice B2 m2 d2, .int .i64 cq] 25) := ⟨_, rfl⟩
    rw [← hw8] at hbx hcell
    obtain ⟨g9, hg9⟩ : ∃ g9, g9 = w7.heap.size := ⟨_, rfl⟩
    rw [← hg9] at hcell
    have HB8 := Lib.hid (Below.thn (Below.thn HB6.out hb) hbx)
    have HR8 := Lib.hid (hr2.below hbx)
    have HC8 := Lib.hid hcell
    have HCQ := Lib.hid hcq
    have HW8 := Lib.hid hw8
    have HG9 := Lib.hid hg9
    clear hr2 hb hbx hcell hcq hw8 hg9 CP HC6
    by_cases hp0 : pe = 0
    · have hpb : (pe != 0) = false := by rw [hp0]; rfl
      have HX : Hid (bytX pc = (l, 0)) := Lib.hid (parX_ok (by rw [← HPE.out]; exact hp0) HPC.out)
      have CB := Lib.hid (BytesW_any A2 n2 c2 B2 m2 d2 pc w8 HR8.out)
      rw [HX.out, ← HCQ.out] at CB
      obtain ⟨c0, c1, c2⟩ := cells3 HC8.out
      rw [HW8.out, HG9.out] at c0 c1 c2
      clear hp0
      go_wp2_with fail
      rw [← HW8.out]
      clear c0 c1 c2
      refine CB.out.mono ?_
      rintro e w9 ⟨r, rfl, ho, hb⟩
      obtain ⟨A5, c5, rfl, h51, h52, h53⟩ := OwnL.rd ho.1
      have CE := Lib.hid (bytesEqual_any A5 l.length c5 l T nt ct l w9 ⟨h53, ho.2⟩ h51 ((HT.out.below HB8.out).below hb) htc)
      rw [decide_eq_true (rfl : l = l)] at CE
      obtain ⟨N5, hN5⟩ : ∃ N5, N5 = l.length := ⟨_, rfl⟩
      rw [← hN5] at CE ⊢
      have HB9 := Lib.hid (Below.thn HB8.out hb)
      clear CB hb ho h51 h52 h53 hN5
      go_wp2_with fail
      refine CE.out.mono ?_
      rintro e w10 ⟨rfl, rfl⟩
      clear CE
      go_wp2
      go_ret
      exact ⟨rfl, HB9.out⟩
    · have HX : Hid (pc = ⟨[], [], 0⟩ ∧ pe = 140) := Lib.hid (by rw [HPC.out, HPE.out]; exact parX_no (by rw [← HPE.out]; exact hp0))
      obtain ⟨hpc, rfl⟩ := HX.out
      subst hpc
      obtain rfl : cq = 0 := HCQ.out
      have hz : ∀ (W : World), (Instr.build 25 #[]).run Try.prog W = .ok (.agg #[.slice none 0 0, .slice none 0 0, .int .i64 0]) W := fun W => run_build W 25 _ _ (by kernel_rfl)
      have CS := Lib.hid (SameW_any A2 n2 c2 B2 m2 d2 ⟨[], [], 0⟩ none 0 0 none 0 0 ⟨[], [], 0⟩ w8 HR8.out (rdc_nil w8))
      rw [decide_eq_true (rfl : (⟨[], [], 0⟩ : Cf) = _)] at CS
      obtain ⟨c0, c1, c2⟩ := cells3 HC8.out
      rw [HW8.out, HG9.out] at c0 c1 c2
      clear hp0 HX HCQ
      go_wp2_with fail
      rw [← HW8.out]
      clear c0 c1 c2
      refine CS.out.mono ?_
      rintro e w9 ⟨rfl, hb⟩
      have HB9 := Lib.hid (Below.thn HB8.out hb)
      clear CS hb
      go_wp2
      go_ret
      exact ⟨rfl, HB9.out⟩
end Go.Proofs.Ytbmdjmnjbflfeaa
