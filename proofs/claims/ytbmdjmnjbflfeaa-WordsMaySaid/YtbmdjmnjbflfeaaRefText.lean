/- What a rune, and a text, is folded to: the document's. Tables copied and compared. -/
import Derived.Test.YtbmdjmnjbflfeaaRefTab
import Derived.Test.YtbmdjmnjbflfeaaMS
namespace Go.Proofs.Ytbmdjmnjbflfeaa
open Go.RowKit Go.Shelf
set_option linter.unusedVariables false
set_option linter.unusedSimpArgs false

set_option maxRecDepth 100000 in
set_option maxHeartbeats 1000000 in
theorem refRune_any (A : Option Addr) (n c : Nat) (tb : List Fo) (r : Int) (w : World) (ht : RdT w A n tb) (hwf : wfT tb) (h1 : -2147483648 ≤ r) (h2 : r ≤ 2147483647) :
    Calls Try.prog 48 #[.slice A n c, .int .i32 r] w fun e w' => e = .returned (.int .i32 (oneR (eff tb) r)) ∧ Below w.heap.size w w' := by
  have HT := Lib.hid ht
  have C := Lib.hid (refCheck_any A n c tb w ht hwf)
  have H12 := Lib.hid (And.intro h1 h2)
  obtain ⟨R, hR⟩ : ∃ R, R = oneR (eff tb) r := ⟨_, rfl⟩
  rw [← hR]
  have HR := Lib.hid hR
  clear ht hR h1 h2
  by_cases hok : okTb tb
  · have HE : Hid (oneR tb r = R) := Lib.hid (by rw [HR.out, eff_yes hok])
    have HG : Hid (allGd tb) := Lib.hid fun i hi => (hok.2.1 i hi).1
    have HCh := Lib.hid (chk_yes hok)
    clear hok
    go_enter Try.func48, Try.ntmps48
    go_wp2_with fail
    refine C.out.mono ?_
    rintro e w1 ⟨rfl, hb⟩
    rw [HCh.out]
    have HB := Lib.hid hb
    have HT1 := Lib.hid (HT.out.below hb)
    clear hb C
    go_wp2_with fail
    refine (refFolds_any A n c tb r _ HT1.out HG.out H12.out.1 H12.out.2).mono ?_
    rintro e w2 ⟨V, rfl, hf, hb⟩
    have HB2 := Lib.hid (Below.thn HB.out hb)
    have HT2 := Lib.hid (HT1.out.below hb)
    clear hb
    rcases hf with ⟨rfl, h0⟩ | ⟨i, hi, rfl, h0⟩
    · have HF : Hid (r = R) := Lib.hid (by rw [← HE.out]; unfold oneR; rw [h0])
      clear h0
      go_wp2
      go_ret
      exact ⟨by rw [← HF.out]; rfl, HB2.out⟩
    · have hin : (i : Int) < (n : Int) := by have := HT.out.len; omega
      obtain ⟨ad, rfl, p, q, m, HP, e0, e1, e2⟩ := HT2.out.at (k := i) (by omega)
      have HGp : Hid (gd (p, q, m)) := Lib.hid (by obtain ⟨ha, hb⟩ := HP.out; rw [← hb]; exact HG.out i ha)
      have hh := List.find?_some (show tb.find? (hit r) = some tb[i] from h0)
      obtain ⟨_, hx⟩ := HP.out
      rw [hx, hit_iff HGp.out H12.out.1 H12.out.2] at hh
      obtain ⟨r1, r2, r3, r4⟩ := gd_rng HGp.out
      have r5 := HGp.out.2.1
      simp only at r1 r2 r3 r4 r5 hh
      obtain ⟨r6, r7⟩ := hh
      have HF : Hid (q + r - p = R) := Lib.hid (by
        rw [← HE.out]
        unfold oneR
        rw [h0, hx]
        unfold wrap32
        simp only
        omega)
      have wq : IntKind.i32.wrap (q + r) = q + r := by rw [IntKind.wrap_i32]; omega
      have wp : IntKind.i32.wrap (q + r - p) = q + r - p := by rw [IntKind.wrap_i32]; omega
      have hi0 : (0 : Int) ≤ (i : Int) := by omega
      clear h0 hx r6 r7 hi e2
      go_upto_region 6 with fail
      go_quiet (fail)
      clear wq wp e0 e1
      go_wp2
      go_ret
      exact ⟨by rw [← HF.out]; rfl, below_drewN HB2.out nq⟩
  · have HE : Hid (r = R) := Lib.hid (by rw [HR.out, eff_no hok, oneR_nil])
    have HCh := Lib.hid (chk_no hok)
    clear hok
    go_enter Try.func48, Try.ntmps48
    go_wp2_with fail
    refine C.out.mono ?_
    rintro e w1 ⟨rfl, hb⟩
    rw [HCh.out]
    have HB := Lib.hid hb
    clear hb C
    go_wp2
    go_ret
    exact ⟨by rw [← HE.out]; rfl, HB.out⟩

theorem OwnK.rdM {w : World} {base : Nat} {A : Option Addr} {n c : Nat} {L : List (Nat × Nat)} (h : OwnM w base (.slice A n c) L) : RdM w A n L := by
  obtain ⟨A', c', e, _, _, h3⟩ := OwnK.rd encMk_len h
  cases e
  exact h3
theorem formL_enc {r : Int} (h : okRune r) : formL r = encL r := by
  obtain ⟨n, rfl⟩ : ∃ n : Nat, r = n := ⟨r.toNat, by unfold okRune at h; omega⟩
  rw [encL_form h]
  unfold okRune at h
  exact formL_yes (by omega) (by omega)
theorem encs_len (rs : List Int) : (encsL rs).length ≤ 4 * rs.length := by
  induction rs with
  | nil => simp [encsL]
  | cons r rs ih =>
    have := encL_len r
    unfold encsL at *
    simp only [List.flatMap_cons, List.length_append, List.length_cons]
    omega
theorem encsL_append (rs : List Int) (r : Int) : encsL (rs ++ [r]) = encsL rs ++ encL r := by simp [encsL]
theorem text_marks (tb : List Fo) (l : List Nat) : textL tb l = encsL ((marksL l).map fun x => oneR (eff tb) (x.2 : Int)) := by
  unfold textL rnsL
  rw [List.map_map]
  rfl
set_option maxRecDepth 100000 in
set_option maxHeartbeats 2000000 in
theorem refText_any (A : Option Addr) (n c : Nat) (tb : List Fo) (B : Option Addr) (m d : Nat) (l : List Nat) (w : World) (ht : RdT w A n tb) (hwf : wfT tb) (hl : RdB w B m l) (hd : m ≤ d) (hm : m ≤ 100000000) (hd2 : d ≤ 9223372036854775807) :
    Calls Try.prog 19 #[.slice A n c, .slice B m d] w fun e w' => e = .returned (.string (strL (textL tb l))) ∧ Below w.heap.size w w' := by
  have HT := Lib.hid ht
  have HL := Lib.hid hl
  have HW := Lib.hid hwf
  obtain ⟨T, hT⟩ : ∃ T, T = textL tb l := ⟨_, rfl⟩
  rw [← hT]
  have HTx := Lib.hid hT
  clear ht hl hT
  go_enter Try.func19, Try.ntmps19
  go_wp2_with fail
  have H0 : Hid (OwnB (w.alloc (.cells #[] 5)) w.heap.size (.slice (some ⟨w.heap.size, 0, none⟩) 0 0) []) := Lib.hid (OwnB.lit w [] #[] 0 rfl rfl Byt.nil (by decide))
  have HB0 := Lib.hid ((Below.refl w.heap.size w).alloc (Nat.le_refl _) (.cells #[] 5))
  refine (refRunes_any B m d l _ (HL.out.below HB0.out) hd hm hd2).mono ?_
  rintro e w1 ⟨v, rfl, ho, hb⟩
  obtain ⟨A6, n6, c6, rfl, h61, h62, h63⟩ := OwnK.ms ho
  obtain ⟨M, hM⟩ : ∃ M, M = marksL l := ⟨_, rfl⟩
  rw [← hM] at h63
  have HM := Lib.hid h63
  have HOM : Hid (OwnM w1 w.heap.size (.slice A6 n6 c6) M) := Lib.hid (by rw [hM]; exact OwnK.mono ho HB0.out.size)
  have HMe := Lib.hid hM
  have HB1 := Lib.hid (Below.thn HB0.out hb)
  have HO1 := Lib.hid (H0.out.below hb)
  have hn6 : n6 ≤ 100000000 := by
    have := h63.len
    have := marksL_len l
    have := HL.out.len
    rw [hM] at *
    omega
  clear ho hb h63 hM h61 H0
  go_wp2_with fail
  go_loopw [5, 7] (fun x5 x7 wr => ∃ k : Nat, k ≤ n6 ∧ x7 = .int .i64 k ∧ Hid (OwnB wr w.heap.size x5 (encsL ((M.take k).map fun x => oneR (eff tb) (x.2 : Int))) ∧ Below w.heap.size w wr ∧ OwnM wr w.heap.size (.slice A6 n6 c6) M)) (fun _ x7 _ => n6 - (intOf x7).toNat)
  case atStart => exact ⟨0, by omega, rfl, Lib.hid ⟨by simpa [encsL] using HO1.out, HB1.out, HOM.out⟩⟩
  case round =>
    obtain ⟨k, hk, rfl, HI⟩ := hrel
    by_cases hlt : (k : Int) < (n6 : Int)
    · obtain ⟨ad, x, rfl, HX, y0, y1⟩ := (OwnK.rdM HI.out.2.2).at2 (k := k) (by omega)
      obtain ⟨ps, r⟩ := x
      simp only at y0 y1
      have HV : Hid (okRune (r : Int)) := Lib.hid (by
        obtain ⟨hk5, hy⟩ := HX.out
        refine rns_valid l.length l (Nat.le_refl _) HL.out.byt r ?_
        unfold rnsL
        rw [← HMe.out]
        exact List.mem_map.2 ⟨(ps, r), by rw [← hy]; exact List.getElem_mem _, rfl⟩)
      have hr : (r : Int) ≤ 1114111 := HV.out.2.1
      have C := Lib.hid (refRune_any A n c tb (r : Int) wr (HT.out.below HI.out.2.1) HW.out (by omega) (by omega))
      have HV2 := Lib.hid (oneE_rune tb HV.out)
      obtain ⟨R, hR⟩ : ∃ R, R = oneR (eff tb) (r : Int) := ⟨_, rfl⟩
      rw [← hR] at C HV2
      have HR := Lib.hid hR
      clear hR
      go_wp2_with fail
      refine C.out.mono ?_
      rintro e w2 ⟨rfl, hb⟩
      have HB2 := Lib.hid (Below.thn HI.out.2.1 hb)
      have HO2 := Lib.hid (HI.out.1.below hb)
      have HM2 := Lib.hid (OwnK.below HI.out.2.2 hb)
      clear hb C y0 y1
      go_wp2_with fail
      refine (Form_any R _ (by have := HV2.out.1; omega) (by have := HV2.out.2.1; omega)).mono ?_
      rintro e w3 ⟨v, rfl, ho, hb⟩
      rw [formL_enc HV2.out] at ho
      obtain ⟨A9, n9, c9, rfl, h91, h92, h93⟩ := ho.bs
      have HB3 := Lib.hid (Below.thn HB2.out hb)
      have HO3 := Lib.hid (HO2.out.below hb)
      have HM3 := Lib.hid (OwnK.below HM2.out hb)
      have hn9 : n9 ≤ 4 := by rw [← h93.len]; exact encL_len R
      have hlx : (encsL ((M.take k).map fun x => oneR (eff tb) (x.2 : Int))).length ≤ 400000000 := by
        have := encs_len ((M.take k).map fun x => oneR (eff tb) (x.2 : Int))
        rw [List.length_map, List.length_take] at this
        omega
      obtain ⟨v1, w4, r1, o1, g1, at1⟩ := run_append_rd (P := Try.prog) (c := c9) w.heap.size 26 26 5 (.int .u8 0) 1 Try.underlying26 infoB rfl (by decide) encB_one HO3.out.1 h93.rd (by omega) HB3.out.size
      have HN : Hid (OwnB w4 w.heap.size v1 (encsL ((M.take (k + 1)).map fun x => oneR (eff tb) (x.2 : Int))) ∧ Below w.heap.size w w4 ∧ OwnM w4 w.heap.size (.slice (some ad) n6 c6) M) := Lib.hid (by
        obtain ⟨hk5, hy⟩ := HX.out
        refine ⟨?_, HB3.out.grown g1 HB3.out.size (fun j hj => (HO3.out.1.base j hj).1), OwnK.kept HM3.out g1 (rows_apart HM3.out HO3.out.1 (by decide))⟩
        rw [List.take_succ_eq_append_getElem hk5, List.map_append, hy]
        show OwnB w4 w.heap.size v1 (encsL (_ ++ [oneR (eff tb) (r : Int)]))
        rw [← HR.out, encsL_append]
        exact ⟨o1, (encsL_byt _).append h93.byt⟩)
      clear ho hb h91 h92 h93 hlx o1 g1 at1
      go_wp2_with (at_builtin; refine wpl_append_run rfl _ _ _ rfl rfl rfl r1 ?_)
      exact ⟨⟨k + 1, by omega, by go_num, HN⟩, by simp [intOf]; omega⟩
    · have HTe : Hid (OwnB wr w.heap.size u5 T) := Lib.hid (by
        have h := HI.out.1
        rw [List.take_of_length_le (by rw [HM.out.len]; omega)] at h
        rw [HTx.out, text_marks, ← HMe.out]
        exact h)
      obtain ⟨A5, n5, c5, rfl, h51, h52, h53⟩ := HTe.out.bs
      have hst := run_str wr A5 n5 c5 T h53 h51
      obtain ⟨Z, hZ⟩ : ∃ Z, Z = strL T := ⟨_, rfl⟩
      rw [← hZ] at hst
      have HZ := Lib.hid hZ
      clear hZ h53
      go_wp2
      go_ret
      exact ⟨by rw [← HZ.out]; rfl, HI.out.2.1⟩
end Go.Proofs.Ytbmdjmnjbflfeaa
