import Derived.Test.YtaaddckhldccjaaRefMg
import Derived.Test.YtaaddckhldccjaaPhr
import Derived.Test.YtaaddckhldccjaaPst
import Derived.Test.YtaaddckhldccjaaMg
import Derived.Test.YtaaddckhldccjaaRegT

/- The document's Phrase. -/
namespace Go.Proofs.Ytaaddckhldccjaa
open Go.RowKit
set_option linter.unusedVariables false
set_option linter.unusedSimpArgs false

theorem at_q (A : Option Addr) (n c : Nat) (l : List Int) (d : Int) (w : World) (h : Rd encI w A n l) :
    Calls Try.prog 62 #[.slice A n c, .int .i64 d] w fun e w' => e = .returned (.bool (decide (d ∈ l))) ∧ w' = w :=
  (at_any A n c l d w h).mono fun e w' h => ⟨h.1, h.2.symm⟩
set_option maxRecDepth 100000 in
set_option maxHeartbeats 2000000 in
theorem places_found (ad : Addr) (n c : Nat) (ls : List Po) (d k0 : Nat) (B : Option Addr) (m c1 : Nat) (w : World) (h : RdPo w (some ad) n ls) (hk0 : k0 < n) (hd : ∃ hl : k0 < ls.length, ls[k0].1 = d) (h0 : ∀ j (hj : j < ls.length), j < k0 → ls[j].1 ≠ d)
    (hx1 : w.cell? ⟨(ad.add (k0 * 2)).block, (ad.add (k0 * 2)).off + 1, none⟩ = some (.slice B m c1)) :
    Calls Try.prog 61 #[.slice (some ad) n c, .int .u32 (d : Nat)] w fun e w' => e = .returned (.slice B m c1) ∧ w' = w := by
  have HR := Lib.hid h
  have hn := h.max
  have HLn := Lib.hid h.len
  have H0 := Lib.hid h0
  have HD := Lib.hid hd
  have HX1 := Lib.hid hx1
  clear h h0 hd hx1
  go_enter Try.func61, Try.ntmps61
  go_wp2_with fail
  go_loop [5] (fun x => ∃ k : Nat, k ≤ k0 ∧ x = .int .i64 (k : Nat)) (fun x => n - (intOf x).toNat)
  case atStart => exact ⟨0, Nat.zero_le _, rfl⟩
  case round =>
    obtain ⟨k, hk, rfl⟩ := hrel
    have hlt : (k : Int) < (n : Int) := by omega
    obtain ⟨ad', B', m', c1', dd, l, ee, HX, x0, x1, hm1, hm2, HRI, hdd⟩ := HR.out.at (k := k) (by omega)
    cases ee
    by_cases hke : k = k0
    · have hxd : dd = d := by
        obtain ⟨hl, e1⟩ := HX.out
        obtain ⟨hl2, e2⟩ := HD.out
        rw [← e2]
        subst hke
        rw [e1]
      have hq : ((dd : Int) == (d : Int)) = true := by simp; omega
      have x2 : w.cell? ⟨(ad.add (k * 2)).block, (ad.add (k * 2)).off + 1, none⟩ = some (.slice B m c1) := by rw [hke]; exact HX1.out
      clear hke x1 hxd
      go_wp2
      go_ret
      exact ⟨rfl, rfl⟩
    · have hxd : dd ≠ d := by
        obtain ⟨hl, e1⟩ := HX.out
        have := H0.out k hl (by omega)
        rw [e1] at this
        exact this
      have hq : ((dd : Int) == (d : Int)) = false := by simp; omega
      clear x1 hxd
      go_wp2
      exact ⟨⟨k + 1, by omega, by go_num⟩, by simp [intOf]; omega⟩
theorem places_def (A : Option Addr) (n c : Nat) (ls : List Po) (d : Nat) (w : World) (h : RdPo w A n ls) : ∃ B m cc, (m ≤ cc ∧ cc ≤ 9223372036854775807 ∧ Rd encI w B m (posDoc ls d)) ∧
    ∀ W, Below w.heap.size w W → Calls Try.prog 61 #[.slice A n c, .int .u32 (d : Nat)] W fun e w' => e = .returned (.slice B m cc) ∧ w' = W := by
  by_cases hf : ls.findIdx (fun p => p.1 == d) < ls.length
  · obtain ⟨k0, hk0⟩ : ∃ k0, k0 = ls.findIdx (fun p => p.1 == d) := ⟨_, rfl⟩
    rw [← hk0] at hf
    have hkn : k0 < n := by rw [← h.len]; exact hf
    obtain ⟨ad, B, m, c1, dd, l, rfl, HX, x0, x1, hm1, hm2, HRI, hdd⟩ := h.at (k := k0) hkn
    have hd1 : ls[k0].1 = d := by
      have := List.findIdx_getElem (p := fun p : Po => p.1 == d) (xs := ls) (w := by rw [← hk0]; exact hf)
      subst hk0
      simpa using this
    have hno : ∀ j (hj : j < ls.length), j < k0 → ls[j].1 ≠ d := fun j hj hjk e => by
      have := List.not_of_lt_findIdx (p := fun p : Po => p.1 == d) (xs := ls) (i := j) (by rw [← hk0]; exact hjk)
      simp [e] at this
    obtain ⟨hl, e1⟩ := HX.out
    have hdd' : dd = d := by rw [e1] at hd1; exact hd1
    refine ⟨B, m, c1, ⟨hm1, hm2, ?_⟩, fun W hW => places_found ad n c ls d k0 B m c1 W (h.below hW) hkn ⟨hl, hd1⟩ hno (cell_keep hW x1)⟩
    rw [posDoc_at (k := k0) (l := l) ⟨hl, by rw [e1, hdd']⟩ fun p hp => ?_]
    · exact HRI.out
    · obtain ⟨j, hj, rfl⟩ := List.mem_take_iff_getElem.1 hp
      exact hno j (by omega) (by omega)
  · have hno : ∀ p ∈ ls, p.1 ≠ d := fun p hp e => hf (List.findIdx_lt_length_of_exists ⟨p, hp, by simpa using e⟩)
    refine ⟨none, 0, 0, ⟨Nat.le_refl _, by decide, by rw [posDoc_not hno]; exact Rd.empty w⟩, fun W hW => ?_⟩
    have HR := Lib.hid (h.below hW)
    have hn := h.max
    have HLn := Lib.hid h.len
    have HN := Lib.hid hno
    clear h hno hf
    go_enter Try.func61, Try.ntmps61
    go_wp2_with fail
    go_loop [5] (fun x => ∃ k : Nat, k ≤ n ∧ x = .int .i64 (k : Nat)) (fun x => n - (intOf x).toNat)
    case atStart => exact ⟨0, Nat.zero_le _, rfl⟩
    case round =>
      obtain ⟨k, hk, rfl⟩ := hrel
      by_cases hlt : (k : Int) < (n : Int)
      · obtain ⟨ad, B', m', c1', dd, l, rfl, HX, x0, x1, hm1, hm2, HRI, hdd⟩ := HR.out.at (k := k) (by omega)
        have hxd : dd ≠ d := by
          obtain ⟨hl, e1⟩ := HX.out
          have := HN.out _ (List.getElem_mem hl)
          rw [e1] at this
          exact this
        have hq : ((dd : Int) == (d : Int)) = false := by simp; omega
        clear x1 hxd
        go_wp2
        exact ⟨⟨k + 1, by omega, by go_num⟩, by simp [intOf]; omega⟩
      · go_wp2
        go_ret
        exact ⟨rfl, rfl⟩
set_option maxRecDepth 100000 in
set_option maxHeartbeats 8000000 in
theorem refPhrase_any (A : Option Addr) (n c : Nat) (lo : List Int) (D : Option Addr) (m e : Nat) (L : List VV) (w : World) (h : Rd encI w A n lo) (hv : RdVV w D m L) (hLS : ∀ x ∈ L, x.n ≤ 1000000) :
    Calls Try.prog 35 #[.slice A n c, .slice D m e] w fun e w' => ∃ v, e = .returned (.tuple #[v, .int .i64 (phE lo L)]) ∧ LS w' v (phX lo L) ∧ Below w.heap.size w w' := by
  have HR := Lib.hid h
  have HW := Lib.hid hv
  have hn := h.max
  have hm := hv.rd.max
  have HLn := Lib.hid (And.intro h.len hv.len)
  have HLS := Lib.hid hLS
  have HEnd : ∀ (hno : ¬ offOk lo L.length), Hid (phE lo L = 1 ∧ phX lo L = []) := fun hno => Lib.hid ⟨by unfold phE; rw [if_neg hno], by unfold phX; rw [if_neg fun h => hno h.1]⟩
  clear h hv hLS
  by_cases g1 : (n : Int) < 1
  · have HF := HEnd (fun h => by have := h.1; have := h.2.1; have := HLn.out.1; omega)
    clear HEnd
    go_enter Try.func35, Try.ntmps35
    go_wp2
    refine bodyPost_ret (v := .tuple #[.slice none 0 0, .int .i64 1]) (by simp [results, Try.results35, go_sem]) rfl ⟨_, by rw [HF.out.1], by rw [HF.out.2]; exact ⟨none, 0, 0, rfl, Nat.le_refl _, by decide, RdPo.empty _⟩, Below.refl _ _⟩
  by_cases g2 : (n : Int) > 16
  · have HF := HEnd (fun h => by have := h.1; have := h.2.2.1; have := HLn.out.1; omega)
    clear HEnd
    go_enter Try.func35, Try.ntmps35
    go_wp2
    refine bodyPost_ret (v := .tuple #[.slice none 0 0, .int .i64 1]) (by simp [results, Try.results35, go_sem]) rfl ⟨_, by rw [HF.out.1], by rw [HF.out.2]; exact ⟨none, 0, 0, rfl, Nat.le_refl _, by decide, RdPo.empty _⟩, Below.refl _ _⟩
  by_cases g3 : n = m
  case neg =>
    have HF := HEnd (fun h => by have := h.1; have := HLn.out; omega)
    have hq : ((n : Int) != (m : Int)) = true := by simp; omega
    clear HEnd g3
    go_enter Try.func35, Try.ntmps35
    go_wp2
    refine bodyPost_ret (v := .tuple #[.slice none 0 0, .int .i64 1]) (by simp [results, Try.results35, go_sem]) rfl ⟨_, by rw [HF.out.1], by rw [HF.out.2]; exact ⟨none, 0, 0, rfl, Nat.le_refl _, by decide, RdPo.empty _⟩, Below.refl _ _⟩
  subst g3
  have hq3 : ((n : Int) != (n : Int)) = false := by simp
  obtain ⟨ad, o0, rfl, HO0, y0⟩ := rdI_at HR.out (k := 0) (by omega)
  rw [Addr.add_zero'] at y0
  by_cases g4 : o0 = 0
  case neg =>
    have HF := HEnd (fun h => g4 (by have := h.2.2.2.1; rwa [posAt HO0.out] at this))
    have hq : (o0 != 0) = true := by simpa using g4
    clear HEnd g4
    go_enter Try.func35, Try.ntmps35
    go_wp2
    refine bodyPost_ret (v := .tuple #[.slice none 0 0, .int .i64 1]) (by simp [results, Try.results35, go_sem]) rfl ⟨_, by rw [HF.out.1], by rw [HF.out.2]; exact ⟨none, 0, 0, rfl, Nat.le_refl _, by decide, RdPo.empty _⟩, Below.refl _ _⟩
  subst g4
  have HX0 : Hid (lo.getD 0 0 = 0) := Lib.hid (posAt HO0.out)
  go_enter Try.func35, Try.ntmps35
  go_wp2_with fail
  clear y0 HO0
  go_loopw [6] (fun x wr => ∃ K : Nat, x = .int .i64 (K : Nat) ∧ K ≤ n ∧ Hid (∀ i, 0 < i → i < K → offAt lo i) ∧ Hid (Below w.heap.size w wr)) (fun x _ => n - (intOf x).toNat)
  case atStart => exact ⟨0, rfl, Nat.zero_le _, Lib.hid (fun i h1 h2 => by omega), Lib.hid (Below.refl _ _)⟩
  case round =>
    obtain ⟨K, rfl, hK, HI, HB⟩ := hrel
    by_cases hlt : (K : Int) < (n : Int)
    · obtain ⟨ae, y, ee, HY, y0⟩ := rdI_at (HR.out.below HB.out) (k := K) (by omega)
      cases ee
      by_cases hy2 : y > 1048576
      · have HF := HEnd (fun h => by
          have h1 := posAt HY.out
          rcases Nat.eq_zero_or_pos K with h0 | h0
          · subst h0; rw [HX0.out] at h1; omega
          · have := (h.2.2.2.2 K h0 (by have := HLn.out.2; omega)).2
            omega)
        have hd1 : decide (y > 1048576) = true := decide_eq_true hy2
        clear HEnd
        go_upto_region 6 with fail
        go_quiet (fail)
        have HBn := Lib.hid (below_drewN HB.out nq)
        clear y0
        go_wp2
        refine bodyPost_ret (v := .tuple #[.slice none 0 0, .int .i64 1]) (by simp [results, Try.results35, go_sem]) rfl ⟨_, by rw [HF.out.1], by rw [HF.out.2]; exact ⟨none, 0, 0, rfl, Nat.le_refl _, by decide, RdPo.empty _⟩, HBn.out⟩
      have hd1 : decide (y > 1048576) = false := decide_eq_false hy2
      by_cases hK0 : K = 0
      · subst hK0
        rw [Addr.add_zero'] at y0
        have HN : Hid (∀ i, 0 < i → i < 0 + 1 → offAt lo i) := Lib.hid (fun i h1 h2 => by omega)
        go_upto_region 6 with fail
        go_quiet (fail)
        have HBn := Lib.hid (below_drewN HB.out nq)
        clear y0
        go_wp2
        exact ⟨⟨1, by simp; try go_num, by omega, HN, HBn⟩, by simp [intOf]; omega⟩
      · obtain ⟨k, hk⟩ : ∃ k, K = k + 1 := ⟨K - 1, by omega⟩
        obtain ⟨ae', x, ee, HX, x0⟩ := rdI_at (HR.out.below HB.out) (k := k) (by omega)
        cases ee
        have hs : (K : Int) - 1 = (k : Int) := by omega
        have hKi : (0 : Int) < (K : Int) := by omega
        have hKn : 0 < K := by omega
        have HAT : Hid (offAt lo K ↔ (x < y ∧ y ≤ 1048576)) := Lib.hid (by
          have h1 := posAt HX.out
          have h2 := posAt HY.out
          have h3 : K - 1 = k := by omega
          unfold offAt
          rw [h3, h1, h2])
        have HKK := Lib.hid hk
        have hk1 : k < n := by omega
        clear hk
        by_cases hyx : x ≥ y
        · have hd : decide (x ≥ y) = true := decide_eq_true hyx
          have HF := HEnd (fun h => by
            have := HAT.out.1 (h.2.2.2.2 K (by omega) (by have := HLn.out.2; omega))
            omega)
          clear HEnd
          go_upto_region 6 with fail
          go_quiet (fail)
          have HBn := Lib.hid (below_drewN HB.out nq)
          clear y0 x0
          go_wp2
          refine bodyPost_ret (v := .tuple #[.slice none 0 0, .int .i64 1]) (by simp [results, Try.results35, go_sem]) rfl ⟨_, by rw [HF.out.1], by rw [HF.out.2]; exact ⟨none, 0, 0, rfl, Nat.le_refl _, by decide, RdPo.empty _⟩, HBn.out⟩
        · have hd : decide (x ≥ y) = false := decide_eq_false hyx
          have HN : Hid (∀ i, 0 < i → i < K + 1 → offAt lo i) := Lib.hid (fun i h1 h2 => by
            rcases Nat.lt_succ_iff_lt_or_eq.1 h2 with h3 | h3
            · exact HI.out i h1 h3
            · subst h3; exact HAT.out.2 ⟨by omega, by omega⟩)
          go_upto_region 6 with fail
          go_quiet (fail)
          have HBn := Lib.hid (below_drewN HB.out nq)
          clear y0 x0
          go_wp2
          exact ⟨⟨K + 1, by simp; try go_num, by omega, HN, HBn⟩, by simp [intOf]; omega⟩
    · have HOK : Hid (offOk lo L.length) := Lib.hid ⟨by have := HLn.out; omega, by have := HLn.out.2; omega, by have := HLn.out.2; omega, HX0.out, fun i h1 h2 => HI.out i h1 (by have := HLn.out.2; omega)⟩
      clear HEnd
      have C := Lib.hid (lists_any D n e L wr (HW.out.below HB.out))
      go_wp2_with fail
      refine C.out.mono ?_
      rintro e9 w1 ⟨rfl, hb⟩
      have HB1 := Lib.hid (Below.thn HB.out hb)
      clear hb C
      by_cases ha : allRt L
      case neg =>
        rw [allRtB_f ha]
        have HE : Hid (phE lo L = 160 ∧ phX lo L = []) := Lib.hid ⟨by unfold phE; rw [if_pos HOK.out, if_neg ha], by unfold phX; rw [if_neg fun h => ha h.2]⟩
        clear ha
        go_wp2
        refine bodyPost_ret (v := .tuple #[.slice none 0 0, .int .i64 160]) (by simp [results, Try.results35, go_sem]) rfl ⟨_, by rw [HE.out.1], by rw [HE.out.2]; exact ⟨none, 0, 0, rfl, Nat.le_refl _, by decide, RdPo.empty _⟩, HB1.out⟩
      rw [allRtB_t ha]
      have HA := Lib.hid ha
      have HE : Hid (phE lo L = 0 ∧ phX lo L = phL lo L ((L.map (·.l)).getD 0 [])) := Lib.hid ⟨by unfold phE; rw [if_pos HOK.out, if_pos ha], by unfold phX; rw [if_pos ⟨HOK.out, ha⟩]⟩
      clear ha
      obtain ⟨av, x0, rfl, HX0v, HXO, hx0n, z0⟩ := (HW.out.below HB1.out).at (k := 0) (by omega)
      rw [Addr.add_zero'] at z0
      have HG0 : Hid ((L.map (·.l)).getD 0 [] = x0.l) := Lib.hid (by
        obtain ⟨hl, e9⟩ := HX0v.out
        rw [List.getD_eq_getElem?_getD, List.getElem?_eq_getElem (by simpa using hl)]
        simp [e9])
      have HR0 := Lib.hid (HA.out x0 (by obtain ⟨hl, e9⟩ := HX0v.out; rw [← e9]; exact List.getElem_mem hl))
      have HZ0 := Lib.hid z0
      clear z0
      go_wp2_with fail
      go_loopw [7, 8] (fun o x wr => ∃ k : Nat, x = .int .i64 (k : Nat) ∧ k ≤ x0.n ∧ Hid (∃ os, OutJ w1.heap.size o os wr ∧ os.map (·.1) = phL lo L (x0.l.take k) ∧ Below w1.heap.size w1 wr)) (fun _ x _ => x0.n - (intOf x).toNat)
      case atStart => exact ⟨0, rfl, Nat.zero_le _, Lib.hid ⟨[], OutJ.nil _ _, rfl, Below.refl _ _⟩⟩
      case round =>
        obtain ⟨k, rfl, hk, HI⟩ := hrel
        obtain ⟨os, h1, h2, h3⟩ := HI.out
        have HO := Lib.hid h1
        have HEq := Lib.hid h2
        have HBk := Lib.hid h3
        have z0 := cell_keep h3 HZ0.out
        clear h1 h2 h3 HI
        by_cases hlt2 : (k : Int) < (x0.n : Int)
        · obtain ⟨a0, B, mp, cp, d, lp, ea, HP, p0, p1, hp1, hp2, HRI, hd⟩ := (HXO.out.below HBk.out).rd.at (k := k) (by omega)
          obtain ⟨W1, hW1⟩ : ∃ W1, W1 = wr := ⟨_, rfl⟩
          subst hW1
          obtain ⟨gp, hgp⟩ : ∃ gp, gp = W1.heap.size := ⟨_, rfl⟩
          obtain ⟨wA, hwA⟩ : ∃ wA, wA = W1.alloc (.cells #[.int .u32 (d : Nat), .slice none 0 0] 32) := ⟨_, rfl⟩
          have hbA : Below W1.heap.size W1 wA := by rw [hwA]; exact (Below.refl _ _).alloc (Nat.le_refl _) _
          have hbx : Box2 wA gp 32 (.int .u32 (d : Nat)) (.slice none 0 0) := by rw [hwA, hgp]; exact Box2.new _ _ _ _
          have hz : ∀ (W : World), (Instr.build 32 #[(0, .int .u32 (d : Nat))]).run Try.prog W = .ok (.agg #[.int .u32 (d : Nat), .slice none 0 0]) W := fun W => run_build W 32 _ _ (by kernel_rfl)
          have HPA : Hid (phAt lo L d = rowOf lo (wsOf L d) lp) := Lib.hid (by
            unfold phAt rowL
            rw [wsOf_pos HX0v.out]
            congr 1
            obtain ⟨hl, e9⟩ := HP.out
            have := posDoc_mem HR0.out (List.getElem_mem hl)
            rw [e9] at this
            exact this)
          have HI0 : Hid (∃ v, Box2 wA gp 32 (.int .u32 (d : Nat)) v ∧ OwnI wA W1.heap.size v (rowOf lo (wsOf L d) (lp.take 0)) ∧ Below W1.heap.size W1 wA) := Lib.hid ⟨_, hbx, OwnL.nil _ _ _ _, hbA⟩
          have HWA := Lib.hid hwA
          have HGP := Lib.hid hgp
          have HOKP : Hid (okPos lp ∧ mp ≤ 2000) := Lib.hid (by
            obtain ⟨hl, e9⟩ := HP.out
            have := rt_at HR0.out (List.getElem_mem hl)
            rw [e9] at this
            exact ⟨this.1, by have h1 := this.2.1; have h2 := HRI.out.len; simp only at h1; omega⟩)
          have HPC := Lib.hid (And.intro p0 p1)
          clear hwA hgp hbA hbx
          go_wp2_with fail
          rw [← HWA.out, ← HGP.out]
          clear hz z0 p0 p1
          go_loopw [10] (fun y wq => ∃ j : Nat, y = .int .i64 (j : Nat) ∧ j ≤ mp ∧ Hid (∃ v, Box2 wq gp 32 (.int .u32 (d : Nat)) v ∧ OwnI wq W1.heap.size v (rowOf lo (wsOf L d) (lp.take j)) ∧ Below W1.heap.size W1 wq)) (fun y _ => mp - (intOf y).toNat)
          case atStart => exact ⟨0, rfl, Nat.zero_le _, HI0⟩
          case round =>
            obtain ⟨j, rfl, hj, HJ⟩ := hrel
            obtain ⟨v, h1, h2, h3⟩ := HJ.out
            have HX2 := Lib.hid h1
            have HV := Lib.hid h2
            have HBJ := Lib.hid h3
            obtain ⟨g0, g1, g2, g3⟩ := h1.facts
            have p0 := cell_keep h3 HPC.out.1
            have p1 := cell_keep h3 HPC.out.2
            have z0 := cell_keep (Below.thn HBk.out h3) HZ0.out
            clear h1 h2 h3
            by_cases hlj : (j : Int) < (mp : Int)
            · obtain ⟨ab, pp, rfl, HPP, q0⟩ := rdI_at (HRI.out.below HBJ.out) (k := j) (by omega)
              have HPB : Hid (0 ≤ pp ∧ pp ≤ 1048576) := Lib.hid (by
                obtain ⟨hl, e9⟩ := HPP.out
                have h1 := HOKP.out.1 j hl
                have h2 : lp.getD j 0 = pp := posAt ⟨hl, e9⟩
                exact ⟨by rw [← h2]; exact h1.1, by rw [← h2]; exact h1.2.1⟩)
              obtain ⟨hpp1, hpp2⟩ := HPB.out
              obtain ⟨W2, hW2⟩ : ∃ W2, W2 = wr := ⟨_, rfl⟩
              subst hW2
              have HG0' := Lib.hid g0
              go_wp2_with fail
              clear g0 g1 g2 g3 p0 p1 z0 q0
              go_loopw [12, 13] (fun b z wq => ∃ (ii : Nat) (bq : Bool), z = .int .i64 (ii : Nat) ∧ ii ≤ n ∧ b = .bool bq ∧ Hid (bq = true ↔ stand lo (wsOf L d) pp ii) ∧ Hid (Below W2.heap.size W2 wq)) (fun _ z _ => n - (intOf z).toNat)
              case atStart => exact ⟨0, true, rfl, Nat.zero_le _, rfl, Lib.hid ⟨fun _ i hi => absurd hi (Nat.not_lt_zero _), fun _ => rfl⟩, Lib.hid (Below.refl _ _)⟩
              case round =>
                obtain ⟨ii, bq, rfl, hii, rfl, HST, HBi⟩ := hrel
                have HB0i := Lib.hid (Below.thn HB1.out (Below.thn HBk.out (Below.thn HBJ.out HBi.out)))
                by_cases hli : (ii : Int) < (n : Int)
                · obtain ⟨av', xx, ee, HXX, HXXO, hxxn, c0⟩ := (HW.out.below HB0i.out).at (k := ii) (by omega)
                  cases ee
                  obtain ⟨ad', o, ee, HOX, c1⟩ := rdI_at (HR.out.below HB0i.out) (k := ii) (by omega)
                  cases ee
                  have HOE := Lib.hid (posAt HOX.out)
                  have hob : 0 ≤ o ∧ o ≤ 1048576 := by have := offOk_bound HOK.out ii (by have := HLn.out.2; omega); rwa [HOE.out] at this
                  obtain ⟨ho1, ho2⟩ := hob
                  have c2 := cell_keep HBi.out HG0'.out
                  cases bq
                  · have HN : Hid (false = true ↔ stand lo (wsOf L d) pp (ii + 1)) := Lib.hid ⟨fun h => (by cases h), fun h => HST.out.2 fun i hi => h i (by omega)⟩
                    go_upto_region 23 with fail
                    go_quiet (fail)
                    have HB9 := Lib.hid (below_drewN HBi.out nq)
                    clear c0 c1 c2
                    go_wp2
                    exact ⟨⟨ii + 1, false, by simp; try go_num, by omega, rfl, HN, HB9⟩, by simp [intOf]; omega⟩
                  · obtain ⟨B2, m2, c2', ⟨hb1, hb2, hrd⟩, hC⟩ := places_def xx.A xx.n xx.c xx.l d wr HXXO.out.rd
                    have CH1 := Lib.hid (fun q : Nat => Calls.quiet_of_same (hC (wr.drewN q) (below_drewN (Below.refl _ _) q)))
                    have CH2 := Lib.hid (fun q : Nat => Calls.quiet_of_same (at_q B2 m2 c2' (posDoc xx.l d) (pp + o) (wr.drewN q) (hrd.below (below_drewN (Below.refl _ _) q))))
                    obtain ⟨bb, hbb⟩ : ∃ bb, bb = decide (pp + o ∈ posDoc xx.l d) := ⟨_, rfl⟩
                    rw [← hbb] at CH2
                    have HN : Hid (bb = true ↔ stand lo (wsOf L d) pp (ii + 1)) := Lib.hid (by
                      have e1 : posOf (wsOf L d) ii = posDoc xx.l d := wsOf_pos HXX.out
                      rw [hbb, decide_eq_true_eq]
                      constructor
                      · intro h
                        exact stand_step (HST.out.1 rfl) (by rw [e1, HOE.out]; exact h)
                      · intro h
                        have := h ii (by omega)
                        rwa [e1, HOE.out] at this)
                    clear hbb hC hrd
                    go_upto_region 23 with fail
                    go_quiet (first | (go_at_call 61; exact CH1.out _) | (go_at_call 62; exact CH2.out _))
                    have HB9 := Lib.hid (below_drewN HBi.out nq)
                    clear c0 c1 c2 CH1 CH2
                    go_wp2
                    exact ⟨⟨ii + 1, bb, by simp; try go_num, by omega, rfl, HN, HB9⟩, by simp [intOf]; omega⟩
                · have HSE : Hid (bq = true ↔ stand lo (wsOf L d) pp (wsOf L d).length) := Lib.hid (by
                    rw [wsOf_len, HLn.out.2, show n = ii by omega]
                    exact HST.out)
                  have HB2 := Lib.hid (Below.thn HBJ.out HBi.out)
                  have HX3 := Lib.hid (HX2.out.below HBi.out)
                  have HV3 := Lib.hid (HV.out.below HBi.out)
                  obtain ⟨g0, g1, g2, g3⟩ := HX3.out.facts
                  cases bq
                  · have hns : ¬ stand lo (wsOf L d) pp (wsOf L d).length := fun h => by have := HSE.out.2 h; cases this
                    have HN : Hid (∃ v, Box2 wr gp 32 (.int .u32 (d : Nat)) v ∧ OwnI wr W1.heap.size v (rowOf lo (wsOf L d) (lp.take (j + 1))) ∧ Below W1.heap.size W1 wr) := Lib.hid ⟨v, HX3.out, by rw [row_no HPP.out hns]; exact HV3.out, HB2.out⟩
                    clear hns
                    go_wp2
                    exact ⟨⟨j + 1, by simp; try go_num, by omega, HN⟩, by simp [intOf]; omega⟩
                  · have hys := HSE.out.1 rfl
                    obtain ⟨Ao, co, rfl, lo2, mo, _⟩ := OwnL.rd HV3.out
                    obtain ⟨A', c', w5, r5, o5, hb5, hc5, hc6, hg5⟩ := push_i pp HV3.out HB2.out (by have := rowOf_len lo (wsOf L d) (lp.take j); rw [List.length_take] at this; have := HOKP.out.2; omega)
                    have hn1 := Box2.not_row HX3.out (show 32 ≠ 3 by decide) HV3.out
                    have b5 := HX3.out.kept hg5 hn1
                    have hn2 := Box2.not_row b5 (show 32 ≠ 3 by decide) o5
                    obtain ⟨y0, y1, y2, y3⟩ := b5.facts
                    have hgw : W1.heap.size ≤ gp := by rw [HGP.out]; exact Nat.le_refl _
                    obtain ⟨nl, hnl⟩ : ∃ nl, nl = (rowOf lo (wsOf L d) (lp.take j)).length := ⟨_, rfl⟩
                    obtain ⟨nm, hnm⟩ : ∃ nm, nm = nl + 1 := ⟨_, rfl⟩
                    have HN : Hid (∃ v, Box2 (w5.setCell ⟨gp, 1, none⟩ (.slice A' nm c')) gp 32 (.int .u32 (d : Nat)) v ∧ OwnI (w5.setCell ⟨gp, 1, none⟩ (.slice A' nm c')) W1.heap.size v (rowOf lo (wsOf L d) (lp.take (j + 1))) ∧ Below W1.heap.size W1 (w5.setCell ⟨gp, 1, none⟩ (.slice A' nm c'))) := Lib.hid
                      ⟨_, b5.set1 _, by rw [row_yes HPP.out hys, hnm, hnl]; exact OwnL.kept o5 (grownBy_set _ _ _) (.inr hn2.symm), hb5.setCell hgw _⟩
                    rw [← hnl] at g1 r5 y1 lo2
                    rw [← hnm] at r5
                    clear hys hn1 hn2 b5 hgw o5 hb5 hg5 hnl hnm
                    go_wp2_with (at_builtin; refine wpl_append_run rfl _ _ _ rfl rfl rfl r5 ?_)
                    exact ⟨⟨j + 1, by simp; try go_num, by omega, HN⟩, by simp [intOf]; omega⟩
            · have HPH : Hid (rowOf lo (wsOf L d) (lp.take j) = phAt lo L d) := Lib.hid (by
                rw [HPA.out, List.take_of_length_le (by have := HRI.out.len; omega)])
              have HV2 : Hid (OwnI wr w1.heap.size v (phAt lo L d)) := Lib.hid (by rw [← HPH.out]; exact OwnL.mono HV.out HBk.out.size)
              have HOw := Lib.hid (HO.out.below HBJ.out)
              obtain ⟨Av, cv, rfl, l1, l2, _⟩ := OwnL.rd HV2.out
              obtain ⟨np, hnp⟩ : ∃ np, np = (phAt lo L d).length := ⟨_, rfl⟩
              rw [← hnp] at l1 g1 HV2
              have HNP := Lib.hid hnp
              have HBk1 := Lib.hid (Below.thn HBk.out HBJ.out)
              clear hnp HV HX2 HJ
              by_cases hnp0 : (np : Int) > 0
              · have hne : phAt lo L d ≠ [] := fun e9 => by have := HNP.out; rw [e9] at this; simp at this; omega
                obtain ⟨A', c', W4, r4, ho4, hb4, hc4, hc5⟩ := HOw.out.push HBk1.out ((d, phAt lo L d), Av, np, cv) HV2.out (show d < 4294967296 by omega) (by
                  have h1 := phL_len lo L (x0.l.take k)
                  rw [← HEq.out, List.length_map, List.length_take] at h1
                  have h2 := HLS.out x0 (by obtain ⟨hl, e9⟩ := HX0v.out; rw [← e9]; exact List.getElem_mem hl)
                  omega)
                obtain ⟨Ao, co, eo, lo1, mo1, _⟩ := OwnK.rd (enc := encD) (fun _ => rfl) HOw.out.own
                subst eo
                obtain ⟨no, hno⟩ : ∃ no, no = os.length := ⟨_, rfl⟩
                obtain ⟨nm, hnm⟩ : ∃ nm, nm = no + 1 := ⟨_, rfl⟩
                rw [← hno] at r4 ho4 hc4 lo1
                rw [← hnm] at r4 ho4 hc4
                have HN : Hid (∃ os2, OutJ w1.heap.size (.slice A' nm c') os2 W4 ∧ os2.map (·.1) = phL lo L (x0.l.take (k + 1)) ∧ Below w1.heap.size w1 W4) := Lib.hid ⟨_, ho4, by rw [ph_yes HP.out hne, List.map_append, HEq.out]; rfl, hb4⟩
                rw [← hno]
                clear hne ho4 hb4 hno hnm
                go_wp2_with (at_builtin; refine wpl_append_run rfl _ _ _ rfl rfl rfl r4 ?_)
                exact ⟨⟨k + 1, by simp; try go_num, by omega, HN⟩, by simp [intOf]; omega⟩
              · have hno : phAt lo L d = [] := List.eq_nil_of_length_eq_zero (by have := HNP.out; omega)
                have HN : Hid (∃ os, OutJ w1.heap.size u7 os wr ∧ os.map (·.1) = phL lo L (x0.l.take (k + 1)) ∧ Below w1.heap.size w1 wr) := Lib.hid ⟨os, HOw.out, by rw [ph_no HP.out hno]; exact HEq.out, HBk1.out⟩
                clear hno
                go_wp2
                exact ⟨⟨k + 1, by simp; try go_num, by omega, HN⟩, by simp [intOf]; omega⟩
        · have HLS9 : Hid (LS wr u7 (phX lo L)) := Lib.hid (by
            have h1 := HO.out.ls
            rw [HEq.out, List.take_of_length_le (by have := HXO.out.rd.len; omega)] at h1
            rw [HE.out.2, HG0.out]; exact h1)
          have HBE := Lib.hid (Below.thn HB1.out HBk.out)
          obtain ⟨Ao, co, eo, lo1, mo1, _⟩ := OwnK.rd (enc := encD) (fun _ => rfl) HO.out.own
          subst eo
          go_wp2
          refine bodyPost_ret (v := .tuple #[.slice Ao os.length co, .int .i64 0]) (by simp [results, Try.results35, go_sem]) rfl ⟨_, by rw [HE.out.1], HLS9.out, HBE.out⟩
end Go.Proofs.Ytaaddckhldccjaa

/- The document's Merge. -/
namespace Go.Proofs.Ytaaddckhldccjaa
open Go.RowKit Go.Shelf
set_option linter.unusedVariables false
set_option linter.unusedSimpArgs false

def PM (av adD : Addr) (n c nd cd ii kk gp d : Nat) (xx : VV) (pv : Value) (B2 : Option Addr) (m2 c2 : Nat) : Nat → Value → World → Prop
  | 0 => fun v w => v = .pointer (some ⟨gp, 1, none⟩)
  | 1 => fun v w => v = pv
  | 2 => fun v w => v = .slice (some av) n c
  | 3 => fun v w => v = .int .i64 (kk : Nat)
  | 4 => fun v w => v = .pointer (some (av.add kk))
  | 5 => fun v w => v = .slice xx.A xx.n xx.c
  | 6 => fun v w => v = .slice (some adD) nd cd
  | 7 => fun v w => v = .int .i64 (ii : Nat)
  | 8 => fun v w => v = .pointer (some (adD.add ii))
  | 9 => fun v w => v = .int .u32 (d : Nat)
  | 10 => fun v w => v = .slice B2 m2 c2
  | _ => fun _ _ => True
theorem PM.below (av adD : Addr) (n c nd cd ii kk gp d : Nat) (xx : VV) (pv : Value) (B2 : Option Addr) (m2 c2 : Nat) : ∀ i v w w', Below w.heap.size w w' → PM av adD n c nd cd ii kk gp d xx pv B2 m2 c2 i v w → PM av adD n c nd cd ii kk gp d xx pv B2 m2 c2 i v w'
  | 0, _, _, _, _, h => h
  | 1, _, _, _, _, h => h
  | 2, _, _, _, _, h => h
  | 3, _, _, _, _, h => h
  | 4, _, _, _, _, h => h
  | 5, _, _, _, _, h => h
  | 6, _, _, _, _, h => h
  | 7, _, _, _, _, h => h
  | 8, _, _, _, _, h => h
  | 9, _, _, _, _, h => h
  | 10, _, _, _, _, h => h
  | _ + 11, _, _, _, _, _ => trivial

def uvD (x : VV) : UV := ⟨none, 0, 0, docsOf x.l⟩
theorem mgD {w w1 : World} {ls : List VV} {o : Value} {acc : List Nat} (h : OrI w (ls.map uvD) ls.length 0 [] o acc w1) (hr : allRt ls) : acc = docM ls := by
  refine up_ext h.up (docM_up hr) fun d => ?_
  rw [h.mem d, docM_mem hr d, List.take_of_length_le (by simp)]
  constructor
  · rintro (⟨y, hy, hd⟩ | hd)
    · obtain ⟨x, hx, rfl⟩ := List.mem_map.1 hy
      exact ⟨x, hx, hd⟩
    · simp at hd
  · rintro ⟨x, hx, hd⟩
    exact .inl ⟨uvD x, List.mem_map.2 ⟨x, hx, rfl⟩, hd⟩
set_option maxRecDepth 100000 in
set_option maxHeartbeats 8000000 in
theorem refMerge_any (A : Option Addr) (n c : Nat) (ls : List VV) (w : World) (h : RdVV w A n ls) (hsh : shortB ls = true) :
    Calls Try.prog 34 #[.slice A n c] w fun e w' => ∃ v, e = .returned (.tuple #[v, .int .i64 (mgE ls)]) ∧ LS w' v (mgX ls) ∧ Below w.heap.size w w' := by
  have HS := Lib.hid (of_decide_eq_true hsh : shortP ls)
  have HR := Lib.hid h
  have HLn := Lib.hid h.len
  have hn20 : n ≤ 20 := by rw [← h.len]; exact HS.out.1
  have C := Lib.hid (lists_any A n c ls w h)
  clear h hsh
  go_enter Try.func34, Try.ntmps34
  go_wp2_with fail
  refine C.out.mono ?_
  rintro e9 w1 ⟨rfl, hb⟩
  have HB1 := Lib.hid hb
  clear hb C
  by_cases ha : allRt ls
  case neg =>
    rw [allRtB_f ha]
    have HE := Lib.hid (mg_no ha)
    clear ha
    go_wp2
    refine bodyPost_ret (v := .tuple #[.slice none 0 0, .int .i64 160]) (by simp [results, Try.results34, go_sem]) rfl ⟨_, by rw [HE.out.1], by rw [HE.out.2]; exact ⟨none, 0, 0, rfl, Nat.le_refl _, by decide, RdPo.empty _⟩, HB1.out⟩
  rw [allRtB_t ha]
  have HA := Lib.hid ha
  clear ha
  go_wp2_with fail
  go_loopw [4, 5, 6] (fun o x _ wr => ∃ i : Nat, x = .int .i64 (i : Nat) ∧ i ≤ n ∧ Hid (∃ acc, OrI w (ls.map uvD) i 0 [] o acc wr)) (fun _ x _ _ => n - (intOf x).toNat)
  case atStart => exact ⟨0, rfl, Nat.zero_le _, Lib.hid ⟨[], OwnU.nil _ _, HB1.out, List.Pairwise.nil, fun d => by simp, by simp⟩⟩
  case round =>
    obtain ⟨i, rfl, hi, HI⟩ := hrel
    by_cases hlt : (i : Int) < (n : Int)
    · obtain ⟨acc, h0⟩ := HI.out
      obtain ⟨ad, x, rfl, HX1, HOx, hxm, x0⟩ := (HR.out.below h0.be).at (k := i) (by omega)
      have hxn : x.n ≤ 40 := by
        obtain ⟨hl, e9⟩ := HX1.out
        exact (HS.out.2 x (by rw [← e9]; exact List.getElem_mem hl)).1
      have HXR : Hid (∀ W, Below w.heap.size w W → x.ok W ∧ W.cell? (ad.add i) = some (.slice x.A x.n x.c)) := Lib.hid fun W hb => by
        obtain ⟨ad', x', e9, h1, h2, _, h3⟩ := (HR.out.below hb).at (k := i) (by omega)
        cases e9
        have e2 : x' = x := by obtain ⟨_, e3⟩ := h1.out; obtain ⟨_, e4⟩ := HX1.out; rw [← e3, ← e4]
        subst e2
        exact ⟨h2.out, h3⟩
      have HJ0 : Hid (∃ acc, OrI w (ls.map uvD) i 0 (docsOf x.l) u4 acc wr) := Lib.hid ⟨acc, h0.own, h0.be, h0.up, fun d => by rw [h0.mem d]; simp, h0.len⟩
      clear x0 h0
      go_wp2_with fail
      go_loopw [4, 6] (fun o y wq => ∃ k : Nat, y = .int .i64 (k : Nat) ∧ k ≤ x.n ∧ Hid (∃ acc, OrI w (ls.map uvD) i k (docsOf x.l) o acc wq)) (fun _ y _ => x.n - (intOf y).toNat)
      case atStart => exact ⟨0, rfl, Nat.zero_le _, HJ0⟩
      case round =>
        obtain ⟨k, rfl, hk, HJ⟩ := hrel
        obtain ⟨acc, h0⟩ := HJ.out
        have HJ1 := Lib.hid h0
        obtain ⟨hxo, c0⟩ := HXR.out wr h0.be
        by_cases hkl : (k : Int) < (x.n : Int)
        · obtain ⟨ax, B, m, c1, d, l, eA, HD, d0, d1, hm1, hm2, HRI, hd⟩ := hxo.rd.at (k := k) (by omega)
          rw [eA] at c0
          have C := Lib.hid (put_any w.heap.size u4 acc d wr h0.own h0.be.size hd (by have := h0.len; omega))
          clear h0 hxo d1
          go_wp2_with fail
          refine C.out.mono ?_
          rintro e9 W2 ⟨v', r, rfl, hv', hp, hb⟩
          have HN : Hid (∃ acc, OrI w (ls.map uvD) i (k + 1) (docsOf x.l) v' acc W2) := Lib.hid ⟨r, hv', Below.thn HJ1.out.be hb, hp.1 HJ1.out.up, fun d' => by
            have e8 : (docsOf x.l).take (k + 1) = (docsOf x.l).take k ++ [d] := by
              have := docsOf_step HD.out
              unfold docsOf at this ⊢
              rw [← List.map_take, ← List.map_take]
              exact this
            rw [hp.2.1 d', HJ1.out.mem d', e8, List.mem_append, List.mem_singleton, or_assoc], by have := hp.2.2; have := HJ1.out.len; omega⟩
          clear hv' hp hb C c0 d0
          go_wp2
          exact ⟨⟨k + 1, by simp; try go_num, by omega, HN⟩, by simp [intOf]; omega⟩
        · have HN : Hid (∃ acc, OrI w (ls.map uvD) (i + 1) 0 [] u4 acc wr) := Lib.hid ⟨acc, h0.own, h0.be, h0.up, fun d' => by
            obtain ⟨hl, e9⟩ := HX1.out
            rw [h0.mem d', List.take_of_length_le (l := docsOf x.l) (by rw [docsOf, List.length_map, hxo.rd.len]; omega), List.take_succ_eq_append_getElem (by simpa using hl), List.getElem_map, e9]
            simp only [List.mem_append, List.mem_singleton, List.take_nil, List.not_mem_nil, or_false]
            constructor
            · rintro (⟨y, hy, hd⟩ | hd)
              · exact ⟨y, .inl hy, hd⟩
              · exact ⟨uvD x, .inr rfl, hd⟩
            · rintro ⟨y, hy | rfl, hd⟩
              · exact .inl ⟨y, hy, hd⟩
              · exact .inr hd, by have := h0.len; omega⟩
          clear h0 hxo
          go_wp2
          exact ⟨⟨i + 1, by simp; try go_num, by omega, HN⟩, by simp [intOf]; omega⟩
    · obtain ⟨acc, h0⟩ := HI.out
      have hin : i = n := by omega
      have hacc : acc = docM ls := mgD (ls := ls) (by rw [HLn.out, ← hin]; exact h0) HA.out
      rw [hacc] at h0
      obtain ⟨w2, hw2⟩ : ∃ w2, w2 = wr := ⟨_, rfl⟩
      subst hw2
      have HB2 := Lib.hid h0.be
      obtain ⟨Ad, cd, rfl, ld, md, hrd⟩ := OwnL.rd h0.own.1
      obtain ⟨nd, hnd⟩ : ∃ nd, nd = (docM ls).length := ⟨_, rfl⟩
      rw [← hnd] at ld hrd ⊢
      have HDR : Hid (RdU w2 Ad nd (docM ls)) := Lib.hid ⟨hrd, h0.own.2⟩
      have HND := Lib.hid hnd
      have hnd8 : nd ≤ 1000000 := by have := h0.len; rw [hacc] at *; omega
      clear h0 HI hrd hnd hacc hin
      go_wp2_with fail
      go_loopw [7, 8] (fun o x wr => ∃ i : Nat, x = .int .i64 (i : Nat) ∧ i ≤ nd ∧ Hid (∃ os, OutJ w2.heap.size o os wr ∧ os.map (·.1) = ((docM ls).take i).map (fun d => (d, posM ls d)) ∧ (∀ d ∈ (docM ls).take i, (posM ls d).length ≤ 2000) ∧ Below w2.heap.size w2 wr)) (fun _ x _ => nd - (intOf x).toNat)
      case atStart => exact ⟨0, rfl, Nat.zero_le _, Lib.hid ⟨[], OutJ.nil _ _, rfl, fun d hd => by simp at hd, Below.refl _ _⟩⟩
      case round =>
        obtain ⟨ii, rfl, hii, HI⟩ := hrel
        obtain ⟨os, h1, h2, h3, h4⟩ := HI.out
        have HO := Lib.hid h1
        have HEq := Lib.hid h2
        have HLL := Lib.hid h3
        have HBk := Lib.hid h4
        clear h1 h2 h3 h4 HI
        by_cases hlt2 : (ii : Int) < (nd : Int)
        · obtain ⟨adD, d, rfl, HD, hd, d0⟩ := (HDR.out.below HBk.out).at (k := ii) (by omega)
          obtain ⟨W1, hW1⟩ : ∃ W1, W1 = wr := ⟨_, rfl⟩
          subst hW1
          obtain ⟨gp, hgp⟩ : ∃ gp, gp = W1.heap.size := ⟨_, rfl⟩
          obtain ⟨wA, hwA⟩ : ∃ wA, wA = W1.alloc (.cells #[.int .u32 (d : Nat), .slice none 0 0] 32) := ⟨_, rfl⟩
          have hbA : Below W1.heap.size W1 wA := by rw [hwA]; exact (Below.refl _ _).alloc (Nat.le_refl _) _
          have hbx : Box2 wA gp 32 (.int .u32 (d : Nat)) (.slice none 0 0) := by rw [hwA, hgp]; exact Box2.new _ _ _ _
          have hz : ∀ (W : World), (Instr.build 32 #[(0, .int .u32 (d : Nat))]).run Try.prog W = .ok (.agg #[.int .u32 (d : Nat), .slice none 0 0]) W := fun W => run_build W 32 _ _ (by kernel_rfl)
          have HI0 : Hid (∃ v acc, Box2 wA gp 32 (.int .u32 (d : Nat)) v ∧ OwnI wA W1.heap.size v acc ∧ UpI acc ∧ (∀ z, z ∈ acc ↔ ∃ x ∈ ls.take 0, z ∈ posDoc x.l d) ∧ acc.length ≤ 2000 * 0 ∧ Below W1.heap.size W1 wA) := Lib.hid ⟨_, [], hbx, OwnL.nil _ _ _ _, List.Pairwise.nil, fun z => by simp, Nat.zero_le _, hbA⟩
          have HWA := Lib.hid hwA
          have HGP := Lib.hid hgp
          have HDC := Lib.hid d0
          clear hwA hgp hbA hbx
          go_wp2_with fail
          rw [← HWA.out, ← HGP.out]
          clear hz d0
          go_loopw [10] (fun y wq => ∃ kk : Nat, y = .int .i64 (kk : Nat) ∧ kk ≤ n ∧ Hid (∃ v acc, Box2 wq gp 32 (.int .u32 (d : Nat)) v ∧ OwnI wq W1.heap.size v acc ∧ UpI acc ∧ (∀ z, z ∈ acc ↔ ∃ x ∈ ls.take kk, z ∈ posDoc x.l d) ∧ acc.length ≤ 2000 * kk ∧ Below W1.heap.size W1 wq)) (fun y _ => n - (intOf y).toNat)
          case atStart => exact ⟨0, rfl, Nat.zero_le _, HI0⟩
          case round =>
            obtain ⟨kk, rfl, hkk, HJ⟩ := hrel
            obtain ⟨pv, acc, h1, h2, h3, h4, h5, h6⟩ := HJ.out
            have HX2 := Lib.hid h1
            have HV := Lib.hid h2
            have HUp := Lib.hid h3
            have HMm := Lib.hid h4
            have HAl := Lib.hid h5
            have HBJ := Lib.hid h6
            obtain ⟨g0, g1, g2, g3⟩ := h1.facts
            clear h1 h2 h3 h4 h5 h6 HJ
            have HB0 := Lib.hid (Below.thn HB2.out (Below.thn HBk.out HBJ.out))
            by_cases hlk : (kk : Int) < (n : Int)
            · obtain ⟨av, xx, rfl, HXX, HXXO, hxxn, c0⟩ := (HR.out.below HB0.out).at (k := kk) (by omega)
              have HXm : Hid (xx ∈ ls) := Lib.hid (by obtain ⟨hl, e9⟩ := HXX.out; rw [← e9]; exact List.getElem_mem hl)
              obtain ⟨B2, m2, c2, ⟨hb1, hb2', hrd2⟩, hCP⟩ := places_def xx.A xx.n xx.c xx.l d wr HXXO.out.rd
              have CP := Lib.hid hCP
              have C0 := Lib.hid c0
              have G1 := Lib.hid g1
              have D0 := Lib.hid (cell_keep HBJ.out HDC.out)
              have HRD2 := Lib.hid hrd2
              have hk1 : (kk : Int) < (n : Int) := hlk
              have hk2 : kk < n := by omega
              have hi1 : (ii : Int) < (nd : Int) := hlt2
              have hi2d : ii < nd := by omega
              clear hCP c0 hrd2 g0 g1 g2 g3
              go_upto_region 19 with fail
              refine wp_region_flowT 11 (by kernel_rfl) (by kernel_rfl) (PM av adD n c nd cd ii kk gp d xx pv B2 m2 c2) (PM.below av adD n c nd cd ii kk gp d xx pv B2 m2 c2) (by kernel_rfl) (by kernel_rfl) ?_ ?_
              case refine_1 =>
                intro i o hit ho ρ y w2 hb2 hreg hn hf hyb hyn
                obtain rfl | rfl | rfl | rfl | rfl | rfl | rfl | rfl | rfl | rfl | rfl : i = 0 ∨ i = 1 ∨ i = 2 ∨ i = 3 ∨ i = 4 ∨ i = 5 ∨ i = 6 ∨ i = 7 ∨ i = 8 ∨ i = 9 ∨ i = 10 := by omega
                · cases ho
                  rw [if_pos (show Region.wanted _ y = true from rfl)]
                  have f9 : ρ (.tmp 9) = .pointer (some ⟨gp, 0, none⟩) := hf 9 (by kernel_rfl)
                  exact does_ok (v := .pointer (some ⟨gp, 1, none⟩)) (w' := w2) (by simp [go_sem, hreg.const, f9]) ⟨rfl, Below.refl _ _⟩
                · cases ho
                  rw [if_pos (show Region.wanted _ y = true from rfl)]
                  have f56 : ρ (.tmp 56) = .pointer (some ⟨gp, 1, none⟩) := hn 0 _ 56 rfl (by kernel_rfl) rfl
                  have k0 := cell_keep hb2 G1.out
                  exact does_ok (v := pv) (w' := w2) (by simp [go_sem, hreg.const, f56, k0]) ⟨rfl, Below.refl _ _⟩
                · cases ho
                  rw [if_pos (show Region.wanted _ y = true from rfl)]
                  have f0 : ρ (.tmp 0) = .slice (some av) n c := hf 0 (by kernel_rfl)
                  exact ⟨f0, Below.refl _ _⟩
                · cases ho
                  rw [if_pos (show Region.wanted _ y = true from rfl)]
                  have f10 : ρ (.tmp 10) = .int .i64 (kk : Nat) := hf 10 (by kernel_rfl)
                  exact ⟨f10, Below.refl _ _⟩
                · cases ho
                  rw [if_pos (show Region.wanted _ y = true from rfl)]
                  have f58 : ρ (.tmp 58) = .slice (some av) n c := hn 2 _ 58 rfl (by kernel_rfl) rfl
                  have f59 : ρ (.tmp 59) = .int .i64 (kk : Nat) := hn 3 _ 59 rfl (by kernel_rfl) rfl
                  exact does_ok (v := .pointer (some (av.add kk))) (w' := w2) (by simp [go_sem, hreg.const, f58, f59, hk1, hk2]) ⟨rfl, Below.refl _ _⟩
                · cases ho
                  rw [if_pos (show Region.wanted _ y = true from rfl)]
                  have f60 : ρ (.tmp 60) = .pointer (some (av.add kk)) := hn 4 _ 60 rfl (by kernel_rfl) rfl
                  have k0 := cell_keep hb2 C0.out
                  exact does_ok (v := .slice xx.A xx.n xx.c) (w' := w2) (by simp [go_sem, hreg.const, f60, k0]) ⟨rfl, Below.refl _ _⟩
                · cases ho
                  rw [if_pos (show Region.wanted _ y = true from rfl)]
                  have f4 : ρ (.tmp 4) = .slice (some adD) nd cd := hf 4 (by kernel_rfl)
                  exact ⟨f4, Below.refl _ _⟩
                · cases ho
                  rw [if_pos (show Region.wanted _ y = true from rfl)]
                  have f8 : ρ (.tmp 8) = .int .i64 (ii : Nat) := hf 8 (by kernel_rfl)
                  exact ⟨f8, Below.refl _ _⟩
                · cases ho
                  rw [if_pos (show Region.wanted _ y = true from rfl)]
                  have f62 : ρ (.tmp 62) = .slice (some adD) nd cd := hn 6 _ 62 rfl (by kernel_rfl) rfl
                  have f63 : ρ (.tmp 63) = .int .i64 (ii : Nat) := hn 7 _ 63 rfl (by kernel_rfl) rfl
                  exact does_ok (v := .pointer (some (adD.add ii))) (w' := w2) (by simp [go_sem, hreg.const, f62, f63, hi1, hi2d]) ⟨rfl, Below.refl _ _⟩
                · cases ho
                  rw [if_pos (show Region.wanted _ y = true from rfl)]
                  have f64 : ρ (.tmp 64) = .pointer (some (adD.add ii)) := hn 8 _ 64 rfl (by kernel_rfl) rfl
                  have k0 := cell_keep hb2 D0.out
                  exact does_ok (v := .int .u32 (d : Nat)) (w' := w2) (by simp [go_sem, hreg.const, f64, k0]) ⟨rfl, Below.refl _ _⟩
                · cases ho
                  rw [if_pos (show Region.wanted _ y = true from rfl)]
                  have f61 : ρ (.tmp 61) = .slice xx.A xx.n xx.c := hn 5 _ 61 rfl (by kernel_rfl) rfl
                  have f65 : ρ (.tmp 65) = .int .u32 (d : Nat) := hn 9 _ 65 rfl (by kernel_rfl) rfl
                  refine does_enter (f := 61) (args := #[.slice xx.A xx.n xx.c, .int .u32 (d : Nat)]) (w' := w2) (by simp [go_sem, hreg.func, hreg.const, f61, f65]) ?_
                  refine (CP.out w2 hb2).mono ?_
                  rintro e w' ⟨rfl, rfl⟩
                  exact ⟨_, rfl, rfl, (Below.refl _ _)⟩
              case refine_2 =>
                intro a w2 hb2 hd hs hfacts hrest
                have q57 : a.tmps.getD 57 undef = pv := hfacts 1 _ 57 (by decide) rfl rfl
                have q66 : a.tmps.getD 66 undef = .slice B2 m2 c2 := hfacts 10 _ 66 (by decide) rfl rfl
                have ha := frame_ofP hd hs hrest [56, 57, 58, 59, 60, 61, 62, 63, 64, 65, 66] (by kernel_rfl)
                simp only [q57, q66, List.foldl, List.setIfInBounds_toArray, List.set_cons_succ, List.set_cons_zero] at ha
                clear q57 q66 hd hs hfacts hrest
                generalize a.tmps.getD = gg at ha
                subst ha
                obtain ⟨Ap, cp, rfl, lp, mp, hrp⟩ := OwnL.rd HV.out
                have CB := Lib.hid (refBoth_any Ap acc.length cp acc B2 m2 c2 (posDoc xx.l d) w2 (hrp.below hb2) (HRD2.out.below hb2) (by have := HAl.out; omega) (by have := (posDoc_ok (HA.out xx HXm.out) d).2; have := HRD2.out.len; omega))
                have HX3 := Lib.hid (HX2.out.below hb2)
                have HBJ2 := Lib.hid (Below.thn HBJ.out hb2)
                obtain ⟨na, hna⟩ : ∃ na, na = acc.length := ⟨_, rfl⟩
                rw [← hna] at CB ⊢
                clear hna hrp hb2
                simp only [List.drop_succ_cons, List.drop_zero]
                go_wp2_with fail
                refine CB.out.mono ?_
                rintro e9 W4 ⟨v4, rfl, ho4, hb4⟩
                have b4 := HX3.out.below hb4
                have hn4 := Box2.not_row b4 (show 32 ≠ 3 by decide) ho4
                obtain ⟨y0, y1, y2, y3⟩ := b4.facts
                obtain ⟨A4, c4, rfl, l4, m4, _⟩ := OwnL.rd ho4
                obtain ⟨n4, hn4'⟩ : ∃ n4, n4 = (mI acc (posDoc xx.l d)).length := ⟨_, rfl⟩
                have hgw : W1.heap.size ≤ gp := by rw [HGP.out]; exact Nat.le_refl _
                have hub := HBJ2.out.size
                have HN : Hid (∃ v acc, Box2 (W4.setCell ⟨gp, 1, none⟩ (.slice A4 n4 c4)) gp 32 (.int .u32 (d : Nat)) v ∧ OwnI (W4.setCell ⟨gp, 1, none⟩ (.slice A4 n4 c4)) W1.heap.size v acc ∧ UpI acc ∧ (∀ z, z ∈ acc ↔ ∃ x ∈ ls.take (kk + 1), z ∈ posDoc x.l d) ∧ acc.length ≤ 2000 * (kk + 1) ∧ Below W1.heap.size W1 (W4.setCell ⟨gp, 1, none⟩ (.slice A4 n4 c4))) := Lib.hid
                  ⟨_, mI acc (posDoc xx.l d), b4.set1 _, by rw [hn4']; exact OwnL.mono (OwnL.kept ho4 (grownBy_set _ _ _) (.inr hn4.symm)) hub, mI_up _ _ _ (Nat.le_refl _) HUp.out (okPos_upI (posDoc_ok (HA.out xx HXm.out) d).1), fun z => by
                    obtain ⟨hl, e9⟩ := HXX.out
                    rw [mI_mem _ _ _ (Nat.le_refl _) z, HMm.out z, List.take_succ_eq_append_getElem hl, e9]
                    simp only [List.mem_append, List.mem_singleton]
                    constructor
                    · rintro (⟨y, hy, hd⟩ | hd)
                      · exact ⟨y, .inl hy, hd⟩
                      · exact ⟨xx, .inr rfl, hd⟩
                    · rintro ⟨y, hy | rfl, hd⟩
                      · exact .inl ⟨y, hy, hd⟩
                      · exact .inr hd, by
                    have h1 := mI_len _ acc (posDoc xx.l d) (Nat.le_refl _)
                    have h2 := (posDoc_ok (HA.out xx HXm.out) d).2
                    have h3 := HAl.out
                    omega, (Below.thn HBJ2.out hb4).setCell hgw _⟩
                rw [← hn4'] at l4 ⊢
                clear b4 hn4 hgw ho4 hb4 hn4' CB hub
                go_wp2
                exact ⟨⟨kk + 1, by simp; try go_num, by omega, HN⟩, by simp [intOf]; omega⟩
            · have hacc : acc = posM ls d := upI_ext HUp.out (posM_up _ _) fun z => by
                rw [HMm.out z, posM_mem, List.take_of_length_le (by have := HLn.out; omega)]
              rw [hacc] at HV
              obtain ⟨Ap, cp, rfl, lp, mp, hrp⟩ := OwnL.rd HV.out
              obtain ⟨np, hnp⟩ : ∃ np, np = (posM ls d).length := ⟨_, rfl⟩
              rw [← hnp] at lp g1 HV
              have HNP := Lib.hid hnp
              have HDM : Hid (d ∈ docM ls) := Lib.hid (by obtain ⟨hl, e9⟩ := HD.out; rw [← e9]; exact List.getElem_mem hl)
              clear hacc hrp hnp
              by_cases hlong : (np : Int) > 2000
              · have HE := Lib.hid (mg_long HA.out HDM.out (by rw [← HNP.out]; omega))
                go_wp2
                refine bodyPost_ret (v := .tuple #[.slice none 0 0, .int .i64 3]) (by simp [results, Try.results34, go_sem]) rfl ⟨_, by rw [HE.out.1], by rw [HE.out.2]; exact ⟨none, 0, 0, rfl, Nat.le_refl _, by decide, RdPo.empty _⟩, HB0.out⟩
              · have HBk1 := Lib.hid (Below.thn HBk.out HBJ.out)
                have HV2 : Hid (OwnI wr w2.heap.size (.slice Ap np cp) (posM ls d)) := Lib.hid (OwnL.mono HV.out HBk.out.size)
                have HOw := Lib.hid (HO.out.below HBJ.out)
                obtain ⟨A', c', W4, r4, ho4, hb4, hc4, hc5⟩ := HOw.out.push HBk1.out ((d, posM ls d), Ap, np, cp) HV2.out (docM_lt HA.out HDM.out) (by
                  have h1 := congrArg List.length HEq.out
                  rw [List.length_map, List.length_map, List.length_take] at h1
                  omega)
                obtain ⟨Ao, co, eo, lo1, mo1, _⟩ := OwnK.rd (enc := encD) (fun _ => rfl) HOw.out.own
                subst eo
                obtain ⟨no, hno⟩ : ∃ no, no = os.length := ⟨_, rfl⟩
                obtain ⟨nm, hnm⟩ : ∃ nm, nm = no + 1 := ⟨_, rfl⟩
                rw [← hno] at r4 ho4 hc4 lo1
                rw [← hnm] at r4 ho4 hc4
                have HN : Hid (∃ os2, OutJ w2.heap.size (.slice A' nm c') os2 W4 ∧ os2.map (·.1) = ((docM ls).take (ii + 1)).map (fun d => (d, posM ls d)) ∧ (∀ d ∈ (docM ls).take (ii + 1), (posM ls d).length ≤ 2000) ∧ Below w2.heap.size w2 W4) := Lib.hid ⟨_, ho4, by
                  obtain ⟨hl, e9⟩ := HD.out
                  rw [List.map_append, HEq.out, List.take_succ_eq_append_getElem hl, List.map_append, e9]; rfl, fun d' hd' => by
                  obtain ⟨hl, e9⟩ := HD.out
                  rw [List.take_succ_eq_append_getElem hl, e9] at hd'
                  rcases List.mem_append.1 hd' with h | h
                  · exact HLL.out d' h
                  · rw [List.mem_singleton] at h; subst h; rw [← HNP.out]; omega, hb4⟩
                rw [← hno]
                clear ho4 hb4 hno hnm
                go_wp2_with (at_builtin; refine wpl_append_run rfl _ _ _ rfl rfl rfl r4 ?_)
                exact ⟨⟨ii + 1, by simp; try go_num, by omega, HN⟩, by simp [intOf]; omega⟩
        · have hfull : (docM ls).take ii = docM ls := List.take_of_length_le (by have := HND.out; omega)
          have HE := Lib.hid (mg_yes HA.out (by have := HLL.out; rwa [hfull] at this))
          have HLS9 : Hid (LS wr u7 (mgX ls)) := Lib.hid (by
            have h1 := HO.out.ls
            rw [HEq.out, hfull, ← HE.out.2] at h1
            exact h1)
          have HBE := Lib.hid (Below.thn HB2.out HBk.out)
          obtain ⟨Ao, co, eo, lo1, mo1, _⟩ := OwnK.rd (enc := encD) (fun _ => rfl) HO.out.own
          subst eo
          clear hfull
          go_wp2
          refine bodyPost_ret (v := .tuple #[.slice Ao os.length co, .int .i64 0]) (by simp [results, Try.results34, go_sem]) rfl ⟨_, by rw [HE.out.1], HLS9.out, HBE.out⟩
end Go.Proofs.Ytaaddckhldccjaa

/- ListPhrases. -/
namespace Go.Proofs.Ytaaddckhldccjaa
open Go.RowKit
set_option linter.unusedVariables false
set_option linter.unusedSimpArgs false

/-- Postings that a call returns, with its error. -/
def ResP (W : World) (E : Int) (X : List Po) (e : Ending) (w' : World) : Prop := ∃ x : VV, e = .returned (.tuple #[.slice x.A x.n x.c, .int .i64 E]) ∧ (x.ok w' ∧ x.l = X) ∧ Below W.heap.size W w'
theorem ResP.of {W : World} {E : Int} {X : List Po} {e : Ending} {w' : World} {v : Value} (he : e = .returned (.tuple #[v, .int .i64 E])) (hv : LS w' v X) (hb : Below W.heap.size W w') : ResP W E X e w' := by
  obtain ⟨A, n, c, rfl, h1, h2, h3⟩ := hv
  exact ⟨⟨A, n, c, X⟩, he, ⟨⟨h1, h2, h3⟩, rfl⟩, hb⟩
theorem sameAll_vv (x y : VV) (W : World) (hx : x.ok W) (hy : y.ok W) (h : x.l = y.l) :
    Calls Try.prog 12 #[.slice x.A x.n x.c, .slice y.A y.n y.c] W fun e w' => e = .returned (.bool true) ∧ Below W.heap.size W w' := by
  have := SameAll_any x.A y.A x.n y.n x.c y.c x.l y.l W hx.rd hy.rd
  rwa [decide_eq_true h] at this
theorem Docs_vv (x : VV) (W : World) (hx : x.ok W) (h : x.n ≤ 1000000) :
    Calls Try.prog 31 #[.slice x.A x.n x.c] W fun e w' => ∃ s : UV, e = .returned (.slice s.A s.n s.c) ∧ s.ok w' ∧ s.l = docsOf x.l ∧ Below W.heap.size W w' := by
  refine (Docs_any x.A x.n x.c x.l W hx.rd h).mono ?_
  rintro e w' ⟨v, he, ho, hb⟩
  obtain ⟨s, rfl, hs, hl⟩ := ho.uv
  exact ⟨s, he, hs, hl, hb⟩
theorem refDocs_vv (x : VV) (W : World) (hx : x.ok W) (h : x.n ≤ 1000000) :
    Calls Try.prog 32 #[.slice x.A x.n x.c] W fun e w' => ∃ s : UV, e = .returned (.slice s.A s.n s.c) ∧ s.ok w' ∧ s.l = docsOf x.l ∧ Below W.heap.size W w' := by
  refine (refDocs_any x.A x.n x.c x.l W hx.rd h).mono ?_
  rintro e w' ⟨v, he, ho, hb⟩
  obtain ⟨s, rfl, hs, hl⟩ := ho.uv
  exact ⟨s, he, hs, hl, hb⟩
theorem equal_y (x y : UV) (W : World) (hx : x.ok W) (hy : y.ok W) (h : x.l = y.l) :
    Calls Try.prog 16 #[.slice x.A x.n x.c, .slice y.A y.n y.c] W fun e w' => e = .returned (.bool true) ∧ Below W.heap.size W w' := by
  have := equal_uv x y W hx hy
  rwa [decide_eq_true h] at this
set_option maxRecDepth 100000 in
set_option maxHeartbeats 8000000 in
theorem Phrases_any (A : Option Addr) (n c : Nat) (lo : List Int) (D : Option Addr) (m e : Nat) (L : List VV) (w : World) (h : Rd encI w A n lo) (hnc : n ≤ c) (hc2 : c ≤ 9223372036854775807) (hv : RdVV w D m L) (hme : m ≤ e) (he2 : e ≤ 9223372036854775807) :
    Calls Try.prog 8 #[.slice A n c, .slice D m e] w fun e w' => e = .returned (.bool true) ∧ Below w.heap.size w w' := by
  have HR := Lib.hid h
  have HV := Lib.hid hv
  have hn := h.max
  have hm := hv.rd.max
  have HLn := Lib.hid (And.intro h.len hv.len)
  have HB := Lib.hid (Below.refl w.heap.size w)
  have C := Lib.hid (live_any w)
  clear h hv
  go_enter Try.func8, Try.ntmps8
  go_wp2_with fail
  refine C.out.mono ?_
  rintro e9 w1 ⟨rfl, hb⟩
  replace HB := Lib.hid (Below.thn HB.out hb)
  clear C hb
  have C := Lib.hid (short_any D m e L w1 (HV.out.below HB.out))
  go_wp2_with fail
  refine C.out.mono ?_
  rintro e9 w2 ⟨rfl, hb⟩
  replace HB := Lib.hid (Below.thn HB.out hb)
  clear C hb
  by_cases hs : shortB L = true
  case neg =>
    rw [Bool.not_eq_true] at hs
    rw [hs]
    clear hs
    have C9 := Lib.hid (live_any w2)
    go_wp2_with fail
    refine C9.out.mono ?_
    rintro e9 w99 ⟨rfl, hb⟩
    replace HB := Lib.hid (Below.thn HB.out hb)
    clear hb C9
    go_wp2
    go_ret
    exact ⟨rfl, HB.out⟩
  rw [hs]
  have HS := Lib.hid hs
  have HSP := Lib.hid (of_decide_eq_true hs : shortP L)
  clear hs
  by_cases h40 : (n : Int) > 40
  · have C9 := Lib.hid (live_any w2)
    go_wp2_with fail
    refine C9.out.mono ?_
    rintro e9 w99 ⟨rfl, hb⟩
    replace HB := Lib.hid (Below.thn HB.out hb)
    clear hb C9
    go_wp2
    go_ret
    exact ⟨rfl, HB.out⟩
  go_wp2_with fail
  go_loopw [30] (fun x wr => ∃ k : Nat, x = .int .i64 (k : Nat) ∧ k ≤ m ∧ Hid (Below w.heap.size w wr)) (fun x _ => m - (intOf x).toNat)
  case atStart => exact ⟨0, rfl, Nat.zero_le _, HB⟩
  case round =>
    obtain ⟨k, rfl, hk, HBk⟩ := hrel
    by_cases hlt : (k : Int) < (m : Int)
    · obtain ⟨ad, x, rfl, HX, HXO, hxm, x0⟩ := (HV.out.below HBk.out).at (k := k) (by omega)
      have hx40 : x.n ≤ 1000000 := by
        have := (HSP.out.2 x (by obtain ⟨hl, e9⟩ := HX.out; rw [← e9]; exact List.getElem_mem hl)).1
        omega
      have C := Lib.hid (Docs_vv x wr HXO.out hx40)
      go_wp2_with fail
      refine C.out.mono ?_
      rintro e9 w3 ⟨s, rfl, hs, hsl, hb⟩
      have HXO3 := Lib.hid (HXO.out.below hb)
      have HBk3 := Lib.hid (Below.thn HBk.out hb)
      have HS3 := Lib.hid hs
      have HSL := Lib.hid hsl
      clear C hs hsl hb x0
      have C := Lib.hid (refDocs_vv x w3 HXO3.out hx40)
      go_wp2_with fail
      refine C.out.mono ?_
      rintro e9 w4 ⟨t, rfl, ht, htl, hb⟩
      have HBk4 := Lib.hid (Below.thn HBk3.out hb)
      have C2 := Lib.hid (equal_y s t w4 (HS3.out.below hb) ht (HSL.out.trans htl.symm))
      clear C ht htl hb
      go_wp2_with fail
      refine C2.out.mono ?_
      rintro e9 w5 ⟨rfl, hb⟩
      have HBk5 := Lib.hid (Below.thn HBk4.out hb)
      clear C2 hb
      go_wp2
      exact ⟨⟨k + 1, by simp; try go_num, by omega, HBk5⟩, by simp [intOf]; omega⟩
    · clear HB
      have HB := HBk
      obtain ⟨E, hE⟩ : ∃ E, E = mgE L := ⟨_, rfl⟩
      obtain ⟨G, hG⟩ : ∃ G, G = phE lo L := ⟨_, rfl⟩
      have HE := Lib.hid hE
      have HG := Lib.hid hG
      have C : Hid (Calls Try.prog 33 #[.slice D m e] wr (ResP wr E (mgX L))) := Lib.hid ((Merge_any D m e L wr (HV.out.below HB.out) hme he2 HS.out).mono fun e9 w9 ⟨v, h1, h2, h3⟩ => ResP.of (by rw [hE]; exact h1) h2 h3)
      clear hE hG
      go_wp2_with fail
      refine C.out.mono ?_
      rintro e9 w3 ⟨p, rfl, ⟨hpo, hpl⟩, hb⟩
      replace HB := Lib.hid (Below.thn HB.out hb)
      have HP := Lib.hid hpo
      have HPL := Lib.hid hpl
      clear C hb hpo hpl
      have C : Hid (Calls Try.prog 34 #[.slice D m e] w3 (ResP w3 E (mgX L))) := Lib.hid ((refMerge_any D m e L w3 (HV.out.below HB.out) HS.out).mono fun e9 w9 ⟨v, h1, h2, h3⟩ => ResP.of (by rw [HE.out]; exact h1) h2 h3)
      go_wp2_with fail
      refine C.out.mono ?_
      rintro e9 w4 ⟨q, rfl, ⟨hqo, hql⟩, hb⟩
      replace HB := Lib.hid (Below.thn HB.out hb)
      replace HP := Lib.hid (HP.out.below hb)
      have HQ := Lib.hid hqo
      have HQL := Lib.hid hql
      clear C hb hqo hql
      have C : Hid (Calls Try.prog 11 #[.slice A n c, .slice D m e] w4 (ResP w4 G (phX lo L))) := Lib.hid ((Phrase_any A n c lo D m e L w4 (HR.out.below HB.out) (HV.out.below HB.out) (by have := HLn.out.2; have := HSP.out.1; omega) (fun x hx => Nat.le_trans (HSP.out.2 x hx).1 (by decide))).mono fun e9 w9 ⟨v, h1, h2, h3⟩ => ResP.of (by rw [HG.out]; exact h1) h2 h3)
      go_wp2_with fail
      refine C.out.mono ?_
      rintro e9 w5 ⟨u, rfl, ⟨huo, hul⟩, hb⟩
      replace HB := Lib.hid (Below.thn HB.out hb)
      replace HP := Lib.hid (HP.out.below hb)
      replace HQ := Lib.hid (HQ.out.below hb)
      have HU := Lib.hid huo
      have HUL := Lib.hid hul
      clear C hb huo hul
      have C : Hid (Calls Try.prog 35 #[.slice A n c, .slice D m e] w5 (ResP w5 G (phX lo L))) := Lib.hid ((refPhrase_any A n c lo D m e L w5 (HR.out.below HB.out) (HV.out.below HB.out) (fun x hx => Nat.le_trans (HSP.out.2 x hx).1 (by decide))).mono fun e9 w9 ⟨v, h1, h2, h3⟩ => ResP.of (by rw [HG.out]; exact h1) h2 h3)
      go_wp2_with fail
      refine C.out.mono ?_
      rintro e9 w6 ⟨v, rfl, ⟨hvo, hvl⟩, hb⟩
      replace HB := Lib.hid (Below.thn HB.out hb)
      replace HP := Lib.hid (HP.out.below hb)
      replace HQ := Lib.hid (HQ.out.below hb)
      replace HU := Lib.hid (HU.out.below hb)
      have HVv := Lib.hid hvo
      have HVL := Lib.hid hvl
      clear C hb hvo hvl
      have C := Lib.hid (sameAll_vv p q w6 HP.out HQ.out (HPL.out.trans HQL.out.symm))
      go_wp2_with fail
      refine C.out.mono ?_
      rintro e9 w7 ⟨rfl, hb⟩
      replace HB := Lib.hid (Below.thn HB.out hb)
      have C2 := Lib.hid (sameAll_vv u v w7 (HU.out.below hb) (HVv.out.below hb) (HUL.out.trans HVL.out.symm))
      clear C hb
      go_wp2_with fail
      refine C2.out.mono ?_
      rintro e9 w8 ⟨rfl, hb⟩
      replace HB := Lib.hid (Below.thn HB.out hb)
      clear C2 hb
      go_wp2
      go_ret
      exact ⟨rfl, HB.out⟩
end Go.Proofs.Ytaaddckhldccjaa
