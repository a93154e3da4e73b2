/- Phrases: the walk. -/
import Derived.Test.YtaaddckhldccjaaPhrB
import Derived.Test.YtaaddckhldccjaaOffs
namespace Go.Proofs.Ytaaddckhldccjaa
open Go.RowKit
set_option linter.unusedVariables false
set_option linter.unusedSimpArgs false

structure P14 (w W0 : World) (ad : Addr) (m e ii : Nat) (xx : VV) (ga gp d : Nat) (pv : Value) (ks : List Int) (S : Nat → Prop) (r : Nat → Value) (W : World) : Prop where
  v0 : S 0 → r 0 = .slice (some ad) m e
  v1 : S 1 → r 1 = .int .i64 (ii : Nat)
  v2 : S 2 → r 2 = .pointer (some (ad.add ii))
  v3 : S 3 → r 3 = .slice xx.A xx.n xx.c
  v4 : S 4 → r 4 = .slice (some ⟨ga, 0, none⟩) m m
  v5 : S 5 → r 5 = .int .i64 (ii : Nat)
  v6 : S 6 → r 6 = .pointer (some ⟨ga, ii, none⟩)
  v7 : S 7 → r 7 = .pointer (some ⟨gp, 0, none⟩)
  v8 : S 8 → r 8 = .int .u32 (d : Nat)
  f_be : Below w.heap.size w W
  f_g : W0.grownBy W (some ga)
  f_p : Box2 W gp 32 (.int .u32 (d : Nat)) pv
  k0 : ¬ S 9 → OwnI W w.heap.size (.slice (some ⟨ga, 0, none⟩) m m) ks
  k1 : S 9 → ∃ (q9 : Nat) (B9 : Option Addr) (m9' c9' : Nat) (bb : Bool) (k' : Nat), (r 9) = .tuple #[.agg #[.int .u32 (q9 : Nat), .slice B9 m9' c9'], .bool bb] ∧ FdR xx.l d (.agg #[.int .u32 (q9 : Nat), .slice B9 m9' c9']) bb w ∧ k' ≤ xx.n ∧ DocLt xx.l k' d ∧ OwnI W w.heap.size (.slice (some ⟨ga, 0, none⟩) m m) (ks.set ii (k' : Nat))
  c42 : S 10 → (r 10) = (r 9)
  c53 : S 11 → ∃ b, (r 9) = .tuple #[(r 11), b]
  c54 : S 12 → ∃ a, (r 9) = .tuple #[a, (r 12)]
  c13 : S 15 → (r 15) = (r 12)
  b0 : S 13 → ¬ S 14 → ∃ g, (r 13) = .pointer (some ⟨g, 0, none⟩) ∧ W0.heap.size ≤ g ∧ Box2 W g 32 (.int .u32 0) (.slice none 0 0)
  b1 : S 14 → ∃ g a b bb, (r 13) = .pointer (some ⟨g, 0, none⟩) ∧ W0.heap.size ≤ g ∧ (r 9) = .tuple #[.agg #[a, b], bb] ∧ Box2 W g 32 a b
set_option maxRecDepth 100000 in
set_option maxHeartbeats 16000000 in
theorem Phrase_any (A : Option Addr) (n c : Nat) (lo : List Int) (D : Option Addr) (m e : Nat) (L : List VV) (w : World) (h : Rd encI w A n lo) (hw : RdVV w D m L) (hm : m ≤ 1000000) (hls : ∀ x ∈ L, x.n ≤ 1000000) :
    Calls Try.prog 11 #[.slice A n c, .slice D m e] w fun e w' => ∃ v, e = .returned (.tuple #[v, .int .i64 (phE lo L)]) ∧ LS w' v (phX lo L) ∧ Below w.heap.size w w' := by
  have HR := Lib.hid h
  have HW := Lib.hid hw
  have HLn := Lib.hid (And.intro h.len hw.len)
  have HLS := Lib.hid hls
  have C1 := Lib.hid (offsets_any A n c lo m w h (by omega))
  clear h hw hls
  go_enter Try.func11, Try.ntmps11
  go_wp2_with fail
  go_step3
  go_wp2_with fail
  refine C1.out.mono ?_
  rintro e1 w1 ⟨rfl, hb1⟩
  have HB1 := Lib.hid hb1
  clear C1 hb1
  by_cases ho : offOk lo m
  case neg =>
    rw [offB_f ho]
    have HE : Hid (phE lo L = 1 ∧ phX lo L = []) := Lib.hid (by
      rw [← HLn.out.2] at ho
      unfold phE phX
      exact ⟨if_neg ho, if_neg (fun h => ho h.1)⟩)
    clear ho
    go_wp2
    (try rw [Exit.noGoto_ret])
    refine bodyPost_ret (v := .tuple #[.slice none 0 0, .int .i64 1]) (by simp [results, Try.results11, go_sem]) rfl ⟨_, by rw [HE.out.1], ?_, HB1.out⟩
    rw [HE.out.2]
    exact ⟨_, _, _, rfl, Nat.le_refl _, by decide, RdPo.empty _⟩
  rw [offB_t ho]
  have HO := Lib.hid ho
  have C2 := Lib.hid (allRight_any D m e L w1 (HW.out.below HB1.out) hm)
  clear ho
  go_wp2_with fail
  refine C2.out.mono ?_
  rintro e2 w2 ⟨rfl, hb2⟩
  have HB2 := Lib.hid (Below.thn HB1.out hb2)
  clear C2 hb2
  by_cases ha : allRt L
  case neg =>
    rw [allRtB_f ha]
    have HE : Hid (phE lo L = 160 ∧ phX lo L = []) := Lib.hid (by
      have ho := HO.out
      rw [← HLn.out.2] at ho
      unfold phE phX
      exact ⟨by rw [if_pos ho, if_neg ha], if_neg (fun h => ha h.2)⟩)
    clear ha
    go_wp2
    (try rw [Exit.noGoto_ret])
    refine bodyPost_ret (v := .tuple #[.slice none 0 0, .int .i64 160]) (by simp [results, Try.results11, go_sem]) rfl ⟨_, by rw [HE.out.1], ?_, HB2.out⟩
    rw [HE.out.2]
    exact ⟨_, _, _, rfl, Nat.le_refl _, by decide, RdPo.empty _⟩
  rw [allRtB_t ha]
  have HA := Lib.hid ha
  have hm1 : 1 ≤ m := HO.out.2.1
  have hm16 : m ≤ 16 := HO.out.2.2.1
  have hmk := makeI m (by omega)
  obtain ⟨ad, x0, rfl, HX0, HXO, hxn, c0⟩ := HW.out.at (k := 0) (by omega)
  rw [Addr.add_zero'] at c0
  have HE : Hid (phE lo L = 0 ∧ phX lo L = phL lo L x0.l) := Lib.hid (by
    have ho := HO.out
    rw [← HLn.out.2] at ho
    unfold phE phX
    obtain ⟨hl, e3⟩ := HX0.out
    exact ⟨by rw [if_pos ho, if_pos ha], by rw [if_pos ⟨ho, ha⟩]; congr 1; rw [List.getD_eq_getElem?_getD, List.getElem?_eq_getElem (by simpa using hl)]; simp [e3]⟩)
  obtain ⟨w3, hw3⟩ : ∃ w3, w3 = w2.alloc (.cells (madeCells #[.int .i64 0] m) 3) := ⟨_, rfl⟩
  obtain ⟨ga, hga⟩ : ∃ ga, ga = w2.heap.size := ⟨_, rfl⟩
  have hb3 : Below w2.heap.size w2 w3 := by rw [hw3]; exact (Below.refl _ _).alloc (Nat.le_refl _) _
  have HGA : Hid (w.heap.size ≤ ga) := Lib.hid (by rw [hga]; exact HB2.out.size)
  have HI0 : Hid (PhO w lo L x0.l m ga 0 (.slice none 0 0) (List.replicate m 0) [] w3) := Lib.hid ⟨Below.thn HB2.out hb3, by rw [hw3, hga]; exact OwnL.made (enc := encI) w2 w.heap.size 3 0 m HB2.out.size (by omega), by simp, by rw [← HLn.out.2]; exact KsOk.zero L _, OutI.nil _ _ _, rfl⟩
  have HW3 := Lib.hid hw3
  have HGG := Lib.hid hga
  replace c0 := cell_keep (Below.thn HB2.out hb3) c0
  rw [hw3] at c0
  clear ha hb3 hw3 hga
  go_wp2_with fail
  go_step3
  rw [← HW3.out, ← HGG.out]
  rw [← HW3.out] at c0
  go_wp2_with fail
  clear c0 hmk
  have hmkP := makeP m (by omega)
  go_loopw [6, 30] (fun o x wr => ∃ k : Nat, x = .int .i64 (k : Nat) ∧ k ≤ x0.n ∧ Hid (∃ ks os, PhO w lo L x0.l m ga k o ks os wr)) (fun _ x _ => x0.n - (intOf x).toNat)
  case atStart => exact ⟨0, rfl, Nat.zero_le _, Lib.hid ⟨_, _, HI0.out⟩⟩
  case round =>
    obtain ⟨k, rfl, hk, HI⟩ := hrel
    obtain ⟨ks, os, hI⟩ := HI.out
    replace HI := Lib.hid hI
    clear hI
    by_cases hlt : (k : Int) < (x0.n : Int)
    · obtain ⟨ae, B, mB, cB, d, q, eA, HPX, y0, y1, hq1, hq2, HRQ, hdm⟩ := HXO.out.rd.at (k := k) (by omega)
      replace y0 := cell_keep HI.out.be y0
      replace y1 := cell_keep HI.out.be y1
      obtain ⟨gp, hgp⟩ : ∃ gp, gp = wr.heap.size := ⟨_, rfl⟩
      obtain ⟨wA, hwA⟩ : ∃ wA, wA = wr.alloc (.cells #[.int .u32 (d : Nat), .slice B mB cB] 32) := ⟨_, rfl⟩
      obtain ⟨gw, hgw⟩ : ∃ gw, gw = wA.heap.size := ⟨_, rfl⟩
      obtain ⟨wB, hwB⟩ : ∃ wB, wB = wA.alloc (.cells (madeCells #[.int .u32 0, .slice none 0 0] (m * 2)) 32) := ⟨_, rfl⟩
      have hbA : Below wr.heap.size wr wA := by rw [hwA]; exact (Below.refl _ _).alloc (Nat.le_refl _) _
      have hbB : Below wA.heap.size wA wB := by rw [hwB]; exact (Below.refl _ _).alloc (Nat.le_refl _) _
      have hbx : Box2 wA gp 32 (.int .u32 (d : Nat)) (.slice B mB cB) := by rw [hwA, hgp]; exact Box2.new _ _ _ _
      have hgag : ga < gp := by have := (OwnL.base HI.out.at_ ga rfl).2; omega
      have hgpw : gw = gp + 1 := by rw [hgw, hwA, hgp]; simp
      have hdp : prevOf x0.l k ≤ d := by
        have hl := HPX.out.1
        have h1 := HA.out x0 (by obtain ⟨hl, e⟩ := HX0.out; rw [← e]; exact List.getElem_mem hl) k hl
        rw [getD_of HPX.out] at h1
        exact Nat.le_of_lt h1.1
      have HGS : Hid (ga < gp ∧ gw = gp + 1 ∧ gp = wr.heap.size ∧ prevOf x0.l k ≤ d) := Lib.hid ⟨hgag, hgpw, hgp, hdp⟩
      have HP0 : Hid (PhI w wr L m ga gp gw d (.slice B mB cB) 0 ks (List.replicate m noD) wB) := Lib.hid
        ⟨Below.thn (Below.thn HI.out.be hbA) hbB, (HI.out.at_.below hbA).below hbB, HI.out.kl, HI.out.ko.le hdp, (grown_below hbA _).trans (grown_below hbB _), hbx.below hbB, by
          rw [hwB, hgw]
          exact madeD wA w.heap.size m (by have := (Below.thn HI.out.be hbA).size; exact this) (by omega), by simp, fun j x hj => absurd hj (Nat.not_lt_zero _), fun y hy => by
          rw [List.eq_of_mem_replicate hy]
          exact ⟨IS.nil _, by decide⟩⟩
      have HWA := Lib.hid hwA
      have HWB := Lib.hid hwB
      have HGW := Lib.hid hgw
      have HGP := Lib.hid hgp
      clear hwA hwB hgw hgp hbA hbB hbx hgag hgpw hdp
      rw [eA]
      go_wp2_with fail
      rw [← HWA.out, ← HWB.out, ← HGP.out, show gp + 1 = gw from HGS.out.2.1.symm]
      clear y0 y1
      obtain ⟨W1, hW1⟩ : ∃ W1, W1 = wr := ⟨_, rfl⟩
      subst hW1
      go_loopw [39] (fun z wq => ∃ ii : Nat, z = .int .i64 (ii : Nat) ∧ ii ≤ m ∧ Hid (∃ ks vs, PhI w W1 L m ga gp gw d (.slice B mB cB) ii ks vs wq)) (fun z _ => m - (intOf z).toNat)
      case atStart => exact ⟨0, rfl, Nat.zero_le _, Lib.hid ⟨_, _, HP0.out⟩⟩
      case round =>
        obtain ⟨ii, rfl, hii, HI2⟩ := hrel
        obtain ⟨ks, vs, hI2⟩ := HI2.out
        replace HI2 := Lib.hid hI2
        clear hI2
        by_cases hli : (ii : Int) < (m : Int)
        · obtain ⟨ad', xx, ee, HX, HXO1, hxn1, c1⟩ := HW.out.at (k := ii) (by omega)
          cases ee
          have HRX := Lib.hid (HA.out xx (by obtain ⟨hl, e9⟩ := HX.out; rw [← e9]; exact List.getElem_mem hl))
          obtain ⟨kk, hkk1, hkk, hkk3⟩ := HI2.out.ko ii xx HX.out
          have HKK := Lib.hid hkk1
          have HKD := Lib.hid hkk3
          have HKL := Lib.hid HI2.out.kl
          have hi0 : ii < m := by omega
          have hi1 : (0 : Int) ≤ (ii : Int) := by omega
          have hi2m : (ii : Int) < (m : Int) := hli
          have HG0 : Hid (ga < wr.heap.size) := Lib.hid (OwnL.base HI2.out.at_ ga rfl).2
          have HGQ : Hid (gp < wr.heap.size) := Lib.hid HI2.out.box.lt
          have HWQ : Hid (w.heap.size ≤ wr.heap.size) := Lib.hid HI2.out.be.size
          have hgpa : some gp ≠ some ga := fun e9 => by have := HGS.out.1; injection e9 with e9; omega
          clear hkk1 hkk3
          go_upto_region 14 with fail
          refine wp_region_flowG (by kernel_rfl) (P14 w wr ad m e ii xx ga gp d (.slice B mB cB) ks) (fun r => ⟨fun h => h.elim, fun h => h.elim, fun h => h.elim, fun h => h.elim, fun h => h.elim, fun h => h.elim, fun h => h.elim, fun h => h.elim, fun h => h.elim, (HI2.out.be).trans (Below.drew (Below.refl _ _)), grown_below (Below.drew (Below.refl _ _)) _, HI2.out.box.below (Below.drew (Below.refl _ _)), fun _ => HI2.out.at_.below (Below.drew (Below.refl _ _)), fun h => h.elim, fun h => h.elim, fun h => h.elim, fun h => h.elim, fun h => h.elim, fun h => h.elim, fun h => h.elim⟩) (by kernel_rfl) (by kernel_rfl) ?_ ?_
          case refine_1 =>
            intro i o ho ρ y w2 S r hJ hnS hneeds hcl hreg hn hf hyb hyn
            have hi := (Array.getElem?_eq_some_iff.1 ho).1
            rcases Nat.lt_or_ge i 16 with hi2 | hi2
            case inr => simp at hi; omega
            obtain rfl | rfl | rfl | rfl | rfl | rfl | rfl | rfl | rfl | rfl | rfl | rfl | rfl | rfl | rfl | rfl : i = 0 ∨ i = 1 ∨ i = 2 ∨ i = 3 ∨ i = 4 ∨ i = 5 ∨ i = 6 ∨ i = 7 ∨ i = 8 ∨ i = 9 ∨ i = 10 ∨ i = 11 ∨ i = 12 ∨ i = 13 ∨ i = 14 ∨ i = 15 := by omega
            · cases ho
              rw [if_pos (show Region.wanted _ y = true from rfl)]
              have f1 : ρ (.tmp 1) = .slice (some ad) m e := hf 1 (by kernel_rfl)
              refine does_move ?_
              rw [f1]
              exact ⟨fun _ => rfl, fun x => hJ.v1 (x.resolve_left (by decide)), fun x => hJ.v2 (x.resolve_left (by decide)), fun x => hJ.v3 (x.resolve_left (by decide)), fun x => hJ.v4 (x.resolve_left (by decide)), fun x => hJ.v5 (x.resolve_left (by decide)), fun x => hJ.v6 (x.resolve_left (by decide)), fun x => hJ.v7 (x.resolve_left (by decide)), fun x => hJ.v8 (x.resolve_left (by decide)), hJ.f_be , hJ.f_g , hJ.f_p , fun n9 => hJ.k0 (fun x => n9 (.inr x)), fun x9 => absurd (hcl 2 _ rfl (hcl 3 _ rfl (hcl 9 _ rfl (x9.resolve_left (by decide)) 3 (by kernel_rfl)) 2 (by kernel_rfl)) 0 (by kernel_rfl)) hnS, fun x10 => absurd (hcl 2 _ rfl (hcl 3 _ rfl (hcl 9 _ rfl (hcl 10 _ rfl (x10.resolve_left (by decide)) 9 (by kernel_rfl)) 3 (by kernel_rfl)) 2 (by kernel_rfl)) 0 (by kernel_rfl)) hnS, fun x11 => absurd (hcl 2 _ rfl (hcl 3 _ rfl (hcl 9 _ rfl (hcl 10 _ rfl (hcl 11 _ rfl (x11.resolve_left (by decide)) 10 (by kernel_rfl)) 9 (by kernel_rfl)) 3 (by kernel_rfl)) 2 (by kernel_rfl)) 0 (by kernel_rfl)) hnS, fun x12 => absurd (hcl 2 _ rfl (hcl 3 _ rfl (hcl 9 _ rfl (hcl 10 _ rfl (hcl 12 _ rfl (x12.resolve_left (by decide)) 10 (by kernel_rfl)) 9 (by kernel_rfl)) 3 (by kernel_rfl)) 2 (by kernel_rfl)) 0 (by kernel_rfl)) hnS, fun x15 => absurd (hcl 15 _ rfl (x15.resolve_left (by decide)) 0 (by kernel_rfl)) hnS, fun x13 n14 => hJ.b0 (x13.resolve_left (by decide)) (fun x => n14 (.inr x)), fun x14 => absurd (hcl 14 _ rfl (x14.resolve_left (by decide)) 0 (by kernel_rfl)) hnS⟩
            · cases ho
              rw [if_pos (show Region.wanted _ y = true from rfl)]
              have f11 : ρ (.tmp 11) = .int .i64 (ii : Nat) := hf 11 (by kernel_rfl)
              refine does_move ?_
              rw [f11]
              exact ⟨fun x => hJ.v0 (x.resolve_left (by decide)), fun _ => rfl, fun x => hJ.v2 (x.resolve_left (by decide)), fun x => hJ.v3 (x.resolve_left (by decide)), fun x => hJ.v4 (x.resolve_left (by decide)), fun x => hJ.v5 (x.resolve_left (by decide)), fun x => hJ.v6 (x.resolve_left (by decide)), fun x => hJ.v7 (x.resolve_left (by decide)), fun x => hJ.v8 (x.resolve_left (by decide)), hJ.f_be , hJ.f_g , hJ.f_p , fun n9 => hJ.k0 (fun x => n9 (.inr x)), fun x9 => absurd (hcl 2 _ rfl (hcl 3 _ rfl (hcl 9 _ rfl (x9.resolve_left (by decide)) 3 (by kernel_rfl)) 2 (by kernel_rfl)) 1 (by kernel_rfl)) hnS, fun x10 => absurd (hcl 2 _ rfl (hcl 3 _ rfl (hcl 9 _ rfl (hcl 10 _ rfl (x10.resolve_left (by decide)) 9 (by kernel_rfl)) 3 (by kernel_rfl)) 2 (by kernel_rfl)) 1 (by kernel_rfl)) hnS, fun x11 => absurd (hcl 2 _ rfl (hcl 3 _ rfl (hcl 9 _ rfl (hcl 10 _ rfl (hcl 11 _ rfl (x11.resolve_left (by decide)) 10 (by kernel_rfl)) 9 (by kernel_rfl)) 3 (by kernel_rfl)) 2 (by kernel_rfl)) 1 (by kernel_rfl)) hnS, fun x12 => absurd (hcl 2 _ rfl (hcl 3 _ rfl (hcl 9 _ rfl (hcl 10 _ rfl (hcl 12 _ rfl (x12.resolve_left (by decide)) 10 (by kernel_rfl)) 9 (by kernel_rfl)) 3 (by kernel_rfl)) 2 (by kernel_rfl)) 1 (by kernel_rfl)) hnS, fun x15 => absurd (hcl 15 _ rfl (x15.resolve_left (by decide)) 1 (by kernel_rfl)) hnS, fun x13 n14 => hJ.b0 (x13.resolve_left (by decide)) (fun x => n14 (.inr x)), fun x14 => absurd (hcl 14 _ rfl (x14.resolve_left (by decide)) 1 (by kernel_rfl)) hnS⟩
            · cases ho
              rw [if_pos (show Region.wanted _ y = true from rfl)]
              have f43 : ρ (.tmp 43) = .slice (some ad) m e := (hn 0 _ 43 rfl (by kernel_rfl) rfl).trans (hJ.v0 (hneeds 0 (by kernel_rfl)))
              have f44 : ρ (.tmp 44) = .int .i64 (ii : Nat) := (hn 1 _ 44 rfl (by kernel_rfl) rfl).trans (hJ.v1 (hneeds 1 (by kernel_rfl)))
              exact does_ok (v := .pointer (some (ad.add ii))) (w' := w2) (by simp [go_sem, hreg.const, f43, f44, hi1, hi2m]) ⟨fun x => hJ.v0 (x.resolve_left (by decide)), fun x => hJ.v1 (x.resolve_left (by decide)), fun _ => rfl, fun x => hJ.v3 (x.resolve_left (by decide)), fun x => hJ.v4 (x.resolve_left (by decide)), fun x => hJ.v5 (x.resolve_left (by decide)), fun x => hJ.v6 (x.resolve_left (by decide)), fun x => hJ.v7 (x.resolve_left (by decide)), fun x => hJ.v8 (x.resolve_left (by decide)), hJ.f_be , hJ.f_g , hJ.f_p , fun n9 => hJ.k0 (fun x => n9 (.inr x)), fun x9 => absurd (hcl 3 _ rfl (hcl 9 _ rfl (x9.resolve_left (by decide)) 3 (by kernel_rfl)) 2 (by kernel_rfl)) hnS, fun x10 => absurd (hcl 3 _ rfl (hcl 9 _ rfl (hcl 10 _ rfl (x10.resolve_left (by decide)) 9 (by kernel_rfl)) 3 (by kernel_rfl)) 2 (by kernel_rfl)) hnS, fun x11 => absurd (hcl 3 _ rfl (hcl 9 _ rfl (hcl 10 _ rfl (hcl 11 _ rfl (x11.resolve_left (by decide)) 10 (by kernel_rfl)) 9 (by kernel_rfl)) 3 (by kernel_rfl)) 2 (by kernel_rfl)) hnS, fun x12 => absurd (hcl 3 _ rfl (hcl 9 _ rfl (hcl 10 _ rfl (hcl 12 _ rfl (x12.resolve_left (by decide)) 10 (by kernel_rfl)) 9 (by kernel_rfl)) 3 (by kernel_rfl)) 2 (by kernel_rfl)) hnS, fun x15 => absurd (hcl 15 _ rfl (x15.resolve_left (by decide)) 2 (by kernel_rfl)) hnS, fun x13 n14 => hJ.b0 (x13.resolve_left (by decide)) (fun x => n14 (.inr x)), fun x14 => absurd (hcl 14 _ rfl (x14.resolve_left (by decide)) 2 (by kernel_rfl)) hnS⟩
            · cases ho
              rw [if_pos (show Region.wanted _ y = true from rfl)]
              have f45 : ρ (.tmp 45) = .pointer (some (ad.add ii)) := (hn 2 _ 45 rfl (by kernel_rfl) rfl).trans (hJ.v2 (hneeds 2 (by kernel_rfl)))
              have k0 := cell_keep hJ.f_be c1
              exact does_ok (v := .slice xx.A xx.n xx.c) (w' := w2) (by simp [go_sem, hreg.const, f45, k0]) ⟨fun x => hJ.v0 (x.resolve_left (by decide)), fun x => hJ.v1 (x.resolve_left (by decide)), fun x => hJ.v2 (x.resolve_left (by decide)), fun _ => rfl, fun x => hJ.v4 (x.resolve_left (by decide)), fun x => hJ.v5 (x.resolve_left (by decide)), fun x => hJ.v6 (x.resolve_left (by decide)), fun x => hJ.v7 (x.resolve_left (by decide)), fun x => hJ.v8 (x.resolve_left (by decide)), hJ.f_be , hJ.f_g , hJ.f_p , fun n9 => hJ.k0 (fun x => n9 (.inr x)), fun x9 => absurd (hcl 9 _ rfl (x9.resolve_left (by decide)) 3 (by kernel_rfl)) hnS, fun x10 => absurd (hcl 9 _ rfl (hcl 10 _ rfl (x10.resolve_left (by decide)) 9 (by kernel_rfl)) 3 (by kernel_rfl)) hnS, fun x11 => absurd (hcl 9 _ rfl (hcl 10 _ rfl (hcl 11 _ rfl (x11.resolve_left (by decide)) 10 (by kernel_rfl)) 9 (by kernel_rfl)) 3 (by kernel_rfl)) hnS, fun x12 => absurd (hcl 9 _ rfl (hcl 10 _ rfl (hcl 12 _ rfl (x12.resolve_left (by decide)) 10 (by kernel_rfl)) 9 (by kernel_rfl)) 3 (by kernel_rfl)) hnS, fun x15 => absurd (hcl 15 _ rfl (x15.resolve_left (by decide)) 3 (by kernel_rfl)) hnS, fun x13 n14 => hJ.b0 (x13.resolve_left (by decide)) (fun x => n14 (.inr x)), fun x14 => absurd (hcl 14 _ rfl (x14.resolve_left (by decide)) 3 (by kernel_rfl)) hnS⟩
            · cases ho
              rw [if_pos (show Region.wanted _ y = true from rfl)]
              have f7 : ρ (.tmp 7) = .slice (some ⟨ga, 0, none⟩) m m := hf 7 (by kernel_rfl)
              refine does_move ?_
              rw [f7]
              exact ⟨fun x => hJ.v0 (x.resolve_left (by decide)), fun x => hJ.v1 (x.resolve_left (by decide)), fun x => hJ.v2 (x.resolve_left (by decide)), fun x => hJ.v3 (x.resolve_left (by decide)), fun _ => rfl, fun x => hJ.v5 (x.resolve_left (by decide)), fun x => hJ.v6 (x.resolve_left (by decide)), fun x => hJ.v7 (x.resolve_left (by decide)), fun x => hJ.v8 (x.resolve_left (by decide)), hJ.f_be , hJ.f_g , hJ.f_p , fun n9 => hJ.k0 (fun x => n9 (.inr x)), fun x9 => absurd (hcl 6 _ rfl (hcl 9 _ rfl (x9.resolve_left (by decide)) 6 (by kernel_rfl)) 4 (by kernel_rfl)) hnS, fun x10 => absurd (hcl 6 _ rfl (hcl 9 _ rfl (hcl 10 _ rfl (x10.resolve_left (by decide)) 9 (by kernel_rfl)) 6 (by kernel_rfl)) 4 (by kernel_rfl)) hnS, fun x11 => absurd (hcl 6 _ rfl (hcl 9 _ rfl (hcl 10 _ rfl (hcl 11 _ rfl (x11.resolve_left (by decide)) 10 (by kernel_rfl)) 9 (by kernel_rfl)) 6 (by kernel_rfl)) 4 (by kernel_rfl)) hnS, fun x12 => absurd (hcl 6 _ rfl (hcl 9 _ rfl (hcl 10 _ rfl (hcl 12 _ rfl (x12.resolve_left (by decide)) 10 (by kernel_rfl)) 9 (by kernel_rfl)) 6 (by kernel_rfl)) 4 (by kernel_rfl)) hnS, fun x15 => absurd (hcl 15 _ rfl (x15.resolve_left (by decide)) 4 (by kernel_rfl)) hnS, fun x13 n14 => hJ.b0 (x13.resolve_left (by decide)) (fun x => n14 (.inr x)), fun x14 => absurd (hcl 14 _ rfl (x14.resolve_left (by decide)) 4 (by kernel_rfl)) hnS⟩
            · cases ho
              rw [if_pos (show Region.wanted _ y = true from rfl)]
              have f11 : ρ (.tmp 11) = .int .i64 (ii : Nat) := hf 11 (by kernel_rfl)
              refine does_move ?_
              rw [f11]
              exact ⟨fun x => hJ.v0 (x.resolve_left (by decide)), fun x => hJ.v1 (x.resolve_left (by decide)), fun x => hJ.v2 (x.resolve_left (by decide)), fun x => hJ.v3 (x.resolve_left (by decide)), fun x => hJ.v4 (x.resolve_left (by decide)), fun _ => rfl, fun x => hJ.v6 (x.resolve_left (by decide)), fun x => hJ.v7 (x.resolve_left (by decide)), fun x => hJ.v8 (x.resolve_left (by decide)), hJ.f_be , hJ.f_g , hJ.f_p , fun n9 => hJ.k0 (fun x => n9 (.inr x)), fun x9 => absurd (hcl 6 _ rfl (hcl 9 _ rfl (x9.resolve_left (by decide)) 6 (by kernel_rfl)) 5 (by kernel_rfl)) hnS, fun x10 => absurd (hcl 6 _ rfl (hcl 9 _ rfl (hcl 10 _ rfl (x10.resolve_left (by decide)) 9 (by kernel_rfl)) 6 (by kernel_rfl)) 5 (by kernel_rfl)) hnS, fun x11 => absurd (hcl 6 _ rfl (hcl 9 _ rfl (hcl 10 _ rfl (hcl 11 _ rfl (x11.resolve_left (by decide)) 10 (by kernel_rfl)) 9 (by kernel_rfl)) 6 (by kernel_rfl)) 5 (by kernel_rfl)) hnS, fun x12 => absurd (hcl 6 _ rfl (hcl 9 _ rfl (hcl 10 _ rfl (hcl 12 _ rfl (x12.resolve_left (by decide)) 10 (by kernel_rfl)) 9 (by kernel_rfl)) 6 (by kernel_rfl)) 5 (by kernel_rfl)) hnS, fun x15 => absurd (hcl 15 _ rfl (x15.resolve_left (by decide)) 5 (by kernel_rfl)) hnS, fun x13 n14 => hJ.b0 (x13.resolve_left (by decide)) (fun x => n14 (.inr x)), fun x14 => absurd (hcl 14 _ rfl (x14.resolve_left (by decide)) 5 (by kernel_rfl)) hnS⟩
            · cases ho
              rw [if_pos (show Region.wanted _ y = true from rfl)]
              have f47 : ρ (.tmp 47) = .slice (some ⟨ga, 0, none⟩) m m := (hn 4 _ 47 rfl (by kernel_rfl) rfl).trans (hJ.v4 (hneeds 4 (by kernel_rfl)))
              have f48 : ρ (.tmp 48) = .int .i64 (ii : Nat) := (hn 5 _ 48 rfl (by kernel_rfl) rfl).trans (hJ.v5 (hneeds 5 (by kernel_rfl)))
              exact does_ok (v := .pointer (some ⟨ga, ii, none⟩)) (w' := w2) (by simp [go_sem, hreg.const, f47, f48, hi1, hi2m, add_lit0]) ⟨fun x => hJ.v0 (x.resolve_left (by decide)), fun x => hJ.v1 (x.resolve_left (by decide)), fun x => hJ.v2 (x.resolve_left (by decide)), fun x => hJ.v3 (x.resolve_left (by decide)), fun x => hJ.v4 (x.resolve_left (by decide)), fun x => hJ.v5 (x.resolve_left (by decide)), fun _ => rfl, fun x => hJ.v7 (x.resolve_left (by decide)), fun x => hJ.v8 (x.resolve_left (by decide)), hJ.f_be , hJ.f_g , hJ.f_p , fun n9 => hJ.k0 (fun x => n9 (.inr x)), fun x9 => absurd (hcl 9 _ rfl (x9.resolve_left (by decide)) 6 (by kernel_rfl)) hnS, fun x10 => absurd (hcl 9 _ rfl (hcl 10 _ rfl (x10.resolve_left (by decide)) 9 (by kernel_rfl)) 6 (by kernel_rfl)) hnS, fun x11 => absurd (hcl 9 _ rfl (hcl 10 _ rfl (hcl 11 _ rfl (x11.resolve_left (by decide)) 10 (by kernel_rfl)) 9 (by kernel_rfl)) 6 (by kernel_rfl)) hnS, fun x12 => absurd (hcl 9 _ rfl (hcl 10 _ rfl (hcl 12 _ rfl (x12.resolve_left (by decide)) 10 (by kernel_rfl)) 9 (by kernel_rfl)) 6 (by kernel_rfl)) hnS, fun x15 => absurd (hcl 15 _ rfl (x15.resolve_left (by decide)) 6 (by kernel_rfl)) hnS, fun x13 n14 => hJ.b0 (x13.resolve_left (by decide)) (fun x => n14 (.inr x)), fun x14 => absurd (hcl 14 _ rfl (x14.resolve_left (by decide)) 6 (by kernel_rfl)) hnS⟩
            · cases ho
              rw [if_pos (show Region.wanted _ y = true from rfl)]
              have f9 : ρ (.tmp 9) = .pointer (some ⟨gp, 0, none⟩) := hf 9 (by kernel_rfl)
              exact does_ok (v := .pointer (some ⟨gp, 0, none⟩)) (w' := w2) (by simp [go_sem, hreg.const, f9]) ⟨fun x => hJ.v0 (x.resolve_left (by decide)), fun x => hJ.v1 (x.resolve_left (by decide)), fun x => hJ.v2 (x.resolve_left (by decide)), fun x => hJ.v3 (x.resolve_left (by decide)), fun x => hJ.v4 (x.resolve_left (by decide)), fun x => hJ.v5 (x.resolve_left (by decide)), fun x => hJ.v6 (x.resolve_left (by decide)), fun _ => rfl, fun x => hJ.v8 (x.resolve_left (by decide)), hJ.f_be , hJ.f_g , hJ.f_p , fun n9 => hJ.k0 (fun x => n9 (.inr x)), fun x9 => absurd (hcl 8 _ rfl (hcl 9 _ rfl (x9.resolve_left (by decide)) 8 (by kernel_rfl)) 7 (by kernel_rfl)) hnS, fun x10 => absurd (hcl 8 _ rfl (hcl 9 _ rfl (hcl 10 _ rfl (x10.resolve_left (by decide)) 9 (by kernel_rfl)) 8 (by kernel_rfl)) 7 (by kernel_rfl)) hnS, fun x11 => absurd (hcl 8 _ rfl (hcl 9 _ rfl (hcl 10 _ rfl (hcl 11 _ rfl (x11.resolve_left (by decide)) 10 (by kernel_rfl)) 9 (by kernel_rfl)) 8 (by kernel_rfl)) 7 (by kernel_rfl)) hnS, fun x12 => absurd (hcl 8 _ rfl (hcl 9 _ rfl (hcl 10 _ rfl (hcl 12 _ rfl (x12.resolve_left (by decide)) 10 (by kernel_rfl)) 9 (by kernel_rfl)) 8 (by kernel_rfl)) 7 (by kernel_rfl)) hnS, fun x15 => absurd (hcl 15 _ rfl (x15.resolve_left (by decide)) 7 (by kernel_rfl)) hnS, fun x13 n14 => hJ.b0 (x13.resolve_left (by decide)) (fun x => n14 (.inr x)), fun x14 => absurd (hcl 14 _ rfl (x14.resolve_left (by decide)) 7 (by kernel_rfl)) hnS⟩
            · cases ho
              rw [if_pos (show Region.wanted _ y = true from rfl)]
              have f50 : ρ (.tmp 50) = .pointer (some ⟨gp, 0, none⟩) := (hn 7 _ 50 rfl (by kernel_rfl) rfl).trans (hJ.v7 (hneeds 7 (by kernel_rfl)))
              have k0 := hJ.f_p.facts.1
              exact does_ok (v := .int .u32 (d : Nat)) (w' := w2) (by simp [go_sem, hreg.const, f50, k0]) ⟨fun x => hJ.v0 (x.resolve_left (by decide)), fun x => hJ.v1 (x.resolve_left (by decide)), fun x => hJ.v2 (x.resolve_left (by decide)), fun x => hJ.v3 (x.resolve_left (by decide)), fun x => hJ.v4 (x.resolve_left (by decide)), fun x => hJ.v5 (x.resolve_left (by decide)), fun x => hJ.v6 (x.resolve_left (by decide)), fun x => hJ.v7 (x.resolve_left (by decide)), fun _ => rfl, hJ.f_be , hJ.f_g , hJ.f_p , fun n9 => hJ.k0 (fun x => n9 (.inr x)), fun x9 => absurd (hcl 9 _ rfl (x9.resolve_left (by decide)) 8 (by kernel_rfl)) hnS, fun x10 => absurd (hcl 9 _ rfl (hcl 10 _ rfl (x10.resolve_left (by decide)) 9 (by kernel_rfl)) 8 (by kernel_rfl)) hnS, fun x11 => absurd (hcl 9 _ rfl (hcl 10 _ rfl (hcl 11 _ rfl (x11.resolve_left (by decide)) 10 (by kernel_rfl)) 9 (by kernel_rfl)) 8 (by kernel_rfl)) hnS, fun x12 => absurd (hcl 9 _ rfl (hcl 10 _ rfl (hcl 12 _ rfl (x12.resolve_left (by decide)) 10 (by kernel_rfl)) 9 (by kernel_rfl)) 8 (by kernel_rfl)) hnS, fun x15 => absurd (hcl 15 _ rfl (x15.resolve_left (by decide)) 8 (by kernel_rfl)) hnS, fun x13 n14 => hJ.b0 (x13.resolve_left (by decide)) (fun x => n14 (.inr x)), fun x14 => absurd (hcl 14 _ rfl (x14.resolve_left (by decide)) 8 (by kernel_rfl)) hnS⟩
            · cases ho
              rw [if_pos (show Region.wanted _ y = true from rfl)]
              have f46 : ρ (.tmp 46) = .slice xx.A xx.n xx.c := (hn 3 _ 46 rfl (by kernel_rfl) rfl).trans (hJ.v3 (hneeds 3 (by kernel_rfl)))
              have f49 : ρ (.tmp 49) = .pointer (some ⟨ga, ii, none⟩) := (hn 6 _ 49 rfl (by kernel_rfl) rfl).trans (hJ.v6 (hneeds 6 (by kernel_rfl)))
              have f51 : ρ (.tmp 51) = .int .u32 (d : Nat) := (hn 8 _ 51 rfl (by kernel_rfl) rfl).trans (hJ.v8 (hneeds 8 (by kernel_rfl)))
              refine does_enter (f := 38) (args := #[.slice xx.A xx.n xx.c, .pointer (some ⟨ga, ii, none⟩), .int .u32 (d : Nat)]) (w' := w2) (by simp [go_sem, hreg.func, hreg.const, f46, f49, f51]) ?_
              refine (find_m w xx.A xx.n xx.c xx.l ga m m ks ii kk d w2 HXO1.out.rd HRX.out hJ.f_be (hJ.k0 hnS) HKL.out hi0 HKK.out hkk HKD.out).mono ?_
              rintro e w' ⟨q9, B9, m9', c9', bb, k', rfl, hfr, hk', hdl, ho', hg'⟩
              exact ⟨_, rfl, ⟨fun x => hJ.v0 (x.resolve_left (by decide)), fun x => hJ.v1 (x.resolve_left (by decide)), fun x => hJ.v2 (x.resolve_left (by decide)), fun x => hJ.v3 (x.resolve_left (by decide)), fun x => hJ.v4 (x.resolve_left (by decide)), fun x => hJ.v5 (x.resolve_left (by decide)), fun x => hJ.v6 (x.resolve_left (by decide)), fun x => hJ.v7 (x.resolve_left (by decide)), fun x => hJ.v8 (x.resolve_left (by decide)), hJ.f_be.grown hg' hJ.f_be.size (fun k hk => by cases hk; exact HGA.out), hJ.f_g.trans hg', hJ.f_p.kept hg' hgpa, fun n9 => absurd (.inl rfl) n9, fun x9 => (fun _ => ⟨q9, B9, m9', c9', bb, k', rfl, hfr, hk', hdl, ho'⟩) (), fun x10 => absurd (hcl 10 _ rfl (x10.resolve_left (by decide)) 9 (by kernel_rfl)) hnS, fun x11 => absurd (hcl 10 _ rfl (hcl 11 _ rfl (x11.resolve_left (by decide)) 10 (by kernel_rfl)) 9 (by kernel_rfl)) hnS, fun x12 => absurd (hcl 10 _ rfl (hcl 12 _ rfl (x12.resolve_left (by decide)) 10 (by kernel_rfl)) 9 (by kernel_rfl)) hnS, fun x15 => absurd (hcl 15 _ rfl (x15.resolve_left (by decide)) 9 (by kernel_rfl)) hnS, fun x13 n14 => (fun s13 m14 => (by obtain ⟨g, e12, hge, hbx⟩ := hJ.b0 s13 m14; exact ⟨g, e12, hge, hbx.kept hg' (fun e9 => by have := HG0.out; injection e9 with e9; omega)⟩)) (x13.resolve_left (by decide)) (fun x => n14 (.inr x)), fun x14 => absurd (hcl 14 _ rfl (x14.resolve_left (by decide)) 9 (by kernel_rfl)) hnS⟩⟩
            · cases ho
              rw [if_pos (show Region.wanted _ y = true from rfl)]
              have f52 : ρ (.tmp 52) = r 9 := hn 9 _ 52 rfl (by kernel_rfl) rfl
              refine does_move ?_
              rw [f52]
              exact ⟨fun x => hJ.v0 (x.resolve_left (by decide)), fun x => hJ.v1 (x.resolve_left (by decide)), fun x => hJ.v2 (x.resolve_left (by decide)), fun x => hJ.v3 (x.resolve_left (by decide)), fun x => hJ.v4 (x.resolve_left (by decide)), fun x => hJ.v5 (x.resolve_left (by decide)), fun x => hJ.v6 (x.resolve_left (by decide)), fun x => hJ.v7 (x.resolve_left (by decide)), fun x => hJ.v8 (x.resolve_left (by decide)), hJ.f_be , hJ.f_g , hJ.f_p , fun n9 => absurd (.inr (hneeds 9 (by kernel_rfl))) n9, fun x9 => hJ.k1 (x9.resolve_left (by decide)), fun x10 => (fun _ => rfl) (), fun x11 => absurd (hcl 11 _ rfl (x11.resolve_left (by decide)) 10 (by kernel_rfl)) hnS, fun x12 => absurd (hcl 12 _ rfl (x12.resolve_left (by decide)) 10 (by kernel_rfl)) hnS, fun x15 => absurd (hcl 15 _ rfl (x15.resolve_left (by decide)) 10 (by kernel_rfl)) hnS, fun x13 n14 => hJ.b0 (x13.resolve_left (by decide)) (fun x => n14 (.inr x)), fun x14 => absurd (hcl 14 _ rfl (x14.resolve_left (by decide)) 10 (by kernel_rfl)) hnS⟩
            · cases ho
              rw [if_pos (show Region.wanted _ y = true from rfl)]
              have f42 : ρ (.tmp 42) = r 10 := hn 10 _ 42 rfl (by kernel_rfl) rfl
              have s10 := hneeds 10 (by kernel_rfl)
              have s9 := hcl 10 _ rfl s10 9 (by kernel_rfl)
              obtain ⟨q9, B9, m9', c9', bb, k', e52, hfr, hk', hdl, ho'⟩ := hJ.k1 s9
              have e42 := hJ.c42 s10
              exact does_ok (v := .agg #[.int .u32 (q9 : Nat), .slice B9 m9' c9']) (w' := w2) (by simp [go_sem, f42, e42, e52]) ⟨fun x => hJ.v0 (x.resolve_left (by decide)), fun x => hJ.v1 (x.resolve_left (by decide)), fun x => hJ.v2 (x.resolve_left (by decide)), fun x => hJ.v3 (x.resolve_left (by decide)), fun x => hJ.v4 (x.resolve_left (by decide)), fun x => hJ.v5 (x.resolve_left (by decide)), fun x => hJ.v6 (x.resolve_left (by decide)), fun x => hJ.v7 (x.resolve_left (by decide)), fun x => hJ.v8 (x.resolve_left (by decide)), hJ.f_be , hJ.f_g , hJ.f_p , fun n9 => absurd (.inr (hcl 10 _ rfl (hneeds 10 (by kernel_rfl)) 9 (by kernel_rfl))) n9, fun x9 => hJ.k1 (x9.resolve_left (by decide)), fun x10 => hJ.c42 (x10.resolve_left (by decide)), fun x11 => (fun _ => ⟨_, e52⟩) (), fun x12 => hJ.c54 (x12.resolve_left (by decide)), fun x15 => absurd (hcl 15 _ rfl (x15.resolve_left (by decide)) 11 (by kernel_rfl)) hnS, fun x13 n14 => hJ.b0 (x13.resolve_left (by decide)) (fun x => n14 (.inr x)), fun x14 => absurd (hcl 14 _ rfl (x14.resolve_left (by decide)) 11 (by kernel_rfl)) hnS⟩
            · cases ho
              rw [if_pos (show Region.wanted _ y = true from rfl)]
              have f42 : ρ (.tmp 42) = r 10 := hn 10 _ 42 rfl (by kernel_rfl) rfl
              have s10 := hneeds 10 (by kernel_rfl)
              have s9 := hcl 10 _ rfl s10 9 (by kernel_rfl)
              obtain ⟨q9, B9, m9', c9', bb, k', e52, hfr, hk', hdl, ho'⟩ := hJ.k1 s9
              have e42 := hJ.c42 s10
              exact does_ok (v := .bool bb) (w' := w2) (by simp [go_sem, f42, e42, e52]) ⟨fun x => hJ.v0 (x.resolve_left (by decide)), fun x => hJ.v1 (x.resolve_left (by decide)), fun x => hJ.v2 (x.resolve_left (by decide)), fun x => hJ.v3 (x.resolve_left (by decide)), fun x => hJ.v4 (x.resolve_left (by decide)), fun x => hJ.v5 (x.resolve_left (by decide)), fun x => hJ.v6 (x.resolve_left (by decide)), fun x => hJ.v7 (x.resolve_left (by decide)), fun x => hJ.v8 (x.resolve_left (by decide)), hJ.f_be , hJ.f_g , hJ.f_p , fun n9 => absurd (.inr (hcl 10 _ rfl (hneeds 10 (by kernel_rfl)) 9 (by kernel_rfl))) n9, fun x9 => hJ.k1 (x9.resolve_left (by decide)), fun x10 => hJ.c42 (x10.resolve_left (by decide)), fun x11 => hJ.c53 (x11.resolve_left (by decide)), fun x12 => (fun _ => ⟨_, e52⟩) (), fun x15 => absurd (hcl 15 _ rfl (x15.resolve_left (by decide)) 12 (by kernel_rfl)) hnS, fun x13 n14 => hJ.b0 (x13.resolve_left (by decide)) (fun x => n14 (.inr x)), fun x14 => hJ.b1 (x14.resolve_left (by decide))⟩
            · cases ho
              rw [if_pos (show Region.wanted _ y = true from rfl)]
              have hbw : Below w2.heap.size w2 (w2.alloc (.cells #[.int .u32 0, .slice none 0 0] 32)) := (Below.refl _ _).alloc (Nat.le_refl _) _
              exact does_ok (v := .pointer (some ⟨w2.heap.size, 0, none⟩)) (w' := w2.alloc (.cells #[.int .u32 0, .slice none 0 0] 32)) (by simp [go_sem, hreg.const]) ⟨fun x => hJ.v0 (x.resolve_left (by decide)), fun x => hJ.v1 (x.resolve_left (by decide)), fun x => hJ.v2 (x.resolve_left (by decide)), fun x => hJ.v3 (x.resolve_left (by decide)), fun x => hJ.v4 (x.resolve_left (by decide)), fun x => hJ.v5 (x.resolve_left (by decide)), fun x => hJ.v6 (x.resolve_left (by decide)), fun x => hJ.v7 (x.resolve_left (by decide)), fun x => hJ.v8 (x.resolve_left (by decide)), Below.thn hJ.f_be hbw, hJ.f_g.trans (grown_below hbw _), hJ.f_p.below hbw, fun n9 => (fun m9 => (hJ.k0 m9).below hbw) (fun x => n9 (.inr x)), fun x9 => (fun s9 => (by obtain ⟨q9, B9, m9', c9', bb, k', e52, hfr, hk', hdl, ho'⟩ := hJ.k1 s9; exact ⟨q9, B9, m9', c9', bb, k', e52, hfr, hk', hdl, OwnL.below ho' hbw⟩)) (x9.resolve_left (by decide)), fun x10 => hJ.c42 (x10.resolve_left (by decide)), fun x11 => hJ.c53 (x11.resolve_left (by decide)), fun x12 => hJ.c54 (x12.resolve_left (by decide)), fun x15 => absurd (hcl 15 _ rfl (x15.resolve_left (by decide)) 13 (by kernel_rfl)) hnS, fun x13 n14 => (fun _ m14 => ⟨w2.heap.size, rfl, hJ.f_g.size, Box2.new _ _ _ _⟩) () (fun x => n14 (.inr x)), fun x14 => absurd (hcl 14 _ rfl (x14.resolve_left (by decide)) 13 (by kernel_rfl)) hnS⟩
            · cases ho
              rw [if_pos (show Region.wanted _ y = true from rfl)]
              have f12 : ρ (.tmp 12) = r 13 := hn 13 _ 12 rfl (by kernel_rfl) rfl
              have f53 : ρ (.tmp 53) = r 11 := hn 11 _ 53 rfl (by kernel_rfl) rfl
              have s11 := hneeds 11 (by kernel_rfl)
              have s13 := hneeds 13 (by kernel_rfl)
              have s9 := hneeds 9 (by kernel_rfl)
              obtain ⟨q9, B9, m9', c9', bb, k', e52, hfr, hk', hdl, ho'⟩ := hJ.k1 s9
              obtain ⟨b', e53'⟩ := hJ.c53 s11
              have e53 : r 11 = .agg #[.int .u32 (q9 : Nat), .slice B9 m9' c9'] := by rw [e52] at e53'; simp at e53'; exact e53'.1.symm
              obtain ⟨g, e12, hge, hbx⟩ := hJ.b0 s13 hnS
              obtain ⟨q0, q1, q2, q3⟩ := hbx.facts
              have hgw : w.heap.size ≤ g := Nat.le_trans HWQ.out hge
              have g1 := grownBy_set w2 ⟨g, 0, none⟩ (.int .u32 (q9 : Nat))
              have g2 := grownBy_set (w2.setCell ⟨g, 0, none⟩ (.int .u32 (q9 : Nat))) ⟨g, 1, none⟩ (.slice B9 m9' c9')
              have hgpg : some gp ≠ some g := fun e9 => by have := HGQ.out; injection e9 with e9; omega
              have hgn : (Value.slice (some ⟨ga, 0, none⟩) m m).ownBlock = none ∨ (Value.slice (some ⟨ga, 0, none⟩) m m).ownBlock ≠ some g := .inr (fun e9 => (show ga ≠ g from fun h9 => by have h8 := HG0.out; omega) (by injection e9))
              exact does_skip (w' := (w2.setCell ⟨g, 0, none⟩ (.int .u32 (q9 : Nat))).setCell ⟨g, 1, none⟩ (.slice B9 m9' c9')) (by simp [go_sem, f12, f53, e12, e53, q0, q1, q2, q3]) ⟨fun x => hJ.v0 (x.resolve_left (by decide)), fun x => hJ.v1 (x.resolve_left (by decide)), fun x => hJ.v2 (x.resolve_left (by decide)), fun x => hJ.v3 (x.resolve_left (by decide)), fun x => hJ.v4 (x.resolve_left (by decide)), fun x => hJ.v5 (x.resolve_left (by decide)), fun x => hJ.v6 (x.resolve_left (by decide)), fun x => hJ.v7 (x.resolve_left (by decide)), fun x => hJ.v8 (x.resolve_left (by decide)), (hJ.f_be.setCell hgw _).setCell hgw _, grownBy_new (grownBy_new hJ.f_g g1 hge) g2 hge, (hJ.f_p.kept g1 hgpg).kept g2 hgpg, fun n9 => absurd (.inr (hneeds 9 (by kernel_rfl))) n9, fun x9 => (fun s9 => ⟨q9, B9, m9', c9', bb, k', e52, hfr, hk', hdl, (OwnL.kept ho' g1 hgn).kept g2 hgn⟩) (x9.resolve_left (by decide)), fun x10 => hJ.c42 (x10.resolve_left (by decide)), fun x11 => hJ.c53 (x11.resolve_left (by decide)), fun x12 => hJ.c54 (x12.resolve_left (by decide)), fun x15 => absurd (hcl 15 _ rfl (x15.resolve_left (by decide)) 14 (by kernel_rfl)) hnS, fun x13 n14 => absurd (.inl rfl) n14, fun x14 => (fun _ => ⟨g, _, _, _, e12, hge, e52, (hbx.set0 _).set1 _⟩) ()⟩
            · cases ho
              rw [if_pos (show Region.wanted _ y = true from rfl)]
              have f54 : ρ (.tmp 54) = r 12 := hn 12 _ 54 rfl (by kernel_rfl) rfl
              refine does_assign ?_
              rw [f54]
              exact ⟨fun x => hJ.v0 (x.resolve_left (by decide)), fun x => hJ.v1 (x.resolve_left (by decide)), fun x => hJ.v2 (x.resolve_left (by decide)), fun x => hJ.v3 (x.resolve_left (by decide)), fun x => hJ.v4 (x.resolve_left (by decide)), fun x => hJ.v5 (x.resolve_left (by decide)), fun x => hJ.v6 (x.resolve_left (by decide)), fun x => hJ.v7 (x.resolve_left (by decide)), fun x => hJ.v8 (x.resolve_left (by decide)), hJ.f_be , hJ.f_g , hJ.f_p , fun n9 => absurd (.inr (hneeds 9 (by kernel_rfl))) n9, fun x9 => hJ.k1 (x9.resolve_left (by decide)), fun x10 => hJ.c42 (x10.resolve_left (by decide)), fun x11 => hJ.c53 (x11.resolve_left (by decide)), fun x12 => hJ.c54 (x12.resolve_left (by decide)), fun x15 => (fun _ => rfl) (), fun x13 n14 => absurd (.inr (hneeds 14 (by kernel_rfl))) n14, fun x14 => hJ.b1 (x14.resolve_left (by decide))⟩
          case refine_2 =>
            intro a w2 S r hJ hall hd hs hfacts hrest
            obtain ⟨q9, B9, m9', c9', bb, k', e52, hfr, hk', hdl, ho'⟩ := hJ.k1 (hall 9 (by decide))
            obtain ⟨g, a', b', bb', e12, hge, e52', hbx⟩ := hJ.b1 (hall 14 (by decide))
            rw [e52] at e52'
            simp only [Value.tuple.injEq, Array.mk.injEq, List.cons.injEq, Value.agg.injEq, and_true] at e52'
            obtain ⟨⟨rfl, rfl⟩, rfl⟩ := e52'
            have k12 : r 13 = .pointer (some ⟨g, 0, none⟩) := e12
            have k13 : r 15 = .bool bb := by
              obtain ⟨a5, e54⟩ := hJ.c54 (hall 12 (by decide))
              rw [e52] at e54
              simp only [Value.tuple.injEq, Array.mk.injEq, List.cons.injEq, and_true] at e54
              rw [hJ.c13 (hall 15 (by decide)), ← e54.2]
            have hpg : gp ≠ ga := by have := HGS.out.1; omega
            have hwg : gw ≠ ga := by have := HGS.out; omega
            have HN2 : Hid (PhI w W1 L m ga gp gw d (.slice B mB cB) ii (ks.set ii (k' : Nat)) vs w2) := Lib.hid (HI2.out.look hJ.f_g HX.out hk' hdl ho' hpg hwg hJ.f_be)
            have HFR := Lib.hid hfr
            have HBX := Lib.hid hbx
            have HGE := Lib.hid hge
            have q12 : a.tmps.getD 12 undef = Value.pointer (some ⟨g, 0, none⟩) := (hfacts 13 _ 12 rfl rfl).trans k12
            have q13 : a.tmps.getD 13 undef = Value.bool bb := (hfacts 15 _ 13 rfl rfl).trans k13
            have ha := frame_of hd hs hrest [12, 13, 42, 43, 44, 45, 46, 47, 48, 49, 50, 51, 52, 53, 54] (by kernel_rfl)
            simp only [q12, q13, List.foldl, List.setIfInBounds_toArray, List.set_cons_succ, List.set_cons_zero] at ha
            clear q12 q13 hd hs hfacts hrest
            generalize a.tmps.getD = gg at ha
            subst ha
            clear hall hJ hfr ho' hdl hbx e52 e12 k12 k13 c1
            cases bb
            · have hno := phAt_no (lo := lo) (d := d) HX.out (posDoc_not (HFR.out.2 rfl))
              have HN : Hid (∃ ks os, PhO w lo L x0.l m ga (k + 1) u6 ks os w2) := Lib.hid ⟨_, os, HN2.out.be, HN2.out.at_, HN2.out.kl, by rw [prevOf_succ, getD_of HPX.out]; exact HN2.out.ko, HI.out.out.kept HI.out.at_ HN2.out.gr, by rw [ph_no HPX.out hno]; exact HI.out.eq⟩
              clear hno
              go_wp2
              exact ⟨⟨k + 1, by simp; try go_num, by omega, HN⟩, by simp [intOf]; omega⟩
            · obtain ⟨p, hp, hpd, u, hu, hIS, _⟩ := HFR.out.1 rfl
              simp only [Value.agg.injEq, Array.mk.injEq, List.cons.injEq, Value.int.injEq, and_true, true_and] at hu
              obtain ⟨hq9, rfl⟩ := hu
              obtain rfl : q9 = d := by omega
              have hpos : posDoc xx.l q9 = p.2 := by rw [← hpd]; exact posDoc_mem HRX.out hp
              have HI3 := Lib.hid (HN2.out.put HX.out hi0 ((q9, p.2), B9, m9', c9') (by rw [hpos]) hIS (by omega) (by have := HGS.out; omega) (by have := HGS.out; omega) (by have := HGS.out; omega))
              obtain ⟨t0, t1, _, _⟩ := HBX.out.facts
              have hcl := OwnD.cells (i := ii) (by rw [HN2.out.vl]; exact HN2.out.ws) (by rw [HN2.out.vl]; exact hi0)
              obtain ⟨z0, z1, z2, z3⟩ := hcl
              clear hIS hpos hp hpd hq9
              go_wp2
              exact ⟨⟨ii + 1, by simp; try go_num, by omega, Lib.hid ⟨_, _, HI3.out⟩⟩, by simp [intOf]; omega⟩
        · obtain ⟨Aw, nw, cw, ew, _, _, hrd⟩ := HI2.out.full (by have := HLn.out.2; omega) HLn.out.2
          cases ew
          have hpg : gp ≠ ga := by have := HGS.out.1; omega
          have HBW : Hid (Below w.heap.size w wr) := Lib.hid HI2.out.be
          have HOU : Hid (OutI w ga u6 os wr) := Lib.hid (HI.out.out.kept HI.out.at_ HI2.out.gr)
          have HGR : Hid (ga + 1 ≤ wr.heap.size) := Lib.hid (OwnL.base HI2.out.at_ ga rfl).2
          have C := Lib.hid (row_any A n c lo (some ⟨gw, 0, none⟩) m m (wsOf L d) wr (HR.out.below HBW.out) hrd hm1 (by have := HO.out.1; have := HLn.out.1; omega) (wsOf_ok HA.out d) (offOk_bound HO.out))
          have HKD2 : Hid (KsOk L ks (prevOf x0.l (k + 1))) := Lib.hid (by rw [prevOf_succ, getD_of HPX.out]; exact HI2.out.ko)
          clear hrd
          go_wp2_with fail
          refine C.out.mono ?_
          rintro e3 W3 ⟨v, rfl, ho3, hb3⟩
          have HB3 := Lib.hid (Below.thn HBW.out hb3)
          have HO3 := Lib.hid (HOU.out.below hb3)
          have HA3 := Lib.hid (HI2.out.at_.below hb3)
          obtain ⟨g0, g1, _, _⟩ := (HI2.out.box.below hb3).facts
          have hov : OwnI W3 (ga + 1) v (phAt lo L d) := OwnL.mono ho3 HGR.out
          obtain ⟨Av, cv, rfl, l1, l2, _⟩ := OwnL.rd hov
          obtain ⟨np, hnp⟩ : ∃ np, np = (phAt lo L d).length := ⟨_, rfl⟩
          rw [← hnp] at hov l1 ⊢
          have HOV := Lib.hid hov
          have HNP := Lib.hid hnp
          clear hov ho3 hb3 C hnp
          by_cases hnp0 : (np : Int) > 0
          · have hne : phAt lo L d ≠ [] := fun e9 => by have := HNP.out; rw [e9] at this; simp at this; omega
            obtain ⟨A', c', W4, r4, ho4, hb4, ha4, hc4, hc5⟩ := HO3.out.push HB3.out HA3.out ((d, phAt lo L d), Av, np, cv) HOV.out (show d < 4294967296 by omega) (by
              have h1 := phL_len lo L (x0.l.take k)
              rw [← HI.out.eq, List.length_map, List.length_take] at h1
              have h2 := HLS.out x0 (by obtain ⟨hl, e9⟩ := HX0.out; rw [← e9]; exact List.getElem_mem hl)
              omega)
            have hbd : ∀ W : World, (Instr.build 32 #[(0, .int .u32 (d : Nat)), (1, .slice Av np cv)]).run Try.prog W = .ok (.agg #[.int .u32 (d : Nat), .slice Av np cv]) W := fun W => run_build W 32 _ _ (by kernel_rfl)
            obtain ⟨Ao, co, eo, lo1, mo1, _⟩ := OwnK.rd (enc := encD) (fun _ => rfl) HO3.out.own
            subst eo
            have HN : Hid (∃ ks os2, PhO w lo L x0.l m ga (k + 1) (.slice A' (os.length + 1) c') ks os2 W4) := Lib.hid ⟨_, os ++ [((d, phAt lo L d), Av, np, cv)], hb4, ha4, HI2.out.kl, HKD2.out, ho4, by rw [ph_yes HPX.out hne, List.map_append, HI.out.eq]; rfl⟩
            clear hne
            go_wp2_with (at_builtin; refine wpl_append_run rfl _ _ _ rfl rfl rfl r4 ?_)
            exact ⟨⟨k + 1, by simp; try go_num, by omega, HN⟩, by simp [intOf]; omega⟩
          · have hno : phAt lo L d = [] := List.eq_nil_of_length_eq_zero (by have := HNP.out; omega)
            have HN : Hid (∃ ks os, PhO w lo L x0.l m ga (k + 1) u6 ks os W3) := Lib.hid ⟨_, os, HB3.out, HA3.out, HI2.out.kl, HKD2.out, HO3.out, by rw [ph_no HPX.out hno]; exact HI.out.eq⟩
            clear hno g0 g1
            go_wp2
            exact ⟨⟨k + 1, by simp; try go_num, by omega, HN⟩, by simp [intOf]; omega⟩
    · have HLS9 : Hid (LS wr u6 (phX lo L)) := Lib.hid (by
        have h1 := HI.out.out.ls
        rw [HI.out.eq, List.take_of_length_le (by have := HXO.out.rd.len; omega)] at h1
        rw [HE.out.2]; exact h1)
      obtain ⟨Ao, co, eo, lo1, mo1, _⟩ := OwnK.rd (enc := encD) (fun _ => rfl) HI.out.out.own
      subst eo
      go_wp2
      refine bodyPost_ret (v := .tuple #[.slice Ao os.length co, .int .i64 0]) (by simp [results, Try.results11, go_sem]) rfl ⟨_, by rw [HE.out.1], HLS9.out, HI.out.be⟩
end Go.Proofs.Ytaaddckhldccjaa
