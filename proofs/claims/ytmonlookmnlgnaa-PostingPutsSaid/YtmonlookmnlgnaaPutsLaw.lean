/- The bytes of any postings are the document's: the law. -/
import Derived.Test.YtmonlookmnlgnaaCloneP
import Derived.Test.YtmonlookmnlgnaaLive
namespace Go.Proofs.Ytmonlookmnlgnaa
open Go.RowKit
set_option linter.unusedVariables false
set_option linter.unusedSimpArgs false

def decI (x : Int) : Int := IntKind.i64.wrap (x - 1)
theorem decI_ne (x : Int) : decI x ≠ x := by
  unfold decI
  rw [IntKind.wrap_i64]
  omega
def decL (xs : List Int) (k : Nat) : List Int := (xs.take k).map decI ++ xs.drop k
theorem decL_len (xs : List Int) (k : Nat) : (decL xs k).length = xs.length := by
  unfold decL
  simp
  omega
theorem decL_at (xs : List Int) (k : Nat) (h : k < xs.length) : (decL xs k)[k]'(by rw [decL_len]; exact h) = xs[k] := by
  unfold decL
  rw [List.getElem_append_right (by simp; omega)]
  simp
  congr 1
  omega
theorem decL_set (xs : List Int) (k : Nat) (h : k < xs.length) : (decL xs k).set k (decI xs[k]) = decL xs (k + 1) := by
  unfold decL
  have e : ((xs.take k).map decI).length = k := by simp; omega
  rw [List.set_append_right _ _ (by omega), e, Nat.sub_self, List.drop_eq_getElem_cons h, List.set_cons_zero, List.take_succ_eq_append_getElem h, List.map_append, List.append_assoc]
  rfl
theorem decL_ne (xs : List Int) (h : 0 < xs.length) (d : Nat) : ((d, decL xs xs.length) : Po) ≠ (d, xs) := by
  intro e
  have e2 : decL xs xs.length = xs := by injection e
  unfold decL at e2
  rw [List.take_length, List.drop_length, List.append_nil] at e2
  have h1 := congrArg (fun l => l[0]?) e2
  simp [List.getElem?_eq_getElem h] at h1
  exact decI_ne _ h1
def PuF (ad : Addr) (n c prev ga gc d : Nat) (B : Option Addr) (mm c' : Nat) (A7 : Option Addr) (xl c7 : Nat) (d0 : Nat) (B0 : Option Addr) (m0 c0 : Nat) (ck : Int) (rx2 ry2 : Value) (rb : Bool) : Nat → Value → World → Prop
  | 0 => fun v w => v = .int .u32 (prev : Nat)
  | 1 => fun v w => v = .agg #[.int .u32 (d : Nat), .slice B mm c']
  | 2 => fun v w => v = .int .i64 ck
  | 3 => fun v w => v = .int .u32 (prev : Nat)
  | 4 => fun v w => v = .agg #[.int .u32 (d : Nat), .slice B mm c']
  | 5 => fun v w => v = .int .i64 ck
  | 6 => fun v w => v = .bool false
  | 7 => fun v w => v = .bool false
  | 8 => fun v w => v = rx2
  | 9 => fun v w => v = ry2
  | 10 => fun v w => v = .bool true
  | 11 => fun v w => v = .bool false
  | 12 => fun v w => v = .bool false
  | 13 => fun v w => v = .bool false
  | 14 => fun v w => v = .int .i64 ck
  | 15 => fun v w => v = .int .i64 ck
  | 16 => fun v w => v = .bool false
  | 17 => fun v w => v = .bool false
  | 18 => fun v w => v = .bool false
  | 19 => fun v w => v = .agg #[.int .u32 (d : Nat), .slice A7 xl c7]
  | 20 => fun v w => v = .agg #[.int .u32 (d : Nat), .slice B mm c']
  | 21 => fun v w => v = .bool true
  | 22 => fun v w => v = .bool false
  | 23 => fun v w => v = .bool false
  | 24 => fun v w => v = .bool false
  | 25 => fun v w => v = .agg #[.int .u32 (d : Nat), .slice B mm c']
  | 26 => fun v w => v = .slice (some ad) n c
  | 27 => fun v w => v = .pointer (some ad)
  | 28 => fun v w => v = .agg #[.int .u32 (d0 : Nat), .slice B0 m0 c0]
  | 29 => fun v w => v = .bool rb
  | 30 => fun v w => v = .agg #[.int .u32 (d : Nat), .slice B mm c']
  | 31 => fun v w => v = .slice (some ad) n c
  | 32 => fun v w => v = .pointer (some ad)
  | 33 => fun v w => v = .agg #[.int .u32 (d0 : Nat), .slice B0 m0 c0]
  | 34 => fun v w => v = .bool rb
  | 35 => fun v w => v = .bool false
  | 36 => fun v w => v = .bool false
  | _ => fun _ _ => True
theorem PuF.below (ad : Addr) (n c prev ga gc d : Nat) (B : Option Addr) (mm c' : Nat) (A7 : Option Addr) (xl c7 : Nat) (d0 : Nat) (B0 : Option Addr) (m0 c0 : Nat) (ck : Int) (rx2 ry2 : Value) (rb : Bool) : ∀ i v w w', Below w.heap.size w w' → PuF ad n c prev ga gc d B mm c' A7 xl c7 d0 B0 m0 c0 ck rx2 ry2 rb i v w → PuF ad n c prev ga gc d B mm c' A7 xl c7 d0 B0 m0 c0 ck rx2 ry2 rb i v w'
  | 0, _, _, _, _, h => h
  | 1, _, _, _, _, h => h
  | 2, _, _, _, _, h => h
  | 3, _, _, _, _, h => h
  | 4, _, _, _, _, h => h
  | 5, _, _, _, _, h => h
  | 6, _, _, _, _, h => h
  | 7, _, _, _, _, h => h
  | 8, _, _, _, _, h => h
  | 9, _, _, _, _, h => h
  | 10, _, _, _, _, h => h
  | 11, _, _, _, _, h => h
  | 12, _, _, _, _, h => h
  | 13, _, _, _, _, h => h
  | 14, _, _, _, _, h => h
  | 15, _, _, _, _, h => h
  | 16, _, _, _, _, h => h
  | 17, _, _, _, _, h => h
  | 18, _, _, _, _, h => h
  | 19, _, _, _, _, h => h
  | 20, _, _, _, _, h => h
  | 21, _, _, _, _, h => h
  | 22, _, _, _, _, h => h
  | 23, _, _, _, _, h => h
  | 24, _, _, _, _, h => h
  | 25, _, _, _, _, h => h
  | 26, _, _, _, _, h => h
  | 27, _, _, _, _, h => h
  | 28, _, _, _, _, h => h
  | 29, _, _, _, _, h => h
  | 30, _, _, _, _, h => h
  | 31, _, _, _, _, h => h
  | 32, _, _, _, _, h => h
  | 33, _, _, _, _, h => h
  | 34, _, _, _, _, h => h
  | 35, _, _, _, _, h => h
  | 36, _, _, _, _, h => h
  | _ + 37, _, _, _, _, _ => trivial

set_option maxRecDepth 100000 in
set_option maxHeartbeats 8000000 in
theorem Puts_any (prev : Nat) (A1 : Option Addr) (n1 c1 : Nat) (b : List Nat) (A : Option Addr) (n c : Nat) (ls : List Po) (w : World) (h1 : RdB w A1 n1 b) (hn1 : n1 ≤ c1) (hc1 : c1 ≤ 9223372036854775807) (h : RdPo w A n ls) (hnc : n ≤ c) (hc : c ≤ 9223372036854775807) (hp : prev < 4294967296) :
    Calls Try.prog 6 #[.int .u32 (prev : Nat), .slice A1 n1 c1, .slice A n c] w fun e w' => e = .returned (.bool true) ∧ Below w.heap.size w w' := by
  have HR := Lib.hid h
  have HLn := Lib.hid h.len
  have HS := Lib.hid h1
  clear h h1
  go_enter Try.func6, Try.ntmps6
  go_wp2_with fail
  refine (live_any w).mono ?_
  rintro e wa ⟨rfl, hb⟩
  have HB2 := Lib.hid hb
  have HR2 := Lib.hid (HR.out.below hb)
  have HS2 := Lib.hid (HS.out.below hb)
  clear hb
  go_wp2_with fail
  refine (few_any A n c ls wa HR2.out).mono ?_
  rintro e w3 ⟨rfl, hb⟩
  have HB3 := Lib.hid (Below.thn HB2.out hb)
  have HR3 := Lib.hid (HR2.out.below hb)
  have HS3 := Lib.hid (HS2.out.below hb)
  clear hb HB2 HR2 HS2
  by_cases hfw : fewL ls = true
  · have HF := Lib.hid (fewL_out hfw)
    rw [hfw]
    clear hfw
    by_cases hbig : (1000 : Int) < (n1 : Int)
    · skip
      go_wp2_with fail
      refine (live_any _).mono ?_
      rintro e w9 ⟨rfl, hb⟩
      have HB9 := Lib.hid (Below.thn HB3.out hb)
      clear hb
      go_wp2
      go_ret
      exact ⟨rfl, HB9.out⟩
    · have hn60 : n ≤ 60 := by rw [← HLn.out]; exact HF.out.1
      have C := Lib.hid (List_po A n c ls w3 HR3.out)
      unfold ListE at C
      obtain ⟨E, hE⟩ : ∃ E, E = lsE ls := ⟨_, rfl⟩
      rw [← hE] at C
      go_wp2_with fail
      refine C.out.mono ?_
      rintro e w4 ⟨rx, rfl, hbs, hb⟩
      have HB4 := Lib.hid (Below.thn HB3.out hb)
      have HR4 := Lib.hid (HR3.out.below hb)
      have HS4 := Lib.hid (HS3.out.below hb)
      have HX4 := Lib.hid hbs
      clear hb hbs C HB3 HR3 HS3
      have C := Lib.hid (refList_po A n c ls w4 HR4.out (by omega))
      unfold ListE at C
      rw [← hE] at C
      clear hE
      go_wp2_with fail
      refine C.out.mono ?_
      rintro e w5 ⟨ry, rfl, hbs, hb⟩
      have HB5 := Lib.hid (Below.thn HB4.out hb)
      have HR5 := Lib.hid (HR4.out.below hb)
      have HS5 := Lib.hid (HS4.out.below hb)
      have C2 := Lib.hid (Same_bs w5 (HX4.out.below hb) hbs)
      rw [cmpL_self] at C2
      clear hb hbs C HB4 HR4 HS4 HX4
      go_wp2_with fail
      refine C2.out.mono ?_
      rintro e wT ⟨rfl, hb⟩
      have HBT := Lib.hid (Below.thn HB5.out hb)
      have HRT := Lib.hid (HR5.out.below hb)
      have HST := Lib.hid (HS5.out.below hb)
      clear hb C2 HB5 HR5 HS5
      go_wp2_with fail
      go_loopw [49] (fun x49 wr => ∃ k : Nat, k ≤ n ∧ x49 = .int .i64 k ∧ Hid (Below wT.heap.size wT wr)) (fun x49 _ => n - (intOf x49).toNat)
      case atStart => exact ⟨0, by omega, rfl, Lib.hid (Below.refl _ _)⟩
      case round =>
        obtain ⟨k, hk, rfl, HI⟩ := hrel
        by_cases hlt : (k : Int) < (n : Int)
        · obtain ⟨ad, B, mm, c', d, xs, rfl, HX, e0T, e1T, hm1, hm2, HPT, hdd⟩ := HRT.out.at (k := k) (by omega)
          have e0 := cell_keep HI.out e0T
          have e1 := cell_keep HI.out e1T
          have HPo := Lib.hid (HPT.out.below HI.out)
          clear e0T e1T
          have HXl : Hid (xs.length ≤ 2100) := Lib.hid (by
            obtain ⟨hl, e⟩ := HX.out
            have := HF.out.2 ls[k] (List.getElem_mem hl)
            rw [e] at this
            exact this)
          have hbw := (Below.refl wr.heap.size wr).alloc (Nat.le_refl _) (.cells #[.int .u32 (d : Nat), .slice B mm c'] 32)
          have hga := Box2.new wr 32 (.int .u32 (d : Nat)) (.slice B mm c')
          obtain ⟨wb, hwb⟩ : ∃ wb, wb = wr.alloc (.cells #[.int .u32 (d : Nat), .slice B mm c'] 32) := ⟨_, rfl⟩
          rw [← hwb] at hbw hga
          obtain ⟨ga, hgae⟩ : ∃ ga, ga = wr.heap.size := ⟨_, rfl⟩
          rw [← hgae] at hga
          have HWb := Lib.hid hwb
          have HGe := Lib.hid hgae
          have HBb := Lib.hid (Below.thn HI.out hbw)
          have HPb := Lib.hid (HPo.out.below hbw)
          have HGa := Lib.hid hga
          have C := Lib.hid (Clone_pv (.agg #[.int .u32 (d : Nat), .slice B mm c']) (d, xs) wb (RdPo.pv HPb.out hm1 hm2 hdd) (by have := HXl.out; simp only; omega))
          obtain ⟨z0, z1, _, _⟩ := hga.facts
          clear hwb hgae hbw hga
          go_wp2_with fail
          rw [← HWb.out, ← HGe.out]
          refine C.out.mono ?_
          rintro e wc ⟨u, rfl, ho, hb⟩
          obtain ⟨A7, c7, hu, hl7, hc7, _⟩ := ho.rd
          subst hu
          obtain ⟨xl, hxl⟩ : ∃ xl, xl = xs.length := ⟨_, rfl⟩
          rw [← hxl] at ho hl7 ⊢
          have HXL := Lib.hid hxl
          have hbc := (Below.refl wc.heap.size wc).alloc (Nat.le_refl _) (.cells #[.int .u32 (d : Nat), .slice A7 xl c7] 32)
          have hgc := Box2.new wc 32 (.int .u32 (d : Nat)) (.slice A7 xl c7)
          obtain ⟨wd, hwd⟩ : ∃ wd, wd = wc.alloc (.cells #[.int .u32 (d : Nat), .slice A7 xl c7] 32) := ⟨_, rfl⟩
          rw [← hwd] at hbc hgc
          obtain ⟨gc, hgce⟩ : ∃ gc, gc = wc.heap.size := ⟨_, rfl⟩
          rw [← hgce] at hgc
          have HWd := Lib.hid hwd
          have HGce := Lib.hid hgce
          obtain ⟨bs, hbs⟩ : ∃ bs, bs = wb.heap.size := ⟨_, rfl⟩
          rw [← hbs] at ho
          have HBs : Hid (ga < bs) := Lib.hid (by rw [hbs]; exact HGa.out.lt)
          have HTs : Hid (wT.heap.size ≤ bs) := Lib.hid (by rw [hbs]; exact HBb.out.size)
          have HBsz : Hid (bs ≤ wd.heap.size) := Lib.hid (by rw [hbs]; exact Nat.le_trans hb.size hbc.size)
          have HOd := Lib.hid ((ho.below hbc))
          have HGad := Lib.hid ((HGa.out.below hb).below hbc)
          have HGcd := Lib.hid hgc
          have HBd := Lib.hid (Below.thn (Below.thn HBb.out hb) hbc)
          have HPd := Lib.hid ((HPb.out.below hb).below hbc)
          obtain ⟨ck, hck⟩ : ∃ ck, ck = chkP prev (d, xs) := ⟨_, rfl⟩
          have HCK := Lib.hid hck
          have D1 := Lib.hid (Put_pv (.slice A1 n1 c1) b prev (d, xs) _ wd ((HST.out.below HBd.out).bs hn1 hc1) (RdPo.pv HPd.out hm1 hm2 hdd) hp (by have := HST.out.len; omega))
          unfold PutE at D1
          rw [← hck] at D1
          obtain ⟨y0, y1, _, _⟩ := HGad.out.facts
          rw [hwd] at y0 y1
          clear z0 z1 hwd hgce hbc hgc hb ho hbs C hck HGa HBb HPb HGe HWb e0 e1 HPo hxl
          go_wp2_with fail
          rw [← HWd.out, ← HGce.out]
          refine D1.out.mono ?_
          rintro e we ⟨rx2, rfl, hx2, hb⟩
          have HOe := Lib.hid (HOd.out.below hb)
          have HGae := Lib.hid (HGad.out.below hb)
          have HGce2 := Lib.hid (HGcd.out.below hb)
          have HBe := Lib.hid (Below.thn HBd.out hb)
          have HPe := Lib.hid (HPd.out.below hb)
          have HXe := Lib.hid hx2
          have HBsz2 : Hid (bs ≤ we.heap.size) := Lib.hid (Nat.le_trans HBsz.out hb.size)
          have D2 := Lib.hid (refPut_pv (.slice A1 n1 c1) b prev (d, xs) _ we ((HST.out.below HBe.out).bs hn1 hc1) (RdPo.pv HPe.out hm1 hm2 hdd) hp (by have := HST.out.len; omega))
          unfold PutE at D2
          rw [← HCK.out] at D2
          obtain ⟨x0, x1, _, _⟩ := HGae.out.facts
          clear y0 y1 hx2 hb D1 HOd HGad HGcd HBd HPd HWd HGce HBsz
          go_wp2_with fail
          refine D2.out.mono ?_
          rintro e wf ⟨ry2, rfl, hy2, hb⟩
          have HO := Lib.hid (HOe.out.below hb)
          have HGa := Lib.hid (HGae.out.below hb)
          have HGc := Lib.hid (HGce2.out.below hb)
          have HBf := Lib.hid (Below.thn HBe.out hb)
          have HPf := Lib.hid (HPe.out.below hb)
          have HX2 := Lib.hid (HXe.out.below hb)
          have HY2 := Lib.hid hy2
          have HBs3 : Hid (bs ≤ wf.heap.size) := Lib.hid (Nat.le_trans HBsz2.out hb.size)
          clear x0 x1 hy2 hb D2 HOe HGae HGce2 HBe HPe HXe HBsz2
          obtain ⟨ad', B0, m0, c0, d0, xs0, eA, HX0, e0, e1, h01, h02, HP0r, h0d⟩ := (HRT.out.below HBf.out).at (k := 0) (by omega)
          cases eA
          have ea : ad.add (0 * 2) = ad := by simp [Addr.add]
          rw [ea] at e0 e1
          have HP0 := Lib.hid (And.intro e0 e1)
          obtain ⟨rb, hrb⟩ : ∃ rb, rb = decide (((d, xs) : Po) = (d0, xs0)) := ⟨_, rfl⟩
          have C71 : Hid (∀ w2, Below wf.heap.size wf w2 → Calls Try.prog 22 #[.int .u32 (prev : Nat), .agg #[.int .u32 (d : Nat), .slice B mm c']] w2 fun e w' => e = .returned (.int .i64 ck) ∧ Below w2.heap.size w2 w') := Lib.hid fun w2 h2 => by
            rw [HCK.out]; exact Check_pv prev (d, xs) _ w2 (RdPo.pv (HPf.out.below h2) hm1 hm2 hdd) hp
          have C74 : Hid (∀ w2, Below wf.heap.size wf w2 → Calls Try.prog 23 #[.int .u32 (prev : Nat), .agg #[.int .u32 (d : Nat), .slice B mm c']] w2 fun e w' => e = .returned (.int .i64 ck) ∧ Below w2.heap.size w2 w') := Lib.hid fun w2 h2 => by
            rw [HCK.out]; exact refCheck_pv prev (d, xs) _ w2 (RdPo.pv (HPf.out.below h2) hm1 hm2 hdd) hp
          have C79 : Hid (∀ w2, Below wf.heap.size wf w2 → Calls Try.prog 12 #[rx2, ry2] w2 fun e w' => e = .returned (.bool true) ∧ Below w2.heap.size w2 w') := Lib.hid fun w2 h2 => by
            have := Same_bs w2 (HX2.out.below h2) (HY2.out.below h2)
            rw [cmpL_self] at this
            exact this
          have hOr : Rd encI wf A7 xl xs := by
            obtain ⟨A8, c8, e8, _, _, hr8⟩ := HO.out.rd
            cases e8
            rw [← HXL.out] at hr8
            exact hr8
          have HOr := Lib.hid hOr
          have C90 : Hid (∀ w2, Below wf.heap.size wf w2 → Calls Try.prog 24 #[.agg #[.int .u32 (d : Nat), .slice A7 xl c7], .agg #[.int .u32 (d : Nat), .slice B mm c']] w2 fun e w' => e = .returned (.bool true) ∧ Below w2.heap.size w2 w') := Lib.hid fun w2 h2 => by
            have := Same_pv _ _ (d, xs) (d, xs) w2 (RdPo.pv (HOr.out.below h2) hl7 hc7 hdd) (RdPo.pv (HPf.out.below h2) hm1 hm2 hdd)
            rw [decide_eq_true rfl] at this
            exact this
          have C98 : Hid (∀ w2, Below wf.heap.size wf w2 → Calls Try.prog 24 #[.agg #[.int .u32 (d : Nat), .slice B mm c'], .agg #[.int .u32 (d0 : Nat), .slice B0 m0 c0]] w2 fun e w' => e = .returned (.bool rb) ∧ Below w2.heap.size w2 w') := Lib.hid fun w2 h2 => by
            rw [hrb]; exact Same_pv _ _ (d, xs) (d0, xs0) w2 (RdPo.pv (HPf.out.below h2) hm1 hm2 hdd) (RdPo.pv (HP0r.out.below h2) h01 h02 h0d)
          have C103 : Hid (∀ w2, Below wf.heap.size wf w2 → Calls Try.prog 18 #[.agg #[.int .u32 (d : Nat), .slice B mm c'], .agg #[.int .u32 (d0 : Nat), .slice B0 m0 c0]] w2 fun e w' => e = .returned (.bool rb) ∧ Below w2.heap.size w2 w') := Lib.hid fun w2 h2 => by
            rw [hrb]; exact refSame_pv _ _ (d, xs) (d0, xs0) w2 (RdPo.pv (HPf.out.below h2) hm1 hm2 hdd) (RdPo.pv (HP0r.out.below h2) h01 h02 h0d)
          have hq1 : (0 : Int) < (n : Int) := by omega
          have hq2 : 0 < n := by omega
          clear e0 e1 hrb hOr ea
          go_wp2_with fail
          rename_i K1 hK1
          refine wp_region_flow (by kernel_rfl) (PuF ad n c prev ga gc d B mm c' A7 xl c7 d0 B0 m0 c0 ck rx2 ry2 rb) (PuF.below ad n c prev ga gc d B mm c' A7 xl c7 d0 B0 m0 c0 ck rx2 ry2 rb) (by kernel_rfl) (by kernel_rfl) ?_ ?_
          case refine_1 =>
            intro i o ho ρ y w2 hb2 hreg hn hf hyb hyn
            have hi := (Array.getElem?_eq_some_iff.1 ho).1
            rcases Nat.lt_or_ge i 37 with hi2 | hi2
            case inr => simp at hi; omega
            obtain rfl | rfl | rfl | rfl | rfl | rfl | rfl | rfl | rfl | rfl | rfl | rfl | rfl | rfl | rfl | rfl | rfl | rfl | rfl | rfl | rfl | rfl | rfl | rfl | rfl | rfl | rfl | rfl | rfl | rfl | rfl | rfl | rfl | rfl | rfl | rfl | rfl : i = 0 ∨ i = 1 ∨ i = 2 ∨ i = 3 ∨ i = 4 ∨ i = 5 ∨ i = 6 ∨ i = 7 ∨ i = 8 ∨ i = 9 ∨ i = 10 ∨ i = 11 ∨ i = 12 ∨ i = 13 ∨ i = 14 ∨ i = 15 ∨ i = 16 ∨ i = 17 ∨ i = 18 ∨ i = 19 ∨ i = 20 ∨ i = 21 ∨ i = 22 ∨ i = 23 ∨ i = 24 ∨ i = 25 ∨ i = 26 ∨ i = 27 ∨ i = 28 ∨ i = 29 ∨ i = 30 ∨ i = 31 ∨ i = 32 ∨ i = 33 ∨ i = 34 ∨ i = 35 ∨ i = 36 := by omega
            · cases ho
              rw [if_pos (show Region.wanted _ y = true from rfl)]
              have f0 : ρ (.tmp 0) = .int .u32 (prev : Nat) := hf 0 (by kernel_rfl)
              exact ⟨f0, Below.refl _ _⟩
            · cases ho
              rw [if_pos (show Region.wanted _ y = true from rfl)]
              have f12 : ρ (.tmp 12) = .pointer (some ⟨ga, 0, none⟩) := hf 12 (by kernel_rfl)
              obtain ⟨k0, k1, _, _⟩ := (HGa.out.below hb2).facts
              exact does_ok (v := .agg #[.int .u32 (d : Nat), .slice B mm c']) (w' := w2) (by simp [go_sem, hreg.const, f12, k0, k1]) ⟨rfl, Below.refl _ _⟩
            · cases ho
              rw [if_pos (show Region.wanted _ y = true from rfl)]
              have f69 : ρ (.tmp 69) = .int .u32 (prev : Nat) := hn 0 _ 69 rfl (by kernel_rfl) rfl
              have f70 : ρ (.tmp 70) = .agg #[.int .u32 (d : Nat), .slice B mm c'] := hn 1 _ 70 rfl (by kernel_rfl) rfl
              refine does_enter (f := 22) (args := #[.int .u32 (prev : Nat), .agg #[.int .u32 (d : Nat), .slice B mm c']]) (w' := w2) (by simp [go_sem, hreg.func, hreg.const, f69, f70]) ?_
              refine (C71.out w2 hb2).mono ?_
              rintro e w' ⟨rfl, hb⟩
              exact ⟨_, rfl, rfl, hb⟩
            · cases ho
              rw [if_pos (show Region.wanted _ y = true from rfl)]
              have f0 : ρ (.tmp 0) = .int .u32 (prev : Nat) := hf 0 (by kernel_rfl)
              exact ⟨f0, Below.refl _ _⟩
            · cases ho
              rw [if_pos (show Region.wanted _ y = true from rfl)]
              have f12 : ρ (.tmp 12) = .pointer (some ⟨ga, 0, none⟩) := hf 12 (by kernel_rfl)
              obtain ⟨k0, k1, _, _⟩ := (HGa.out.below hb2).facts
              exact does_ok (v := .agg #[.int .u32 (d : Nat), .slice B mm c']) (w' := w2) (by simp [go_sem, hreg.const, f12, k0, k1]) ⟨rfl, Below.refl _ _⟩
            · cases ho
              rw [if_pos (show Region.wanted _ y = true from rfl)]
              have f72 : ρ (.tmp 72) = .int .u32 (prev : Nat) := hn 3 _ 72 rfl (by kernel_rfl) rfl
              have f73 : ρ (.tmp 73) = .agg #[.int .u32 (d : Nat), .slice B mm c'] := hn 4 _ 73 rfl (by kernel_rfl) rfl
              refine does_enter (f := 23) (args := #[.int .u32 (prev : Nat), .agg #[.int .u32 (d : Nat), .slice B mm c']]) (w' := w2) (by simp [go_sem, hreg.func, hreg.const, f72, f73]) ?_
              refine (C74.out w2 hb2).mono ?_
              rintro e w' ⟨rfl, hb⟩
              exact ⟨_, rfl, rfl, hb⟩
            · cases ho
              rw [if_pos (show Region.wanted _ y = true from rfl)]
              have f71 : ρ (.tmp 71) = .int .i64 ck := hn 2 _ 71 rfl (by kernel_rfl) rfl
              have f74 : ρ (.tmp 74) = .int .i64 ck := hn 5 _ 74 rfl (by kernel_rfl) rfl
              exact does_ok (v := .bool false) (w' := w2) (by simp [go_sem, hreg.const, f71, f74]) ⟨rfl, Below.refl _ _⟩
            · cases ho
              rw [if_pos (show Region.wanted _ y = true from rfl)]
              have f75 : ρ (.tmp 75) = .bool false := hn 6 _ 75 rfl (by kernel_rfl) rfl
              exact ⟨f75, Below.refl _ _⟩
            · cases ho
              rw [if_pos (show Region.wanted _ y = true from by simp [Region.wanted, hyb 7 _ _ _ rfl rfl (hn 7 _ _ rfl (by kernel_rfl) rfl)])]
              have f7 : ρ (.tmp 7) = rx2 := hf 7 (by kernel_rfl)
              exact ⟨f7, Below.refl _ _⟩
            · cases ho
              rw [if_pos (show Region.wanted _ y = true from by simp [Region.wanted, hyb 7 _ _ _ rfl rfl (hn 7 _ _ rfl (by kernel_rfl) rfl)])]
              have f9 : ρ (.tmp 9) = ry2 := hf 9 (by kernel_rfl)
              exact ⟨f9, Below.refl _ _⟩
            · cases ho
              rw [if_pos (show Region.wanted _ y = true from by simp [Region.wanted, hyb 7 _ _ _ rfl rfl (hn 7 _ _ rfl (by kernel_rfl) rfl)])]
              have f77 : ρ (.tmp 77) = rx2 := hn 8 _ 77 rfl (by kernel_rfl) rfl
              have f78 : ρ (.tmp 78) = ry2 := hn 9 _ 78 rfl (by kernel_rfl) rfl
              refine does_enter (f := 12) (args := #[rx2, ry2]) (w' := w2) (by simp [go_sem, hreg.func, hreg.const, f77, f78]) ?_
              refine (C79.out w2 hb2).mono ?_
              rintro e w' ⟨rfl, hb⟩
              exact ⟨_, rfl, rfl, hb⟩
            · cases ho
              rw [if_pos (show Region.wanted _ y = true from by simp [Region.wanted, hyb 7 _ _ _ rfl rfl (hn 7 _ _ rfl (by kernel_rfl) rfl)])]
              have f79 : ρ (.tmp 79) = .bool true := hn 10 _ 79 rfl (by kernel_rfl) rfl
              exact does_ok (v := .bool false) (w' := w2) (by simp [go_sem, hreg.const, f79]) ⟨rfl, Below.refl _ _⟩
            · cases ho
              rw [if_pos (show Region.wanted _ y = true from rfl)]
              have f76 : ρ (.tmp 76) = .bool false := hn 7 _ 76 rfl (by kernel_rfl) rfl
              have f80 : ρ (.tmp 80) = .bool false := hn 11 _ 80 rfl (by kernel_rfl) rfl
              exact does_ok (v := .bool false) (w' := w2) (by simp [go_sem, hreg.const, f76, f80]) ⟨rfl, Below.refl _ _⟩
            · cases ho
              rw [if_pos (show Region.wanted _ y = true from rfl)]
              have f81 : ρ (.tmp 81) = .bool false := hn 12 _ 81 rfl (by kernel_rfl) rfl
              exact ⟨f81, Below.refl _ _⟩
            · cases ho
              rw [if_pos (show Region.wanted _ y = true from by simp [Region.wanted, hyb 13 _ _ _ rfl rfl (hn 13 _ _ rfl (by kernel_rfl) rfl)])]
              have f8 : ρ (.tmp 8) = .int .i64 ck := hf 8 (by kernel_rfl)
              exact ⟨f8, Below.refl _ _⟩
            · cases ho
              rw [if_pos (show Region.wanted _ y = true from by simp [Region.wanted, hyb 13 _ _ _ rfl rfl (hn 13 _ _ rfl (by kernel_rfl) rfl)])]
              have f10 : ρ (.tmp 10) = .int .i64 ck := hf 10 (by kernel_rfl)
              exact ⟨f10, Below.refl _ _⟩
            · cases ho
              rw [if_pos (show Region.wanted _ y = true from by simp [Region.wanted, hyb 13 _ _ _ rfl rfl (hn 13 _ _ rfl (by kernel_rfl) rfl)])]
              have f83 : ρ (.tmp 83) = .int .i64 ck := hn 14 _ 83 rfl (by kernel_rfl) rfl
              have f84 : ρ (.tmp 84) = .int .i64 ck := hn 15 _ 84 rfl (by kernel_rfl) rfl
              exact does_ok (v := .bool false) (w' := w2) (by simp [go_sem, hreg.const, f83, f84]) ⟨rfl, Below.refl _ _⟩
            · cases ho
              rw [if_pos (show Region.wanted _ y = true from rfl)]
              have f82 : ρ (.tmp 82) = .bool false := hn 13 _ 82 rfl (by kernel_rfl) rfl
              have f85 : ρ (.tmp 85) = .bool false := hn 16 _ 85 rfl (by kernel_rfl) rfl
              exact does_ok (v := .bool false) (w' := w2) (by simp [go_sem, hreg.const, f82, f85]) ⟨rfl, Below.refl _ _⟩
            · cases ho
              rw [if_pos (show Region.wanted _ y = true from rfl)]
              have f86 : ρ (.tmp 86) = .bool false := hn 17 _ 86 rfl (by kernel_rfl) rfl
              exact ⟨f86, Below.refl _ _⟩
            · cases ho
              rw [if_pos (show Region.wanted _ y = true from by simp [Region.wanted, hyb 18 _ _ _ rfl rfl (hn 18 _ _ rfl (by kernel_rfl) rfl)])]
              have f13 : ρ (.tmp 13) = .pointer (some ⟨gc, 0, none⟩) := hf 13 (by kernel_rfl)
              obtain ⟨k0, k1, _, _⟩ := (HGc.out.below hb2).facts
              exact does_ok (v := .agg #[.int .u32 (d : Nat), .slice A7 xl c7]) (w' := w2) (by simp [go_sem, hreg.const, f13, k0, k1]) ⟨rfl, Below.refl _ _⟩
            · cases ho
              rw [if_pos (show Region.wanted _ y = true from by simp [Region.wanted, hyb 18 _ _ _ rfl rfl (hn 18 _ _ rfl (by kernel_rfl) rfl)])]
              have f12 : ρ (.tmp 12) = .pointer (some ⟨ga, 0, none⟩) := hf 12 (by kernel_rfl)
              obtain ⟨k0, k1, _, _⟩ := (HGa.out.below hb2).facts
              exact does_ok (v := .agg #[.int .u32 (d : Nat), .slice B mm c']) (w' := w2) (by simp [go_sem, hreg.const, f12, k0, k1]) ⟨rfl, Below.refl _ _⟩
            · cases ho
              rw [if_pos (show Region.wanted _ y = true from by simp [Region.wanted, hyb 18 _ _ _ rfl rfl (hn 18 _ _ rfl (by kernel_rfl) rfl)])]
              have f88 : ρ (.tmp 88) = .agg #[.int .u32 (d : Nat), .slice A7 xl c7] := hn 19 _ 88 rfl (by kernel_rfl) rfl
              have f89 : ρ (.tmp 89) = .agg #[.int .u32 (d : Nat), .slice B mm c'] := hn 20 _ 89 rfl (by kernel_rfl) rfl
              refine does_enter (f := 24) (args := #[.agg #[.int .u32 (d : Nat), .slice A7 xl c7], .agg #[.int .u32 (d : Nat), .slice B mm c']]) (w' := w2) (by simp [go_sem, hreg.func, hreg.const, f88, f89]) ?_
              refine (C90.out w2 hb2).mono ?_
              rintro e w' ⟨rfl, hb⟩
              exact ⟨_, rfl, rfl, hb⟩
            · cases ho
              rw [if_pos (show Region.wanted _ y = true from by simp [Region.wanted, hyb 18 _ _ _ rfl rfl (hn 18 _ _ rfl (by kernel_rfl) rfl)])]
              have f90 : ρ (.tmp 90) = .bool true := hn 21 _ 90 rfl (by kernel_rfl) rfl
              exact does_ok (v := .bool false) (w' := w2) (by simp [go_sem, hreg.const, f90]) ⟨rfl, Below.refl _ _⟩
            · cases ho
              rw [if_pos (show Region.wanted _ y = true from rfl)]
              have f87 : ρ (.tmp 87) = .bool false := hn 18 _ 87 rfl (by kernel_rfl) rfl
              have f91 : ρ (.tmp 91) = .bool false := hn 22 _ 91 rfl (by kernel_rfl) rfl
              exact does_ok (v := .bool false) (w' := w2) (by simp [go_sem, hreg.const, f87, f91]) ⟨rfl, Below.refl _ _⟩
            · cases ho
              rw [if_pos (show Region.wanted _ y = true from rfl)]
              have f92 : ρ (.tmp 92) = .bool false := hn 23 _ 92 rfl (by kernel_rfl) rfl
              exact ⟨f92, Below.refl _ _⟩
            · cases ho
              rw [if_pos (show Region.wanted _ y = true from by simp [Region.wanted, hyb 24 _ _ _ rfl rfl (hn 24 _ _ rfl (by kernel_rfl) rfl)])]
              have f12 : ρ (.tmp 12) = .pointer (some ⟨ga, 0, none⟩) := hf 12 (by kernel_rfl)
              obtain ⟨k0, k1, _, _⟩ := (HGa.out.below hb2).facts
              exact does_ok (v := .agg #[.int .u32 (d : Nat), .slice B mm c']) (w' := w2) (by simp [go_sem, hreg.const, f12, k0, k1]) ⟨rfl, Below.refl _ _⟩
            · cases ho
              rw [if_pos (show Region.wanted _ y = true from by simp [Region.wanted, hyb 24 _ _ _ rfl rfl (hn 24 _ _ rfl (by kernel_rfl) rfl)])]
              have f2 : ρ (.tmp 2) = .slice (some ad) n c := hf 2 (by kernel_rfl)
              exact ⟨f2, Below.refl _ _⟩
            · cases ho
              rw [if_pos (show Region.wanted _ y = true from by simp [Region.wanted, hyb 24 _ _ _ rfl rfl (hn 24 _ _ rfl (by kernel_rfl) rfl)])]
              have f95 : ρ (.tmp 95) = .slice (some ad) n c := hn 26 _ 95 rfl (by kernel_rfl) rfl
              exact does_ok (v := .pointer (some ad)) (w' := w2) (by simp [go_sem, hreg.const, f95, hq1, hq2]) ⟨rfl, Below.refl _ _⟩
            · cases ho
              rw [if_pos (show Region.wanted _ y = true from by simp [Region.wanted, hyb 24 _ _ _ rfl rfl (hn 24 _ _ rfl (by kernel_rfl) rfl)])]
              have f96 : ρ (.tmp 96) = .pointer (some ad) := hn 27 _ 96 rfl (by kernel_rfl) rfl
              have k0 := cell_keep hb2 HP0.out.1
              have k1 := cell_keep hb2 HP0.out.2
              exact does_ok (v := .agg #[.int .u32 (d0 : Nat), .slice B0 m0 c0]) (w' := w2) (by simp [go_sem, hreg.const, f96, k0, k1]) ⟨rfl, Below.refl _ _⟩
            · cases ho
              rw [if_pos (show Region.wanted _ y = true from by simp [Region.wanted, hyb 24 _ _ _ rfl rfl (hn 24 _ _ rfl (by kernel_rfl) rfl)])]
              have f94 : ρ (.tmp 94) = .agg #[.int .u32 (d : Nat), .slice B mm c'] := hn 25 _ 94 rfl (by kernel_rfl) rfl
              have f97 : ρ (.tmp 97) = .agg #[.int .u32 (d0 : Nat), .slice B0 m0 c0] := hn 28 _ 97 rfl (by kernel_rfl) rfl
              refine does_enter (f := 24) (args := #[.agg #[.int .u32 (d : Nat), .slice B mm c'], .agg #[.int .u32 (d0 : Nat), .slice B0 m0 c0]]) (w' := w2) (by simp [go_sem, hreg.func, hreg.const, f94, f97]) ?_
              refine (C98.out w2 hb2).mono ?_
              rintro e w' ⟨rfl, hb⟩
              exact ⟨_, rfl, rfl, hb⟩
            · cases ho
              rw [if_pos (show Region.wanted _ y = true from by simp [Region.wanted, hyb 24 _ _ _ rfl rfl (hn 24 _ _ rfl (by kernel_rfl) rfl)])]
              have f12 : ρ (.tmp 12) = .pointer (some ⟨ga, 0, none⟩) := hf 12 (by kernel_rfl)
              obtain ⟨k0, k1, _, _⟩ := (HGa.out.below hb2).facts
              exact does_ok (v := .agg #[.int .u32 (d : Nat), .slice B mm c']) (w' := w2) (by simp [go_sem, hreg.const, f12, k0, k1]) ⟨rfl, Below.refl _ _⟩
            · cases ho
              rw [if_pos (show Region.wanted _ y = true from by simp [Region.wanted, hyb 24 _ _ _ rfl rfl (hn 24 _ _ rfl (by kernel_rfl) rfl)])]
              have f2 : ρ (.tmp 2) = .slice (some ad) n c := hf 2 (by kernel_rfl)
              exact ⟨f2, Below.refl _ _⟩
            · cases ho
              rw [if_pos (show Region.wanted _ y = true from by simp [Region.wanted, hyb 24 _ _ _ rfl rfl (hn 24 _ _ rfl (by kernel_rfl) rfl)])]
              have f100 : ρ (.tmp 100) = .slice (some ad) n c := hn 31 _ 100 rfl (by kernel_rfl) rfl
              exact does_ok (v := .pointer (some ad)) (w' := w2) (by simp [go_sem, hreg.const, f100, hq1, hq2]) ⟨rfl, Below.refl _ _⟩
            · cases ho
              rw [if_pos (show Region.wanted _ y = true from by simp [Region.wanted, hyb 24 _ _ _ rfl rfl (hn 24 _ _ rfl (by kernel_rfl) rfl)])]
              have f101 : ρ (.tmp 101) = .pointer (some ad) := hn 32 _ 101 rfl (by kernel_rfl) rfl
              have k0 := cell_keep hb2 HP0.out.1
              have k1 := cell_keep hb2 HP0.out.2
              exact does_ok (v := .agg #[.int .u32 (d0 : Nat), .slice B0 m0 c0]) (w' := w2) (by simp [go_sem, hreg.const, f101, k0, k1]) ⟨rfl, Below.refl _ _⟩
            · cases ho
              rw [if_pos (show Region.wanted _ y = true from by simp [Region.wanted, hyb 24 _ _ _ rfl rfl (hn 24 _ _ rfl (by kernel_rfl) rfl)])]
              have f99 : ρ (.tmp 99) = .agg #[.int .u32 (d : Nat), .slice B mm c'] := hn 30 _ 99 rfl (by kernel_rfl) rfl
              have f102 : ρ (.tmp 102) = .agg #[.int .u32 (d0 : Nat), .slice B0 m0 c0] := hn 33 _ 102 rfl (by kernel_rfl) rfl
              refine does_enter (f := 18) (args := #[.agg #[.int .u32 (d : Nat), .slice B mm c'], .agg #[.int .u32 (d0 : Nat), .slice B0 m0 c0]]) (w' := w2) (by simp [go_sem, hreg.func, hreg.const, f99, f102]) ?_
              refine (C103.out w2 hb2).mono ?_
              rintro e w' ⟨rfl, hb⟩
              exact ⟨_, rfl, rfl, hb⟩
            · cases ho
              rw [if_pos (show Region.wanted _ y = true from by simp [Region.wanted, hyb 24 _ _ _ rfl rfl (hn 24 _ _ rfl (by kernel_rfl) rfl)])]
              have f98 : ρ (.tmp 98) = .bool rb := hn 29 _ 98 rfl (by kernel_rfl) rfl
              have f103 : ρ (.tmp 103) = .bool rb := hn 34 _ 103 rfl (by kernel_rfl) rfl
              exact does_ok (v := .bool false) (w' := w2) (by simp [go_sem, hreg.const, f98, f103]) ⟨rfl, Below.refl _ _⟩
            · cases ho
              rw [if_pos (show Region.wanted _ y = true from rfl)]
              have f93 : ρ (.tmp 93) = .bool false := hn 24 _ 93 rfl (by kernel_rfl) rfl
              have f104 : ρ (.tmp 104) = .bool false := hn 35 _ 104 rfl (by kernel_rfl) rfl
              exact does_ok (v := .bool false) (w' := w2) (by simp [go_sem, hreg.const, f93, f104]) ⟨rfl, Below.refl _ _⟩
          case refine_2 =>
            intro a w2 hb2 hd hs hfacts hrest
            have q105 : a.tmps.getD 105 undef = .bool false := hfacts 36 _ 105 rfl rfl
            have ha := frame_of hd hs hrest [69, 70, 71, 72, 73, 74, 75, 76, 77, 78, 79, 80, 81, 82, 83, 84, 85, 86, 87, 88, 89, 90, 91, 92, 93, 94, 95, 96, 97, 98, 99, 100, 101, 102, 103, 104, 105] (by kernel_rfl)
            simp only [q105, List.foldl, List.setIfInBounds_toArray, List.set_cons_succ, List.set_cons_zero] at ha
            clear q105 hd hs hfacts hrest
            generalize a.tmps.getD = gg at ha
            subst ha
            have HOg := Lib.hid (HO.out.below hb2)
            have HGag := Lib.hid (HGa.out.below hb2)
            have HGcg := Lib.hid (HGc.out.below hb2)
            have HBg := Lib.hid (Below.thn HBf.out hb2)
            have HBsg : Hid (bs ≤ w2.heap.size) := Lib.hid (Nat.le_trans HBs3.out hb2.size)
            obtain ⟨wg, hwg⟩ : ∃ wg, wg = w2 := ⟨_, rfl⟩
            rw [← hwg] at HOg HGag HGcg HBg HBsg ⊢
            have hxm : mm = xl := by rw [HXL.out]; exact HPf.out.len.symm
            have HXM := Lib.hid hxm
            clear hxm
            have hxl2 : xl ≤ 2100 := by rw [HXL.out]; exact HXl.out
            clear hwg hb2 HO HGa HGc HBf C71 C74 C79 C90 C98 C103 HX2 HY2 HP0 HP0r HX0 HOr HPf hq1 hq2 HBs3
            obtain ⟨z0, z1, _, _⟩ := HGcg.out.facts
            refine hK1 _ _ ?_
            go_wp2_with fail
            clear z0 z1
            go_loopw [109] (fun x109 wr => ∃ j : Nat, j ≤ xl ∧ x109 = .int .i64 j ∧ Hid (OwnL encI 3 wr bs (.slice A7 xl c7) (decL xs j) ∧ Below wT.heap.size wT wr ∧ Box2 wr gc 32 (.int .u32 (d : Nat)) (.slice A7 xl c7) ∧ Box2 wr ga 32 (.int .u32 (d : Nat)) (.slice B mm c'))) (fun x109 _ => xl - (intOf x109).toNat)
            case atStart => exact ⟨0, by omega, rfl, Lib.hid ⟨by simpa [decL] using HOg.out, HBg.out, HGcg.out, HGag.out⟩⟩
            case round =>
              obtain ⟨j, hj, rfl, HJ⟩ := hrel
              obtain ⟨z0, z1, _, _⟩ := HJ.out.2.2.1.facts
              by_cases hjl : (j : Int) < (xl : Int)
              · have hl : (decL xs j).length = xl := by rw [decL_len, HXL.out]
                obtain ⟨gx, cx, hsl, hbx⟩ := HJ.out.1.place (by rw [hl]; omega)
                obtain ⟨e1, _, e3⟩ : A7 = some ⟨gx, 0, none⟩ ∧ xl = (decL xs j).length ∧ c7 = cx := by simpa using hsl
                subst e1
                subst e3
                have hjx : j < xs.length := by rw [← HXL.out]; omega
                have ho' : OwnL encI 3 wr bs (.slice (some ⟨gx, 0, none⟩) (decL xs j).length c7) (decL xs j) := by rw [hl]; exact HJ.out.1
                obtain ⟨c9, f9⟩ := ho'.cellAt j (by rw [hl]; omega)
                rw [decL_at xs j hjx] at c9
                obtain ⟨hs1, hs2⟩ := ho'.set j (decI xs[j])
                rw [decL_set xs j hjx, hl] at hs1
                obtain ⟨x, hx⟩ : ∃ x, x = xs[j] := ⟨_, rfl⟩
                rw [← hx] at c9 hs1 hs2
                have HN : Hid (OwnL encI 3 (wr.setCell ⟨gx, j, none⟩ (.int .i64 (decI x))) bs (.slice (some ⟨gx, 0, none⟩) xl c7) (decL xs (j + 1)) ∧ Below wT.heap.size wT (wr.setCell ⟨gx, j, none⟩ (.int .i64 (decI x))) ∧ Box2 (wr.setCell ⟨gx, j, none⟩ (.int .i64 (decI x))) gc 32 (.int .u32 (d : Nat)) (.slice (some ⟨gx, 0, none⟩) xl c7) ∧ Box2 (wr.setCell ⟨gx, j, none⟩ (.int .i64 (decI x))) ga 32 (.int .u32 (d : Nat)) (.slice B mm c')) := Lib.hid
                  ⟨hs1, HJ.out.2.1.grown hs2 HJ.out.2.1.size (fun k hk => by cases hk; have := HTs.out; omega), HJ.out.2.2.1.kept hs2 (Box2.not_row HJ.out.2.2.1 (by decide) ho'), HJ.out.2.2.2.kept hs2 (by have := HBs.out; intro e; have e' : ga = gx := (by injection e); omega)⟩
                have hwd : IntKind.i64.wrap (x - 1) = decI x := rfl
                have c9' : wr.cell? ⟨gx, j, none⟩ = some (.int .i64 x) := c9
                clear hs1 hs2 ho' c9 hx hl hsl
                go_wp2
                exact ⟨⟨j + 1, by omega, by go_num, HN⟩, by simp [intOf]; omega⟩
              · obtain rfl : j = xl := by omega
                obtain ⟨y0, y1, _, _⟩ := HJ.out.2.2.2.facts
                have HPw := Lib.hid (HPT.out.below HJ.out.2.1)
                by_cases hm0 : (0 : Int) < (mm : Int)
                · have hOr : Rd encI wr A7 j (decL xs xs.length) := by
                    obtain ⟨A8, c8, e8, _, _, hr8⟩ := HJ.out.1.rd
                    injection e8 with q1 q2 q3
                    subst q1
                    rw [decL_len, ← HXL.out] at hr8
                    rw [← HXL.out]
                    exact hr8
                  have C := Lib.hid (Same_pv (.agg #[.int .u32 (d : Nat), .slice A7 j c7]) (.agg #[.int .u32 (d : Nat), .slice B mm c']) (d, decL xs xs.length) (d, xs) wr (RdPo.pv hOr hl7 hc7 hdd) (RdPo.pv HPw.out hm1 hm2 hdd))
                  rw [decide_eq_false (decL_ne xs (by rw [← HXL.out, ← HXM.out]; omega) d)] at C
                  clear hOr
                  go_wp2_with fail
                  refine C.out.mono ?_
                  rintro e wz ⟨rfl, hb⟩
                  have HBz := Lib.hid (Below.thn HJ.out.2.1 hb)
                  clear hb C z0 z1 y0 y1
                  go_wp2
                  exact ⟨⟨k + 1, by omega, by go_num, HBz⟩, by simp [intOf]; omega⟩
                · go_wp2
                  exact ⟨⟨k + 1, by omega, by go_num, Lib.hid HJ.out.2.1⟩, by simp [intOf]; omega⟩
        · go_wp2
          go_ret
          exact ⟨rfl, Below.thn HBT.out HI.out⟩
  · have hf' : fewL ls = false := by simpa using hfw
    rw [hf']
    go_wp2_with fail
    refine (live_any _).mono ?_
    rintro e w9 ⟨rfl, hb⟩
    have HB9 := Lib.hid (Below.thn HB3.out hb)
    clear hb
    go_wp2
    go_ret
    exact ⟨rfl, HB9.out⟩
end Go.Proofs.Ytmonlookmnlgnaa
