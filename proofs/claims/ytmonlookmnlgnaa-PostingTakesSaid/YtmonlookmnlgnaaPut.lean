/- A posting put, postings put: the program's. -/
import Derived.Test.YtmonlookmnlgnaaPutMath
import Derived.Test.YtmonlookmnlgnaaReg
import Derived.Deep.DeepCutAuto
import Derived.WalkSmall
namespace Go.Proofs.Ytmonlookmnlgnaa
open Go.RowKit
set_option linter.unusedVariables false
set_option linter.unusedSimpArgs false

def PutF (vb : Value) (b : List Nat) (prev d dp g n c : Nat) (A : Option Addr) : Nat → Value → World → Prop
  | 0 => fun v w => v = vb
  | 1 => fun v w => v = .pointer (some ⟨g, 0, none⟩)
  | 2 => fun v w => v = .int .u32 (d : Nat)
  | 3 => fun v w => v = .int .u32 (prev : Nat)
  | 4 => fun v w => v = .int .u32 (dp : Nat)
  | 5 => fun v w => ∃ (V24 : Value), v = V24 ∧ BS w V24 (b ++ varL dp)
  | 6 => fun v w => v = .pointer (some ⟨g, 1, none⟩)
  | 7 => fun v w => v = .slice A n c
  | 8 => fun v w => v = .int .i64 (n : Nat)
  | 9 => fun v w => v = .int .u32 (n : Nat)
  | 10 => fun v w => ∃ (V29 : Value), v = V29 ∧ BS w V29 (b ++ varL dp ++ varL n)
  | 11 => fun v w => ∃ (V29 : Value), v = V29 ∧ BS w V29 (b ++ varL dp ++ varL n)
  | _ => fun _ _ => True
theorem PutF.below (vb : Value) (b : List Nat) (prev d dp g n c : Nat) (A : Option Addr) : ∀ i v w w', Below w.heap.size w w' → PutF vb b prev d dp g n c A i v w → PutF vb b prev d dp g n c A i v w'
  | 0, _, _, _, _, h => h
  | 1, _, _, _, _, h => h
  | 2, _, _, _, _, h => h
  | 3, _, _, _, _, h => h
  | 4, _, _, _, _, h => h
  | 5, _, _, _, hb, h => by
    obtain ⟨V24, e, g⟩ := h
    exact ⟨V24, e, g.below hb⟩
  | 6, _, _, _, _, h => h
  | 7, _, _, _, _, h => h
  | 8, _, _, _, _, h => h
  | 9, _, _, _, _, h => h
  | 10, _, _, _, hb, h => by
    obtain ⟨V29, e, g⟩ := h
    exact ⟨V29, e, g.below hb⟩
  | 11, _, _, _, hb, h => by
    obtain ⟨V29, e, g⟩ := h
    exact ⟨V29, e, g.below hb⟩
  | _ + 12, _, _, _, _, _ => trivial

set_option maxRecDepth 100000 in
set_option maxHeartbeats 4000000 in
theorem Put_pv (vb : Value) (b : List Nat) (prev : Nat) (p : Po) (v : Value) (w : World) (hB : BS w vb b) (h : PV w v p) (hp : prev < 4294967296) (hb : b.length ≤ 60000000000000) :
    Calls Try.prog 11 #[vb, .int .u32 prev, v] w (PutE b prev p w) := by
  have C := Lib.hid (fun w' (hb : Below w.heap.size w w') => Check_pv prev p v w' (h.below hb) hp)
  unfold ChkPE at C
  have hp0 := h
  obtain ⟨u, rfl, ⟨A, n, c, rfl, hnc, hc, hr⟩, hd⟩ := h
  clear hp0
  have HR := Lib.hid hr
  have hn := hr.max
  have HLn := Lib.hid hr.len
  have HB := Lib.hid hB
  have HBx := Lib.hid ((Below.refl w.heap.size w).alloc (Nat.le_refl _) (.cells #[.int .u32 (p.1 : Nat), .slice A n c] 32))
  clear hr hB
  obtain ⟨d, l⟩ := p
  simp only at HR HLn HBx hd C ⊢
  have hd' : d ≤ 4294967295 := by omega
  have hp' : prev ≤ 4294967295 := by omega
  clear hd hp
  by_cases hok : okP prev (d, l)
  · have HOk := Lib.hid hok
    have HCh := Lib.hid (chkP_yes hok)
    have HPt := Lib.hid (putL_yes (b := b) hok)
    obtain ⟨o1, o2, o3, o4, o5⟩ := hok
    simp only at o1 o2 o3 o4 o5
    have HPos := Lib.hid o5
    obtain ⟨dp, hdp⟩ : ∃ dp, dp = d - prev := ⟨_, rfl⟩
    have HDP := Lib.hid hdp
    have wdp : IntKind.u32.wrap ((d : Int) - (prev : Int)) = ((dp : Nat) : Int) := by rw [IntKind.wrap_u32]; omega
    have wn : IntKind.u32.wrap (n : Int) = (n : Int) := by have := HLn.out; rw [IntKind.wrap_u32]; omega
    have hdp : dp < 4294967296 := by omega
    have hnlt : n < 4294967296 := by have := HLn.out; omega
    have hn2 : n ≤ 2000 := by have := HLn.out; omega
    have hbl : b.length ≤ 70368744177600 := by omega
    have hbl2 : (b ++ varL dp).length ≤ 70368744177600 := by have := varL_five hdp; rw [List.length_append]; omega
    have HBl3 := Lib.hid hb
    clear o1 o2 o3 o4 o5 hb
    go_enter Try.func11, Try.ntmps11
    go_wp2_with fail
    refine (C.out _ HBx.out).mono ?_
    rintro e w1 ⟨rfl, hb⟩
    rw [HCh.out]
    have HB1 := Lib.hid (Below.thn HBx.out hb)
    have HC : Hid (w1.cell? ⟨w.heap.size, 0, none⟩ = some (.int .u32 (d : Nat)) ∧ w1.cell? ⟨w.heap.size, 1, none⟩ = some (.slice A n c)) := Lib.hid (by
      obtain ⟨b1, b2⟩ := box2 w 32 (.int .u32 (d : Nat)) (.slice A n c)
      exact ⟨cell_keep hb b1, cell_keep hb b2⟩)
    have HB' := Lib.hid (HB.out.below HB1.out)
    have HR1 := Lib.hid (HR.out.below HB1.out)
    obtain ⟨g, hg⟩ : ∃ g, g = w.heap.size := ⟨_, rfl⟩
    rw [← hg] at HC ⊢
    have HG := Lib.hid hg
    clear hb C HB HR hg HBx
    have HB := HB'
    clear HB'
    go_wp2_with fail
    rename_i K1 hK1
    refine wp_region_flow (by kernel_rfl) (PutF vb b prev d dp g n c A) (PutF.below vb b prev d dp g n c A) (by kernel_rfl) (by kernel_rfl) ?_ ?_
    case refine_1 =>
      intro i o ho ρ y w2 hb2 hreg hn hf hyb hyn
      have hi := (Array.getElem?_eq_some_iff.1 ho).1
      rcases Nat.lt_or_ge i 12 with hi2 | hi2
      case inr => simp at hi; omega
      obtain rfl | rfl | rfl | rfl | rfl | rfl | rfl | rfl | rfl | rfl | rfl | rfl : i = 0 ∨ i = 1 ∨ i = 2 ∨ i = 3 ∨ i = 4 ∨ i = 5 ∨ i = 6 ∨ i = 7 ∨ i = 8 ∨ i = 9 ∨ i = 10 ∨ i = 11 := by omega
      · cases ho
        rw [if_pos (show Region.wanted _ y = true from rfl)]
        have f0 : ρ (.tmp 0) = vb := hf 0 (by kernel_rfl)
        exact ⟨f0, Below.refl _ _⟩
      · cases ho
        rw [if_pos (show Region.wanted _ y = true from rfl)]
        have f5 : ρ (.tmp 5) = .pointer (some ⟨g, 0, none⟩) := hf 5 (by kernel_rfl)
        exact does_ok (v := .pointer (some ⟨g, 0, none⟩)) (w' := w2) (by simp [go_sem, hreg.const, f5]) ⟨rfl, Below.refl _ _⟩
      · cases ho
        rw [if_pos (show Region.wanted _ y = true from rfl)]
        have f20 : ρ (.tmp 20) = .pointer (some ⟨g, 0, none⟩) := hn 1 _ 20 rfl (by kernel_rfl) rfl
        have k0 := cell_keep hb2 HC.out.1
        exact does_ok (v := .int .u32 (d : Nat)) (w' := w2) (by simp [go_sem, hreg.const, f20, k0]) ⟨rfl, Below.refl _ _⟩
      · cases ho
        rw [if_pos (show Region.wanted _ y = true from rfl)]
        have f1 : ρ (.tmp 1) = .int .u32 (prev : Nat) := hf 1 (by kernel_rfl)
        exact ⟨f1, Below.refl _ _⟩
      · cases ho
        rw [if_pos (show Region.wanted _ y = true from rfl)]
        have f21 : ρ (.tmp 21) = .int .u32 (d : Nat) := hn 2 _ 21 rfl (by kernel_rfl) rfl
        have f22 : ρ (.tmp 22) = .int .u32 (prev : Nat) := hn 3 _ 22 rfl (by kernel_rfl) rfl
        exact does_ok (v := .int .u32 (dp : Nat)) (w' := w2) (by simp [go_sem, hreg.const, f21, f22, wdp]) ⟨rfl, Below.refl _ _⟩
      · cases ho
        rw [if_pos (show Region.wanted _ y = true from rfl)]
        have f19 : ρ (.tmp 19) = vb := hn 0 _ 19 rfl (by kernel_rfl) rfl
        have f23 : ρ (.tmp 23) = .int .u32 (dp : Nat) := hn 4 _ 23 rfl (by kernel_rfl) rfl
        refine does_enter (f := 31) (args := #[vb, .int .u32 (dp : Nat)]) (w' := w2) (by simp [go_sem, hreg.func, hreg.const, f19, f23]) ?_
        refine (Var_bs dp w2 (HB.out.below hb2) hdp hbl).mono ?_
        rintro e w' ⟨r, rfl, ho, hb⟩
        exact ⟨_, rfl, ⟨_, rfl, ho.bs⟩, hb⟩
      · cases ho
        rw [if_pos (show Region.wanted _ y = true from rfl)]
        have f5 : ρ (.tmp 5) = .pointer (some ⟨g, 0, none⟩) := hf 5 (by kernel_rfl)
        exact does_ok (v := .pointer (some ⟨g, 1, none⟩)) (w' := w2) (by simp [go_sem, hreg.const, f5]) ⟨rfl, Below.refl _ _⟩
      · cases ho
        rw [if_pos (show Region.wanted _ y = true from rfl)]
        have f25 : ρ (.tmp 25) = .pointer (some ⟨g, 1, none⟩) := hn 6 _ 25 rfl (by kernel_rfl) rfl
        have k0 := cell_keep hb2 HC.out.2
        exact does_ok (v := .slice A n c) (w' := w2) (by simp [go_sem, hreg.const, f25, k0]) ⟨rfl, Below.refl _ _⟩
      · cases ho
        rw [if_pos (show Region.wanted _ y = true from rfl)]
        have f26 : ρ (.tmp 26) = .slice A n c := hn 7 _ 26 rfl (by kernel_rfl) rfl
        exact does_ok (v := .int .i64 (n : Nat)) (w' := w2) (by simp [go_sem, hreg.const, f26]) ⟨rfl, Below.refl _ _⟩
      · cases ho
        rw [if_pos (show Region.wanted _ y = true from rfl)]
        have f27 : ρ (.tmp 27) = .int .i64 (n : Nat) := hn 8 _ 27 rfl (by kernel_rfl) rfl
        exact does_ok (v := .int .u32 (n : Nat)) (w' := w2) (by simp [go_sem, hreg.const, f27, wn]) ⟨rfl, Below.refl _ _⟩
      · cases ho
        rw [if_pos (show Region.wanted _ y = true from rfl)]
        obtain ⟨V24, f24, g24⟩ : ∃ (V24 : Value), ρ (.tmp 24) = V24 ∧ BS w2 V24 (b ++ varL dp) := hn 5 _ 24 rfl (by kernel_rfl) rfl
        have f28 : ρ (.tmp 28) = .int .u32 (n : Nat) := hn 9 _ 28 rfl (by kernel_rfl) rfl
        refine does_enter (f := 31) (args := #[V24, .int .u32 (n : Nat)]) (w' := w2) (by simp [go_sem, hreg.func, hreg.const, f24, f28]) ?_
        refine (Var_bs n w2 g24 hnlt hbl2).mono ?_
        rintro e w' ⟨r, rfl, ho, hb⟩
        exact ⟨_, rfl, ⟨_, rfl, ho.bs⟩, hb⟩
      · cases ho
        rw [if_pos (show Region.wanted _ y = true from rfl)]
        obtain ⟨V29, f29, g29⟩ : ∃ (V29 : Value), ρ (.tmp 29) = V29 ∧ BS w2 V29 (b ++ varL dp ++ varL n) := hn 10 _ 29 rfl (by kernel_rfl) rfl
        exact ⟨⟨V29, f29, g29⟩, Below.refl _ _⟩
    case refine_2 =>
      intro a w2 hb2 hd hs hfacts hrest
      obtain ⟨V29, q9, g9⟩ : ∃ (V29 : Value), a.tmps.getD 9 undef = V29 ∧ BS w2 V29 (b ++ varL dp ++ varL n) := hfacts 11 _ 9 rfl rfl
      have ha := frame_of hd hs hrest [9, 19, 20, 21, 22, 23, 24, 25, 26, 27, 28, 29] (by kernel_rfl)
      simp only [q9, List.foldl, List.setIfInBounds_toArray, List.set_cons_succ, List.set_cons_zero] at ha
      clear q9 hd hs hfacts hrest
      generalize a.tmps.getD = gg at ha
      subst ha
      have HB2 := Lib.hid (Below.thn HB1.out hb2)
      have HR2 := Lib.hid (HR1.out.below hb2)
      have HV := Lib.hid g9
      have HC2 : Hid (w2.cell? ⟨g, 1, none⟩ = some (.slice A n c)) := Lib.hid (cell_keep hb2 HC.out.2)
      have HG2 : Hid (g < w2.heap.size) := Lib.hid (cell_lt' HC2.out)
      clear hb2 g9 wdp wn hdp hnlt hbl hbl2
      refine hK1 _ _ ?_
      have c1 := HC2.out
      go_wp2_with fail
      clear c1
      go_loopw [9, 10, 33] (fun x9 x10 x33 wr => ∃ k : Nat, k ≤ n ∧ x33 = .int .i64 k ∧ ∃ la : Nat, x10 = .int .i64 la ∧ la ≤ 1048576 ∧ Hid (la = lastN l k ∧ BS wr x9 (b ++ varL dp ++ varL n ++ posF l k) ∧ Below w.heap.size w wr ∧ Below w2.heap.size w2 wr)) (fun _ _ x33 _ => n - (intOf x33).toNat)
      case atStart => exact ⟨0, by omega, rfl, 0, rfl, by omega, Lib.hid ⟨rfl, by simpa [posF] using HV.out, HB2.out, Below.refl _ _⟩⟩
      case round =>
        obtain ⟨k, hk, rfl, la, rfl, hla, HI⟩ := hrel
        by_cases hlt : (k : Int) < (n : Int)
        · obtain ⟨ad, x, rfl, HX, x0⟩ := rdI_at (HR2.out.below HI.out.2.2.2) (k := k) (by omega)
          obtain ⟨q1, q2, q3⟩ := okPos_lt HPos.out (k := k) (by rw [HLn.out]; omega)
          have q4 := (HPos.out k (by rw [HLn.out]; omega)).2.1
          rw [← HI.out.1] at q1 q2
          rw [posAt HX.out] at q1 q2 q4
          have HX2 := Lib.hid (posAt HX.out)
          obtain ⟨xn, rfl⟩ : ∃ xn : Nat, x = xn := ⟨x.toNat, by omega⟩
          simp only [Int.toNat_natCast] at q1
          obtain ⟨m, hm⟩ : ∃ m, m = xn - la := ⟨_, rfl⟩
          have HM := Lib.hid hm
          have e1 : (xn : Int) - (la : Int) = ((m : Nat) : Int) := by omega
          have hm2 : m ≤ 1048576 := by omega
          have hxn : xn ≤ 1048576 := by omega
          have hlen : (b ++ varL dp ++ varL n ++ posF l k).length ≤ 70368744177600 := by
            have h1 := varL_five (v := dp) (by have := HDP.out; omega)
            have h2 := varL_five (v := n) (by omega)
            have h3 := posF_len HPos.out k (by rw [HLn.out]; omega)
            have := HBl3.out
            simp only [List.length_append]
            omega
          have HL := Lib.hid hlen
          clear hm hlen q1 q2 q3 q4
          go_wp2_with fail
          refine (Var_bs m _ HI.out.2.1 (by omega) HL.out).mono ?_
          rintro e w3 ⟨r, rfl, ho, hb⟩
          have HN : Hid (BS w3 r (b ++ varL dp ++ varL n ++ posF l (k + 1)) ∧ Below w.heap.size w w3 ∧ Below w2.heap.size w2 w3) := Lib.hid ⟨by
            have := ho.bs
            rw [List.append_assoc, HM.out, HI.out.1] at this
            show BS w3 r (b ++ varL dp ++ varL n ++ (posF l k ++ varL _))
            rw [HX2.out]
            simpa using this, Below.thn HI.out.2.2.1 hb, Below.thn HI.out.2.2.2 hb⟩
          clear ho hb x0 e1
          go_wp2
          exact ⟨⟨k + 1, by omega, by go_num, xn, rfl, hxn, Lib.hid ⟨by rw [lastN_succ, HX2.out]; simp, HN.out⟩⟩, by simp [intOf]; omega⟩
        · have HE : Hid (BS wr u9 (putL b prev (d, l))) := Lib.hid (by
            rw [HPt.out]
            unfold bytesP
            have h := HI.out.2.1
            obtain rfl : k = n := by omega
            have hl := HLn.out
            simp only
            rw [hl, ← HDP.out]
            simpa [List.append_assoc] using h)
          go_wp2
          go_ret2
          exact ⟨_, by rw [HCh.out]; rfl, HE.out, HI.out.2.2.1⟩
  · have HPt := Lib.hid (putL_no (b := b) hok)
    have HCh := Lib.hid (chkP_no hok)
    clear hok
    go_enter Try.func11, Try.ntmps11
    go_wp2_with fail
    refine (C.out _ HBx.out).mono ?_
    rintro e w1 ⟨rfl, hb⟩
    rw [HCh.out]
    have HB1 := Lib.hid (Below.thn HBx.out hb)
    clear hb C
    go_wp2
    go_ret2
    exact ⟨_, by rw [HCh.out]; rfl, by rw [HPt.out]; exact BS.nil _, HB1.out⟩

set_option maxRecDepth 100000 in
set_option maxHeartbeats 4000000 in
theorem List_po (A : Option Addr) (n c : Nat) (ls : List Po) (w : World) (h : RdPo w A n ls) :
    Calls Try.prog 8 #[.slice A n c] w (ListE ls w) := by
  have HR := Lib.hid h
  have HLn := Lib.hid h.len
  have hn := h.max
  clear h
  go_enter Try.func8, Try.ntmps8
  go_wp2_with fail
  go_loopw [4, 5, 12] (fun x4 x5 x12 wr => ∃ k : Nat, k ≤ n ∧ x12 = .int .i64 k ∧ ∃ pv : Nat, x5 = .int .u32 pv ∧ pv ≤ 2147483647 ∧ Hid (pv = prevOf ls k ∧ okLs ls k ∧ BS wr x4 (bytesLs ls k) ∧ Below w.heap.size w wr)) (fun _ _ x12 _ => n - (intOf x12).toNat)
  case atStart => exact ⟨0, by omega, rfl, 0, rfl, by omega, Lib.hid ⟨rfl, fun i h => absurd h (Nat.not_lt_zero _), BS.nil _, Below.refl _ _⟩⟩
  case round =>
    obtain ⟨k, hk, rfl, pv, rfl, hpv, HI⟩ := hrel
    by_cases hlt : (k : Int) < (n : Int)
    · obtain ⟨ad, B, m, c', d, l, rfl, HX, e0, e1, hm1, hm2, HPo, hd⟩ := (HR.out.below HI.out.2.2.2).at (k := k) (by omega)
      have HBx := Lib.hid (HI.out.2.2.2.alloc HI.out.2.2.2.size (.cells #[.int .u32 (d : Nat), .slice B m c'] 32))
      have HBw := Lib.hid ((Below.refl wr.heap.size wr).alloc (Nat.le_refl _) (.cells #[.int .u32 (d : Nat), .slice B m c'] 32))
      have C := Lib.hid (Put_pv u4 (bytesLs ls k) pv (d, l) _ _ (HI.out.2.2.1.below HBw.out) (RdPo.pv (HPo.out.below HBw.out) hm1 hm2 hd) (by omega) (by
        have h1 := bytesLs_len HI.out.2.1
        have h2 := prevOf_ge HI.out.2.1
        omega))
      unfold PutE at C
      go_wp2_with fail
      refine C.out.mono ?_
      rintro e w2 ⟨r, rfl, hbs, hb⟩
      have HB2 := Lib.hid (Below.thn HBx.out hb)
      have HBs := Lib.hid hbs
      have c0 : w2.cell? ⟨wr.heap.size, 0, none⟩ = some (.int .u32 (d : Nat)) := cell_keep hb (box2 wr 32 (.int .u32 (d : Nat)) (.slice B m c')).1
      clear hbs hb C e0 e1
      by_cases hok : okP pv (d, l)
      · have HCh := Lib.hid (chkP_yes hok)
        have HN : Hid (d = prevOf ls (k + 1) ∧ okLs ls (k + 1) ∧ BS w2 r (bytesLs ls (k + 1)) ∧ Below w.heap.size w w2) := Lib.hid (by
          have hx := getD_po HX.out
          refine ⟨by rw [prevOf_succ, hx], fun i hi => ?_, ?_, HB2.out⟩
          · rcases Nat.lt_succ_iff_lt_or_eq.1 hi with h | rfl
            · exact HI.out.2.1 i h
            · rw [hx, ← HI.out.1]; exact hok
          · show BS w2 r (bytesLs ls k ++ bytesP _ _)
            rw [hx, ← HI.out.1, ← putL_yes hok]
            exact HBs.out)
        have hd2 : d ≤ 2147483647 := hok.2.1
        clear hok
        rw [HCh.out]
        go_wp2_with fail
        go_upto_region 9 with fail
        go_quiet (fail)
        have HN2 : Hid (d = prevOf ls (k + 1) ∧ okLs ls (k + 1) ∧ BS (w2.drewN nq) r (bytesLs ls (k + 1)) ∧ Below w.heap.size w (w2.drewN nq)) := Lib.hid ⟨HN.out.1, HN.out.2.1, HN.out.2.2.1.below (Below.drewN w2 nq), below_drewN HN.out.2.2.2 nq⟩
        clear c0
        go_wp2
        exact ⟨⟨k + 1, by omega, by go_num, d, rfl, hd2, HN2⟩, by simp [intOf]; omega⟩
      · have HCh := Lib.hid (chkP_no hok)
        have HNo : Hid (¬ okLs ls ls.length) := Lib.hid (fun h => hok (by
          have := h k (by rw [HLn.out]; omega)
          rw [getD_po HX.out, ← HI.out.1] at this
          exact this))
        clear hok c0
        rw [HCh.out]
        go_wp2
        go_ret2
        exact ⟨_, by rw [(lsE_no HNo.out).1]; rfl, by rw [(lsE_no HNo.out).2]; exact BS.nil _, HB2.out⟩
    · have HE : Hid (okLs ls ls.length ∧ BS wr u4 (bytesLs ls ls.length)) := Lib.hid (by
        obtain rfl : k = n := by omega
        rw [HLn.out]
        exact ⟨HI.out.2.1, HI.out.2.2.1⟩)
      go_wp2
      go_ret2
      exact ⟨_, by rw [(lsE_yes HE.out.1).1]; rfl, by rw [(lsE_yes HE.out.1).2]; exact HE.out.2, HI.out.2.2.2⟩
end Go.Proofs.Ytmonlookmnlgnaa
