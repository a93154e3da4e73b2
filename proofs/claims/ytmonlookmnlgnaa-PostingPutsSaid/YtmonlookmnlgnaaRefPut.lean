/- The bytes of a posting, and of several: the document's. -/
import Derived.Test.YtmonlookmnlgnaaRefChk
import Derived.Test.YtmonlookmnlgnaaPut
import Derived.Test.YtmonlookmnlgnaaJoin
import Derived.Test.YtmonlookmnlgnaaReg
import Derived.Test.YtmonlookmnlgnaaTakeMath
namespace Go.Proofs.Ytmonlookmnlgnaa
open Go.RowKit
set_option linter.unusedVariables false
set_option linter.unusedSimpArgs false

set_option maxRecDepth 100000 in
set_option maxHeartbeats 2000000 in
theorem refVar_bs (v : Nat) (w : World) (hv : v < 4294967296) :
    Calls Try.prog 46 #[.int .u32 v] w fun e w' => ∃ r, e = .returned r ∧ OwnB w' w.heap.size r (varL v) ∧ Below w.heap.size w w' := by
  have HO : Hid (OwnB (w.alloc (.cells #[] 5)) w.heap.size (.slice (some ⟨w.heap.size, 0, none⟩) 0 0) []) := Lib.hid ⟨OwnL.lit w w.heap.size 5 [] _ 0 rfl rfl (Nat.le_refl _) (by decide), Byt.nil⟩
  have HB := Lib.hid ((Below.refl w.heap.size w).alloc (Nat.le_refl _) (.cells #[] 5))
  have HLn := Lib.hid (varL_len hv)
  have HV : Hid (v < 4294967296) := hv
  clear hv
  go_enter Try.func46, Try.ntmps46
  go_wp2_with fail
  go_loopw [0, 3] (fun x y wr => ∃ (u : Nat) (o : List Nat), x = .int .u32 u ∧ u < 4294967296 ∧ Hid (varL v = o ++ varL u) ∧ Hid (OwnB wr w.heap.size y o) ∧ Hid (Below w.heap.size w wr)) (fun x _ _ => (intOf x).toNat)
  case atStart => exact ⟨v, [], rfl, HV.out, Lib.hid rfl, HO, HB⟩
  case round =>
    obtain ⟨u, o, rfl, hu, HU, HI, HBr⟩ := hrel
    have hol : o.length ≤ 5 := by have h1 := HLn.out; rw [HU.out] at h1; simp at h1; omega
    by_cases hlt : (128 : Int) ≤ (u : Int)
    · obtain ⟨x, hx⟩ : ∃ x, x = u % 128 + 128 := ⟨_, rfl⟩
      have HBl := (Below.refl wr.heap.size wr).alloc (Nat.le_refl _) (.cells #[.int .u8 (x : Int)] 5)
      have hrd := Rd.new (enc := encB) wr 5 [x] #[.int .u8 (x : Int)] 1 (0, 0) rfl rfl (by decide)
      obtain ⟨v1, w1, r1, o1, g1, at1⟩ := run_append_rd (P := Try.prog) (c := 1) w.heap.size 23 23 5 (.int .u8 0) 1 Try.underlying23 infoB rfl (by decide) encB_one (HI.out.1.below HBl) hrd (by simp; omega) (by have := HBr.out.size; simp; omega)
      have HB1 : Hid (Below w.heap.size w w1) := Lib.hid ((HBr.out.trans (HBl.mono HBr.out.size)).grown g1 (by have := HBr.out.size; simp; omega) (fun k hk => ((HI.out.1.below HBl).base k hk).1))
      have HO1 : Hid (OwnB w1 w.heap.size v1 (o ++ [x])) := Lib.hid ⟨o1, HI.out.2.append (Byt.cons (by omega) Byt.nil)⟩
      have HU2 : Hid (varL v = (o ++ [x]) ++ varL (u / 128)) := Lib.hid (by rw [HU.out, varL_ge (by omega), hx]; simp)
      have e1 : 128 + (u : Int) % 128 = (x : Int) := by omega
      have e2 : IntKind.u8.wrap (x : Int) = (x : Int) := by rw [IntKind.wrap_u8]; omega
      have hxl : x < 256 := by omega
      clear hx o1 g1 at1 HBl hrd
      go_wp2_with (first | (at_builtin; refine wpl_append_run rfl _ _ _ rfl rfl rfl r1 ?_))
      exact ⟨⟨u / 128, _, by simp, by omega, HU2, HO1, HB1⟩, by simp [intOf]; omega⟩
    · have HBl := (Below.refl wr.heap.size wr).alloc (Nat.le_refl _) (.cells #[.int .u8 (u : Int)] 5)
      have hrd := Rd.new (enc := encB) wr 5 [u] #[.int .u8 (u : Int)] 1 (0, 0) rfl rfl (by decide)
      obtain ⟨v1, w1, r1, o1, g1, at1⟩ := run_append_rd (P := Try.prog) (c := 1) w.heap.size 23 23 5 (.int .u8 0) 1 Try.underlying23 infoB rfl (by decide) encB_one (HI.out.1.below HBl) hrd (by simp; omega) (by have := HBr.out.size; simp; omega)
      have HB1 : Hid (Below w.heap.size w w1) := Lib.hid ((HBr.out.trans (HBl.mono HBr.out.size)).grown g1 (by have := HBr.out.size; simp; omega) (fun k hk => ((HI.out.1.below HBl).base k hk).1))
      have HO1 : Hid (OwnB w1 w.heap.size v1 (varL v)) := Lib.hid <| by
        rw [HU.out, varL_lt (show u < 128 by omega)]
        exact ⟨o1, HI.out.2.append (Byt.cons (by omega) Byt.nil)⟩
      have e2 : IntKind.u8.wrap (u : Int) = (u : Int) := by rw [IntKind.wrap_u8]; omega
      clear o1 g1 at1 HBl hrd
      go_wp2_with (first | (at_builtin; refine wpl_append_run rfl _ _ _ rfl rfl rfl r1 ?_))
      go_ret
      exact ⟨_, rfl, HO1.out, HB1.out⟩

/-- Bytes behind others, in memory of one's own. -/
theorem appB {w : World} {n₀ : Nat} {v r : Value} {xs ys : List Nat} (HO : OwnB w n₀ v xs) (HR : BS w r ys) (hl : xs.length + ys.length ≤ 100000000000000) (hb : n₀ ≤ w.heap.size) :
    ∃ v1 w1, (Builtin.append_ #[23, 23] 23 #[v, r]).run Try.prog w = .ok v1 w1 ∧ OwnB w1 n₀ v1 (xs ++ ys) ∧ Below n₀ w w1 := by
  obtain ⟨A, m, c, rfl, _, _, hr⟩ := HR
  obtain ⟨v1, w1, r1, o1, g1, _⟩ := run_append_rd (P := Try.prog) (c := c) n₀ 23 23 5 (.int .u8 0) 1 Try.underlying23 infoB rfl (by decide) encB_one HO.1 hr.rd (by rw [← hr.len]; omega) hb
  exact ⟨v1, w1, r1, ⟨o1, HO.2.append hr.byt⟩, (Below.refl n₀ w).grown g1 hb (fun k hk => (HO.1.base k hk).1)⟩
def ByF (A : Option Addr) (n c g b0 prev d dp : Nat) : Nat → Value → World → Prop
  | 0 => fun v w => v = .pointer (some ⟨g, 0, none⟩)
  | 1 => fun v w => v = .int .u32 (d : Nat)
  | 2 => fun v w => v = .int .u32 (prev : Nat)
  | 3 => fun v w => v = .int .u32 (dp : Nat)
  | 4 => fun v w => ∃ (V12 : Value), v = V12 ∧ OwnB w b0 V12 (varL dp)
  | 5 => fun v w => v = .pointer (some ⟨g, 1, none⟩)
  | 6 => fun v w => v = .slice A n c
  | 7 => fun v w => v = .int .i64 (n : Nat)
  | 8 => fun v w => v = .int .u32 (n : Nat)
  | 9 => fun v w => ∃ (V17 : Value), v = V17 ∧ OwnB w b0 V17 (varL n)
  | 10 => fun v w => ∃ (V18 : Value), v = V18 ∧ OwnB w b0 V18 (varL dp ++ varL n)
  | 11 => fun v w => ∃ (V18 : Value), v = V18 ∧ OwnB w b0 V18 (varL dp ++ varL n)
  | _ => fun _ _ => True
theorem ByF.below (A : Option Addr) (n c g b0 prev d dp : Nat) : ∀ i v w w', Below w.heap.size w w' → ByF A n c g b0 prev d dp i v w → ByF A n c g b0 prev d dp i v w'
  | 0, _, _, _, _, h => h
  | 1, _, _, _, _, h => h
  | 2, _, _, _, _, h => h
  | 3, _, _, _, _, h => h
  | 4, _, _, _, hb, h => by
    obtain ⟨V12, e, g⟩ := h
    exact ⟨V12, e, g.below hb⟩
  | 5, _, _, _, _, h => h
  | 6, _, _, _, _, h => h
  | 7, _, _, _, _, h => h
  | 8, _, _, _, _, h => h
  | 9, _, _, _, hb, h => by
    obtain ⟨V17, e, g⟩ := h
    exact ⟨V17, e, g.below hb⟩
  | 10, _, _, _, hb, h => by
    obtain ⟨V18, e, g⟩ := h
    exact ⟨V18, e, g.below hb⟩
  | 11, _, _, _, hb, h => by
    obtain ⟨V18, e, g⟩ := h
    exact ⟨V18, e, g.below hb⟩
  | _ + 12, _, _, _, _, _ => trivial

set_option maxRecDepth 100000 in
set_option maxHeartbeats 4000000 in
theorem refBytes_pv (prev : Nat) (p : Po) (v : Value) (w : World) (h : PV w v p) (hok : okP prev p) :
    Calls Try.prog 34 #[.int .u32 prev, v] w fun e w' => ∃ r, e = .returned r ∧ OwnB w' w.heap.size r (bytesP prev p) ∧ Below w.heap.size w w' := by
  obtain ⟨u, rfl, ⟨A, n, c, rfl, hnc, hc, hr⟩, hd⟩ := h
  obtain ⟨d, l⟩ := p
  obtain ⟨o1, o2, o3, o4, o5⟩ := hok
  simp only at hr hd o1 o2 o3 o4 o5 ⊢
  obtain ⟨wB, hwB⟩ : ∃ wB, wB = w.alloc (.cells #[.int .u32 (d : Nat), .slice A n c] 32) := ⟨_, rfl⟩
  have hbw : Below w.heap.size w wB := by rw [hwB]; exact (Below.refl _ _).alloc (Nat.le_refl _) _
  have hb2x : Box2 wB w.heap.size 32 (.int .u32 (d : Nat)) (.slice A n c) := by rw [hwB]; exact Box2.new _ _ _ _
  have HR := Lib.hid (hr.below hbw)
  have HLn := Lib.hid hr.len
  have HPos : Hid (okPos l) := Lib.hid o5
  have HB0 := Lib.hid hbw
  have HC := Lib.hid (And.intro hb2x.facts.1 hb2x.facts.2.1)
  obtain ⟨dp, hdp0⟩ : ∃ dp, dp = d - prev := ⟨_, rfl⟩
  have HDP := Lib.hid hdp0
  have hdp : dp < 4294967296 := by omega
  have hnl := hr.len
  have hnlt : n < 4294967296 := by omega
  have hn2 : n ≤ 2000 := by omega
  have wdp : IntKind.u32.wrap ((d : Int) - (prev : Int)) = (dp : Int) := by rw [IntKind.wrap_u32]; omega
  have wn : IntKind.u32.wrap (n : Int) = (n : Int) := by rw [IntKind.wrap_u32]; omega
  have hjl : (varL dp).length + (varL n).length ≤ 70368744177664 := by have := varL_five hdp; have := varL_five hnlt; omega
  obtain ⟨g, hg⟩ : ∃ g, g = w.heap.size := ⟨_, rfl⟩
  obtain ⟨b0, hb0e⟩ : ∃ b0, b0 = wB.heap.size := ⟨_, rfl⟩
  have hb0 : b0 ≤ wB.heap.size := by omega
  have HBz : Hid (w.heap.size ≤ b0) := Lib.hid (by rw [hb0e]; exact hbw.size)
  rw [← hg] at HC
  have HG := Lib.hid hg
  have HW := Lib.hid hwB
  have HE0 := Lib.hid hb0e
  clear hr hd hbw hb2x o1 o2 o3 o4 o5 hdp0 hnl hg hwB hb0e
  go_enter Try.func34, Try.ntmps34
  go_wp2_with fail
  rename_i K1 hK1
  rw [← HW.out, ← HG.out]
  refine wp_region_flow (by kernel_rfl) (ByF A n c g b0 prev d dp) (ByF.below A n c g b0 prev d dp) (by kernel_rfl) (by kernel_rfl) ?_ ?_
  case refine_1 =>
    intro i o ho ρ y w2 hb2 hreg hn hf hyb hyn
    have hi := (Array.getElem?_eq_some_iff.1 ho).1
    rcases Nat.lt_or_ge i 12 with hi2 | hi2
    case inr => simp at hi; omega
    obtain rfl | rfl | rfl | rfl | rfl | rfl | rfl | rfl | rfl | rfl | rfl | rfl : i = 0 ∨ i = 1 ∨ i = 2 ∨ i = 3 ∨ i = 4 ∨ i = 5 ∨ i = 6 ∨ i = 7 ∨ i = 8 ∨ i = 9 ∨ i = 10 ∨ i = 11 := by omega
    · cases ho
      rw [if_pos (show Region.wanted _ y = true from rfl)]
      have f3 : ρ (.tmp 3) = .pointer (some ⟨g, 0, none⟩) := hf 3 (by kernel_rfl)
      exact does_ok (v := .pointer (some ⟨g, 0, none⟩)) (w' := w2) (by simp [go_sem, hreg.const, f3]) ⟨rfl, Below.refl _ _⟩
    · cases ho
      rw [if_pos (show Region.wanted _ y = true from rfl)]
      have f8 : ρ (.tmp 8) = .pointer (some ⟨g, 0, none⟩) := hn 0 _ 8 rfl (by kernel_rfl) rfl
      have k0 := cell_keep hb2 HC.out.1
      exact does_ok (v := .int .u32 (d : Nat)) (w' := w2) (by simp [go_sem, hreg.const, f8, k0]) ⟨rfl, Below.refl _ _⟩
    · cases ho
      rw [if_pos (show Region.wanted _ y = true from rfl)]
      have f0 : ρ (.tmp 0) = .int .u32 (prev : Nat) := hf 0 (by kernel_rfl)
      exact ⟨f0, Below.refl _ _⟩
    · cases ho
      rw [if_pos (show Region.wanted _ y = true from rfl)]
      have f9 : ρ (.tmp 9) = .int .u32 (d : Nat) := hn 1 _ 9 rfl (by kernel_rfl) rfl
      have f10 : ρ (.tmp 10) = .int .u32 (prev : Nat) := hn 2 _ 10 rfl (by kernel_rfl) rfl
      exact does_ok (v := .int .u32 (dp : Nat)) (w' := w2) (by simp [go_sem, hreg.const, f9, f10, wdp]) ⟨rfl, Below.refl _ _⟩
    · cases ho
      rw [if_pos (show Region.wanted _ y = true from rfl)]
      have f11 : ρ (.tmp 11) = .int .u32 (dp : Nat) := hn 3 _ 11 rfl (by kernel_rfl) rfl
      refine does_enter (f := 46) (args := #[.int .u32 (dp : Nat)]) (w' := w2) (by simp [go_sem, hreg.func, hreg.const, f11]) ?_
      refine (refVar_bs dp w2 hdp).mono ?_
      rintro e w' ⟨r, rfl, h, hb⟩
      exact ⟨_, rfl, ⟨_, rfl, h.mono (Nat.le_trans hb0 hb2.size)⟩, hb⟩
    · cases ho
      rw [if_pos (show Region.wanted _ y = true from rfl)]
      have f3 : ρ (.tmp 3) = .pointer (some ⟨g, 0, none⟩) := hf 3 (by kernel_rfl)
      exact does_ok (v := .pointer (some ⟨g, 1, none⟩)) (w' := w2) (by simp [go_sem, hreg.const, f3]) ⟨rfl, Below.refl _ _⟩
    · cases ho
      rw [if_pos (show Region.wanted _ y = true from rfl)]
      have f13 : ρ (.tmp 13) = .pointer (some ⟨g, 1, none⟩) := hn 5 _ 13 rfl (by kernel_rfl) rfl
      have k0 := cell_keep hb2 HC.out.2
      exact does_ok (v := .slice A n c) (w' := w2) (by simp [go_sem, hreg.const, f13, k0]) ⟨rfl, Below.refl _ _⟩
    · cases ho
      rw [if_pos (show Region.wanted _ y = true from rfl)]
      have f14 : ρ (.tmp 14) = .slice A n c := hn 6 _ 14 rfl (by kernel_rfl) rfl
      exact does_ok (v := .int .i64 (n : Nat)) (w' := w2) (by simp [go_sem, hreg.const, f14]) ⟨rfl, Below.refl _ _⟩
    · cases ho
      rw [if_pos (show Region.wanted _ y = true from rfl)]
      have f15 : ρ (.tmp 15) = .int .i64 (n : Nat) := hn 7 _ 15 rfl (by kernel_rfl) rfl
      exact does_ok (v := .int .u32 (n : Nat)) (w' := w2) (by simp [go_sem, hreg.const, f15, wn]) ⟨rfl, Below.refl _ _⟩
    · cases ho
      rw [if_pos (show Region.wanted _ y = true from rfl)]
      have f16 : ρ (.tmp 16) = .int .u32 (n : Nat) := hn 8 _ 16 rfl (by kernel_rfl) rfl
      refine does_enter (f := 46) (args := #[.int .u32 (n : Nat)]) (w' := w2) (by simp [go_sem, hreg.func, hreg.const, f16]) ?_
      refine (refVar_bs n w2 hnlt).mono ?_
      rintro e w' ⟨r, rfl, h, hb⟩
      exact ⟨_, rfl, ⟨_, rfl, h.mono (Nat.le_trans hb0 hb2.size)⟩, hb⟩
    · cases ho
      rw [if_pos (show Region.wanted _ y = true from rfl)]
      obtain ⟨V12, f12, g12⟩ : ∃ (V12 : Value), ρ (.tmp 12) = V12 ∧ OwnB w2 b0 V12 (varL dp) := hn 4 _ 12 rfl (by kernel_rfl) rfl
      obtain ⟨V17, f17, g17⟩ : ∃ (V17 : Value), ρ (.tmp 17) = V17 ∧ OwnB w2 b0 V17 (varL n) := hn 9 _ 17 rfl (by kernel_rfl) rfl
      refine does_enter (f := 36) (args := #[V12, V17]) (w' := w2) (by simp [go_sem, hreg.func, hreg.const, f12, f17]) ?_
      refine (Join_bs w2 g12.bs g17.bs hjl).mono ?_
      rintro e w' ⟨r, rfl, h, hb⟩
      exact ⟨_, rfl, ⟨_, rfl, h.mono (Nat.le_trans hb0 hb2.size)⟩, hb⟩
    · cases ho
      rw [if_pos (show Region.wanted _ y = true from rfl)]
      obtain ⟨V18, f18, g18⟩ : ∃ (V18 : Value), ρ (.tmp 18) = V18 ∧ OwnB w2 b0 V18 (varL dp ++ varL n) := hn 10 _ 18 rfl (by kernel_rfl) rfl
      exact ⟨⟨V18, f18, g18⟩, Below.refl _ _⟩
  case refine_2 =>
    intro a w2 hb2 hd hs hfacts hrest
    obtain ⟨V18, q5, g5⟩ : ∃ (V18 : Value), a.tmps.getD 5 undef = V18 ∧ OwnB w2 b0 V18 (varL dp ++ varL n) := hfacts 11 _ 5 rfl rfl
    have ha := frame_of hd hs hrest [5, 8, 9, 10, 11, 12, 13, 14, 15, 16, 17, 18] (by kernel_rfl)
    simp only [q5, List.foldl, List.setIfInBounds_toArray, List.set_cons_succ, List.set_cons_zero] at ha
    clear q5 hd hs hfacts hrest
    generalize a.tmps.getD = gg at ha
    subst ha
    have HV := Lib.hid g5
    have HB2 := Lib.hid hb2
    have HE := Lib.hid hb0
    have HDl : Hid (dp < 4294967296) := Lib.hid hdp
    clear hb2 g5 wdp wn hdp hnlt hjl hb0
    refine hK1 _ _ ?_
    go_wp2_with fail
    go_loopw [5, 6, 7] (fun x5 x6 x7 wr => ∃ k : Nat, k ≤ n ∧ x7 = .int .i64 k ∧ ∃ la : Nat, x6 = .int .i64 la ∧ la ≤ 1048576 ∧ Hid (la = lastN l k ∧ OwnB wr b0 x5 (varL dp ++ varL n ++ posF l k) ∧ Below wB.heap.size wB wr)) (fun _ _ x7 _ => n - (intOf x7).toNat)
    case atStart => exact ⟨0, by omega, rfl, 0, rfl, by omega, Lib.hid ⟨rfl, by simpa [posF] using HV.out, HB2.out⟩⟩
    case round =>
      obtain ⟨k, hk, rfl, la, rfl, hla, HI⟩ := hrel
      have c1 := cell_keep HI.out.2.2 HC.out.2
      by_cases hlt : (k : Int) < (n : Int)
      · obtain ⟨ad, x, rfl, HX, x0⟩ := rdI_at (HR.out.below HI.out.2.2) (k := k) (by omega)
        obtain ⟨q1, q2, q3⟩ := okPos_lt HPos.out (k := k) (by rw [HLn.out]; omega)
        have q4 := (HPos.out k (by rw [HLn.out]; omega)).2.1
        rw [← HI.out.1] at q1 q2
        rw [posAt HX.out] at q1 q2 q4
        have HX2 := Lib.hid (posAt HX.out)
        obtain ⟨xn, rfl⟩ : ∃ xn : Nat, x = xn := ⟨x.toNat, by omega⟩
        simp only [Int.toNat_natCast] at q1
        obtain ⟨m, hm⟩ : ∃ m, m = xn - la := ⟨_, rfl⟩
        have HM := Lib.hid hm
        have e1 : (xn : Int) - (la : Int) = ((m : Nat) : Int) := by omega
        have hm2 : m ≤ 1048576 := by omega
        have hxn : xn ≤ 1048576 := by omega
        have HL : Hid ((varL dp ++ varL n ++ posF l k).length + (varL m).length ≤ 100000000000000) := Lib.hid (by
          have h1 := varL_five (v := dp) HDl.out
          have h2 := varL_five (v := n) (by omega)
          have h3 := posF_len HPos.out k (by rw [HLn.out]; omega)
          have h4 := varL_five (v := m) (by omega)
          simp only [List.length_append]
          omega)
        clear hm q1 q2 q3 q4
        go_wp2_with fail
        refine (refVar_bs m _ (by omega)).mono ?_
        rintro e w3 ⟨r, rfl, ho, hb⟩
        have HB3 := Lib.hid (Below.thn HI.out.2.2 hb)
        obtain ⟨v1, w4, r1, o4, b4⟩ := appB (HI.out.2.1.below hb) ho.bs HL.out (by rw [HE0.out]; exact HB3.out.size)
        have HB4 : Hid (Below wB.heap.size wB w4) := Lib.hid (HB3.out.trans (by rw [← HE0.out]; exact b4))
        have HO4 : Hid (OwnB w4 b0 v1 (varL dp ++ varL n ++ posF l (k + 1))) := Lib.hid (by
          rw [List.append_assoc, HM.out, HI.out.1] at o4
          show OwnB w4 b0 v1 (varL dp ++ varL n ++ (posF l k ++ varL _))
          rw [HX2.out]
          simpa using o4)
        have c2 := cell_keep HB4.out HC.out.2
        obtain ⟨ad', x', e', HX', x1⟩ := rdI_at (HR.out.below HB4.out) (k := k) (by omega)
        cases e'
        obtain rfl : x' = (xn : Int) := by obtain ⟨_, e1⟩ := HX.out; obtain ⟨_, e2⟩ := HX'.out; rw [← e2, e1]
        clear ho hb x0 e1 o4 b4 c1
        go_wp2_with (at_builtin; refine wpl_append_run rfl _ _ _ rfl rfl rfl r1 ?_)
        exact ⟨⟨k + 1, by omega, by go_num, xn, rfl, hxn, Lib.hid ⟨by rw [lastN_succ, HX2.out]; simp, HO4.out, HB4.out⟩⟩, by simp [intOf]; omega⟩
      · have HF : Hid (OwnB wr w.heap.size u5 (bytesP prev (d, l)) ∧ Below w.heap.size w wr) := Lib.hid ⟨by
          obtain rfl : k = n := by omega
          unfold bytesP
          simp only
          rw [HLn.out, ← HDP.out]
          exact HI.out.2.1.mono HBz.out, Below.thn HB0.out HI.out.2.2⟩
        go_wp2
        go_ret
        exact ⟨_, rfl, HF.out⟩

set_option maxRecDepth 100000 in
set_option maxHeartbeats 4000000 in
theorem refPut_pv (vb : Value) (b : List Nat) (prev : Nat) (p : Po) (v : Value) (w : World) (hB : BS w vb b) (h : PV w v p) (hp : prev < 4294967296) (hb : b.length ≤ 60000000000000) :
    Calls Try.prog 21 #[vb, .int .u32 prev, v] w (PutE b prev p w) := by
  have C := Lib.hid (fun w' (hb : Below w.heap.size w w') => refCheck_pv prev p v w' (h.below hb) hp)
  have D := Lib.hid (fun hok w' (hb : Below w.heap.size w w') => refBytes_pv prev p v w' (h.below hb) hok)
  unfold ChkPE at C
  obtain ⟨u, rfl, ⟨A, n, c, rfl, hnc, hc, hr⟩, hd⟩ := h
  obtain ⟨d, l⟩ := p
  simp only at hr hd C D ⊢
  have HBx := Lib.hid ((Below.refl w.heap.size w).alloc (Nat.le_refl _) (.cells #[.int .u32 (d : Nat), .slice A n c] 32))
  have HBB := Lib.hid hB
  have HBl := Lib.hid hb
  obtain ⟨c0, c1⟩ := box2 w 32 (.int .u32 (d : Nat)) (.slice A n c)
  have HC := Lib.hid (And.intro c0 c1)
  clear hB hb hr hd
  by_cases hok : okP prev (d, l)
  · have HCh := Lib.hid (chkP_yes hok)
    have HPt := Lib.hid (putL_yes (b := b) hok)
    have HPl := Lib.hid (bytesP_len hok)
    have D := Lib.hid (D.out hok)
    go_enter Try.func21, Try.ntmps21
    go_wp2_with fail
    refine (C.out _ HBx.out).mono ?_
    rintro e w1 ⟨rfl, hb⟩
    rw [HCh.out]
    have HB1 := Lib.hid (Below.thn HBx.out hb)
    have c0 := cell_keep hb HC.out.1
    have c1 := cell_keep hb HC.out.2
    have HBB1 := Lib.hid (HBB.out.below HB1.out)
    clear hb C
    go_wp2_with fail
    refine (D.out _ HB1.out).mono ?_
    rintro e w2 ⟨r, rfl, ho, hb⟩
    have HB2 := Lib.hid (Below.thn HB1.out hb)
    have J := Lib.hid (Join_bs w2 (HBB1.out.below hb) ho.bs (by have := HBl.out; have := HPl.out; omega))
    clear hb D ho c0 c1
    go_wp2_with fail
    refine J.out.mono ?_
    rintro e w3 ⟨r3, rfl, ho, hb⟩
    have HB3 := Lib.hid (Below.thn HB2.out hb)
    have HO3 := Lib.hid ho.bs
    clear hb J ho
    go_wp2
    go_ret2
    exact ⟨_, by rw [HCh.out]; rfl, by rw [HPt.out]; exact HO3.out, HB3.out⟩
  · have HCh := Lib.hid (chkP_no hok)
    have HPt := Lib.hid (putL_no (b := b) hok)
    clear D hok
    go_enter Try.func21, Try.ntmps21
    go_wp2_with fail
    refine (C.out _ HBx.out).mono ?_
    rintro e w1 ⟨rfl, hb⟩
    rw [HCh.out]
    have HB1 := Lib.hid (Below.thn HBx.out hb)
    clear hb C
    go_wp2
    go_ret2
    exact ⟨_, by rw [HCh.out]; rfl, by rw [HPt.out]; exact BS.nil _, HB1.out⟩

set_option maxRecDepth 100000 in
set_option maxHeartbeats 4000000 in
theorem refList_po (A : Option Addr) (n c : Nat) (ls : List Po) (w : World) (h : RdPo w A n ls) (hn60 : n ≤ 1000000) :
    Calls Try.prog 19 #[.slice A n c] w (ListE ls w) := by
  have HR := Lib.hid h
  have HLn := Lib.hid h.len
  clear h
  have HO : Hid (OwnB (w.alloc (.cells #[] 5)) w.heap.size (.slice (some ⟨w.heap.size, 0, none⟩) 0 0) []) := Lib.hid ⟨OwnL.lit w w.heap.size 5 [] _ 0 rfl rfl (Nat.le_refl _) (by decide), Byt.nil⟩
  have HB := Lib.hid ((Below.refl w.heap.size w).alloc (Nat.le_refl _) (.cells #[] 5))
  go_enter Try.func19, Try.ntmps19
  go_wp2_with fail
  go_loopw [4, 5, 6] (fun x4 x5 x6 wr => ∃ k : Nat, k ≤ n ∧ x6 = .int .i64 k ∧ ∃ pv : Nat, x5 = .int .u32 pv ∧ pv ≤ 2147483647 ∧ Hid (pv = prevOf ls k ∧ okLs ls k ∧ OwnB wr w.heap.size x4 (bytesLs ls k) ∧ Below w.heap.size w wr)) (fun _ _ x6 _ => n - (intOf x6).toNat)
  case atStart => exact ⟨0, by omega, rfl, 0, rfl, by omega, Lib.hid ⟨rfl, fun i h => absurd h (Nat.not_lt_zero _), by simpa [bytesLs] using HO.out, HB.out⟩⟩
  case round =>
    obtain ⟨k, hk, rfl, pv, rfl, hpv, HI⟩ := hrel
    by_cases hlt : (k : Int) < (n : Int)
    · obtain ⟨ad, B, m, c', d, l, rfl, HX, e0, e1, hm1, hm2, HPo, hd⟩ := (HR.out.below HI.out.2.2.2).at (k := k) (by omega)
      have C := Lib.hid (refCheck_pv pv (d, l) _ wr (RdPo.pv HPo.out hm1 hm2 hd) (by omega))
      unfold ChkPE at C
      have hx := getD_po HX.out
      by_cases hok : okP pv (d, l)
      · have HCh := Lib.hid (chkP_yes hok)
        have HPl := Lib.hid (bytesP_len hok)
        have hd2 : d ≤ 2147483647 := hok.2.1
        have HOk2 : Hid (okLs ls (k + 1)) := Lib.hid fun i hi => by
          rcases Nat.lt_succ_iff_lt_or_eq.1 hi with h | rfl
          · exact HI.out.2.1 i h
          · rw [hx, ← HI.out.1]; exact hok
        have HHx := Lib.hid hx
        have HOk := Lib.hid hok
        clear hok hx
        go_wp2_with fail
        refine C.out.mono ?_
        rintro e w1 ⟨rfl, hb⟩
        rw [HCh.out]
        have HB1 := Lib.hid (Below.thn HI.out.2.2.2 hb)
        have D := Lib.hid (refBytes_pv pv (d, l) _ w1 (RdPo.pv (HPo.out.below hb) hm1 hm2 hd) HOk.out)
        have HO1 := Lib.hid (HI.out.2.2.1.below hb)
        have e0' := cell_keep hb e0
        have e1' := cell_keep hb e1
        clear hb C e0 e1
        go_wp2_with fail
        refine D.out.mono ?_
        rintro e w2 ⟨r, rfl, ho, hb⟩
        have HB2 := Lib.hid (Below.thn HB1.out hb)
        obtain ⟨v1, w4, r1, o4, b4⟩ := appB (HO1.out.below hb) ho.bs (by
          have h1 := bytesLs_len HI.out.2.1
          have h2 := HPl.out
          omega) HB2.out.size
        have HB4 : Hid (Below w.heap.size w w4) := Lib.hid (HB2.out.trans b4)
        have HO4 : Hid (OwnB w4 w.heap.size v1 (bytesLs ls (k + 1))) := Lib.hid (by
          rw [bytesLs, HHx.out, ← HI.out.1]; exact o4)
        obtain ⟨ad', B', m', c2', d', l', e', HX', f0, f1, _, _, _, _⟩ := (HR.out.below HB4.out).at (k := k) (by omega)
        cases e'
        obtain rfl : d' = d := by
          obtain ⟨_, e1⟩ := HX.out
          obtain ⟨_, e2⟩ := HX'.out
          have := e1.symm.trans e2
          cases this; rfl
        clear hb D ho e0' e1' o4 b4 f1
        go_wp2_with (at_builtin; refine wpl_append_run rfl _ _ _ rfl rfl rfl r1 ?_)
        exact ⟨⟨k + 1, by omega, by go_num, d', rfl, hd2, Lib.hid ⟨by rw [prevOf_succ, HHx.out], HOk2.out, HO4.out, HB4.out⟩⟩, by simp [intOf]; omega⟩
      · have HCh := Lib.hid (chkP_no hok)
        have HE := Lib.hid (lsE_no (ls := ls) fun h => hok (by
          have := h k (by rw [HLn.out]; omega)
          rw [hx, ← HI.out.1] at this
          exact this))
        clear hok hx
        go_wp2_with fail
        refine C.out.mono ?_
        rintro e w1 ⟨rfl, hb⟩
        rw [HCh.out]
        have HB1 := Lib.hid (Below.thn HI.out.2.2.2 hb)
        clear hb C e0 e1
        go_wp2
        go_ret2
        exact ⟨_, by rw [HE.out.1]; rfl, by rw [HE.out.2]; exact BS.nil _, HB1.out⟩
    · obtain rfl : k = n := by omega
      have HE := Lib.hid (lsE_yes (ls := ls) (by rw [HLn.out]; exact HI.out.2.1))
      have HO := Lib.hid HI.out.2.2.1.bs
      go_wp2
      go_ret2
      exact ⟨_, by rw [HE.out.1]; rfl, by rw [HE.out.2, HLn.out]; exact HO.out, HI.out.2.2.2⟩
end Go.Proofs.Ytmonlookmnlgnaa
