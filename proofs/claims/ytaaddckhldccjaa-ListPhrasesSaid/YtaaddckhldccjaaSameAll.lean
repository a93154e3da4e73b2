/- Are two rows of postings the same? -/
import Derived.BigQuiet
import Derived.WalkKit
import Derived.Test.YtaaddckhldccjaaPost
import Derived.Test.YtaaddckhldccjaaSames
import Derived.Test.YtaaddckhldccjaaReg
namespace Go.Proofs.Ytaaddckhldccjaa
open Go.RowKit
set_option linter.unusedVariables false
set_option linter.unusedSimpArgs false
def SaF (ad ae : Addr) (n c dd k : Nat) (d1 : Nat) (B1 : Option Addr) (m1 c1 : Nat) (d2 : Nat) (B2 : Option Addr) (m2 c2 : Nat) (rb : Bool) : Nat → Value → World → Prop
  | 0 => fun v w => v = .slice (some ad) n c
  | 1 => fun v w => v = .int .i64 (k : Nat)
  | 2 => fun v w => v = .pointer (some (ad.add (k * 2)))
  | 3 => fun v w => v = .agg #[.int .u32 (d1 : Nat), .slice B1 m1 c1]
  | 4 => fun v w => v = .slice (some ae) n dd
  | 5 => fun v w => v = .int .i64 (k : Nat)
  | 6 => fun v w => v = .pointer (some (ae.add (k * 2)))
  | 7 => fun v w => v = .agg #[.int .u32 (d2 : Nat), .slice B2 m2 c2]
  | 8 => fun v w => v = .bool rb
  | 9 => fun v w => v = .bool (!rb)
  | _ => fun _ _ => True
theorem SaF.below (ad ae : Addr) (n c dd k : Nat) (d1 : Nat) (B1 : Option Addr) (m1 c1 : Nat) (d2 : Nat) (B2 : Option Addr) (m2 c2 : Nat) (rb : Bool) : ∀ i v w w', Below w.heap.size w w' → SaF ad ae n c dd k d1 B1 m1 c1 d2 B2 m2 c2 rb i v w → SaF ad ae n c dd k d1 B1 m1 c1 d2 B2 m2 c2 rb i v w'
  | 0, _, _, _, _, h => h
  | 1, _, _, _, _, h => h
  | 2, _, _, _, _, h => h
  | 3, _, _, _, _, h => h
  | 4, _, _, _, _, h => h
  | 5, _, _, _, _, h => h
  | 6, _, _, _, _, h => h
  | 7, _, _, _, _, h => h
  | 8, _, _, _, _, h => h
  | 9, _, _, _, _, h => h
  | _ + 10, _, _, _, _, _ => trivial

set_option maxRecDepth 100000 in
set_option maxHeartbeats 4000000 in
theorem SameAll_any (A B : Option Addr) (n m c dd : Nat) (la lb : List Po) (w : World) (ha : RdPo w A n la) (hb : RdPo w B m lb) :
    Calls Try.prog 12 #[.slice A n c, .slice B m dd] w fun e w' => e = .returned (.bool (decide (la = lb))) ∧ Below w.heap.size w w' := by
  obtain ⟨R, hR⟩ : ∃ R, R = decide (la = lb) := ⟨_, rfl⟩
  rw [← hR]
  have HR := Lib.hid hR
  have HA := Lib.hid ha
  have HB := Lib.hid hb
  have hn := ha.max
  have hm := hb.max
  clear ha hb hR
  by_cases hnm : n = m
  · subst hnm
    go_enter Try.func12, Try.ntmps12
    go_wp2_with fail
    go_loopw [5] (fun x wr => ∃ k : Nat, k ≤ n ∧ x = .int .i64 k ∧ Hid (la.take k = lb.take k ∧ Below w.heap.size w wr)) (fun x _ => n - (intOf x).toNat)
    case atStart => exact ⟨0, by omega, rfl, Lib.hid ⟨by simp, Below.refl _ _⟩⟩
    case round =>
      obtain ⟨k, hk, rfl, HI⟩ := hrel
      by_cases hlt : (k : Int) < (n : Int)
      · obtain ⟨ad, B1, m1, c1, d1, l1, rfl, HX, e0, e1, h11, h12, HP1, hd1⟩ := (HA.out.below HI.out.2).at (k := k) (by omega)
        obtain ⟨ae, B2, m2, c2, d2, l2, rfl, HY, u0, u1, h21, h22, HP2, hd2⟩ := (HB.out.below HI.out.2).at (k := k) (by omega)
        obtain ⟨rb, hrb⟩ : ∃ rb, rb = decide ((d1, l1) = (d2, l2)) := ⟨_, rfl⟩
        have C : Hid (∀ w2, Below wr.heap.size wr w2 → Calls Try.prog 40 #[.agg #[.int .u32 (d1 : Nat), .slice B1 m1 c1], .agg #[.int .u32 (d2 : Nat), .slice B2 m2 c2]] w2 fun e w' => e = .returned (.bool rb) ∧ Below w2.heap.size w2 w') := Lib.hid fun w2 h2 => by
          rw [hrb]
          exact refSame_pv _ _ (d1, l1) (d2, l2) w2 (RdPo.pv (HP1.out.below h2) h11 h12 hd1) (RdPo.pv (HP2.out.below h2) h21 h22 hd2)
        have HRb := Lib.hid hrb
        have hi1 : (k : Int) < (n : Int) := hlt
        have hi2 : k < n := by omega
        clear hrb
        go_wp2_with fail
        rename_i K1 hK1
        refine wp_region_flow (by kernel_rfl) (SaF ad ae n c dd k d1 B1 m1 c1 d2 B2 m2 c2 rb) (SaF.below ad ae n c dd k d1 B1 m1 c1 d2 B2 m2 c2 rb) (by kernel_rfl) (by kernel_rfl) ?_ ?_
        case refine_1 =>
          intro i o ho ρ y w2 hb2 hreg hn hf hyb hyn
          have hi := (Array.getElem?_eq_some_iff.1 ho).1
          rcases Nat.lt_or_ge i 10 with hi2 | hi2
          case inr => simp at hi; omega
          obtain rfl | rfl | rfl | rfl | rfl | rfl | rfl | rfl | rfl | rfl : i = 0 ∨ i = 1 ∨ i = 2 ∨ i = 3 ∨ i = 4 ∨ i = 5 ∨ i = 6 ∨ i = 7 ∨ i = 8 ∨ i = 9 := by omega
          · cases ho
            rw [if_pos (show Region.wanted _ y = true from rfl)]
            have f0 : ρ (.tmp 0) = .slice (some ad) n c := hf 0 (by kernel_rfl)
            exact ⟨f0, Below.refl _ _⟩
          · cases ho
            rw [if_pos (show Region.wanted _ y = true from rfl)]
            have f5 : ρ (.tmp 5) = .int .i64 (k : Nat) := hf 5 (by kernel_rfl)
            exact ⟨f5, Below.refl _ _⟩
          · cases ho
            rw [if_pos (show Region.wanted _ y = true from rfl)]
            have f17 : ρ (.tmp 17) = .slice (some ad) n c := hn 0 _ 17 rfl (by kernel_rfl) rfl
            have f18 : ρ (.tmp 18) = .int .i64 (k : Nat) := hn 1 _ 18 rfl (by kernel_rfl) rfl
            exact does_ok (v := .pointer (some (ad.add (k * 2)))) (w' := w2) (by simp [go_sem, hreg.const, f17, f18, hi1, hi2]) ⟨rfl, Below.refl _ _⟩
          · cases ho
            rw [if_pos (show Region.wanted _ y = true from rfl)]
            have f19 : ρ (.tmp 19) = .pointer (some (ad.add (k * 2))) := hn 2 _ 19 rfl (by kernel_rfl) rfl
            have k0 := cell_keep hb2 e0
            have k1 := cell_keep hb2 e1
            exact does_ok (v := .agg #[.int .u32 (d1 : Nat), .slice B1 m1 c1]) (w' := w2) (by simp [go_sem, hreg.const, f19, k0, k1]) ⟨rfl, Below.refl _ _⟩
          · cases ho
            rw [if_pos (show Region.wanted _ y = true from rfl)]
            have f1 : ρ (.tmp 1) = .slice (some ae) n dd := hf 1 (by kernel_rfl)
            exact ⟨f1, Below.refl _ _⟩
          · cases ho
            rw [if_pos (show Region.wanted _ y = true from rfl)]
            have f5 : ρ (.tmp 5) = .int .i64 (k : Nat) := hf 5 (by kernel_rfl)
            exact ⟨f5, Below.refl _ _⟩
          · cases ho
            rw [if_pos (show Region.wanted _ y = true from rfl)]
            have f21 : ρ (.tmp 21) = .slice (some ae) n dd := hn 4 _ 21 rfl (by kernel_rfl) rfl
            have f22 : ρ (.tmp 22) = .int .i64 (k : Nat) := hn 5 _ 22 rfl (by kernel_rfl) rfl
            exact does_ok (v := .pointer (some (ae.add (k * 2)))) (w' := w2) (by simp [go_sem, hreg.const, f21, f22, hi1, hi2]) ⟨rfl, Below.refl _ _⟩
          · cases ho
            rw [if_pos (show Region.wanted _ y = true from rfl)]
            have f23 : ρ (.tmp 23) = .pointer (some (ae.add (k * 2))) := hn 6 _ 23 rfl (by kernel_rfl) rfl
            have k0 := cell_keep hb2 u0
            have k1 := cell_keep hb2 u1
            exact does_ok (v := .agg #[.int .u32 (d2 : Nat), .slice B2 m2 c2]) (w' := w2) (by simp [go_sem, hreg.const, f23, k0, k1]) ⟨rfl, Below.refl _ _⟩
          · cases ho
            rw [if_pos (show Region.wanted _ y = true from rfl)]
            have f20 : ρ (.tmp 20) = .agg #[.int .u32 (d1 : Nat), .slice B1 m1 c1] := hn 3 _ 20 rfl (by kernel_rfl) rfl
            have f24 : ρ (.tmp 24) = .agg #[.int .u32 (d2 : Nat), .slice B2 m2 c2] := hn 7 _ 24 rfl (by kernel_rfl) rfl
            refine does_enter (f := 40) (args := #[.agg #[.int .u32 (d1 : Nat), .slice B1 m1 c1], .agg #[.int .u32 (d2 : Nat), .slice B2 m2 c2]]) (w' := w2) (by simp [go_sem, hreg.func, hreg.const, f20, f24]) ?_
            refine (C.out w2 hb2).mono ?_
            rintro e w' ⟨rfl, hb⟩
            exact ⟨_, rfl, rfl, hb⟩
          · cases ho
            rw [if_pos (show Region.wanted _ y = true from rfl)]
            have f25 : ρ (.tmp 25) = .bool rb := hn 8 _ 25 rfl (by kernel_rfl) rfl
            exact does_ok (v := .bool (!rb)) (w' := w2) (by simp [go_sem, hreg.const, f25]) ⟨rfl, Below.refl _ _⟩
        case refine_2 =>
          intro a w2 hb2 hd hs hfacts hrest
          have q26 : a.tmps.getD 26 undef = .bool (!rb) := hfacts 9 _ 26 rfl rfl
          have ha := frame_of hd hs hrest [17, 18, 19, 20, 21, 22, 23, 24, 25, 26] (by kernel_rfl)
          simp only [q26, List.foldl, List.setIfInBounds_toArray, List.set_cons_succ, List.set_cons_zero] at ha
          clear q26 hd hs hfacts hrest
          generalize a.tmps.getD = gg at ha
          subst ha
          have HB2 := Lib.hid (Below.thn HI.out.2 hb2)
          clear hb2 e0 e1 u0 u1
          refine hK1 _ _ ?_
          cases rb
          · have HF : Hid (R = false) := Lib.hid (by rw [HR.out]; exact decide_eq_false (ne_of_at HX.out HY.out (of_decide_eq_false HRb.out.symm)))
            go_wp2
            go_ret
            exact ⟨by rw [HF.out]; rfl, HB2.out⟩
          · go_wp2
            refine ⟨⟨k + 1, by omega, by go_num, Lib.hid ⟨?_, HB2.out⟩⟩, by simp [intOf]; omega⟩
            obtain ⟨_, e1⟩ := HX.out
            obtain ⟨_, e2⟩ := HY.out
            exact (take_stepG _ _).2 ⟨HI.out.1, by rw [e1, e2]; exact of_decide_eq_true HRb.out.symm⟩
      · have HT : Hid (R = true) := Lib.hid (by
          rw [HR.out]
          have h := HI.out.1
          have h1 := HA.out.len
          have h2 := HB.out.len
          rw [List.take_of_length_le (by omega), List.take_of_length_le (by omega)] at h
          exact decide_eq_true h)
        go_wp2
        go_ret
        exact ⟨by rw [HT.out]; rfl, HI.out.2⟩
  · have g0 : ((n : Int) == (m : Int)) = false := by simp; omega
    have g1 : ((n : Int) != (m : Int)) = true := by simp; omega
    have HF : Hid (R = false) := Lib.hid (by
      rw [HR.out]
      refine decide_eq_false fun e => hnm ?_
      rw [← HA.out.len, ← HB.out.len, e])
    clear hnm
    go_enter Try.func12, Try.ntmps12
    go_wp2
    go_ret
    exact ⟨by rw [HF.out]; rfl, Below.refl _ _⟩
end Go.Proofs.Ytaaddckhldccjaa
