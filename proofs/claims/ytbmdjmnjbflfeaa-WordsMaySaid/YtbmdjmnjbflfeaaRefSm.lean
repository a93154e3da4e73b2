/- The document's: whether two ways are the same; bytes that are taken. -/
import Derived.Test.YtbmdjmnjbflfeaaSameW
import Derived.BigQuiet
namespace Go.Proofs.Ytbmdjmnjbflfeaa
open Go.RowKit Go.Shelf
set_option linter.unusedVariables false
set_option linter.unusedSimpArgs false

set_option maxRecDepth 100000 in
set_option maxHeartbeats 8000000 in
theorem refSame_any (A : Option Addr) (n c : Nat) (B : Option Addr) (m d : Nat) (cf : Cf) (A' : Option Addr) (n' c' : Nat) (B' : Option Addr) (m' d' : Nat) (cg : Cf) (w : World) (h : RdC w A n c B m d cf) (h' : RdC w A' n' c' B' m' d' cg) :
    Calls Try.prog 31 #[confV A n c B m d cf.cap, confV A' n' c' B' m' d' cg.cap] w fun e w' => e = .returned (.bool (decide (cf = cg))) ∧ Below w.heap.size w w' := by
  obtain ⟨R, hR⟩ : ∃ R, R = decide (cf = cg) := ⟨_, rfl⟩
  obtain ⟨cp, hcp⟩ : ∃ cp, cp = cf.cap := ⟨_, rfl⟩
  obtain ⟨cq, hcq⟩ : ∃ cq, cq = cg.cap := ⟨_, rfl⟩
  rw [← hR, ← hcp, ← hcq]
  have hb1 : Below w.heap.size w (w.alloc (.cells #[.slice A n c, .slice B m d, .int .i64 cp] 25)) := (Below.refl _ _).alloc (Nat.le_refl _) _
  obtain ⟨w1, hw1⟩ : ∃ w1, w1 = w.alloc (.cells #[.slice A n c, .slice B m d, .int .i64 cp] 25) := ⟨_, rfl⟩
  have hx1 := World.alloc_heap_new w (.cells #[.slice A n c, .slice B m d, .int .i64 cp] 25)
  rw [← hw1] at hb1 hx1
  have hb2' : Below w1.heap.size w1 (w1.alloc (.cells #[.slice A' n' c', .slice B' m' d', .int .i64 cq] 25)) := (Below.refl _ _).alloc (Nat.le_refl _) _
  have hx2 := World.alloc_heap_new w1 (.cells #[.slice A' n' c', .slice B' m' d', .int .i64 cq] 25)
  obtain ⟨w2, hw2⟩ : ∃ w2, w2 = w1.alloc (.cells #[.slice A' n' c', .slice B' m' d', .int .i64 cq] 25) := ⟨_, rfl⟩
  rw [← hw2] at hb2' hx2
  obtain ⟨g1, hg1⟩ : ∃ g1, g1 = w.heap.size := ⟨_, rfl⟩
  obtain ⟨g2, hg2⟩ : ∃ g2, g2 = w1.heap.size := ⟨_, rfl⟩
  rw [← hg1] at hx1
  rw [← hg2] at hx2
  have hx1' : w2.heap[g1]? = some (.cells #[.slice A n c, .slice B m d, .int .i64 cp] 25 (0, 0)) := (hb2'.block g1 (Array.getElem?_eq_some_iff.1 hx1).1).trans hx1
  have HB2 : Hid (Below w.heap.size w w2) := Lib.hid (Below.thn hb1 hb2')
  have HX1 := Lib.hid hx1'
  have HX2 := Lib.hid hx2
  have HF := Lib.hid (h.fo.below HB2.out).k
  have HF' := Lib.hid (h'.fo.below HB2.out).k
  have HT := Lib.hid (h.st.below HB2.out)
  have HT' := Lib.hid (h'.st.below HB2.out)
  have HLn := Lib.hid (And.intro h.fo.len (And.intro h'.fo.len (And.intro h.st.len h'.st.len)))
  have hmx := And.intro (Nat.le_trans h.nc h.c2) (And.intro (Nat.le_trans h'.nc h'.c2) (And.intro (Nat.le_trans h.md h.d2) (Nat.le_trans h'.md h'.d2)))
  obtain ⟨hm1, hm2, hm3, hm4⟩ := hmx
  have HR := Lib.hid hR
  have HCP := Lib.hid hcp
  have HCQ := Lib.hid hcq
  have HW2 := Lib.hid hw2
  have HW1 := Lib.hid hw1
  have HG1 := Lib.hid hg1
  have HG2 : Hid (g2 = w.heap.size + 1) := Lib.hid (by rw [hg2, hw1]; simp)
  obtain ⟨c0, c1, c2⟩ := cells3 hx1'
  obtain ⟨d0, d1, d2⟩ := cells3 hx2
  rw [hw2, hw1, hg1] at c0 c1 c2
  rw [hw2, hw1, hg2, hw1] at d0 d1 d2
  clear h h' hb1 hb2' hx1 hx2 hx1' hR hw1 hw2 hg1 hg2 hcp hcq
  go_enter Try.func31, Try.ntmps31
  by_cases e1 : cp = cq
  case neg =>
    have hq1 : (cp != cq) = true := by simpa using e1
    have HN : Hid (R = false) := Lib.hid (by rw [HR.out]; exact decide_eq_false fun e => e1 (by rw [HCP.out, HCQ.out, e]))
    clear e1
    go_wp2
    rw [← HW1.out, ← HW2.out]
    go_ret
    exact ⟨by rw [HN.out]; rfl, HB2.out⟩
  have hq1 : (cp != cq) = false := by simpa using e1
  have HE1 := Lib.hid e1
  clear e1
  by_cases e2 : n = n'
  case neg =>
    have hq2 : ((n : Int) != (n' : Int)) = true := by simp; omega
    have HN : Hid (R = false) := Lib.hid (by rw [HR.out]; exact decide_eq_false fun e => e2 (by have := HLn.out; rw [← this.1, ← this.2.1, e]))
    clear e2
    go_wp2
    rw [← HW1.out, ← HW2.out]
    go_ret
    exact ⟨by rw [HN.out]; rfl, HB2.out⟩
  have hq2 : ((n : Int) != (n' : Int)) = false := by simp; omega
  by_cases e3 : m = m'
  case neg =>
    have hq3 : ((m : Int) != (m' : Int)) = true := by simp; omega
    have HN : Hid (R = false) := Lib.hid (by rw [HR.out]; exact decide_eq_false fun e => e3 (by have := HLn.out; rw [← this.2.2.1, ← this.2.2.2, e]))
    clear e2 e3
    go_wp2
    rw [← HW1.out, ← HW2.out]
    go_ret
    exact ⟨by rw [HN.out]; rfl, HB2.out⟩
  have hq3 : ((m : Int) != (m' : Int)) = false := by simp; omega
  subst e2 e3
  go_wp2_with fail
  rw [← HW1.out, ← HW2.out, ← HG2.out, ← HG1.out]
  clear c0 c1 c2 d0 d1 d2 HW1 HW2 hq1 hq2 hq3
  go_loopw [5] (fun x wr => ∃ k : Nat, k ≤ n ∧ x = .int .i64 (k : Nat) ∧ Hid (cf.fo.take k = cg.fo.take k ∧ Below w2.heap.size w2 wr)) (fun x _ => n - (intOf x).toNat)
  case atStart => exact ⟨0, Nat.zero_le _, rfl, Lib.hid ⟨by simp, Below.refl _ _⟩⟩
  case round =>
    obtain ⟨k, hk, rfl, HI⟩ := hrel
    obtain ⟨c0, c1, c2⟩ := cells3 ((HI.out.2.block g1 (Array.getElem?_eq_some_iff.1 HX1.out).1).trans HX1.out)
    obtain ⟨d0, d1, d2⟩ := cells3 ((HI.out.2.block g2 (Array.getElem?_eq_some_iff.1 HX2.out).1).trans HX2.out)
    by_cases hlt : (k : Int) < (n : Int)
    · obtain ⟨ad, x, rfl, HX, x0, x1, x2⟩ := (HF.out.below HI.out.2).at3 (k := k) (by omega)
      obtain ⟨ae, y, rfl, HY, y0, y1, y2⟩ := (HF'.out.below HI.out.2).at3 (k := k) (by omega)
      by_cases hxy : x = y
      · have hq := run_neqFo_yes x y hxy
        have HXY := Lib.hid hxy
        clear hxy
        go_upto_region 6 with fail
        go_quiet (fail)
        clear hq x0 x1 x2 y0 y1 y2 c0 c1 c2 d0 d1 d2
        go_wp2
        refine ⟨⟨k + 1, by omega, by go_num, Lib.hid ⟨?_, below_drewN HI.out.2 nq⟩⟩, by simp [intOf]; omega⟩
        obtain ⟨_, e1⟩ := HX.out
        obtain ⟨_, e2⟩ := HY.out
        exact (take_stepG _ _).2 ⟨HI.out.1, by rw [e1, e2, HXY.out]⟩
      · have hq := run_neqFo_no x y hxy
        have HN : Hid (R = false) := Lib.hid (by rw [HR.out]; exact decide_eq_false fun e => ne_of_at HX.out HY.out hxy (by rw [e]))
        clear hxy
        go_upto_region 6 with fail
        go_quiet (fail)
        clear hq x0 x1 x2 y0 y1 y2 c0 c1 c2 d0 d1 d2
        go_wp2
        go_ret
        exact ⟨by rw [HN.out]; rfl, below_drewN (Below.thn HB2.out HI.out.2) nq⟩
    · have HFO : Hid (cf.fo = cg.fo) := Lib.hid (by
        have h := HI.out.1
        have h1 := HLn.out
        rw [List.take_of_length_le (by omega), List.take_of_length_le (by omega)] at h
        exact h)
      have HB3 := Lib.hid HI.out.2
      clear HI
      go_wp2_with fail
      clear c0 c1 c2 d0 d1 d2
      go_loopw [6] (fun x wy => ∃ k : Nat, k ≤ m ∧ x = .int .i64 (k : Nat) ∧ Hid (cf.st.take k = cg.st.take k ∧ Below w2.heap.size w2 wy)) (fun x _ => m - (intOf x).toNat)
      case atStart => exact ⟨0, Nat.zero_le _, rfl, Lib.hid ⟨by simp, HB3.out⟩⟩
      case round =>
        obtain ⟨j, hj, rfl, HI⟩ := hrel
        obtain ⟨c0, c1, c2⟩ := cells3 ((HI.out.2.block g1 (Array.getElem?_eq_some_iff.1 HX1.out).1).trans HX1.out)
        obtain ⟨d0, d1, d2⟩ := cells3 ((HI.out.2.block g2 (Array.getElem?_eq_some_iff.1 HX2.out).1).trans HX2.out)
        by_cases hjl : (j : Int) < (m : Int)
        · obtain ⟨ad, x, rfl, HX, x0⟩ := rdS_at (HT.out.below HI.out.2) (k := j) (by omega)
          obtain ⟨ae, y, rfl, HY, y0⟩ := rdS_at (HT'.out.below HI.out.2) (k := j) (by omega)
          by_cases hxy : x = y
          · have hq : (x.toList == y.toList) = true := by rw [str_eqB]; exact decide_eq_true hxy
            have HXY := Lib.hid hxy
            clear hxy
            go_upto_region 11 with fail
            go_quiet (fail)
            clear hq x0 y0 c0 c1 c2 d0 d1 d2
            go_wp2
            refine ⟨⟨j + 1, by omega, by go_num, Lib.hid ⟨?_, below_drewN HI.out.2 nq⟩⟩, by simp [intOf]; omega⟩
            obtain ⟨_, e1⟩ := HX.out
            obtain ⟨_, e2⟩ := HY.out
            exact (take_stepG _ _).2 ⟨HI.out.1, by rw [e1, e2, HXY.out]⟩
          · have hq : (x.toList == y.toList) = false := by rw [str_eqB]; exact decide_eq_false hxy
            have HN : Hid (R = false) := Lib.hid (by rw [HR.out]; exact decide_eq_false fun e => ne_of_at HX.out HY.out hxy (by rw [e]))
            clear hxy
            go_upto_region 11 with fail
            go_quiet (fail)
            clear hq x0 y0 c0 c1 c2 d0 d1 d2
            go_wp2
            go_ret
            exact ⟨by rw [HN.out]; rfl, below_drewN (Below.thn HB2.out HI.out.2) nq⟩
        · have HN : Hid (R = true) := Lib.hid (by
            rw [HR.out]
            refine decide_eq_true (cf_ext.2 ⟨HFO.out, ?_, ?_⟩)
            · have h := HI.out.1
              have h1 := HLn.out
              rw [List.take_of_length_le (by omega), List.take_of_length_le (by omega)] at h
              exact h
            · rw [← HCP.out, ← HCQ.out]; exact HE1.out)
          go_wp2
          go_ret
          exact ⟨by rw [HN.out]; rfl, Below.thn HB2.out HI.out.2⟩
end Go.Proofs.Ytbmdjmnjbflfeaa
