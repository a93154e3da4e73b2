/- Are two postings the same? -/
import Derived.BigQuiet
import Derived.WalkKit
import Derived.Test.YtaaddckhldccjaaPost
namespace Go.Proofs.Ytaaddckhldccjaa
open Go.RowKit
set_option linter.unusedVariables false
set_option linter.unusedSimpArgs false

theorem take_stepG {α : Type} {a b : List α} {k : Nat} (h1 : k < a.length) (h2 : k < b.length) : (a.take (k + 1) = b.take (k + 1)) ↔ (a.take k = b.take k ∧ a[k] = b[k]) := by
  rw [List.take_succ_eq_append_getElem h1, List.take_succ_eq_append_getElem h2]
  constructor
  · intro h
    have := List.append_inj h (by simp; omega)
    exact ⟨this.1, by simpa using this.2⟩
  · rintro ⟨h1, h2⟩
    rw [h1, h2]
theorem ne_of_at {α : Type} {a b : List α} {k : Nat} {x y : α} (h1 : ∃ h : k < a.length, a[k] = x) (h2 : ∃ h : k < b.length, b[k] = y) (h : x ≠ y) : a ≠ b := by
  rintro rfl
  obtain ⟨_, h1⟩ := h1
  obtain ⟨_, h2⟩ := h2
  exact h (h1.symm.trans h2)
set_option maxRecDepth 100000 in
set_option maxHeartbeats 4000000 in
theorem refSame_pv (va vb : Value) (p q : Po) (w : World) (h1 : PV w va p) (h2 : PV w vb q) :
    Calls Try.prog 40 #[va, vb] w fun e w' => e = .returned (.bool (decide (p = q))) ∧ Below w.heap.size w w' := by
  obtain ⟨u1, rfl, ⟨A, n, c, rfl, hnc, hc, ha⟩, hd1⟩ := h1
  obtain ⟨u2, rfl, ⟨B, m, d, rfl, hmd, hd, hb⟩, hd2⟩ := h2
  obtain ⟨x, a⟩ := p
  obtain ⟨y, b⟩ := q
  simp only at ha hb hd1 hd2 ⊢
  obtain ⟨R, hR⟩ : ∃ R, R = decide ((x, a) = (y, b)) := ⟨_, rfl⟩
  rw [← hR]
  have HR := Lib.hid hR
  have hn := ha.max
  have hm := hb.max
  have HLa := Lib.hid ha.len
  have HLb := Lib.hid hb.len
  obtain ⟨W, hW⟩ : ∃ W, W = (w.alloc (.cells #[.int .u32 (x : Nat), .slice A n c] 32)).alloc (.cells #[.int .u32 (y : Nat), .slice B m d] 32) := ⟨_, rfl⟩
  have hbw : Below w.heap.size w W := by rw [hW]; exact ((Below.refl _ _).alloc (Nat.le_refl _) _).alloc (by simp) _
  have hb2 : Box2 W (w.heap.size + 1) 32 (.int .u32 (y : Nat)) (.slice B m d) := by
    have := Box2.new (w.alloc (.cells #[.int .u32 (x : Nat), .slice A n c] 32)) 32 (.int .u32 (y : Nat)) (.slice B m d)
    rw [hW]
    simpa using this
  have hb1 : Box2 W w.heap.size 32 (.int .u32 (x : Nat)) (.slice A n c) := by
    have := (Box2.new w 32 (.int .u32 (x : Nat)) (.slice A n c)).kept (World.grownBy_alloc _ (.cells #[.int .u32 (y : Nat), .slice B m d] 32) none) (by simp)
    rw [hW]
    exact this
  have HA := Lib.hid (ha.below hbw)
  have HB := Lib.hid (hb.below hbw)
  have HW := Lib.hid hbw
  obtain ⟨c0, c1, _, _⟩ := hb1.facts
  obtain ⟨e0, e1, _, _⟩ := hb2.facts
  have hx' : x ≤ 4294967295 := by omega
  have hy' : y ≤ 4294967295 := by omega
  clear ha hb hR hbw hb1 hb2 hd1 hd2
  obtain ⟨g, hg⟩ : ∃ g, g = w.heap.size := ⟨_, rfl⟩
  go_enter Try.func40, Try.ntmps40
  by_cases hxy : x = y
  · subst hxy
    by_cases hnm : n = m
    · subst hnm
      have g0 : ((n : Int) != (n : Int)) = false := by simp
      have g1 : ((x : Int) != (x : Int)) = false := by simp
      go_wp2_with fail
      rw [← hW]
      have HC := Lib.hid (And.intro c1 e1)
      rw [← hg] at HC c0 c1 e0 e1 ⊢
      clear hW c0 c1 e0 e1 hg
      go_loopw [5] (fun x5 wr => ∃ k : Nat, k ≤ n ∧ x5 = .int .i64 k ∧ Hid (a.take k = b.take k ∧ Below W.heap.size W wr)) (fun x5 _ => n - (intOf x5).toNat)
      case atStart => exact ⟨0, by omega, rfl, Lib.hid ⟨by simp, Below.refl _ _⟩⟩
      case round =>
        obtain ⟨k, hk, rfl, HI⟩ := hrel
        have c1 := cell_keep HI.out.2 HC.out.1
        have e1 := cell_keep HI.out.2 HC.out.2
        by_cases hlt : (k : Int) < (n : Int)
        · obtain ⟨ad, s, rfl, HX, x0⟩ := rdI_at (HA.out.below HI.out.2) (k := k) (by omega)
          obtain ⟨ae, t, rfl, HY, y0⟩ := rdI_at (HB.out.below HI.out.2) (k := k) (by omega)
          by_cases hxy : s = t
          · subst hxy
            go_upto_region 6 with fail
            go_quiet (fail)
            clear x0 y0 c1 e1
            go_wp2
            refine ⟨⟨k + 1, by omega, by go_num, Lib.hid ⟨?_, below_drewN HI.out.2 nq⟩⟩, by simp [intOf]; omega⟩
            obtain ⟨_, e1⟩ := HX.out
            obtain ⟨_, e2⟩ := HY.out
            exact (take_stepG _ _).2 ⟨HI.out.1, by rw [e1, e2]⟩
          · have HF : Hid (R = false) := Lib.hid (by rw [HR.out]; exact decide_eq_false fun e => ne_of_at HX.out HY.out hxy (by cases e; rfl))
            have q1 : (s == t) = false := by simp [hxy]
            have q2 : (s != t) = true := by simp [hxy]
            go_upto_region 6 with fail
            go_quiet (fail)
            clear x0 y0 c1 e1
            go_wp2
            go_ret
            exact ⟨by rw [HF.out]; rfl, Below.thn HW.out (below_drewN HI.out.2 nq)⟩
        · have HT : Hid (R = true) := Lib.hid (by
            rw [HR.out]
            have h := HI.out.1
            have h1 := HLa.out
            have h2 := HLb.out
            rw [List.take_of_length_le (by omega), List.take_of_length_le (by omega)] at h
            exact decide_eq_true (by rw [h]))
          go_wp2
          go_ret
          exact ⟨by rw [HT.out]; rfl, Below.thn HW.out HI.out.2⟩
    · have g0 : ((n : Int) == (m : Int)) = false := by simp; omega
      have g1 : ((n : Int) != (m : Int)) = true := by simp; omega
      have HF : Hid (R = false) := Lib.hid (by
        rw [HR.out]
        refine decide_eq_false fun e => hnm ?_
        cases e
        rw [← HLa.out, ← HLb.out])
      go_wp2_with fail
      rw [← hW]
      clear hnm
      go_wp2
      go_ret
      exact ⟨by rw [HF.out]; rfl, HW.out⟩

  · have g0 : ((x : Int) == (y : Int)) = false := by simp; omega
    have g1 : ((x : Int) != (y : Int)) = true := by simp; omega
    have HF : Hid (R = false) := Lib.hid (by rw [HR.out]; exact decide_eq_false fun e => hxy (by cases e; rfl))
    go_wp2_with fail
    rw [← hW]
    clear hxy
    go_wp2
    go_ret
    exact ⟨by rw [HF.out]; rfl, HW.out⟩

end Go.Proofs.Ytaaddckhldccjaa
