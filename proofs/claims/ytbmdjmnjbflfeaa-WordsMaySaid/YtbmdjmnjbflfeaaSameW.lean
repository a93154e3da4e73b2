/- Whether two ways are the same. -/
import Derived.Test.YtbmdjmnjbflfeaaParW
import Derived.Test.YtbmdjmnjbflfeaaTermsLaw
import Derived.BigQuiet
namespace Go.Proofs.Ytbmdjmnjbflfeaa
open Go.RowKit Go.Shelf
set_option linter.unusedVariables false
set_option linter.unusedSimpArgs false

theorem cf_ext {a b : Cf} : a = b ↔ (a.fo = b.fo ∧ a.st = b.st ∧ a.cap = b.cap) := by
  obtain ⟨a1, a2, a3⟩ := a
  obtain ⟨b1, b2, b3⟩ := b
  simp
instance cfDec : DecidableEq Cf := fun a b => decidable_of_iff (a.fo = b.fo ∧ a.st = b.st ∧ a.cap = b.cap) cf_ext.symm
set_option maxRecDepth 100000 in
set_option maxHeartbeats 4000000 in
theorem SameW_any (A : Option Addr) (n c : Nat) (B : Option Addr) (m d : Nat) (cf : Cf) (A' : Option Addr) (n' c' : Nat) (B' : Option Addr) (m' d' : Nat) (cg : Cf) (w : World) (h : RdC w A n c B m d cf) (h' : RdC w A' n' c' B' m' d' cg) :
    Calls Try.prog 26 #[confV A n c B m d cf.cap, confV A' n' c' B' m' d' cg.cap] w fun e w' => e = .returned (.bool (decide (cf = cg))) ∧ Below w.heap.size w w' := by
  obtain ⟨R, hR⟩ : ∃ R, R = decide (cf = cg) := ⟨_, rfl⟩
  obtain ⟨cp, hcp⟩ : ∃ cp, cp = cf.cap := ⟨_, rfl⟩
  obtain ⟨cq, hcq⟩ : ∃ cq, cq = cg.cap := ⟨_, rfl⟩
  rw [← hR, ← hcp, ← hcq]
  have hb1 : Below w.heap.size w (w.alloc (.cells #[.slice A n c, .slice B m d, .int .i64 cp] 25)) := (Below.refl _ _).alloc (Nat.le_refl _) _
  obtain ⟨w1, hw1⟩ : ∃ w1, w1 = w.alloc (.cells #[.slice A n c, .slice B m d, .int .i64 cp] 25) := ⟨_, rfl⟩
  have hx1 := World.alloc_heap_new w (.cells #[.slice A n c, .slice B m d, .int .i64 cp] 25)
  rw [← hw1] at hb1 hx1
  have hb2' : Below w1.heap.size w1 (w1.alloc (.cells #[.slice A' n' c', .slice B' m' d', .int .i64 cq] 25)) := (Below.refl _ _).alloc (Nat.le_refl _) _
  have hx2 := World.alloc_heap_new w1 (.cells #[.slice A' n' c', .slice B' m' d', .int .i64 cq] 25)
  obtain ⟨w2, hw2⟩ : ∃ w2, w2 = w1.alloc (.cells #[.slice A' n' c', .slice B' m' d', .int .i64 cq] 25) := ⟨_, rfl⟩
  rw [← hw2] at hb2' hx2
  obtain ⟨g1, hg1⟩ : ∃ g1, g1 = w.heap.size := ⟨_, rfl⟩
  obtain ⟨g2, hg2⟩ : ∃ g2, g2 = w1.heap.size := ⟨_, rfl⟩
  rw [← hg1] at hx1
  rw [← hg2] at hx2
  have hx1' : w2.heap[g1]? = some (.cells #[.slice A n c, .slice B m d, .int .i64 cp] 25 (0, 0)) := (hb2'.block g1 (Array.getElem?_eq_some_iff.1 hx1).1).trans hx1
  have HB2 : Hid (Below w.heap.size w w2) := Lib.hid (Below.thn hb1 hb2')
  have HX1 := Lib.hid hx1'
  have HX2 := Lib.hid hx2
  have C1 := Lib.hid (equalF_any A A' n n' c c' cf.fo cg.fo w2 (h.fo.below HB2.out).k (h'.fo.below HB2.out).k)
  have C2 : Hid (∀ w9, Below w.heap.size w w9 → Calls Try.prog 33 #[.slice B m d, .slice B' m' d'] w9 fun e w' => e = .returned (.bool (decide (cf.st = cg.st))) ∧ Below w9.heap.size w9 w') := Lib.hid fun w9 h9 => equalS_any B B' m m' d d' cf.st cg.st w9 (h.st.below h9) (h'.st.below h9)
  obtain ⟨x, hx⟩ : ∃ x, x = decide (cf.fo = cg.fo) := ⟨_, rfl⟩
  obtain ⟨y, hy⟩ : ∃ y, y = decide (cf.st = cg.st) := ⟨_, rfl⟩
  obtain ⟨z, hz⟩ : ∃ z, z = decide (cp = cq) := ⟨_, rfl⟩
  have hzz : (cp == cq) = z := by rw [hz]; exact Bool.beq_eq_decide_eq cp cq
  have HR : Hid (R = (x && (y && z))) := Lib.hid (by
    rw [hR, hx, hy, hz, hcp, hcq]
    by_cases h1 : cf.fo = cg.fo <;> by_cases h2 : cf.st = cg.st <;> by_cases h3 : cf.cap = cg.cap <;> simp [cf_ext, h1, h2, h3])
  rw [← hx] at C1
  rw [← hy] at C2
  have HW1 := Lib.hid hw1
  have HW2 := Lib.hid hw2
  have HG1 := Lib.hid hg1
  have HG2 : Hid (g2 = w.heap.size + 1) := Lib.hid (by rw [hg2, hw1]; simp)
  obtain ⟨c0, c1, c2⟩ := cells3 hx1'
  obtain ⟨d0, d1, d2⟩ := cells3 hx2
  rw [hw2, hw1, hg1] at c0 c1 c2
  rw [hw2, hw1, hg2, hw1] at d0 d1 d2
  clear h h' hb1 hb2' hx1 hx2 hx1' hR hx hy hz hw1 hw2 hg1 hg2 hcp hcq
  go_enter Try.func26, Try.ntmps26
  go_wp2_with fail
  rw [← HW1.out, ← HW2.out, ← HG2.out, ← HG1.out]
  clear c0 c1 c2 d0 d1 d2
  refine C1.out.mono ?_
  rintro e w3 ⟨rfl, hb⟩
  have HB3 := Lib.hid (Below.thn HB2.out hb)
  obtain ⟨c0, c1, c2⟩ := cells3 ((hb.block g1 (Array.getElem?_eq_some_iff.1 HX1.out).1).trans HX1.out)
  obtain ⟨d0, d1, d2⟩ := cells3 ((hb.block g2 (Array.getElem?_eq_some_iff.1 HX2.out).1).trans HX2.out)
  have HX1' := Lib.hid ((hb.block g1 (Array.getElem?_eq_some_iff.1 HX1.out).1).trans HX1.out)
  have HX2' := Lib.hid ((hb.block g2 (Array.getElem?_eq_some_iff.1 HX2.out).1).trans HX2.out)
  clear hb C1 HW1 HW2
  cases x
  case false =>
    have HN : Hid (R = false) := Lib.hid (by rw [HR.out]; rfl)
    go_wp2
    go_ret
    exact ⟨by rw [HN.out]; rfl, HB3.out⟩
  have C3 := Lib.hid (C2.out w3 HB3.out)
  clear C2
  go_wp2_with fail
  refine C3.out.mono ?_
  rintro e w4 ⟨rfl, hb⟩
  have HB4 := Lib.hid (Below.thn HB3.out hb)
  clear c0 c1 c2 d0 d1 d2
  obtain ⟨c0, c1, c2⟩ := cells3 ((hb.block g1 (Array.getElem?_eq_some_iff.1 HX1'.out).1).trans HX1'.out)
  obtain ⟨d0, d1, d2⟩ := cells3 ((hb.block g2 (Array.getElem?_eq_some_iff.1 HX2'.out).1).trans HX2'.out)
  clear hb C3
  cases y
  case false =>
    have HN : Hid (R = false) := Lib.hid (by rw [HR.out]; rfl)
    go_wp2
    go_ret
    exact ⟨by rw [HN.out]; rfl, HB4.out⟩
  have HN : Hid (R = z) := Lib.hid (by rw [HR.out]; simp)
  go_wp2
  go_ret
  exact ⟨by rw [HN.out]; rfl, HB4.out⟩
end Go.Proofs.Ytbmdjmnjbflfeaa
