/- Join: one behind the other. -/
import Derived.Test.YtmonlookmnlgnaaGrown
import Derived.Test.YtmonlookmnlgnaaRVar
namespace Go.Proofs.Ytmonlookmnlgnaa
open Go.RowKit
set_option linter.unusedVariables false
set_option linter.unusedSimpArgs false

set_option maxRecDepth 100000 in
set_option maxHeartbeats 1000000 in
theorem Join_bs {va vb : Value} {a b : List Nat} (w : World) (ha : BS w va a) (hb : BS w vb b) (hn : a.length + b.length ≤ 70368744177664) :
    Calls Try.prog 36 #[va, vb] w fun e w' => ∃ r, e = .returned r ∧ OwnB w' w.heap.size r (a ++ b) ∧ Below w.heap.size w w' := by
  obtain ⟨A, n, c, rfl, _, _, h1⟩ := ha
  obtain ⟨B, m, c', rfl, _, _, h2⟩ := hb
  have H1 := Lib.hid h1
  have H2 := Lib.hid h2
  have hla := h1.len
  have hlb := h2.len
  have HB0 := (Below.refl w.heap.size w).alloc (Nat.le_refl _) (.cells #[] 5)
  have HO : OwnL encB 5 (w.alloc (.cells #[] 5)) w.heap.size (.slice (some ⟨w.heap.size, 0, none⟩) 0 0) [] := OwnL.lit w w.heap.size 5 [] _ 0 rfl rfl (Nat.le_refl _) (by decide)
  obtain ⟨v1, w1, r1, o1, g1, at1⟩ := run_append_rd (P := Try.prog) (c := c) w.heap.size 23 23 5 (.int .u8 0) 1 Try.underlying23 infoB rfl (by decide) encB_one HO (h1.rd.below HB0) (by simp; omega) (by simp)
  have HB1 : Below w.heap.size w w1 := HB0.grown g1 HB0.size (fun k hk => (HO.base k hk).1)
  obtain ⟨v2, w2, r2, o2, g2, at2⟩ := run_append_rd (P := Try.prog) (c := c') w.heap.size 23 23 5 (.int .u8 0) 1 Try.underlying23 infoB rfl (by decide) encB_one o1 (h2.rd.below HB1) (by simp; omega) HB1.size
  have HB2 : Below w.heap.size w w2 := HB1.grown g2 HB1.size (fun k hk => (o1.base k hk).1)
  have HX : Hid (OwnB w2 w.heap.size v2 (a ++ b) ∧ Below w.heap.size w w2) := Lib.hid ⟨⟨by simpa using o2, h1.byt.append h2.byt⟩, HB2⟩
  clear h1 h2 hla hlb HB0 HO o1 g1 at1 HB1 o2 g2 at2 HB2 hn
  go_enter Try.func36, Try.ntmps36
  go_wp2_with (first | (at_builtin; refine wpl_append_run rfl _ _ _ rfl rfl rfl r1 ?_) | (at_builtin; refine wpl_append_run rfl _ _ _ rfl rfl rfl r2 ?_))
  go_ret
  exact ⟨_, rfl, HX.out.1, HX.out.2⟩
end Go.Proofs.Ytmonlookmnlgnaa
