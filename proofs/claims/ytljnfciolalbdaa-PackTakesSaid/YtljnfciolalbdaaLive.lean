/- The chapter's examples hold. -/
import Derived.Test.YtljnfciolalbdaaRVar
namespace Go.Proofs.Ytljnfciolalbdaa
open Go.RowKit
set_option linter.unusedVariables false
set_option linter.unusedSimpArgs false

theorem BS.lit (w : World) (l : List Nat) (C : Array Value) (n : Nat) (hC : C = (l.map encB).toArray) (hn : l.length = n) (hb : Byt l) (hm : n ≤ 9223372036854775807) :
    BS (w.alloc (.cells C 5)) (.slice (some ⟨w.heap.size, 0, none⟩) n n) l :=
  ⟨_, n, n, rfl, Nat.le_refl _, hm, Rd.new w 5 l C n (0, 0) hC hn hm, hb⟩
theorem byt_of {l : List Nat} (h : l.all (fun c => decide (c < 256)) = true) : Byt l := fun c hc => of_decide_eq_true (List.all_eq_true.1 h c hc)
theorem varL_300 : varL 300 = [172, 2] := by rw [varL_ge (by decide), varL_lt (by decide)]

set_option maxRecDepth 100000 in
set_option maxHeartbeats 1000000 in
theorem live_any (w : World) : Calls Try.prog 11 #[] w fun e w' => e = .returned (.bool true) ∧ Below w.heap.size w w' := by
  have HB0 := Lib.hid ((Below.refl w.heap.size w).alloc (Nat.le_refl _) (.cells #[.int .u8 172, .int .u8 2] 5))
  go_enter Try.func11, Try.ntmps11
  go_wp2_with fail
  refine (Read_bs _ (BS.lit w [172, 2] _ 2 rfl rfl (byt_of (by decide)) (by decide)) (by decide)).mono ?_
  rintro e w1 ⟨g, rfl, hlt, hR, hb⟩
  have HLT := Lib.hid hlt
  have HR := Lib.hid hR
  have HB1 := Lib.hid (HB0.out.trans (hb.mono HB0.out.size))
  clear hb hlt hR
  go_wp2_with fail
  refine (Var_bs 300 _ (BS.nil _) (by decide) (by decide)).mono ?_
  rintro e w2 ⟨r, rfl, hO, hb⟩
  rw [varL_300] at hO
  have HO := Lib.hid hO
  have HB2 := Lib.hid hb
  clear hb hO
  go_wp2_with fail
  have HBl := (Below.refl w2.heap.size w2).alloc (Nat.le_refl _) (.cells #[.int .u8 172, .int .u8 2] 5)
  refine (Same_bs _ (HO.out.bs.below HBl) (BS.lit w2 [172, 2] _ 2 rfl rfl (byt_of (by decide)) (by decide))).mono ?_
  rintro e w3 ⟨rfl, hb⟩
  have HB3 := Lib.hid (HB2.out.trans ((HBl.trans (hb.mono HBl.size)).mono HB2.out.size))
  clear hb HBl
  rw [show decide (cmpL ([] ++ [172, 2]) [172, 2] = 0) = true by decide]
  have HR3 := Lib.hid (HR.out.below HB3.out)
  clear HR HO
  go_wp2_with fail
  refine (RVar_any HR3.out).mono ?_
  rintro e w4 ⟨rfl, hR, hg⟩
  rw [show takeV [172, 2] = (300, 0) by decide] at hR ⊢
  rw [show takeR [172, 2] = [] by decide] at hR
  have HR4 := Lib.hid hR
  have HLG : Hid (w.heap.size ≤ g) := Lib.hid (by have := HLT.out; simp at this; omega)
  have HB4 := Lib.hid (below_grown (HB1.out.trans (HB3.out.mono HB1.out.size)) hg HLG.out)
  clear hR hg HR3 HB3 HB2
  go_wp2_with fail
  refine (End_any HR4.out).mono ?_
  rintro e w5 ⟨rfl, rfl⟩
  rw [show endE [] ((300, 0) : Nat × Int).2 = 0 by decide]
  go_wp2_with fail
  have HBl := ((Below.refl w4.heap.size w4).alloc (Nat.le_refl _) (.cells #[.int .u8 1] 5))
  have HBm := HBl.alloc (by simp) (.cells #[.int .u8 1, .int .u8 0] 5)
  have b1 : BS ((w4.alloc (.cells #[.int .u8 1] 5)).alloc (.cells #[.int .u8 1, .int .u8 0] 5)) (.slice (some ⟨w4.heap.size, 0, none⟩) 1 1) [1] :=
    (BS.lit w4 [1] _ 1 rfl rfl (byt_of (by decide)) (by decide)).below ((Below.refl _ _).alloc (Nat.le_refl _) (.cells #[.int .u8 1, .int .u8 0] 5))
  have b2 : BS ((w4.alloc (.cells #[.int .u8 1] 5)).alloc (.cells #[.int .u8 1, .int .u8 0] 5)) (.slice (some ⟨w4.heap.size + 1, 0, none⟩) 2 2) [1, 0] := by
    have h := BS.lit (w4.alloc (.cells #[.int .u8 1] 5)) [1, 0] #[.int .u8 1, .int .u8 0] 2 rfl rfl (byt_of (by decide)) (by decide)
    rw [show (w4.alloc (.cells #[.int .u8 1] 5)).heap.size = w4.heap.size + 1 by simp] at h
    exact h
  generalize (w4.alloc (.cells #[.int .u8 1] 5)).alloc (.cells #[.int .u8 1, .int .u8 0] 5) = w5 at b1 b2 HBm ⊢
  refine (Compare_bs _ b1 b2).mono ?_
  rintro e w6 ⟨rfl, hb⟩
  have HB6 := Lib.hid (HB4.out.trans ((HBm.trans (hb.mono HBm.size)).mono HB4.out.size))
  clear hb HBm HBl b1 b2
  rw [show cmpL [1] [1, 0] = -1 by decide]
  go_wp2
  go_ret
  exact ⟨rfl, HB6.out⟩
end Go.Proofs.Ytljnfciolalbdaa
