/- ListAlgebra. -/
import Derived.Test.YtaaddckhldccjaaSets
import Derived.Laws.BitsAllLaws
namespace Go.Proofs.Ytaaddckhldccjaa
open Go.RowKit
set_option linter.unusedVariables false
set_option linter.unusedSimpArgs false

theorem same_uv (x y : UV) (w : World) (hx : x.ok w) (hy : y.ok w) (h : x.l = y.l) :
    Calls Try.prog 29 #[.slice x.A x.n x.c, .int .i64 0, .slice y.A y.n y.c] w fun e w' => e = .returned (.bool true) ∧ Below w.heap.size w w' := by
  have C := Lib.hid (equal_uv x y w hx hy)
  rw [decide_eq_true h] at C
  clear hx hy h
  go_enter Try.func29, Try.ntmps29
  go_wp2_with fail
  refine C.out.mono ?_
  rintro e w1 ⟨rfl, hb⟩
  have HB := Lib.hid hb
  clear C hb
  go_wp2
  go_ret
  exact ⟨rfl, HB.out⟩
set_option maxRecDepth 100000 in
set_option maxHeartbeats 8000000 in
theorem Algebra_any (z x y : UV) (w : World) (hz : z.ok w) (hx : x.ok w) (hy : y.ok w) :
    Calls Try.prog 6 #[.slice z.A z.n z.c, .slice x.A x.n x.c, .slice y.A y.n y.c] w fun e w' => e = .returned (.bool true) ∧ Below w.heap.size w w' := by
  have OX := Lib.hid hx
  have OY := Lib.hid hy
  have OZ := Lib.hid hz
  have HB := Lib.hid (Below.refl w.heap.size w)
  clear hx hy hz
  go_enter Try.func6, Try.ntmps6
  have C := Lib.hid (live_any w)
  go_wp2_with fail
  refine C.out.mono ?_
  rintro e w1 ⟨rfl, hb⟩
  replace HB := Lib.hid (Below.thn HB.out hb)
  replace OX := Lib.hid (OX.out.below hb)
  replace OY := Lib.hid (OY.out.below hb)
  replace OZ := Lib.hid (OZ.out.below hb)
  clear C hb 
  have C := Lib.hid (few_lit [z, x, y] #[.slice z.A z.n z.c, .slice x.A x.n x.c, .slice y.A y.n y.c] 3 w1 rfl rfl (by decide) (ok_3 OZ.out OX.out OY.out))
  go_wp2_with fail
  refine C.out.mono ?_
  rintro e w2 ⟨rfl, hb⟩
  replace HB := Lib.hid (Below.thn HB.out hb)
  replace OX := Lib.hid (OX.out.below hb)
  replace OY := Lib.hid (OY.out.below hb)
  replace OZ := Lib.hid (OZ.out.below hb)
  clear C hb 
  by_cases hu : fewB [z, x, y] = true
  case neg =>
    rw [Bool.not_eq_true] at hu
    rw [hu]
    clear hu
    have C9 := Lib.hid (live_any w2)
    go_wp2_with fail
    refine C9.out.mono ?_
    rintro e w99 ⟨rfl, hb⟩
    replace HB := Lib.hid (Below.thn HB.out hb)
    clear hb C9
    go_wp2
    go_ret
    exact ⟨rfl, HB.out⟩
  rw [hu]
  have HF := Lib.hid (few_3 OZ.out OX.out OY.out hu)
  clear hu
  have C := Lib.hid (check_uv z w2 OZ.out)
  go_wp2_with fail
  refine C.out.mono ?_
  rintro e w3 ⟨rfl, hb⟩
  replace HB := Lib.hid (Below.thn HB.out hb)
  replace OX := Lib.hid (OX.out.below hb)
  replace OY := Lib.hid (OY.out.below hb)
  replace OZ := Lib.hid (OZ.out.below hb)
  clear C hb 
  by_cases hu : Up z.l
  case neg =>
    rw [upE_no hu]
    clear hu
    have C9 := Lib.hid (live_any w3)
    go_wp2_with fail
    refine C9.out.mono ?_
    rintro e w99 ⟨rfl, hb⟩
    replace HB := Lib.hid (Below.thn HB.out hb)
    clear hb C9
    go_wp2
    go_ret
    exact ⟨rfl, HB.out⟩
  rw [upE_yes hu]
  have UZ := Lib.hid hu
  clear hu
  have C := Lib.hid (check_uv x w3 OX.out)
  go_wp2_with fail
  refine C.out.mono ?_
  rintro e w4 ⟨rfl, hb⟩
  replace HB := Lib.hid (Below.thn HB.out hb)
  replace OX := Lib.hid (OX.out.below hb)
  replace OY := Lib.hid (OY.out.below hb)
  replace OZ := Lib.hid (OZ.out.below hb)
  clear C hb 
  by_cases hu : Up x.l
  case neg =>
    rw [upE_no hu]
    clear hu
    have C9 := Lib.hid (live_any w4)
    go_wp2_with fail
    refine C9.out.mono ?_
    rintro e w99 ⟨rfl, hb⟩
    replace HB := Lib.hid (Below.thn HB.out hb)
    clear hb C9
    go_wp2
    go_ret
    exact ⟨rfl, HB.out⟩
  rw [upE_yes hu]
  have UX := Lib.hid hu
  clear hu
  have C := Lib.hid (check_uv y w4 OY.out)
  go_wp2_with fail
  refine C.out.mono ?_
  rintro e w5 ⟨rfl, hb⟩
  replace HB := Lib.hid (Below.thn HB.out hb)
  replace OX := Lib.hid (OX.out.below hb)
  replace OY := Lib.hid (OY.out.below hb)
  replace OZ := Lib.hid (OZ.out.below hb)
  clear C hb 
  by_cases hu : Up y.l
  case neg =>
    rw [upE_no hu]
    clear hu
    have C9 := Lib.hid (live_any w5)
    go_wp2_with fail
    refine C9.out.mono ?_
    rintro e w99 ⟨rfl, hb⟩
    replace HB := Lib.hid (Below.thn HB.out hb)
    clear hb C9
    go_wp2
    go_ret
    exact ⟨rfl, HB.out⟩
  rw [upE_yes hu]
  have UY := Lib.hid hu
  clear hu
  have HLX : Hid (x.l.length ≤ 1000) := Lib.hid (Nat.le_trans HF.out.2.1 (by decide))
  have HLY : Hid (y.l.length ≤ 1000) := Lib.hid (Nat.le_trans HF.out.2.2 (by decide))
  have HLZ : Hid (z.l.length ≤ 1000) := Lib.hid (Nat.le_trans HF.out.1 (by decide))
  have C := Lib.hid (And_lit [x, y] #[.slice x.A x.n x.c, .slice y.A y.n y.c] 2 w5 rfl rfl (ok_2 OX.out OY.out) (small_2 HLX.out HLY.out))
  rw [allE_yes (allUp_2 UX.out UY.out)] at C
  go_wp2_with fail
  refine C.out.mono ?_
  rintro e w6 ⟨a, rfl, ⟨hno, _⟩, hnr, hb⟩
  replace HB := Lib.hid (Below.thn HB.out hb)
  replace OX := Lib.hid (OX.out.below hb)
  replace OY := Lib.hid (OY.out.below hb)
  replace OZ := Lib.hid (OZ.out.below hb)
  have HA := Lib.hid (and_2 UX.out UY.out hnr)
  have OA := Lib.hid hno
  clear C hb hno hnr
  have C := Lib.hid (Or_lit [x, y] #[.slice x.A x.n x.c, .slice y.A y.n y.c] 2 w6 rfl rfl (ok_2 OX.out OY.out) (small_2 HLX.out HLY.out))
  rw [allE_yes (allUp_2 UX.out UY.out)] at C
  go_wp2_with fail
  refine C.out.mono ?_
  rintro e w7 ⟨o, rfl, ⟨hno, _⟩, hnr, hb⟩
  replace HB := Lib.hid (Below.thn HB.out hb)
  replace OX := Lib.hid (OX.out.below hb)
  replace OY := Lib.hid (OY.out.below hb)
  replace OZ := Lib.hid (OZ.out.below hb)
  replace OA := Lib.hid (OA.out.below hb)
  have HO := Lib.hid (or_2 UX.out UY.out hnr)
  have OO := Lib.hid hno
  clear C hb hno hnr
  have C := Lib.hid (And_lit [y, x, y] #[.slice y.A y.n y.c, .slice x.A x.n x.c, .slice y.A y.n y.c] 3 w7 rfl rfl (ok_3 OY.out OX.out OY.out) (small_3 HLY.out HLX.out HLY.out))
  rw [allE_yes (allUp_3 UY.out UX.out UY.out)] at C
  go_wp2_with fail
  refine C.out.mono ?_
  rintro e w8 ⟨x1, rfl, ⟨hno, _⟩, hnr, hb⟩
  replace HB := Lib.hid (Below.thn HB.out hb)
  replace OX := Lib.hid (OX.out.below hb)
  replace OY := Lib.hid (OY.out.below hb)
  replace OZ := Lib.hid (OZ.out.below hb)
  replace OA := Lib.hid (OA.out.below hb)
  replace OO := Lib.hid (OO.out.below hb)
  have HX1 := Lib.hid (and_3 UY.out UX.out UY.out hnr)
  have OX1 := Lib.hid hno
  clear C hb hno hnr
  have C := Lib.hid (Or_lit [y, x, x] #[.slice y.A y.n y.c, .slice x.A x.n x.c, .slice x.A x.n x.c] 3 w8 rfl rfl (ok_3 OY.out OX.out OX.out) (small_3 HLY.out HLX.out HLX.out))
  rw [allE_yes (allUp_3 UY.out UX.out UX.out)] at C
  go_wp2_with fail
  refine C.out.mono ?_
  rintro e w9 ⟨x2, rfl, ⟨hno, _⟩, hnr, hb⟩
  replace HB := Lib.hid (Below.thn HB.out hb)
  replace OX := Lib.hid (OX.out.below hb)
  replace OY := Lib.hid (OY.out.below hb)
  replace OZ := Lib.hid (OZ.out.below hb)
  replace OA := Lib.hid (OA.out.below hb)
  replace OO := Lib.hid (OO.out.below hb)
  replace OX1 := Lib.hid (OX1.out.below hb)
  have HX2 := Lib.hid (or_3 UY.out UX.out UX.out hnr)
  have OX2 := Lib.hid hno
  clear C hb hno hnr
  have C := Lib.hid (same_uv x1 a w9 OX1.out OA.out (up_ext HX1.out.1 HA.out.1 fun d => by rw [HX1.out.2 d, HA.out.2.1 d]; grind))
  go_wp2_with fail
  refine C.out.mono ?_
  rintro e w10 ⟨rfl, hb⟩
  replace HB := Lib.hid (Below.thn HB.out hb)
  replace OX := Lib.hid (OX.out.below hb)
  replace OY := Lib.hid (OY.out.below hb)
  replace OZ := Lib.hid (OZ.out.below hb)
  replace OA := Lib.hid (OA.out.below hb)
  replace OO := Lib.hid (OO.out.below hb)
  replace OX1 := Lib.hid (OX1.out.below hb)
  replace OX2 := Lib.hid (OX2.out.below hb)
  clear C hb 
  have C := Lib.hid (same_uv x2 o w10 OX2.out OO.out (up_ext HX2.out.1 HO.out.1 fun d => by rw [HX2.out.2 d, HO.out.2 d]; grind))
  go_wp2_with fail
  refine C.out.mono ?_
  rintro e w11 ⟨rfl, hb⟩
  replace HB := Lib.hid (Below.thn HB.out hb)
  replace OX := Lib.hid (OX.out.below hb)
  replace OY := Lib.hid (OY.out.below hb)
  replace OZ := Lib.hid (OZ.out.below hb)
  replace OA := Lib.hid (OA.out.below hb)
  replace OO := Lib.hid (OO.out.below hb)
  replace OX1 := Lib.hid (OX1.out.below hb)
  replace OX2 := Lib.hid (OX2.out.below hb)
  clear C hb 
  have C := Lib.hid (Not_uv z x w11 OZ.out OX.out HLZ.out)
  rw [notE_yes UZ.out UX.out] at C
  go_wp2_with fail
  refine C.out.mono ?_
  rintro e w12 ⟨na, rfl, ⟨hno, _⟩, hnr, hb⟩
  replace HB := Lib.hid (Below.thn HB.out hb)
  replace OX := Lib.hid (OX.out.below hb)
  replace OY := Lib.hid (OY.out.below hb)
  replace OZ := Lib.hid (OZ.out.below hb)
  replace OA := Lib.hid (OA.out.below hb)
  replace OO := Lib.hid (OO.out.below hb)
  replace OX1 := Lib.hid (OX1.out.below hb)
  replace OX2 := Lib.hid (OX2.out.below hb)
  have HNA := Lib.hid (not_2 UZ.out UX.out hnr)
  have ONA := Lib.hid hno
  clear C hb hno hnr
  have C := Lib.hid (Not_uv z y w12 OZ.out OY.out HLZ.out)
  rw [notE_yes UZ.out UY.out] at C
  go_wp2_with fail
  refine C.out.mono ?_
  rintro e w13 ⟨nb, rfl, ⟨hno, _⟩, hnr, hb⟩
  replace HB := Lib.hid (Below.thn HB.out hb)
  replace OX := Lib.hid (OX.out.below hb)
  replace OY := Lib.hid (OY.out.below hb)
  replace OZ := Lib.hid (OZ.out.below hb)
  replace OA := Lib.hid (OA.out.below hb)
  replace OO := Lib.hid (OO.out.below hb)
  replace OX1 := Lib.hid (OX1.out.below hb)
  replace OX2 := Lib.hid (OX2.out.below hb)
  replace ONA := Lib.hid (ONA.out.below hb)
  have HNB := Lib.hid (not_2 UZ.out UY.out hnr)
  have ONB := Lib.hid hno
  clear C hb hno hnr
  have C := Lib.hid (Not_uv z a w13 OZ.out OA.out HLZ.out)
  rw [notE_yes UZ.out HA.out.1] at C
  go_wp2_with fail
  refine C.out.mono ?_
  rintro e w14 ⟨nd, rfl, ⟨hno, _⟩, hnr, hb⟩
  replace HB := Lib.hid (Below.thn HB.out hb)
  replace OX := Lib.hid (OX.out.below hb)
  replace OY := Lib.hid (OY.out.below hb)
  replace OZ := Lib.hid (OZ.out.below hb)
  replace OA := Lib.hid (OA.out.below hb)
  replace OO := Lib.hid (OO.out.below hb)
  replace OX1 := Lib.hid (OX1.out.below hb)
  replace OX2 := Lib.hid (OX2.out.below hb)
  replace ONA := Lib.hid (ONA.out.below hb)
  replace ONB := Lib.hid (ONB.out.below hb)
  have HND := Lib.hid (not_2 UZ.out HA.out.1 hnr)
  have OND := Lib.hid hno
  clear C hb hno hnr
  have C := Lib.hid (Not_uv z o w14 OZ.out OO.out HLZ.out)
  rw [notE_yes UZ.out HO.out.1] at C
  go_wp2_with fail
  refine C.out.mono ?_
  rintro e w15 ⟨nr, rfl, ⟨hno, _⟩, hnr, hb⟩
  replace HB := Lib.hid (Below.thn HB.out hb)
  replace OX := Lib.hid (OX.out.below hb)
  replace OY := Lib.hid (OY.out.below hb)
  replace OZ := Lib.hid (OZ.out.below hb)
  replace OA := Lib.hid (OA.out.below hb)
  replace OO := Lib.hid (OO.out.below hb)
  replace OX1 := Lib.hid (OX1.out.below hb)
  replace OX2 := Lib.hid (OX2.out.below hb)
  replace ONA := Lib.hid (ONA.out.below hb)
  replace ONB := Lib.hid (ONB.out.below hb)
  replace OND := Lib.hid (OND.out.below hb)
  have HNR := Lib.hid (not_2 UZ.out HO.out.1 hnr)
  have ONR := Lib.hid hno
  clear C hb hno hnr
  have HLA : Hid (na.l.length ≤ 1000) := Lib.hid (Nat.le_trans HNA.out.2.2 HLZ.out)
  have HLB : Hid (nb.l.length ≤ 1000) := Lib.hid (Nat.le_trans HNB.out.2.2 HLZ.out)
  have C := Lib.hid (Or_lit [na, nb] #[.slice na.A na.n na.c, .slice nb.A nb.n nb.c] 2 w15 rfl rfl (ok_2 ONA.out ONB.out) (small_2 HLA.out HLB.out))
  rw [allE_yes (allUp_2 HNA.out.1 HNB.out.1)] at C
  go_wp2_with fail
  refine C.out.mono ?_
  rintro e w16 ⟨x3, rfl, ⟨hno, _⟩, hnr, hb⟩
  replace HB := Lib.hid (Below.thn HB.out hb)
  replace OX := Lib.hid (OX.out.below hb)
  replace OY := Lib.hid (OY.out.below hb)
  replace OZ := Lib.hid (OZ.out.below hb)
  replace OA := Lib.hid (OA.out.below hb)
  replace OO := Lib.hid (OO.out.below hb)
  replace OX1 := Lib.hid (OX1.out.below hb)
  replace OX2 := Lib.hid (OX2.out.below hb)
  replace ONA := Lib.hid (ONA.out.below hb)
  replace ONB := Lib.hid (ONB.out.below hb)
  replace OND := Lib.hid (OND.out.below hb)
  replace ONR := Lib.hid (ONR.out.below hb)
  have HX3 := Lib.hid (or_2 HNA.out.1 HNB.out.1 hnr)
  have OX3 := Lib.hid hno
  clear C hb hno hnr
  have C := Lib.hid (And_lit [na, nb] #[.slice na.A na.n na.c, .slice nb.A nb.n nb.c] 2 w16 rfl rfl (ok_2 ONA.out ONB.out) (small_2 HLA.out HLB.out))
  rw [allE_yes (allUp_2 HNA.out.1 HNB.out.1)] at C
  go_wp2_with fail
  refine C.out.mono ?_
  rintro e w17 ⟨x4, rfl, ⟨hno, _⟩, hnr, hb⟩
  replace HB := Lib.hid (Below.thn HB.out hb)
  replace OX := Lib.hid (OX.out.below hb)
  replace OY := Lib.hid (OY.out.below hb)
  replace OZ := Lib.hid (OZ.out.below hb)
  replace OA := Lib.hid (OA.out.below hb)
  replace OO := Lib.hid (OO.out.below hb)
  replace OX1 := Lib.hid (OX1.out.below hb)
  replace OX2 := Lib.hid (OX2.out.below hb)
  replace ONA := Lib.hid (ONA.out.below hb)
  replace ONB := Lib.hid (ONB.out.below hb)
  replace OND := Lib.hid (OND.out.below hb)
  replace ONR := Lib.hid (ONR.out.below hb)
  replace OX3 := Lib.hid (OX3.out.below hb)
  have HX4 := Lib.hid (and_2 HNA.out.1 HNB.out.1 hnr)
  have OX4 := Lib.hid hno
  clear C hb hno hnr
  have C := Lib.hid (same_uv x3 nd w17 OX3.out OND.out (up_ext HX3.out.1 HND.out.1 fun d => by rw [HX3.out.2 d, HND.out.2.1 d, HNA.out.2.1 d, HNB.out.2.1 d, HA.out.2.1 d]; grind))
  go_wp2_with fail
  refine C.out.mono ?_
  rintro e w18 ⟨rfl, hb⟩
  replace HB := Lib.hid (Below.thn HB.out hb)
  replace OX := Lib.hid (OX.out.below hb)
  replace OY := Lib.hid (OY.out.below hb)
  replace OZ := Lib.hid (OZ.out.below hb)
  replace OA := Lib.hid (OA.out.below hb)
  replace OO := Lib.hid (OO.out.below hb)
  replace OX1 := Lib.hid (OX1.out.below hb)
  replace OX2 := Lib.hid (OX2.out.below hb)
  replace ONA := Lib.hid (ONA.out.below hb)
  replace ONB := Lib.hid (ONB.out.below hb)
  replace OND := Lib.hid (OND.out.below hb)
  replace ONR := Lib.hid (ONR.out.below hb)
  replace OX3 := Lib.hid (OX3.out.below hb)
  replace OX4 := Lib.hid (OX4.out.below hb)
  clear C hb 
  have C := Lib.hid (same_uv x4 nr w18 OX4.out ONR.out (up_ext HX4.out.1 HNR.out.1 fun d => by rw [HX4.out.2.1 d, HNR.out.2.1 d, HNA.out.2.1 d, HNB.out.2.1 d, HO.out.2 d]; grind))
  go_wp2_with fail
  refine C.out.mono ?_
  rintro e w19 ⟨rfl, hb⟩
  replace HB := Lib.hid (Below.thn HB.out hb)
  replace OX := Lib.hid (OX.out.below hb)
  replace OY := Lib.hid (OY.out.below hb)
  replace OZ := Lib.hid (OZ.out.below hb)
  replace OA := Lib.hid (OA.out.below hb)
  replace OO := Lib.hid (OO.out.below hb)
  replace OX1 := Lib.hid (OX1.out.below hb)
  replace OX2 := Lib.hid (OX2.out.below hb)
  replace ONA := Lib.hid (ONA.out.below hb)
  replace ONB := Lib.hid (ONB.out.below hb)
  replace OND := Lib.hid (OND.out.below hb)
  replace ONR := Lib.hid (ONR.out.below hb)
  replace OX3 := Lib.hid (OX3.out.below hb)
  replace OX4 := Lib.hid (OX4.out.below hb)
  clear C hb 
  go_wp2
  go_ret
  exact ⟨rfl, HB.out⟩
end Go.Proofs.Ytaaddckhldccjaa
