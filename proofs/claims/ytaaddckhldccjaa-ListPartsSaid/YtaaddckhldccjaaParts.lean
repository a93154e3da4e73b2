/- ListParts. -/
import Derived.Test.YtaaddckhldccjaaSets
namespace Go.Proofs.Ytaaddckhldccjaa
open Go.RowKit
set_option linter.unusedVariables false
set_option linter.unusedSimpArgs false

set_option maxRecDepth 100000 in
set_option maxHeartbeats 4000000 in
theorem Parts_any (x y : UV) (w : World) (hx : x.ok w) (hy : y.ok w) :
    Calls Try.prog 7 #[.slice x.A x.n x.c, .slice y.A y.n y.c] w fun e w' => e = .returned (.bool true) ∧ Below w.heap.size w w' := by
  have HX := Lib.hid hx
  have HY := Lib.hid hy
  clear hx hy
  have C9 := Lib.hid (live_any w)
  go_enter Try.func7, Try.ntmps7
  go_wp2_with fail
  refine C9.out.mono ?_
  rintro e w1 ⟨rfl, hb⟩
  have HB1 := Lib.hid hb
  clear hb C9
  have C13 := Lib.hid (few_lit [x, y] #[.slice x.A x.n x.c, .slice y.A y.n y.c] 2 w1 rfl rfl (by decide) (ok_2 (HX.out.below HB1.out) (HY.out.below HB1.out)))
  go_wp2_with fail
  refine C13.out.mono ?_
  rintro e w2 ⟨rfl, hb⟩
  have HB2 := Lib.hid (Below.thn HB1.out hb)
  clear hb C13 HB1
  by_cases hf : fewB [x, y] = true
  case neg =>
    rw [Bool.not_eq_true] at hf
    rw [hf]
    have C9 := Lib.hid (live_any w2)
    clear hf
    go_wp2_with fail
    refine C9.out.mono ?_
    rintro e w3 ⟨rfl, hb⟩
    have HB := Lib.hid (Below.thn HB2.out hb)
    clear hb C9
    go_wp2
    go_ret
    exact ⟨rfl, HB.out⟩
  rw [hf]
  have HF := Lib.hid (few_2 (HX.out.below HB2.out) (HY.out.below HB2.out) hf)
  have C := Lib.hid (check_uv x w2 (HX.out.below HB2.out))
  clear hf
  go_wp2_with fail
  refine C.out.mono ?_
  rintro e w3 ⟨rfl, hb⟩
  have HB3 := Lib.hid (Below.thn HB2.out hb)
  clear hb C HB2
  by_cases hu : Up x.l
  case neg =>
    rw [upE_no hu]
    have C9 := Lib.hid (live_any w3)
    clear hu
    go_wp2_with fail
    refine C9.out.mono ?_
    rintro e w3 ⟨rfl, hb⟩
    have HB := Lib.hid (Below.thn HB3.out hb)
    clear hb C9
    go_wp2
    go_ret
    exact ⟨rfl, HB.out⟩
  rw [upE_yes hu]
  have HUX := Lib.hid hu
  have C := Lib.hid (check_uv y w3 (HY.out.below HB3.out))
  clear hu
  go_wp2_with fail
  refine C.out.mono ?_
  rintro e w4 ⟨rfl, hb⟩
  have HB4 := Lib.hid (Below.thn HB3.out hb)
  clear hb C HB3
  by_cases hu : Up y.l
  case neg =>
    rw [upE_no hu]
    have C9 := Lib.hid (live_any w4)
    clear hu
    go_wp2_with fail
    refine C9.out.mono ?_
    rintro e w3 ⟨rfl, hb⟩
    have HB := Lib.hid (Below.thn HB4.out hb)
    clear hb C9
    go_wp2
    go_ret
    exact ⟨rfl, HB.out⟩
  rw [upE_yes hu]
  have HUY := Lib.hid hu
  clear hu
  have C := Lib.hid (And_lit [x, y] #[.slice x.A x.n x.c, .slice y.A y.n y.c] 2 w4 rfl rfl (ok_2 (HX.out.below HB4.out) (HY.out.below HB4.out)) (small_2 (Nat.le_trans HF.out.1 (by decide)) (Nat.le_trans HF.out.2 (by decide))))
  rw [allE_yes (allUp_2 HUX.out HUY.out)] at C
  go_wp2_with fail
  refine C.out.mono ?_
  rintro e w5 ⟨a, rfl, ⟨hao, _⟩, har, hb⟩
  have HA := Lib.hid (and_2 HUX.out HUY.out har)
  have HAO := Lib.hid hao
  have HAR := Lib.hid har
  have HB5 := Lib.hid (Below.thn HB4.out hb)
  clear C hao har hb HB4
  have C := Lib.hid (Not_uv x y w5 (HX.out.below HB5.out) (HY.out.below HB5.out) (Nat.le_trans HF.out.1 (by decide)))
  rw [notE_yes HUX.out HUY.out] at C
  go_wp2_with fail
  refine C.out.mono ?_
  rintro e w6 ⟨b, rfl, ⟨hbo, _⟩, hbr, hb⟩
  have HN := Lib.hid (not_2 HUX.out HUY.out hbr)
  have HBO := Lib.hid hbo
  have HBR := Lib.hid hbr
  have HAO6 := Lib.hid (HAO.out.below hb)
  have HB6 := Lib.hid (Below.thn HB5.out hb)
  clear C hbo hbr hb HB5 HAO
  have hs : smallU [a, b] := small_2 (Nat.le_trans HA.out.2.2 (Nat.le_trans HF.out.1 (by decide))) (Nat.le_trans HN.out.2.2 (Nat.le_trans HF.out.1 (by decide)))
  have HS := Lib.hid hs
  clear hs
  have C := Lib.hid (Or_lit [a, b] #[.slice a.A a.n a.c, .slice b.A b.n b.c] 2 w6 rfl rfl (ok_2 HAO6.out HBO.out) HS.out)
  rw [allE_yes (allUp_2 HA.out.1 HN.out.1)] at C
  go_wp2_with fail
  refine C.out.mono ?_
  rintro e w7 ⟨o, rfl, ⟨hoo, _⟩, hor, hb⟩
  have HO := Lib.hid (or_2 HA.out.1 HN.out.1 hor)
  have HOO := Lib.hid hoo
  have HAO7 := Lib.hid (HAO6.out.below hb)
  have HBO7 := Lib.hid (HBO.out.below hb)
  have HB7 := Lib.hid (Below.thn HB6.out hb)
  clear C hoo hor hb HB6 HAO6 HBO
  have C := Lib.hid (And_lit [a, b] #[.slice a.A a.n a.c, .slice b.A b.n b.c] 2 w7 rfl rfl (ok_2 HAO7.out HBO7.out) HS.out)
  rw [allE_yes (allUp_2 HA.out.1 HN.out.1)] at C
  go_wp2_with fail
  refine C.out.mono ?_
  rintro e w8 ⟨z, rfl, ⟨hzo, _⟩, hzr, hb⟩
  have HZ := Lib.hid (and_2 HA.out.1 HN.out.1 hzr)
  have HOO8 := Lib.hid (HOO.out.below hb)
  have HAO8 := Lib.hid (HAO7.out.below hb)
  have HBO8 := Lib.hid (HBO7.out.below hb)
  have HB8 := Lib.hid (Below.thn HB7.out hb)
  have hz0 : z.n = 0 := by
    rw [← hzo.rd.len]
    cases hl : z.l with
    | nil => rfl
    | cons d r =>
      have hd : d ∈ z.l := by rw [hl]; simp
      have h1 := (HZ.out.2.1 d).1 hd
      have h2 := (HA.out.2.1 d).1 h1.1
      have h3 := (HN.out.2.1 d).1 h1.2
      exact absurd h2.2 h3.2
  have hos : o.l = x.l := up_ext HO.out.1 HUX.out fun d => by
    rw [HO.out.2 d, HA.out.2.1 d, HN.out.2.1 d]
    by_cases h : d ∈ y.l <;> simp [h]
  have hsum : (a.n : Int) + (b.n : Int) = (x.n : Int) := by
    have h1 := parts_len x.l y.l
    have h2 := HAR.out
    have h3 := HBR.out
    rw [andX_yes (allUp_2 HUX.out HUY.out)] at h2
    rw [notX_yes HUX.out HUY.out] at h3
    have h4 : a.l = x.l.filter fun d => decide (d ∈ y.l) := by rw [h2]; simp [andL, andI]
    have h5 := HAO8.out.rd.len
    have h6 := HBO8.out.rd.len
    have h7 := HX.out.rd.len
    rw [h4] at h5
    rw [h3] at h6
    omega
  have hxn : x.n ≤ 120 := by have := HX.out.rd.len; have := HF.out.1; omega
  have C16 := Lib.hid (equal_uv o x w8 HOO8.out (HX.out.below HB8.out))
  rw [hos, decide_eq_true rfl] at C16
  clear hzo hzr hb C hos
  go_wp2_with fail
  refine C16.out.mono ?_
  rintro e w9 ⟨rfl, hb⟩
  have HB9 := Lib.hid (Below.thn HB8.out hb)
  clear hb C16
  go_wp2
  go_ret
  exact ⟨by simp, HB9.out⟩
end Go.Proofs.Ytaaddckhldccjaa
