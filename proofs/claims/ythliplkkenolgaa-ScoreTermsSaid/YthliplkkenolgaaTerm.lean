/- What Term tells: the program's and the reference's. -/
import Derived.Test.YthliplkkenolgaaCheck
namespace Go.Proofs.Ythliplkkenolgaa
open Go.RowKit
set_option linter.unusedVariables false
set_option linter.unusedSimpArgs false

def okT (D W d m n : Int) : Prop := (okS D W ∧ 1 ≤ d ∧ d ≤ D) ∧ 1 ≤ m ∧ m ≤ n ∧ n ≤ W
instance (D W d m n : Int) : Decidable (okT D W d m n) := by unfold okT; exact inferInstance
noncomputable def termX (D W d m n : Int) : Int := if okT D W d m n then idfX D W d * 22 * (m * W) / (10 * (m * W) + (3 * W + 9 * n * D)) else 0
def termE (D W d m n : Int) : Int := if okT D W d m n then 0 else 220
theorem term_no {D W d m n : Int} (h : ¬ okT D W d m n) : termX D W d m n = 0 ∧ termE D W d m n = 220 := ⟨if_neg h, if_neg h⟩
theorem term_yes {D W d m n : Int} (h : okT D W d m n) : termX D W d m n = idfX D W d * 22 * (m * W) / (10 * (m * W) + (3 * W + 9 * n * D)) ∧ termE D W d m n = 0 := ⟨if_pos h, if_pos h⟩
theorem idf_bounds {D W d : Int} (h : okS D W ∧ 1 ≤ d ∧ d ≤ D) : 0 ≤ idfX D W d ∧ idfX D W d ≤ 8191 := by
  unfold idfX
  rw [if_pos h]
  have hs := h.1
  unfold okS at hs
  have := logN_lt (a := (2 * D + 2).toNat) (b := (2 * d + 1).toNat) (by omega) (by omega) (by omega)
  omega
/-- The numbers that come up stay small. -/
theorem term_nums {D W d m n : Int} (h : okT D W d m n) : (1 ≤ m * W ∧ m * W ≤ 1099511627776) ∧ (1 ≤ n * D ∧ n * D ≤ 419430400) := by
  obtain ⟨⟨hs, _, _⟩, h1, h2, h3⟩ := h
  unfold okS at hs
  have a1 : 1 * 1 ≤ m * W := Int.mul_le_mul h1 (by omega) (by decide) (by omega)
  have a2 : m * W ≤ 1048576 * 1048576 := Int.mul_le_mul (by omega) (by omega) (by omega) (by decide)
  have a3 : 1 * 1 ≤ n * D := Int.mul_le_mul (by omega) (by omega) (by decide) (by omega)
  have a4 : n * D ≤ 1048576 * 400 := Int.mul_le_mul (by omega) (by omega) (by omega) (by decide)
  omega

set_option maxRecDepth 100000 in
set_option maxHeartbeats 1000000 in
theorem Term_any (D W d m n : Int) (w : World) (hD : i64 D) (hW : i64 W) (hd : i64 d) (hm : i64 m) (hn : i64 n) :
    Calls Try.prog 15 #[.agg #[.int .i64 D, .int .i64 W], .int .i64 d, .int .i64 m, .int .i64 n] w fun e w' => e = .returned (.tuple #[.int .i64 (termX D W d m n), .int .i64 (termE D W d m n)]) ∧ Below w.heap.size w w' := by
  have HB := Lib.hid ((Below.refl w.heap.size w).alloc (Nat.le_refl _) (.cells #[.int .i64 D, .int .i64 W] 23))
  have HC : Hid (∀ w : World, Calls Try.prog 10 #[.agg #[.int .i64 D, .int .i64 W], .int .i64 d] w fun e w' => e = .returned (.tuple #[.int .i64 (idfX D W d), .int .i64 (idfE D W d)]) ∧ Below w.heap.size w w') := fun w => Idf_any D W d w hD hW hd
  have HK : Hid (∀ w', Below (w.alloc (.cells #[.int .i64 D, .int .i64 W] 23)).heap.size (w.alloc (.cells #[.int .i64 D, .int .i64 W] 23)) w' → w'.cell? ⟨w.heap.size, 0, none⟩ = some (.int .i64 D)) := fun w' hb => box_keep hb
  have HK2 : Hid (∀ w', Below (w.alloc (.cells #[.int .i64 D, .int .i64 W] 23)).heap.size (w.alloc (.cells #[.int .i64 D, .int .i64 W] 23)) w' → w'.cell? ⟨w.heap.size, 1, none⟩ = some (.int .i64 W)) := fun w' hb => box_keep1 hb
  clear hD hW hd hm hn
  by_cases h : okS D W ∧ 1 ≤ d ∧ d ≤ D
  · have HE := Lib.hid (idf_yes h).2.2
    have HI := Lib.hid (idf_bounds h)
    have HH : Hid (okS D W ∧ 1 ≤ d ∧ d ≤ D) := h
    clear h
    by_cases h1 : m < 1
    · have HV := Lib.hid (term_no (D := D) (W := W) (d := d) (m := m) (n := n) (by unfold okT; omega))
      go_enter Try.func15, Try.ntmps15
      go_wp2_with fail
      refine (HC.out _).mono ?_
      rintro e w' ⟨rfl, hb⟩
      rw [HE.out]
      have HB2 := Lib.hid (Below.thn' HB.out hb)
      have hk := HK.out _ hb
      have hk2 := HK2.out _ hb
      clear hb
      go_wp2
      go_ret2
      exact ⟨by rw [HV.out.1, HV.out.2]; rfl, HB2.out⟩
    by_cases h2 : n < m
    · have HV := Lib.hid (term_no (D := D) (W := W) (d := d) (m := m) (n := n) (by unfold okT; omega))
      go_enter Try.func15, Try.ntmps15
      go_wp2_with fail
      refine (HC.out _).mono ?_
      rintro e w' ⟨rfl, hb⟩
      rw [HE.out]
      have HB2 := Lib.hid (Below.thn' HB.out hb)
      have hk := HK.out _ hb
      have hk2 := HK2.out _ hb
      clear hb
      go_wp2
      go_ret2
      exact ⟨by rw [HV.out.1, HV.out.2]; rfl, HB2.out⟩
    by_cases h3 : W < n
    · have HV := Lib.hid (term_no (D := D) (W := W) (d := d) (m := m) (n := n) (by unfold okT; omega))
      go_enter Try.func15, Try.ntmps15
      go_wp2_with fail
      refine (HC.out _).mono ?_
      rintro e w' ⟨rfl, hb⟩
      rw [HE.out]
      have HB2 := Lib.hid (Below.thn' HB.out hb)
      have hk := HK.out _ hb
      have hk2 := HK2.out _ hb
      clear hb
      go_wp2
      go_ret2
      exact ⟨by rw [HV.out.1, HV.out.2]; rfl, HB2.out⟩
    have hok : okT D W d m n := ⟨HH.out, by omega, by omega, by omega⟩
    have HV := Lib.hid (term_yes hok)
    obtain ⟨⟨p1, p2⟩, ⟨p3, p4⟩⟩ := term_nums hok
    have hs := HH.out.1
    unfold okS at hs
    obtain ⟨s1, s2, s3, s4⟩ := hs
    obtain ⟨x1, x2⟩ := HI.out
    obtain ⟨x, hx⟩ : ∃ x, x = idfX D W d := ⟨_, rfl⟩
    have HX := Lib.hid hx
    rw [← hx] at x1 x2 HC HV
    clear hx hok
    obtain ⟨P, hP⟩ : ∃ P, P = m * W := ⟨_, rfl⟩
    obtain ⟨Q, hQ⟩ : ∃ P, P = n * D := ⟨_, rfl⟩
    have q9 : 9 * n * D = 9 * Q := by rw [hQ, Int.mul_assoc]
    have hxP0 : 0 ≤ x * P := Int.mul_nonneg x1 (by omega)
    have hxP1 : x * P ≤ 8191 * 1099511627776 := Int.mul_le_mul x2 (by omega) (by omega) (by decide)
    obtain ⟨U, hU⟩ : ∃ U, U = x * P := ⟨_, rfl⟩
    have e22 : x * 22 * P = 22 * U := by rw [hU]; rw [Int.mul_comm x 22, Int.mul_assoc]
    rw [← hU] at hxP0 hxP1
    rw [← hP] at p1 p2
    rw [← hQ] at p3 p4
    have HVX : Hid (termX D W d m n = 22 * U / (10 * P + (3 * W + 9 * Q)) ∧ termE D W d m n = 0) := by
      refine ⟨?_, HV.out.2⟩
      rw [HV.out.1, ← hP, q9, e22]
    have r1 : IntKind.i64.wrap (m * W) = P := by rw [← hP]; exact IntWalk.i64_in _ (by omega)
    have r2 : IntKind.i64.wrap (9 * n * D) = 9 * Q := by rw [q9]; exact IntWalk.i64_in _ (by omega)
    have r3 : IntKind.i64.wrap (x * 22 * P) = 22 * U := by rw [e22]; exact IntWalk.i64_in _ (by omega)
    clear hP hQ hU HV e22
    go_enter Try.func15, Try.ntmps15
    go_wp2_with fail
    refine (HC.out _).mono ?_
    rintro e w' ⟨rfl, hb⟩
    rw [HE.out]
    have HB2 := Lib.hid (Below.thn' HB.out hb)
    have hk := HK.out _ hb
    have hk2 := HK2.out _ hb
    clear hb
    go_wp2
    go_ret2
    exact ⟨by rw [HVX.out.1, HVX.out.2]; rfl, HB2.out⟩
  · have HE := Lib.hid (idf_no h).2
    have HV := Lib.hid (term_no (D := D) (W := W) (d := d) (m := m) (n := n) (fun h2 => h h2.1))
    go_enter Try.func15, Try.ntmps15
    go_wp2_with fail
    refine (HC.out _).mono ?_
    rintro e w' ⟨rfl, hb⟩
    rw [HE.out]
    have HB2 := Lib.hid (Below.thn' HB.out hb)
    have hk := HK.out _ hb
    have hk2 := HK2.out _ hb
    clear hb h
    go_wp2
    go_ret2
    exact ⟨by rw [HV.out.1, HV.out.2]; rfl, HB2.out⟩

set_option maxRecDepth 100000 in
set_option maxHeartbeats 1000000 in
theorem refTerm_any (D W d m n : Int) (w : World) (hD : i64 D) (hW : i64 W) (hd : i64 d) (hm : i64 m) (hn : i64 n) :
    Calls Try.prog 16 #[.agg #[.int .i64 D, .int .i64 W], .int .i64 d, .int .i64 m, .int .i64 n] w fun e w' => e = .returned (.tuple #[.int .i64 (termX D W d m n), .int .i64 (termE D W d m n)]) ∧ Below w.heap.size w w' := by
  have HB := Lib.hid ((Below.refl w.heap.size w).alloc (Nat.le_refl _) (.cells #[.int .i64 D, .int .i64 W] 23))
  have HC : Hid (∀ w : World, Calls Try.prog 11 #[.agg #[.int .i64 D, .int .i64 W], .int .i64 d] w fun e w' => e = .returned (.tuple #[.int .i64 (idfX D W d), .int .i64 (idfE D W d)]) ∧ Below w.heap.size w w') := fun w => refIdf_any D W d w hD hW hd
  have HK : Hid (∀ w', Below (w.alloc (.cells #[.int .i64 D, .int .i64 W] 23)).heap.size (w.alloc (.cells #[.int .i64 D, .int .i64 W] 23)) w' → w'.cell? ⟨w.heap.size, 0, none⟩ = some (.int .i64 D)) := fun w' hb => box_keep hb
  have HK2 : Hid (∀ w', Below (w.alloc (.cells #[.int .i64 D, .int .i64 W] 23)).heap.size (w.alloc (.cells #[.int .i64 D, .int .i64 W] 23)) w' → w'.cell? ⟨w.heap.size, 1, none⟩ = some (.int .i64 W)) := fun w' hb => box_keep1 hb
  clear hD hW hd hm hn
  by_cases h : okS D W ∧ 1 ≤ d ∧ d ≤ D
  · have HE := Lib.hid (idf_yes h).2.2
    have HI := Lib.hid (idf_bounds h)
    have HH : Hid (okS D W ∧ 1 ≤ d ∧ d ≤ D) := h
    clear h
    by_cases h1 : m < 1
    · have HV := Lib.hid (term_no (D := D) (W := W) (d := d) (m := m) (n := n) (by unfold okT; omega))
      go_enter Try.func16, Try.ntmps16
      go_wp2_with fail
      refine (HC.out _).mono ?_
      rintro e w' ⟨rfl, hb⟩
      rw [HE.out]
      have HB2 := Lib.hid (Below.thn' HB.out hb)
      have hk := HK.out _ hb
      have hk2 := HK2.out _ hb
      clear hb
      go_wp2
      go_ret2
      exact ⟨by rw [HV.out.1, HV.out.2]; rfl, HB2.out⟩
    by_cases h2 : n < m
    · have HV := Lib.hid (term_no (D := D) (W := W) (d := d) (m := m) (n := n) (by unfold okT; omega))
      go_enter Try.func16, Try.ntmps16
      go_wp2_with fail
      refine (HC.out _).mono ?_
      rintro e w' ⟨rfl, hb⟩
      rw [HE.out]
      have HB2 := Lib.hid (Below.thn' HB.out hb)
      have hk := HK.out _ hb
      have hk2 := HK2.out _ hb
      clear hb
      go_wp2
      go_ret2
      exact ⟨by rw [HV.out.1, HV.out.2]; rfl, HB2.out⟩
    by_cases h3 : W < n
    · have HV := Lib.hid (term_no (D := D) (W := W) (d := d) (m := m) (n := n) (by unfold okT; omega))
      go_enter Try.func16, Try.ntmps16
      go_wp2_with fail
      refine (HC.out _).mono ?_
      rintro e w' ⟨rfl, hb⟩
      rw [HE.out]
      have HB2 := Lib.hid (Below.thn' HB.out hb)
      have hk := HK.out _ hb
      have hk2 := HK2.out _ hb
      clear hb
      go_wp2
      go_ret2
      exact ⟨by rw [HV.out.1, HV.out.2]; rfl, HB2.out⟩
    have hok : okT D W d m n := ⟨HH.out, by omega, by omega, by omega⟩
    have HV := Lib.hid (term_yes hok)
    obtain ⟨⟨p1, p2⟩, ⟨p3, p4⟩⟩ := term_nums hok
    have hs := HH.out.1
    unfold okS at hs
    obtain ⟨s1, s2, s3, s4⟩ := hs
    obtain ⟨x1, x2⟩ := HI.out
    obtain ⟨x, hx⟩ : ∃ x, x = idfX D W d := ⟨_, rfl⟩
    have HX := Lib.hid hx
    rw [← hx] at x1 x2 HC HV
    clear hx hok
    obtain ⟨P, hP⟩ : ∃ P, P = m * W := ⟨_, rfl⟩
    obtain ⟨Q, hQ⟩ : ∃ P, P = n * D := ⟨_, rfl⟩
    have q9 : 9 * n * D = 9 * Q := by rw [hQ, Int.mul_assoc]
    have hxP0 : 0 ≤ x * P := Int.mul_nonneg x1 (by omega)
    have hxP1 : x * P ≤ 8191 * 1099511627776 := Int.mul_le_mul x2 (by omega) (by omega) (by decide)
    obtain ⟨U, hU⟩ : ∃ U, U = x * P := ⟨_, rfl⟩
    have e22 : x * 22 * P = 22 * U := by rw [hU]; rw [Int.mul_comm x 22, Int.mul_assoc]
    rw [← hU] at hxP0 hxP1
    rw [← hP] at p1 p2
    rw [← hQ] at p3 p4
    have HVX : Hid (termX D W d m n = 22 * U / (10 * P + (3 * W + 9 * Q)) ∧ termE D W d m n = 0) := by
      refine ⟨?_, HV.out.2⟩
      rw [HV.out.1, ← hP, q9, e22]
    have hxm0 : 0 ≤ x * m := Int.mul_nonneg x1 (by omega)
    have hxm1 : x * m ≤ 8191 * 1048576 := Int.mul_le_mul x2 (by omega) (by omega) (by decide)
    have m22 : x * 22 * m = 22 * (x * m) := by rw [Int.mul_comm x 22, Int.mul_assoc]
    have r4 : IntKind.i64.wrap (x * 22 * m) = x * 22 * m := IntWalk.i64_in _ (by omega)
    have r5 : IntKind.i64.wrap (x * 22 * m * W) = 22 * U := by rw [Int.mul_assoc (x * 22), ← hP, e22]; exact IntWalk.i64_in _ (by omega)
    have r6 : IntKind.i64.wrap (10 * m * W) = 10 * P := by rw [Int.mul_assoc, ← hP]; exact IntWalk.i64_in _ (by omega)
    have r2 : IntKind.i64.wrap (9 * n * D) = 9 * Q := by rw [q9]; exact IntWalk.i64_in _ (by omega)
    clear m22 hxm0 hxm1
    clear hP hQ hU HV e22
    go_enter Try.func16, Try.ntmps16
    go_wp2_with fail
    refine (HC.out _).mono ?_
    rintro e w' ⟨rfl, hb⟩
    rw [HE.out]
    have HB2 := Lib.hid (Below.thn' HB.out hb)
    have hk := HK.out _ hb
    have hk2 := HK2.out _ hb
    clear hb
    go_wp2
    go_ret2
    exact ⟨by rw [HVX.out.1, HVX.out.2, ← Int.add_assoc]; rfl, HB2.out⟩
  · have HE := Lib.hid (idf_no h).2
    have HV := Lib.hid (term_no (D := D) (W := W) (d := d) (m := m) (n := n) (fun h2 => h h2.1))
    go_enter Try.func16, Try.ntmps16
    go_wp2_with fail
    refine (HC.out _).mono ?_
    rintro e w' ⟨rfl, hb⟩
    rw [HE.out]
    have HB2 := Lib.hid (Below.thn' HB.out hb)
    have hk := HK.out _ hb
    have hk2 := HK2.out _ hb
    clear hb h
    go_wp2
    go_ret2
    exact ⟨by rw [HV.out.1, HV.out.2]; rfl, HB2.out⟩

end Go.Proofs.Ythliplkkenolgaa
