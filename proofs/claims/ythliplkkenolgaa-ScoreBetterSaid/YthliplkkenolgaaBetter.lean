/- The law ScoreBetter. -/
import Derived.Test.YthliplkkenolgaaTermMath
import Derived.Test.YthliplkkenolgaaLive
import Derived.Lib.MinMax
import Derived.Deep.DeepCutAuto
namespace Go.Proofs.Ythliplkkenolgaa
open Go.RowKit
set_option linter.unusedVariables false
set_option linter.unusedSimpArgs false

theorem term_mono {D W d m n d' m' n' : Int} (h : okT D W d m n) (h' : okT D W d' m' n') (hx : idfX D W d ≤ idfX D W d') (hm : m ≤ m') (hn : n' ≤ n) : termX D W d m n ≤ termX D W d' m' n' ∧ termE D W d' m' n' = 0 := by
  refine ⟨?_, (term_yes h').2⟩
  obtain ⟨p1, p2⟩ := term_den h
  obtain ⟨q1, q2⟩ := term_den h'
  obtain ⟨⟨a1, _⟩, ⟨b1, _⟩⟩ := term_nums h
  obtain ⟨⟨a2, _⟩, ⟨b2, _⟩⟩ := term_nums h'
  obtain ⟨x1, _⟩ := idf_2560 h.1
  obtain ⟨x2, _⟩ := idf_2560 h'.1
  have hs := h.1.1
  unfold okS at hs
  rw [(term_yes h).1, (term_yes h').1]
  have e1 : m * W ≤ m' * W := Int.mul_le_mul_of_nonneg_right hm (by omega)
  have e2 : n' * D ≤ n * D := Int.mul_le_mul_of_nonneg_right hn (by omega)
  have f1 : 9 * n * D = 9 * (n * D) := Int.mul_assoc _ _ _
  have f2 : 9 * n' * D = 9 * (n' * D) := Int.mul_assoc _ _ _
  rw [f1] at p1 p2 ⊢
  rw [f2] at q1 q2 ⊢
  obtain ⟨S, hS⟩ : ∃ S, S = m * W := ⟨_, rfl⟩
  obtain ⟨S', hS'⟩ : ∃ S, S = m' * W := ⟨_, rfl⟩
  obtain ⟨L, hL⟩ : ∃ L, L = 3 * W + 9 * (n * D) := ⟨_, rfl⟩
  obtain ⟨L', hL'⟩ : ∃ L, L = 3 * W + 9 * (n' * D) := ⟨_, rfl⟩
  rw [← hS, ← hL] at p1
  rw [← hS', ← hL'] at q1
  rw [← hS, ← hL, ← hS', ← hL']
  have hSS : S ≤ S' := by omega
  have hLL : L' ≤ L := by omega
  have hL0 : 0 < L' := by omega
  have hS0 : 0 < S := by omega
  have c : S * (10 * S' + L') ≤ S' * (10 * S + L) := by
    rw [Int.mul_add, Int.mul_add]
    have c1 : S * (10 * S') = S' * (10 * S) := by ac_rfl
    have c2 : S * L' ≤ S' * L := Int.mul_le_mul hSS hLL (by omega) (by omega)
    omega
  have k1 := quo_mono (k := idfX D W d * 22) (a := S) (b := 10 * S + L) (c := S') (d := 10 * S' + L') (by omega) p1 q1 c
  refine Int.le_trans k1 ?_
  refine Int.ediv_le_ediv q1 ?_
  exact Int.mul_le_mul_of_nonneg_right (by omega) (by omega)
theorem idf_less {D W d d' : Int} (h : okS D W ∧ 1 ≤ d ∧ d ≤ D) (h1 : 1 ≤ d') (h2 : d' ≤ d) : idfX D W d ≤ idfX D W d' := by
  have hs := h.1
  unfold okS at hs
  have hx : okS D W ∧ 1 ≤ d' ∧ d' ≤ D := ⟨h.1, h1, by omega⟩
  unfold idfX
  rw [if_pos h, if_pos hx]
  have := log_mono (a := (2 * D + 2).toNat) (b := (2 * d + 1).toNat) (a' := (2 * D + 2).toNat) (b' := (2 * d' + 1).toNat) (by omega) (by omega) (by omega) (by omega) (Nat.mul_le_mul_left _ (by omega))
  omega
set_option maxRecDepth 100000 in
set_option maxHeartbeats 4000000 in
theorem better_walk (D W d m n k0 k1 k2 M L O T X1 X2 X3 : Int) (w : World) (hd : 1 ≤ d ∧ d ≤ 1048576) (hm : 1 ≤ m ∧ m ≤ 1048576) (hn : 1 ≤ n ∧ n ≤ 1048576) (hk0 : 0 ≤ k0 ∧ k0 ≤ 65535) (hk1 : 0 ≤ k1 ∧ k1 ≤ 65535) (hk2 : 0 ≤ k2 ∧ k2 ≤ 65535)
    (hM : min (m + k0) n = M) (hL : min (n + k1) W = L) (hO : max (d - k2) 1 = O) (g1 : T ≤ X1) (g2 : X2 ≤ T) (g3 : T ≤ X3)
    (C0 : Hid (∀ w : World, Calls Try.prog 15 #[.agg #[.int .i64 D, .int .i64 W], .int .i64 d, .int .i64 m, .int .i64 n] w fun e w' => e = .returned (.tuple #[.int .i64 (T), .int .i64 0]) ∧ Below w.heap.size w w'))
    (C1 : Hid (∀ w : World, Calls Try.prog 15 #[.agg #[.int .i64 D, .int .i64 W], .int .i64 d, .int .i64 M, .int .i64 n] w fun e w' => e = .returned (.tuple #[.int .i64 (X1), .int .i64 0]) ∧ Below w.heap.size w w'))
    (C2 : Hid (∀ w : World, Calls Try.prog 15 #[.agg #[.int .i64 D, .int .i64 W], .int .i64 d, .int .i64 m, .int .i64 L] w fun e w' => e = .returned (.tuple #[.int .i64 (X2), .int .i64 0]) ∧ Below w.heap.size w w'))
    (C3 : Hid (∀ w : World, Calls Try.prog 15 #[.agg #[.int .i64 D, .int .i64 W], .int .i64 O, .int .i64 m, .int .i64 n] w fun e w' => e = .returned (.tuple #[.int .i64 (X3), .int .i64 0]) ∧ Below w.heap.size w w')) :
    Calls Try.prog 6 #[.agg #[.int .i64 D, .int .i64 W], .int .i64 d, .int .i64 m, .int .i64 n, .agg #[.int .u16 k0, .int .u16 k1, .int .u16 k2]] w fun e w' => e = .returned (.bool true) ∧ Below w.heap.size w w' := by
  have HB := Lib.hid ((Below.refl w.heap.size w).alloc (Nat.le_refl _) (.cells #[.int .i64 D, .int .i64 W] 23))
  have HBa := Lib.hid (HB.out.alloc (by simp) (.cells #[.int .u16 k0, .int .u16 k1, .int .u16 k2] 36))
  have HK : Hid (∀ w', Below ((w.alloc (.cells #[.int .i64 D, .int .i64 W] 23)).alloc (.cells #[.int .u16 k0, .int .u16 k1, .int .u16 k2] 36)).heap.size ((w.alloc (.cells #[.int .i64 D, .int .i64 W] 23)).alloc (.cells #[.int .u16 k0, .int .u16 k1, .int .u16 k2] 36)) w' →
      w'.cell? ⟨w.heap.size, 0, none⟩ = some (.int .i64 D) ∧ w'.cell? ⟨w.heap.size, 1, none⟩ = some (.int .i64 W) ∧ w'.cell? ⟨w.heap.size + 1, 0, none⟩ = some (.int .u16 k0) ∧ w'.cell? ⟨w.heap.size + 1, 1, none⟩ = some (.int .u16 k1) ∧ w'.cell? ⟨w.heap.size + 1, 2, none⟩ = some (.int .u16 k2)) := by
    intro w' hb
    have e : (w.alloc (.cells #[.int .i64 D, .int .i64 W] 23)).heap.size = w.heap.size + 1 := by simp
    have hb1 := Below.thn' ((Below.refl (w.alloc (.cells #[.int .i64 D, .int .i64 W] 23)).heap.size _).alloc (Nat.le_refl _) (.cells #[.int .u16 k0, .int .u16 k1, .int .u16 k2] 36)) hb
    rw [← e]
    refine ⟨box_keep hb1, box_keep1 hb1, ?_, ?_, ?_⟩
    all_goals (rw [hb.cell (by simp), World.cell?_alloc_mark]; rfl)
  obtain ⟨c0, c1, c2, c3, c4⟩ := HK.out _ (Below.refl _ _)
  go_enter Try.func6, Try.ntmps6
  go_upto_region 1 with fail
  rw [show ({ heap := (w.alloc (.cells #[.int .i64 D, .int .i64 W] 23)).heap.push (.cells #[.int .u16 k0, .int .u16 k1, .int .u16 k2] 36), tape := w.tape, drawn := w.drawn, os := (w.alloc (.cells #[.int .i64 D, .int .i64 W] 23)).os, output := (w.alloc (.cells #[.int .i64 D, .int .i64 W] 23)).output } : World) = (w.alloc (.cells #[.int .i64 D, .int .i64 W] 23)).alloc (.cells #[.int .u16 k0, .int .u16 k1, .int .u16 k2] 36) from rfl]
  generalize hw0 : (w.alloc (.cells #[.int .i64 D, .int .i64 W] 23)).alloc (.cells #[.int .u16 k0, .int .u16 k1, .int .u16 k2] 36) = w0 at *
  clear hw0
  go_wp2_with fail
  refine (C0.out _).mono ?_
  rintro e w1 ⟨rfl, hb⟩
  have HB1 := Lib.hid hb
  clear hb c0 c1 c2 c3 c4
  go_wp2_with fail
  refine (live_any _).mono ?_
  rintro e w2 ⟨rfl, hb⟩
  have HB2 := Lib.hid (Below.thn' HB1.out hb)
  obtain ⟨c0, c1, c2, c3, c4⟩ := HK.out _ HB2.out
  clear hb
  go_wp2_with fail
  refine (C1.out _).mono ?_
  rintro e w3 ⟨rfl, hb⟩
  have HB3 := Lib.hid (Below.thn' HB2.out hb)
  clear c0 c1 c2 c3 c4
  obtain ⟨c0, c1, c2, c3, c4⟩ := HK.out _ HB3.out
  clear hb
  go_wp2_with fail
  refine (C2.out _).mono ?_
  rintro e w4 ⟨rfl, hb⟩
  have HB4 := Lib.hid (Below.thn' HB3.out hb)
  clear c0 c1 c2 c3 c4
  obtain ⟨c0, c1, c2, c3, c4⟩ := HK.out _ HB4.out
  clear hb
  go_wp2_with fail
  refine (C3.out _).mono ?_
  rintro e w5 ⟨rfl, hb⟩
  have HB5 := Lib.hid (Below.thn' HBa.out (Below.thn' HB4.out hb))
  clear c0 c1 c2 c3 c4 hb
  go_wp2
  go_ret
  exact ⟨rfl, HB5.out⟩
set_option maxRecDepth 100000 in
set_option maxHeartbeats 2000000 in
theorem better_no (D W d m n k0 k1 k2 : Int) (w : World) (C0 : Hid (∀ w : World, Calls Try.prog 15 #[.agg #[.int .i64 D, .int .i64 W], .int .i64 d, .int .i64 m, .int .i64 n] w fun e w' => e = .returned (.tuple #[.int .i64 (0), .int .i64 220]) ∧ Below w.heap.size w w')) :
    Calls Try.prog 6 #[.agg #[.int .i64 D, .int .i64 W], .int .i64 d, .int .i64 m, .int .i64 n, .agg #[.int .u16 k0, .int .u16 k1, .int .u16 k2]] w fun e w' => e = .returned (.bool true) ∧ Below w.heap.size w w' := by
  have HB := Lib.hid ((Below.refl w.heap.size w).alloc (Nat.le_refl _) (.cells #[.int .i64 D, .int .i64 W] 23))
  have HBa := Lib.hid (HB.out.alloc (by simp) (.cells #[.int .u16 k0, .int .u16 k1, .int .u16 k2] 36))
  have H1 : ((w.alloc (.cells #[.int .i64 D, .int .i64 W] 23)).alloc (.cells #[.int .u16 k0, .int .u16 k1, .int .u16 k2] 36)).cell? ⟨w.heap.size, 0, none⟩ = some (.int .i64 D) := box_keep ((Below.refl (w.alloc (.cells #[.int .i64 D, .int .i64 W] 23)).heap.size _).alloc (Nat.le_refl _) (.cells #[.int .u16 k0, .int .u16 k1, .int .u16 k2] 36))
  have H2 : ((w.alloc (.cells #[.int .i64 D, .int .i64 W] 23)).alloc (.cells #[.int .u16 k0, .int .u16 k1, .int .u16 k2] 36)).cell? ⟨w.heap.size, 1, none⟩ = some (.int .i64 W) := box_keep1 ((Below.refl (w.alloc (.cells #[.int .i64 D, .int .i64 W] 23)).heap.size _).alloc (Nat.le_refl _) (.cells #[.int .u16 k0, .int .u16 k1, .int .u16 k2] 36))
  go_enter Try.func6, Try.ntmps6
  go_upto_region 1 with fail
  rw [show ({ heap := (w.alloc (.cells #[.int .i64 D, .int .i64 W] 23)).heap.push (.cells #[.int .u16 k0, .int .u16 k1, .int .u16 k2] 36), tape := w.tape, drawn := w.drawn, os := (w.alloc (.cells #[.int .i64 D, .int .i64 W] 23)).os, output := (w.alloc (.cells #[.int .i64 D, .int .i64 W] 23)).output } : World) = (w.alloc (.cells #[.int .i64 D, .int .i64 W] 23)).alloc (.cells #[.int .u16 k0, .int .u16 k1, .int .u16 k2] 36) from rfl]
  generalize hw0 : (w.alloc (.cells #[.int .i64 D, .int .i64 W] 23)).alloc (.cells #[.int .u16 k0, .int .u16 k1, .int .u16 k2] 36) = w0 at *
  clear hw0
  go_wp2_with fail
  refine (C0.out _).mono ?_
  rintro e w1 ⟨rfl, hb⟩
  have HB1 := Lib.hid hb
  clear hb H1 H2
  go_wp2_with fail
  refine (live_any _).mono ?_
  rintro e w2 ⟨rfl, hb⟩
  have HB2 := Lib.hid (Below.thn' HB1.out hb)
  clear hb
  go_wp2_with fail
  refine (live_any _).mono ?_
  rintro e w3 ⟨rfl, hb⟩
  have HB3 := Lib.hid (Below.thn' HBa.out (Below.thn' HB2.out hb))
  clear hb
  go_wp2
  go_ret
  exact ⟨rfl, HB3.out⟩
theorem better_any (D W d m n k0 k1 k2 : Int) (w : World) (hD : i64 D) (hW : i64 W) (hd : i64 d) (hm : i64 m) (hn : i64 n) (hk0 : 0 ≤ k0 ∧ k0 ≤ 65535) (hk1 : 0 ≤ k1 ∧ k1 ≤ 65535) (hk2 : 0 ≤ k2 ∧ k2 ≤ 65535) :
    Calls Try.prog 6 #[.agg #[.int .i64 D, .int .i64 W], .int .i64 d, .int .i64 m, .int .i64 n, .agg #[.int .u16 k0, .int .u16 k1, .int .u16 k2]] w fun e w' => e = .returned (.bool true) ∧ Below w.heap.size w w' := by
  have hT : ∀ d m n X E : Int, i64 d → i64 m → i64 n → termX D W d m n = X → termE D W d m n = E → Hid (∀ w : World, Calls Try.prog 15 #[.agg #[.int .i64 D, .int .i64 W], .int .i64 d, .int .i64 m, .int .i64 n] w fun e w' => e = .returned (.tuple #[.int .i64 (X), .int .i64 E]) ∧ Below w.heap.size w w') := by
    intro d m n X E h1 h2 h3 e1 e2
    exact Lib.hid (fun w => by rw [← e1, ← e2]; exact Term_any D W d m n w hD hW h1 h2 h3)
  have hi : ∀ x : Int, 1 ≤ x → x ≤ 1048576 → i64 x := fun x h1 h2 => ⟨by omega, by omega⟩
  by_cases h : okT D W d m n
  · have hs := h.1.1
    have h2 := h.1.2
    have h3 := h.2
    unfold okS at hs
    have b1 : 1 ≤ min (m + k0) n ∧ m ≤ min (m + k0) n ∧ min (m + k0) n ≤ n := by omega
    have b2 : n ≤ min (n + k1) W ∧ min (n + k1) W ≤ W := by omega
    have b3 : 1 ≤ max (d - k2) 1 ∧ max (d - k2) 1 ≤ d := by omega
    have o1 : okT D W d (min (m + k0) n) n := ⟨h.1, b1.1, b1.2.2, h3.2.2⟩
    have o2 : okT D W d m (min (n + k1) W) := ⟨h.1, h3.1, by omega, b2.2⟩
    have o3 : okT D W (max (d - k2) 1) m n := ⟨⟨h.1.1, b3.1, by omega⟩, h3⟩
    have t1 := term_mono h o1 (Int.le_refl _) b1.2.1 (Int.le_refl _)
    have t2 := term_mono o2 h (Int.le_refl _) (Int.le_refl _) b2.1
    have t3 := term_mono h o3 (idf_less h.1 b3.1 b3.2) (Int.le_refl _) (Int.le_refl _)
    refine better_walk D W d m n k0 k1 k2 _ _ _ _ _ _ _ w (by omega) (by omega) (by omega) hk0 hk1 hk2 rfl rfl rfl t1.1 t2.1 t3.1
      (hT _ _ _ _ _ hd hm hn rfl t2.2) (hT _ _ _ _ _ hd (hi _ (by omega) (by omega)) hn rfl t1.2) (hT _ _ _ _ _ hd hm (hi _ (by omega) (by omega)) rfl (term_yes o2).2) (hT _ _ _ _ _ (hi _ (by omega) (by omega)) hm hn rfl t3.2)
  · exact better_no D W d m n k0 k1 k2 w (hT _ _ _ _ _ hd hm hn (term_no h).1 (term_no h).2)
end Go.Proofs.Ythliplkkenolgaa
