/- Which runes are letters, and how many bytes any one has: the law. -/
import Derived.Test.YtlbphgbhkbgknaaForm
import Derived.Test.YtlbphgbhkbgknaaLive
namespace Go.Proofs.Ytlbphgbhkbgknaa
open Go.RowKit
set_option linter.unusedVariables false
set_option linter.unusedSimpArgs false

def widR (r : Int) : Int := if 0 ≤ r ∧ r ≤ 127 then 1 else if 0 ≤ r ∧ r ≤ 2047 then 2 else if 65536 ≤ r ∧ r ≤ 1114111 then 4 else 3
theorem wid_len (r : Int) : ((formL r).length = 0 ∧ widR r = 3) ∨ (0 < (formL r).length ∧ (formL r).length ≤ 4 ∧ widR r = ((formL r).length : Nat)) := by
  by_cases h : r < 0 ∨ r > 1114111 ∨ (55296 ≤ r ∧ r ≤ 57343)
  · left
    rw [formL_no h]
    refine ⟨rfl, ?_⟩
    unfold widR
    rw [if_neg (by omega), if_neg (by omega), if_neg (by omega)]
  · right
    obtain ⟨n, rfl⟩ : ∃ n : Nat, r = n := ⟨r.toNat, by omega⟩
    rw [formL_yes (by omega) (by omega)]
    unfold formN widR
    by_cases h1 : n < 128
    · rw [if_pos h1, if_pos (show 0 ≤ (n : Int) ∧ (n : Int) ≤ 127 from by omega)]; simp
    · rw [if_neg h1, if_neg (show ¬ (0 ≤ (n : Int) ∧ (n : Int) ≤ 127) from by omega)]
      by_cases h2 : n < 2048
      · rw [if_pos h2, if_pos (show 0 ≤ (n : Int) ∧ (n : Int) ≤ 2047 from by omega)]; simp
      · rw [if_neg h2, if_neg (show ¬ (0 ≤ (n : Int) ∧ (n : Int) ≤ 2047) from by omega)]
        by_cases h3 : n < 65536
        · rw [if_pos h3, if_neg (show ¬ (65536 ≤ (n : Int) ∧ (n : Int) ≤ 1114111) from by omega)]; simp
        · rw [if_neg h3, if_pos (show 65536 ≤ (n : Int) ∧ (n : Int) ≤ 1114111 from by omega)]; simp
set_option maxRecDepth 100000 in
set_option maxHeartbeats 1000000 in
theorem Width_any (r : Int) (w : World) : Calls Try.prog 18 #[.int .i32 r] w fun e w' => e = .returned (.int .i64 (widR r)) ∧ w = w' := by
  cases g1 : inB r 0 127
  case true =>
    have hv : widR r = 1 := by simp [inB] at g1; unfold widR; rw [if_pos g1]
    rw [hv]
    clear hv
    go_enter Try.func18, Try.ntmps18
    go_wp2_with fail
    refine (within_any _ _ _ _).mono ?_
    rintro e w1 ⟨rfl, rfl⟩
    rw [g1]
    go_wp2
    go_ret
    exact ⟨rfl, rfl⟩
  cases g2 : inB r 0 2047
  case true =>
    have hv : widR r = 2 := by simp [inB] at g1 g2; unfold widR; rw [if_neg (by omega), if_pos g2]
    rw [hv]
    clear hv
    go_enter Try.func18, Try.ntmps18
    go_wp2_with fail
    refine (within_any _ _ _ _).mono ?_
    rintro e w1 ⟨rfl, rfl⟩
    rw [g1]
    go_wp2_with fail
    refine (within_any _ _ _ _).mono ?_
    rintro e w1 ⟨rfl, rfl⟩
    rw [g2]
    go_wp2
    go_ret
    exact ⟨rfl, rfl⟩
  cases g3 : inB r 65536 1114111
  case true =>
    have hv : widR r = 4 := by simp [inB] at g1 g2 g3; unfold widR; rw [if_neg (by omega), if_neg (by omega), if_pos g3]
    rw [hv]
    clear hv
    go_enter Try.func18, Try.ntmps18
    go_wp2_with fail
    refine (within_any _ _ _ _).mono ?_
    rintro e w1 ⟨rfl, rfl⟩
    rw [g1]
    go_wp2_with fail
    refine (within_any _ _ _ _).mono ?_
    rintro e w1 ⟨rfl, rfl⟩
    rw [g2]
    go_wp2_with fail
    refine (within_any _ _ _ _).mono ?_
    rintro e w1 ⟨rfl, rfl⟩
    rw [g3]
    go_wp2
    go_ret
    exact ⟨rfl, rfl⟩
  case false =>
    have hv : widR r = 3 := by simp [inB] at g1 g2 g3; unfold widR; rw [if_neg (by omega), if_neg (by omega), if_neg (by omega)]
    rw [hv]
    clear hv
    go_enter Try.func18, Try.ntmps18
    go_wp2_with fail
    refine (within_any _ _ _ _).mono ?_
    rintro e w1 ⟨rfl, rfl⟩
    rw [g1]
    go_wp2_with fail
    refine (within_any _ _ _ _).mono ?_
    rintro e w1 ⟨rfl, rfl⟩
    rw [g2]
    go_wp2_with fail
    refine (within_any _ _ _ _).mono ?_
    rintro e w1 ⟨rfl, rfl⟩
    rw [g3]
    go_wp2
    go_ret
    exact ⟨rfl, rfl⟩
set_option maxRecDepth 100000 in
set_option maxHeartbeats 1000000 in
theorem refWidth_any (r : Int) (w : World) (h1 : -2147483648 ≤ r) (h2 : r ≤ 2147483647) :
    Calls Try.prog 19 #[.int .i32 r] w fun e w' => e = .returned (.int .i64 (widR r)) ∧ Below w.heap.size w w' := by
  have C := Lib.hid (Form_any r w h1 h2)
  have HW := Lib.hid (wid_len r)
  obtain ⟨L, hL⟩ : ∃ L, L = formL r := ⟨_, rfl⟩
  rw [← hL] at C HW
  obtain ⟨V, hV⟩ : ∃ V, V = widR r := ⟨_, rfl⟩
  rw [← hV] at HW ⊢
  clear hL hV h1 h2
  go_enter Try.func19, Try.ntmps19
  go_wp2_with fail
  refine C.out.mono ?_
  rintro e w1 ⟨v, rfl, ho, hb⟩
  have HB := Lib.hid hb
  obtain ⟨A, c, rfl, _, _, _⟩ := ho.1.rd
  obtain ⟨n, hn⟩ : ∃ n, n = L.length := ⟨_, rfl⟩
  rw [← hn] at HW ⊢
  clear hn ho hb C
  rcases HW.out with ⟨rfl, rfl⟩ | ⟨h0, h4, rfl⟩
  · clear HW
    go_wp2
    go_ret
    exact ⟨rfl, HB.out⟩
  · have g0 : ((n : Int) == 0) = false := by simp; omega
    clear HW
    go_wp2
    go_ret
    exact ⟨rfl, HB.out⟩
set_option maxRecDepth 100000 in
set_option maxHeartbeats 1000000 in
theorem letters_law (r : Int) (w : World) (h1 : -2147483648 ≤ r) (h2 : r ≤ 2147483647) :
    Calls Try.prog 5 #[.int .i32 r] w fun e w' => e = .returned (.bool true) ∧ Below w.heap.size w w' := by
  have CR := Lib.hid fun w => refWidth_any r w h1 h2
  obtain ⟨B, hB⟩ : ∃ B, B = letB r := ⟨_, rfl⟩
  obtain ⟨V, hV⟩ : ∃ V, V = widR r := ⟨_, rfl⟩
  have HBe := Lib.hid hB
  have HVe := Lib.hid hV
  rw [← hV] at CR
  clear hB hV h1 h2
  go_enter Try.func5, Try.ntmps5
  go_wp2_with fail
  refine (live_any _).mono ?_
  rintro e w1 ⟨rfl, hb⟩
  have HB := Lib.hid hb
  clear hb
  go_wp2_with fail
  refine (Letter_any r _).mono ?_
  rintro e w2 ⟨rfl, rfl⟩
  rw [← HBe.out]
  go_wp2_with fail
  refine (refLetter_any r _).mono ?_
  rintro e w2 ⟨rfl, rfl⟩
  rw [← HBe.out]
  go_wp2_with fail
  refine (Width_any r _).mono ?_
  rintro e w2 ⟨rfl, rfl⟩
  rw [← HVe.out]
  go_wp2_with fail
  refine (CR.out _).mono ?_
  rintro e w2 ⟨rfl, hb⟩
  have HB2 := Lib.hid (Below.thn HB.out hb)
  clear hb
  go_wp2
  go_ret
  exact ⟨rfl, HB2.out⟩
end Go.Proofs.Ytlbphgbhkbgknaa
