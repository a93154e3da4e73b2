/- The law ScoreTerms. -/
import Derived.Test.YthliplkkenolgaaRefSum
import Derived.WalkKit
namespace Go.Proofs.Ythliplkkenolgaa
open Go.RowKit
set_option linter.unusedVariables false
set_option linter.unusedSimpArgs false

set_option maxRecDepth 100000 in
set_option maxHeartbeats 2000000 in
theorem terms_any (D W d m n : Int) (A : Option Addr) (r c : Nat) (l : List (Int × Int)) (w : World) (hD : i64 D) (hW : i64 W) (hd : i64 d) (hm : i64 m) (hn : i64 n) (hl : RdP w A r l) (hr : r ≤ 9223372036854775807) :
    Calls Try.prog 7 #[.agg #[.int .i64 D, .int .i64 W], .int .i64 d, .int .i64 m, .int .i64 n, .slice A r c] w fun e w' => e = .returned (.bool true) ∧ Below w.heap.size w w' := by
  have HB := Lib.hid ((Below.refl w.heap.size w).alloc (Nat.le_refl _) (.cells #[.int .i64 D, .int .i64 W] 23))
  have HK : Hid (∀ w', Below (w.alloc (.cells #[.int .i64 D, .int .i64 W] 23)).heap.size (w.alloc (.cells #[.int .i64 D, .int .i64 W] 23)) w' → w'.cell? ⟨w.heap.size, 0, none⟩ = some (.int .i64 D) ∧ w'.cell? ⟨w.heap.size, 1, none⟩ = some (.int .i64 W)) := fun w' hb => ⟨box_keep hb, box_keep1 hb⟩
  have C1 : Hid (∀ w : World, Calls Try.prog 15 #[.agg #[.int .i64 D, .int .i64 W], .int .i64 d, .int .i64 m, .int .i64 n] w fun e w' => e = .returned (.tuple #[.int .i64 (termX D W d m n), .int .i64 (termE D W d m n)]) ∧ Below w.heap.size w w') := fun w => Term_any D W d m n w hD hW hd hm hn
  have C2 : Hid (∀ w : World, Calls Try.prog 16 #[.agg #[.int .i64 D, .int .i64 W], .int .i64 d, .int .i64 m, .int .i64 n] w fun e w' => e = .returned (.tuple #[.int .i64 (termX D W d m n), .int .i64 (termE D W d m n)]) ∧ Below w.heap.size w w') := fun w => refTerm_any D W d m n w hD hW hd hm hn
  have C3 : Hid (r ≤ 1000 → ∀ w' : World, RdP w' A r l → Calls Try.prog 17 #[.agg #[.int .i64 D, .int .i64 W], .int .i64 n, .slice A r c] w' fun e w'' => e = .returned (.tuple #[.int .i64 (sumX D W n l), .int .i64 (sumE D W n l)]) ∧ Below w'.heap.size w' w'') := fun h w' hl => Sum_any D W n A r c l w' hD hW hn hl h
  have C4 : Hid (r ≤ 1000 → ∀ w' : World, RdP w' A r l → Calls Try.prog 18 #[.agg #[.int .i64 D, .int .i64 W], .int .i64 n, .slice A r c] w' fun e w'' => e = .returned (.tuple #[.int .i64 (sumX D W n l), .int .i64 (sumE D W n l)]) ∧ Below w'.heap.size w' w'') := fun h w' hl => refSum_any D W n A r c l w' hD hW hn hl h
  have HL := Lib.hid (hl.below HB.out)
  clear hD hW hd hm hn hl
  obtain ⟨X, hX⟩ : ∃ X, X = termX D W d m n := ⟨_, rfl⟩
  obtain ⟨E, hE⟩ : ∃ X, X = termE D W d m n := ⟨_, rfl⟩
  obtain ⟨Y, hY⟩ : ∃ X, X = sumX D W n l := ⟨_, rfl⟩
  obtain ⟨F, hF⟩ : ∃ X, X = sumE D W n l := ⟨_, rfl⟩
  rw [← hX, ← hE] at C1 C2
  rw [← hY, ← hF] at C3 C4
  clear hX hE hY hF
  by_cases h : (r : Int) > 1000
  · go_enter Try.func7, Try.ntmps7
    go_wp2_with fail
    refine (live_any _).mono ?_
    rintro e w1 ⟨rfl, hb⟩
    have HB1 := Lib.hid hb
    clear hb
    go_wp2_with fail
    refine (live_any _).mono ?_
    rintro e w2 ⟨rfl, hb⟩
    have HB2 := Lib.hid (Below.thn' HB.out (Below.thn' HB1.out hb))
    clear hb
    go_wp2
    go_ret
    exact ⟨rfl, HB2.out⟩
  · have hr' : r ≤ 1000 := by omega
    have D3 := Lib.hid (C3.out hr')
    have D4 := Lib.hid (C4.out hr')
    clear C3 C4
    go_enter Try.func7, Try.ntmps7
    go_wp2_with fail
    refine (live_any _).mono ?_
    rintro e w1 ⟨rfl, hb⟩
    have HB1 := Lib.hid hb
    clear hb
    obtain ⟨k0, k1⟩ := HK.out _ HB1.out
    go_wp2_with fail
    refine (C1.out _).mono ?_
    rintro e w2 ⟨rfl, hb⟩
    have HB2 := Lib.hid (Below.thn' HB1.out hb)
    clear hb k0 k1
    obtain ⟨k0, k1⟩ := HK.out _ HB2.out
    go_wp2_with fail
    refine (C2.out _).mono ?_
    rintro e w3 ⟨rfl, hb⟩
    have HB3 := Lib.hid (Below.thn' HB2.out hb)
    clear hb k0 k1
    obtain ⟨k0, k1⟩ := HK.out _ HB3.out
    go_wp2_with fail
    refine (D3.out _ (HL.out.below HB3.out)).mono ?_
    rintro e w4 ⟨rfl, hb⟩
    have HB4 := Lib.hid (Below.thn' HB3.out hb)
    clear hb k0 k1
    obtain ⟨k0, k1⟩ := HK.out _ HB4.out
    go_wp2_with fail
    refine (D4.out _ (HL.out.below HB4.out)).mono ?_
    rintro e w5 ⟨rfl, hb⟩
    have HB5 := Lib.hid (Below.thn' HB.out (Below.thn' HB4.out hb))
    clear hb k0 k1
    go_wp2
    go_ret
    exact ⟨rfl, HB5.out⟩
end Go.Proofs.Ythliplkkenolgaa
