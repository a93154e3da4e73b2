/- The law ScoreBounds. -/
import Derived.Test.YthliplkkenolgaaTermMath
import Derived.Test.YthliplkkenolgaaLive
namespace Go.Proofs.Ythliplkkenolgaa
open Go.RowKit
set_option linter.unusedVariables false
set_option linter.unusedSimpArgs false

set_option maxRecDepth 100000 in
set_option maxHeartbeats 2000000 in
theorem bounds_any (D W d m n : Int) (w : World) (hD : i64 D) (hW : i64 W) (hd : i64 d) (hm : i64 m) (hn : i64 n) :
    Calls Try.prog 5 #[.agg #[.int .i64 D, .int .i64 W], .int .i64 d, .int .i64 m, .int .i64 n] w fun e w' => e = .returned (.bool true) ∧ Below w.heap.size w w' := by
  have HB := Lib.hid ((Below.refl w.heap.size w).alloc (Nat.le_refl _) (.cells #[.int .i64 D, .int .i64 W] 23))
  have HK : Hid (∀ w', Below (w.alloc (.cells #[.int .i64 D, .int .i64 W] 23)).heap.size (w.alloc (.cells #[.int .i64 D, .int .i64 W] 23)) w' → w'.cell? ⟨w.heap.size, 0, none⟩ = some (.int .i64 D) ∧ w'.cell? ⟨w.heap.size, 1, none⟩ = some (.int .i64 W)) := fun w' hb => ⟨box_keep hb, box_keep1 hb⟩
  have HT : Hid (∀ w : World, Calls Try.prog 15 #[.agg #[.int .i64 D, .int .i64 W], .int .i64 d, .int .i64 m, .int .i64 n] w fun e w' => e = .returned (.tuple #[.int .i64 (termX D W d m n), .int .i64 (termE D W d m n)]) ∧ Below w.heap.size w w') := fun w => Term_any D W d m n w hD hW hd hm hn
  have HI : Hid (∀ w : World, Calls Try.prog 10 #[.agg #[.int .i64 D, .int .i64 W], .int .i64 d] w fun e w' => e = .returned (.tuple #[.int .i64 (idfX D W d), .int .i64 (idfE D W d)]) ∧ Below w.heap.size w w') := fun w => Idf_any D W d w hD hW hd
  clear hD hW hd hm hn
  by_cases h : okT D W d m n
  · obtain ⟨t1, t2⟩ := term_le h
    obtain ⟨x1, x2⟩ := idf_2560 h.1
    have hE := (term_yes h).2
    have hF := (idf_yes h.1).2.2
    rw [hE] at HT
    rw [hF] at HI
    obtain ⟨X, hX⟩ : ∃ X, X = termX D W d m n := ⟨_, rfl⟩
    obtain ⟨Y, hY⟩ : ∃ Y, Y = idfX D W d := ⟨_, rfl⟩
    rw [← hX] at t1 t2 HT
    rw [← hY] at t2 x1 x2 HI
    clear hX hY hE hF h
    go_enter Try.func5, Try.ntmps5
    go_wp2_with fail
    refine (HT.out _).mono ?_
    rintro e w1 ⟨rfl, hb⟩
    have HB1 := Lib.hid hb
    clear hb
    go_wp2_with fail
    refine (live_any _).mono ?_
    rintro e w2 ⟨rfl, hb⟩
    have HB2 := Lib.hid (Below.thn' HB1.out hb)
    obtain ⟨hk0, hk1⟩ := HK.out _ HB2.out
    clear hb
    go_wp2_with fail
    refine (HI.out _).mono ?_
    rintro e w3 ⟨rfl, hb⟩
    have HB3 := Lib.hid (Below.thn' HB.out (Below.thn' HB2.out hb))
    clear hb hk0 hk1
    go_wp2
    go_ret
    exact ⟨rfl, HB3.out⟩
  · obtain ⟨hX, hE⟩ := term_no h
    rw [hE, hX] at HT
    clear hX hE h
    go_enter Try.func5, Try.ntmps5
    go_wp2_with fail
    refine (HT.out _).mono ?_
    rintro e w1 ⟨rfl, hb⟩
    have HB1 := Lib.hid hb
    clear hb
    go_wp2_with fail
    refine (live_any _).mono ?_
    rintro e w2 ⟨rfl, hb⟩
    have HB2 := Lib.hid (Below.thn' HB1.out hb)
    clear hb
    go_wp2_with fail
    refine (live_any _).mono ?_
    rintro e w3 ⟨rfl, hb⟩
    have HB3 := Lib.hid (Below.thn' HB.out (Below.thn' HB2.out hb))
    clear hb
    go_wp2
    go_ret
    exact ⟨rfl, HB3.out⟩
end Go.Proofs.Ythliplkkenolgaa
