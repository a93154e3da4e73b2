/- The law ScoreLogs. -/
import Derived.Test.YthliplkkenolgaaLive
import Derived.Test.YthliplkkenolgaaReg
namespace Go.Proofs.Ythliplkkenolgaa
open Go.RowKit
set_option linter.unusedVariables false
set_option linter.unusedSimpArgs false

def LogsF (h0 : Nat) (D W X E Y F : Int) : Nat → Value → World → Prop
  | 0 => fun v w => v = .bool true
  | 1 => fun v w => v = .bool true
  | 2 => fun v w => v = .int .i64 X
  | 3 => fun v w => v = .int .i64 X
  | 4 => fun v w => v = .bool true
  | 5 => fun v w => v = .bool true
  | 6 => fun v w => v = .bool true
  | 7 => fun v w => v = .int .i64 E
  | 8 => fun v w => v = .int .i64 E
  | 9 => fun v w => v = .bool true
  | 10 => fun v w => v = .bool true
  | 11 => fun v w => v = .bool true
  | 12 => fun v w => v = .int .i64 Y
  | 13 => fun v w => v = .int .i64 Y
  | 14 => fun v w => v = .bool true
  | 15 => fun v w => v = .bool true
  | 16 => fun v w => v = .bool true
  | 17 => fun v w => v = .int .i64 F
  | 18 => fun v w => v = .int .i64 F
  | 19 => fun v w => v = .bool true
  | 20 => fun v w => v = .bool true
  | 21 => fun v w => v = .bool true
  | 22 => fun v w => v = .agg #[.int .i64 D, .int .i64 W]
  | 23 => fun v w => v = .int .i64 (chk D W)
  | 24 => fun v w => v = .agg #[.int .i64 D, .int .i64 W]
  | 25 => fun v w => v = .int .i64 (chk D W)
  | 26 => fun v w => v = .bool true
  | 27 => fun v w => v = .bool true
  | 28 => fun v w => v = .bool true
  | _ => fun _ _ => True
theorem LogsF.below (h0 : Nat) (D W X E Y F : Int) : ∀ i v w w', Below w.heap.size w w' → LogsF h0 D W X E Y F i v w → LogsF h0 D W X E Y F i v w'
  | 0, _, _, _, _, h => h
  | 1, _, _, _, _, h => h
  | 2, _, _, _, _, h => h
  | 3, _, _, _, _, h => h
  | 4, _, _, _, _, h => h
  | 5, _, _, _, _, h => h
  | 6, _, _, _, _, h => h
  | 7, _, _, _, _, h => h
  | 8, _, _, _, _, h => h
  | 9, _, _, _, _, h => h
  | 10, _, _, _, _, h => h
  | 11, _, _, _, _, h => h
  | 12, _, _, _, _, h => h
  | 13, _, _, _, _, h => h
  | 14, _, _, _, _, h => h
  | 15, _, _, _, _, h => h
  | 16, _, _, _, _, h => h
  | 17, _, _, _, _, h => h
  | 18, _, _, _, _, h => h
  | 19, _, _, _, _, h => h
  | 20, _, _, _, _, h => h
  | 21, _, _, _, _, h => h
  | 22, _, _, _, _, h => h
  | 23, _, _, _, _, h => h
  | 24, _, _, _, _, h => h
  | 25, _, _, _, _, h => h
  | 26, _, _, _, _, h => h
  | 27, _, _, _, _, h => h
  | 28, _, _, _, _, h => h
  | _ + 29, _, _, _, _, _ => trivial

set_option maxRecDepth 100000 in
set_option maxHeartbeats 2000000 in
theorem logs_any (a b D W d : Int) (w : World) (ha : i64 a) (hb : i64 b) (hD : i64 D) (hW : i64 W) (hd : i64 d) :
    Calls Try.prog 3 #[.int .i64 a, .int .i64 b, .agg #[.int .i64 D, .int .i64 W], .int .i64 d] w fun e w' => e = .returned (.bool true) ∧ Below w.heap.size w w' := by
  have HB := Lib.hid ((Below.refl w.heap.size w).alloc (Nat.le_refl _) (.cells #[.int .i64 D, .int .i64 W] 23))
  have HK : Hid (∀ w', Below (w.alloc (.cells #[.int .i64 D, .int .i64 W] 23)).heap.size (w.alloc (.cells #[.int .i64 D, .int .i64 W] 23)) w' → w'.cell? ⟨w.heap.size, 0, none⟩ = some (.int .i64 D) ∧ w'.cell? ⟨w.heap.size, 1, none⟩ = some (.int .i64 W)) := fun w' hb => ⟨box_keep hb, box_keep1 hb⟩
  have H1 : Hid (i64 a ∧ i64 b) := ⟨ha, hb⟩
  have H2 : Hid (i64 D ∧ i64 W ∧ i64 d) := ⟨hD, hW, hd⟩
  have HB0 := Lib.hid (Below.refl (w.alloc (.cells #[.int .i64 D, .int .i64 W] 23)).heap.size (w.alloc (.cells #[.int .i64 D, .int .i64 W] 23)))
  clear ha hb hD hW hd
  go_enter Try.func3, Try.ntmps3
  go_wp2_with fail
  refine (Log_any _ _ _ H1.out.1 H1.out.2).mono ?_
  rintro e w1 ⟨rfl, hw1⟩
  go_wp2_with fail
  refine (refLog_any _ _ _ H1.out.1 H1.out.2).mono ?_
  rintro e w2 ⟨rfl, hw2⟩
  subst hw2
  subst hw1
  obtain ⟨hk0, hk1⟩ := HK.out _ HB0.out
  go_wp2_with fail
  refine (Idf_any _ _ _ _ H2.out.1 H2.out.2.1 H2.out.2.2).mono ?_
  rintro e w3 ⟨rfl, hb3⟩
  have HB3 := Lib.hid hb3
  clear hk0 hk1 hb3
  obtain ⟨hk0, hk1⟩ := HK.out _ HB3.out
  go_wp2_with fail
  refine (refIdf_any _ _ _ _ H2.out.1 H2.out.2.1 H2.out.2.2).mono ?_
  rintro e w4 ⟨rfl, hb4⟩
  have HB4 := Lib.hid (Below.thn' HB3.out hb4)
  clear hk0 hk1 hb4
  obtain ⟨hc0, hc1⟩ := HK.out _ HB4.out
  have HB5 := Lib.hid (Below.thn' HB.out HB4.out)
  have hlt0 := World.block_lt_of_cell? w4 _ hc0
  have hlt1 := World.block_lt_of_cell? w4 _ hc1
  have HC := Lib.hid (And.intro (And.intro hc0 hc1) (And.intro hlt0 hlt1))
  clear hc0 hc1 hlt0 hlt1
  go_wp2_with fail
  rename_i K1 hK1
  obtain ⟨⟨hc0, hc1⟩, hlt0, hlt1⟩ := HC.out
  have hD := H2.out.1
  have hW := H2.out.2.1
  refine wp_region_flow (by kernel_rfl) (LogsF w.heap.size D W (logX a b) (logE a b) (idfX D W d) (idfE D W d)) (LogsF.below _ _ _ _ _ _ _) (by kernel_rfl) (by kernel_rfl) ?_ ?_
  case refine_1 =>
      intro i o ho ρ y w2 hb2 hreg hn hf hyb hyn
      have hi := (Array.getElem?_eq_some_iff.1 ho).1
      rcases Nat.lt_or_ge i 29 with hi2 | hi2
      case inr => simp at hi; omega
      obtain rfl | rfl | rfl | rfl | rfl | rfl | rfl | rfl | rfl | rfl | rfl | rfl | rfl | rfl | rfl | rfl | rfl | rfl | rfl | rfl | rfl | rfl | rfl | rfl | rfl | rfl | rfl | rfl | rfl : i = 0 ∨ i = 1 ∨ i = 2 ∨ i = 3 ∨ i = 4 ∨ i = 5 ∨ i = 6 ∨ i = 7 ∨ i = 8 ∨ i = 9 ∨ i = 10 ∨ i = 11 ∨ i = 12 ∨ i = 13 ∨ i = 14 ∨ i = 15 ∨ i = 16 ∨ i = 17 ∨ i = 18 ∨ i = 19 ∨ i = 20 ∨ i = 21 ∨ i = 22 ∨ i = 23 ∨ i = 24 ∨ i = 25 ∨ i = 26 ∨ i = 27 ∨ i = 28 := by omega
      · cases ho
        rw [if_pos (show Region.wanted _ y = true from rfl)]
        refine does_enter (f := 12) (args := #[]) (w' := w2) (by simp [go_sem, hreg.func]) ?_
        refine (live_any w2).mono ?_
        rintro e w' ⟨rfl, hbx⟩
        exact ⟨_, rfl, rfl, hbx⟩
      · cases ho
        rw [if_pos (show Region.wanted _ y = true from rfl)]
        have f41 : ρ (.tmp 41) = .bool true := hn 0 _ 41 rfl (by kernel_rfl) rfl
        exact ⟨f41, Below.refl _ _⟩
      · cases ho
        rw [if_pos (show Region.wanted _ y = true from by simp [Region.wanted, hyb 1 _ _ _ rfl rfl (hn 1 _ _ rfl (by kernel_rfl) rfl)])]
        have f9 : ρ (.tmp 9) = .int .i64 (logX a b) := hf 9 (by kernel_rfl)
        exact ⟨f9, Below.refl _ _⟩
      · cases ho
        rw [if_pos (show Region.wanted _ y = true from by simp [Region.wanted, hyb 1 _ _ _ rfl rfl (hn 1 _ _ rfl (by kernel_rfl) rfl)])]
        have f11 : ρ (.tmp 11) = .int .i64 (logX a b) := hf 11 (by kernel_rfl)
        exact ⟨f11, Below.refl _ _⟩
      · cases ho
        rw [if_pos (show Region.wanted _ y = true from by simp [Region.wanted, hyb 1 _ _ _ rfl rfl (hn 1 _ _ rfl (by kernel_rfl) rfl)])]
        have f43 : ρ (.tmp 43) = .int .i64 (logX a b) := hn 2 _ 43 rfl (by kernel_rfl) rfl
        have f44 : ρ (.tmp 44) = .int .i64 (logX a b) := hn 3 _ 44 rfl (by kernel_rfl) rfl
        exact does_ok (v := .bool true) (w' := w2) (by simp [go_sem, hreg.const, f43, f44]) ⟨rfl, Below.refl _ _⟩
      · cases ho
        rw [if_pos (show Region.wanted _ y = true from rfl)]
        have f42 : ρ (.tmp 42) = .bool true := hn 1 _ 42 rfl (by kernel_rfl) rfl
        have f45 : ρ (.tmp 45) = .bool true := hn 4 _ 45 rfl (by kernel_rfl) rfl
        exact does_ok (v := .bool true) (w' := w2) (by simp [go_sem, hreg.const, f42, f45]) ⟨rfl, Below.refl _ _⟩
      · cases ho
        rw [if_pos (show Region.wanted _ y = true from rfl)]
        have f46 : ρ (.tmp 46) = .bool true := hn 5 _ 46 rfl (by kernel_rfl) rfl
        exact ⟨f46, Below.refl _ _⟩
      · cases ho
        rw [if_pos (show Region.wanted _ y = true from by simp [Region.wanted, hyb 6 _ _ _ rfl rfl (hn 6 _ _ rfl (by kernel_rfl) rfl)])]
        have f10 : ρ (.tmp 10) = .int .i64 (logE a b) := hf 10 (by kernel_rfl)
        exact ⟨f10, Below.refl _ _⟩
      · cases ho
        rw [if_pos (show Region.wanted _ y = true from by simp [Region.wanted, hyb 6 _ _ _ rfl rfl (hn 6 _ _ rfl (by kernel_rfl) rfl)])]
        have f12 : ρ (.tmp 12) = .int .i64 (logE a b) := hf 12 (by kernel_rfl)
        exact ⟨f12, Below.refl _ _⟩
      · cases ho
        rw [if_pos (show Region.wanted _ y = true from by simp [Region.wanted, hyb 6 _ _ _ rfl rfl (hn 6 _ _ rfl (by kernel_rfl) rfl)])]
        have f48 : ρ (.tmp 48) = .int .i64 (logE a b) := hn 7 _ 48 rfl (by kernel_rfl) rfl
        have f49 : ρ (.tmp 49) = .int .i64 (logE a b) := hn 8 _ 49 rfl (by kernel_rfl) rfl
        exact does_ok (v := .bool true) (w' := w2) (by simp [go_sem, hreg.const, f48, f49]) ⟨rfl, Below.refl _ _⟩
      · cases ho
        rw [if_pos (show Region.wanted _ y = true from rfl)]
        have f47 : ρ (.tmp 47) = .bool true := hn 6 _ 47 rfl (by kernel_rfl) rfl
        have f50 : ρ (.tmp 50) = .bool true := hn 9 _ 50 rfl (by kernel_rfl) rfl
        exact does_ok (v := .bool true) (w' := w2) (by simp [go_sem, hreg.const, f47, f50]) ⟨rfl, Below.refl _ _⟩
      · cases ho
        rw [if_pos (show Region.wanted _ y = true from rfl)]
        have f51 : ρ (.tmp 51) = .bool true := hn 10 _ 51 rfl (by kernel_rfl) rfl
        exact ⟨f51, Below.refl _ _⟩
      · cases ho
        rw [if_pos (show Region.wanted _ y = true from by simp [Region.wanted, hyb 11 _ _ _ rfl rfl (hn 11 _ _ rfl (by kernel_rfl) rfl)])]
        have f13 : ρ (.tmp 13) = .int .i64 (idfX D W d) := hf 13 (by kernel_rfl)
        exact ⟨f13, Below.refl _ _⟩
      · cases ho
        rw [if_pos (show Region.wanted _ y = true from by simp [Region.wanted, hyb 11 _ _ _ rfl rfl (hn 11 _ _ rfl (by kernel_rfl) rfl)])]
        have f15 : ρ (.tmp 15) = .int .i64 (idfX D W d) := hf 15 (by kernel_rfl)
        exact ⟨f15, Below.refl _ _⟩
      · cases ho
        rw [if_pos (show Region.wanted _ y = true from by simp [Region.wanted, hyb 11 _ _ _ rfl rfl (hn 11 _ _ rfl (by kernel_rfl) rfl)])]
        have f53 : ρ (.tmp 53) = .int .i64 (idfX D W d) := hn 12 _ 53 rfl (by kernel_rfl) rfl
        have f54 : ρ (.tmp 54) = .int .i64 (idfX D W d) := hn 13 _ 54 rfl (by kernel_rfl) rfl
        exact does_ok (v := .bool true) (w' := w2) (by simp [go_sem, hreg.const, f53, f54]) ⟨rfl, Below.refl _ _⟩
      · cases ho
        rw [if_pos (show Region.wanted _ y = true from rfl)]
        have f52 : ρ (.tmp 52) = .bool true := hn 11 _ 52 rfl (by kernel_rfl) rfl
        have f55 : ρ (.tmp 55) = .bool true := hn 14 _ 55 rfl (by kernel_rfl) rfl
        exact does_ok (v := .bool true) (w' := w2) (by simp [go_sem, hreg.const, f52, f55]) ⟨rfl, Below.refl _ _⟩
      · cases ho
        rw [if_pos (show Region.wanted _ y = true from rfl)]
        have f56 : ρ (.tmp 56) = .bool true := hn 15 _ 56 rfl (by kernel_rfl) rfl
        exact ⟨f56, Below.refl _ _⟩
      · cases ho
        rw [if_pos (show Region.wanted _ y = true from by simp [Region.wanted, hyb 16 _ _ _ rfl rfl (hn 16 _ _ rfl (by kernel_rfl) rfl)])]
        have f14 : ρ (.tmp 14) = .int .i64 (idfE D W d) := hf 14 (by kernel_rfl)
        exact ⟨f14, Below.refl _ _⟩
      · cases ho
        rw [if_pos (show Region.wanted _ y = true from by simp [Region.wanted, hyb 16 _ _ _ rfl rfl (hn 16 _ _ rfl (by kernel_rfl) rfl)])]
        have f16 : ρ (.tmp 16) = .int .i64 (idfE D W d) := hf 16 (by kernel_rfl)
        exact ⟨f16, Below.refl _ _⟩
      · cases ho
        rw [if_pos (show Region.wanted _ y = true from by simp [Region.wanted, hyb 16 _ _ _ rfl rfl (hn 16 _ _ rfl (by kernel_rfl) rfl)])]
        have f58 : ρ (.tmp 58) = .int .i64 (idfE D W d) := hn 17 _ 58 rfl (by kernel_rfl) rfl
        have f59 : ρ (.tmp 59) = .int .i64 (idfE D W d) := hn 18 _ 59 rfl (by kernel_rfl) rfl
        exact does_ok (v := .bool true) (w' := w2) (by simp [go_sem, hreg.const, f58, f59]) ⟨rfl, Below.refl _ _⟩
      · cases ho
        rw [if_pos (show Region.wanted _ y = true from rfl)]
        have f57 : ρ (.tmp 57) = .bool true := hn 16 _ 57 rfl (by kernel_rfl) rfl
        have f60 : ρ (.tmp 60) = .bool true := hn 19 _ 60 rfl (by kernel_rfl) rfl
        exact does_ok (v := .bool true) (w' := w2) (by simp [go_sem, hreg.const, f57, f60]) ⟨rfl, Below.refl _ _⟩
      · cases ho
        rw [if_pos (show Region.wanted _ y = true from rfl)]
        have f61 : ρ (.tmp 61) = .bool true := hn 20 _ 61 rfl (by kernel_rfl) rfl
        exact ⟨f61, Below.refl _ _⟩
      · cases ho
        rw [if_pos (show Region.wanted _ y = true from by simp [Region.wanted, hyb 21 _ _ _ rfl rfl (hn 21 _ _ rfl (by kernel_rfl) rfl)])]
        have f6 : ρ (.tmp 6) = .pointer (some ⟨w.heap.size, 0, none⟩) := hf 6 (by kernel_rfl)
        have hk0 := (hb2.cell hlt0).trans hc0
        have hk1 := (hb2.cell hlt1).trans hc1
        exact does_ok (v := .agg #[.int .i64 D, .int .i64 W]) (w' := w2) (by simp [go_sem, f6, hk0, hk1]) ⟨rfl, Below.refl _ _⟩
      · cases ho
        rw [if_pos (show Region.wanted _ y = true from by simp [Region.wanted, hyb 21 _ _ _ rfl rfl (hn 21 _ _ rfl (by kernel_rfl) rfl)])]
        have f63 : ρ (.tmp 63) = .agg #[.int .i64 D, .int .i64 W] := hn 22 _ 63 rfl (by kernel_rfl) rfl
        refine does_enter (f := 13) (args := #[.agg #[.int .i64 D, .int .i64 W]]) (w' := w2) (by simp [go_sem, hreg.func, f63]) ?_
        refine (Check_any D W w2 hD hW).mono ?_
        rintro e w' ⟨rfl, hbx⟩
        exact ⟨_, rfl, rfl, hbx⟩
      · cases ho
        rw [if_pos (show Region.wanted _ y = true from by simp [Region.wanted, hyb 21 _ _ _ rfl rfl (hn 21 _ _ rfl (by kernel_rfl) rfl)])]
        have f6 : ρ (.tmp 6) = .pointer (some ⟨w.heap.size, 0, none⟩) := hf 6 (by kernel_rfl)
        have hk0 := (hb2.cell hlt0).trans hc0
        have hk1 := (hb2.cell hlt1).trans hc1
        exact does_ok (v := .agg #[.int .i64 D, .int .i64 W]) (w' := w2) (by simp [go_sem, f6, hk0, hk1]) ⟨rfl, Below.refl _ _⟩
      · cases ho
        rw [if_pos (show Region.wanted _ y = true from by simp [Region.wanted, hyb 21 _ _ _ rfl rfl (hn 21 _ _ rfl (by kernel_rfl) rfl)])]
        have f65 : ρ (.tmp 65) = .agg #[.int .i64 D, .int .i64 W] := hn 24 _ 65 rfl (by kernel_rfl) rfl
        refine does_enter (f := 14) (args := #[.agg #[.int .i64 D, .int .i64 W]]) (w' := w2) (by simp [go_sem, hreg.func, f65]) ?_
        refine (refCheck_any D W w2 hD hW).mono ?_
        rintro e w' ⟨rfl, hbx⟩
        exact ⟨_, rfl, rfl, hbx⟩
      · cases ho
        rw [if_pos (show Region.wanted _ y = true from by simp [Region.wanted, hyb 21 _ _ _ rfl rfl (hn 21 _ _ rfl (by kernel_rfl) rfl)])]
        have f64 : ρ (.tmp 64) = .int .i64 (chk D W) := hn 23 _ 64 rfl (by kernel_rfl) rfl
        have f66 : ρ (.tmp 66) = .int .i64 (chk D W) := hn 25 _ 66 rfl (by kernel_rfl) rfl
        exact does_ok (v := .bool true) (w' := w2) (by simp [go_sem, hreg.const, f64, f66]) ⟨rfl, Below.refl _ _⟩
      · cases ho
        rw [if_pos (show Region.wanted _ y = true from rfl)]
        have f62 : ρ (.tmp 62) = .bool true := hn 21 _ 62 rfl (by kernel_rfl) rfl
        have f67 : ρ (.tmp 67) = .bool true := hn 26 _ 67 rfl (by kernel_rfl) rfl
        exact does_ok (v := .bool true) (w' := w2) (by simp [go_sem, hreg.const, f62, f67]) ⟨rfl, Below.refl _ _⟩
      · cases ho
        rw [if_pos (show Region.wanted _ y = true from rfl)]
        have f68 : ρ (.tmp 68) = .bool true := hn 27 _ 68 rfl (by kernel_rfl) rfl
        exact ⟨f68, Below.refl _ _⟩
  case refine_2 =>
    intro a2 w5 hb5 hd2 hs2 hfacts hrest
    have f8 : a2.tmps.getD 8 undef = .bool true := hfacts 28 _ 8 rfl rfl
    refine hK1 _ _ ?_
    apply wp_ret
    refine bodyPost_ret (results_tmp rfl _ _ _) (by rw [hd2]) ⟨by rw [f8], Below.thn' HB5.out hb5⟩
end Go.Proofs.Ythliplkkenolgaa
