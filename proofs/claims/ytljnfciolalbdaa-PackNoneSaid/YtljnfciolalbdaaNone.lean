/- A reader that no call made; the law PackNone. -/
import Derived.Test.YtljnfciolalbdaaRText
import Derived.Test.YtljnfciolalbdaaLive
namespace Go.Proofs.Ytljnfciolalbdaa
open Go.RowKit
set_option linter.unusedVariables false
set_option linter.unusedSimpArgs false

/-- No reader: none at all, or one that no call made. -/
def NR (w : World) (p : Value) : Prop := p = .pointer none ∨ ∃ g, p = .pointer (some ⟨g, 0, none⟩) ∧ w.cell? ⟨g, 0, none⟩ = some (.slice none 0 0) ∧ w.cell? ⟨g, 1, none⟩ = some (.int .i64 0) ∧ w.cell? ⟨g, 2, none⟩ = some (.bool false)

set_option maxRecDepth 100000 in
theorem n_none {w : World} {p : Value} (h : NR w p) : Calls Try.prog 50 #[p] w fun e w' => e = .returned (.bool true) ∧ w = w' := by
  rcases h with rfl | ⟨g, rfl, k0, k1, k2⟩
  · go_enter Try.func50, Try.ntmps50
    go_wp2
    go_ret
    exact ⟨rfl, rfl⟩
  · go_enter Try.func50, Try.ntmps50
    go_wp2
    go_ret
    exact ⟨rfl, rfl⟩

set_option maxRecDepth 100000 in
theorem n_Left {w : World} {p : Value} (h : NR w p) : Calls Try.prog 32 #[p] w fun e w' => e = .returned (.int .i64 0) ∧ w = w' := by
  rcases h with rfl | ⟨g, rfl, k0, k1, k2⟩
  · go_enter Try.func32, Try.ntmps32
    go_wp2
    go_ret
    exact ⟨rfl, rfl⟩
  · go_enter Try.func32, Try.ntmps32
    go_wp2
    go_ret
    exact ⟨rfl, rfl⟩

set_option maxRecDepth 100000 in
theorem n_Err {w : World} {p : Value} (h : NR w p) : Calls Try.prog 33 #[p] w fun e w' => e = .returned (.int .i64 2) ∧ w = w' := by
  rcases h with rfl | ⟨g, rfl, k0, k1, k2⟩
  · go_enter Try.func33, Try.ntmps33
    go_wp2
    go_ret
    exact ⟨rfl, rfl⟩
  · go_enter Try.func33, Try.ntmps33
    go_wp2
    go_ret
    exact ⟨rfl, rfl⟩

set_option maxRecDepth 100000 in
theorem n_End {w : World} {p : Value} (h : NR w p) : Calls Try.prog 34 #[p] w fun e w' => e = .returned (.int .i64 2) ∧ w = w' := by
  have C := Lib.hid (n_Err h)
  go_enter Try.func34, Try.ntmps34
  go_wp2_with fail
  refine C.out.mono ?_
  rintro e w1 ⟨rfl, rfl⟩
  go_wp2
  go_ret
  exact ⟨rfl, rfl⟩

set_option maxRecDepth 100000 in
theorem n_next {w : World} {p : Value} {k : Int} (h : NR w p) : Calls Try.prog 52 #[p, .int .i64 k] w fun e w' => e = .returned (.slice none 0 0) ∧ w = w' := by
  have C := Lib.hid (n_none h)
  go_enter Try.func52, Try.ntmps52
  go_wp2_with fail
  refine C.out.mono ?_
  rintro e w1 ⟨rfl, rfl⟩
  go_wp2
  go_ret
  exact ⟨rfl, rfl⟩

set_option maxRecDepth 100000 in
theorem n_Raw {w : World} {p : Value} {k : Int} (h : NR w p) : Calls Try.prog 41 #[p, .int .i64 k] w fun e w' => e = .returned (.slice none 0 0) ∧ w = w' := by
  have C := Lib.hid (n_none h)
  go_enter Try.func41, Try.ntmps41
  go_wp2_with fail
  refine C.out.mono ?_
  rintro e w1 ⟨rfl, rfl⟩
  go_wp2
  go_ret
  exact ⟨rfl, rfl⟩

set_option maxRecDepth 100000 in
theorem n_Text {w : World} {p : Value} {k : Int} (h : NR w p) : Calls Try.prog 42 #[p, .int .i64 k] w fun e w' => e = .returned (.slice none 0 0) ∧ w = w' := by
  have C := Lib.hid (n_none h)
  go_enter Try.func42, Try.ntmps42
  go_wp2_with fail
  refine C.out.mono ?_
  rintro e w1 ⟨rfl, rfl⟩
  go_wp2
  go_ret
  exact ⟨rfl, rfl⟩

set_option maxRecDepth 100000 in
theorem n_Var {w : World} {p : Value} (h : NR w p) : Calls Try.prog 40 #[p] w fun e w' => e = .returned (.int .u32 0) ∧ w = w' := by
  have C := Lib.hid (n_none h)
  go_enter Try.func40, Try.ntmps40
  go_wp2
  go_step3
  go_wp2_with fail
  refine C.out.mono ?_
  rintro e w1 ⟨rfl, rfl⟩
  go_wp2
  (try rw [Exit.noGoto_ret])
  go_ret
  exact ⟨rfl, rfl⟩

set_option maxRecDepth 100000 in
theorem n_number {w : World} {p : Value} {k : Int} (h : NR w p) : Calls Try.prog 49 #[p, .int .i64 k] w fun e w' => e = .returned (.int .u64 0) ∧ w = w' := by
  have C := Lib.hid (n_next (k := k) h)
  go_enter Try.func49, Try.ntmps49
  go_wp2_with fail
  refine C.out.mono ?_
  rintro e w1 ⟨rfl, rfl⟩
  go_wp2_with fail
  go_loop [5, 12] (fun y x => y = .int .u64 0 ∧ x = .int .i64 0) (fun _ x => 0)
  case atStart => exact ⟨rfl, rfl⟩
  case round =>
    rename_i hwr
    clear hwr
    obtain ⟨rfl, rfl⟩ := hrel
    go_wp2
    go_ret
    exact ⟨rfl, rfl⟩

set_option maxRecDepth 100000 in
theorem n_U8 {w : World} {p : Value} (h : NR w p) : Calls Try.prog 36 #[p] w fun e w' => e = .returned (.int .u8 0) ∧ w = w' := by
  have C := Lib.hid (n_number (k := 1) h)
  go_enter Try.func36, Try.ntmps36
  go_wp2_with fail
  refine C.out.mono ?_
  rintro e w1 ⟨rfl, rfl⟩
  go_wp2
  go_ret
  exact ⟨rfl, rfl⟩

set_option maxRecDepth 100000 in
theorem n_U16 {w : World} {p : Value} (h : NR w p) : Calls Try.prog 37 #[p] w fun e w' => e = .returned (.int .u16 0) ∧ w = w' := by
  have C := Lib.hid (n_number (k := 2) h)
  go_enter Try.func37, Try.ntmps37
  go_wp2_with fail
  refine C.out.mono ?_
  rintro e w1 ⟨rfl, rfl⟩
  go_wp2
  go_ret
  exact ⟨rfl, rfl⟩

set_option maxRecDepth 100000 in
theorem n_U32 {w : World} {p : Value} (h : NR w p) : Calls Try.prog 38 #[p] w fun e w' => e = .returned (.int .u32 0) ∧ w = w' := by
  have C := Lib.hid (n_number (k := 4) h)
  go_enter Try.func38, Try.ntmps38
  go_wp2_with fail
  refine C.out.mono ?_
  rintro e w1 ⟨rfl, rfl⟩
  go_wp2
  go_ret
  exact ⟨rfl, rfl⟩

set_option maxRecDepth 100000 in
theorem n_U64 {w : World} {p : Value} (h : NR w p) : Calls Try.prog 39 #[p] w fun e w' => e = .returned (.int .u64 0) ∧ w = w' := by
  have C := Lib.hid (n_number (k := 8) h)
  go_enter Try.func39, Try.ntmps39
  go_wp2_with fail
  refine C.out.mono ?_
  rintro e w1 ⟨rfl, rfl⟩
  go_wp2
  go_ret
  exact ⟨rfl, rfl⟩

set_option maxRecDepth 100000 in
set_option maxHeartbeats 2000000 in
theorem none_law (n : Int) (w : World) : Calls Try.prog 8 #[.int .i64 n] w fun e w' => e = .returned (.bool true) ∧ Below w.heap.size w w' := by
  have hbd : ∀ (W : World), (Instr.build 58 #[]).run Try.prog W = .ok (.agg #[.slice none 0 0, .int .i64 0, .bool false]) W := fun W => run_build W 58 _ _ (by kernel_rfl)
  obtain ⟨W1, hW1⟩ : ∃ W1, W1 = w.alloc (.cells #[.slice none 0 0, .int .i64 0, .bool false] 58) := ⟨_, rfl⟩
  obtain ⟨W2, hW2⟩ : ∃ W2, W2 = W1.alloc (.cells #[.pointer none, .pointer (some ⟨w.heap.size, 0, none⟩)] 45) := ⟨_, rfl⟩
  have hs1 : W1.heap.size = w.heap.size + 1 := by rw [hW1]; simp
  have HB : Hid (Below w.heap.size w W2) := Lib.hid (by
    rw [hW2]
    refine Below.alloc ?_ (by omega) _
    rw [hW1]
    exact (Below.refl _ _).alloc (Nat.le_refl _) _)
  have hb12 : Below W1.heap.size W1 W2 := by rw [hW2]; exact (Below.refl _ _).alloc (Nat.le_refl _) _
  have c0 : ∀ j : Nat, j < 3 → W2.cell? ⟨w.heap.size, j, none⟩ = #[.slice none 0 0, .int .i64 0, .bool false][j]? := by
    intro j hj
    rw [hb12.cell (by show w.heap.size < W1.heap.size; omega), hW1]
    exact World.cell?_alloc_mark w _ _ (0, 0) j
  have c1 : ∀ j : Nat, W2.cell? ⟨w.heap.size + 1, j, none⟩ = #[.pointer none, .pointer (some ⟨w.heap.size, 0, none⟩)][j]? := by
    intro j
    rw [← hs1, hW2]
    exact World.cell?_alloc_mark W1 _ _ (0, 0) j
  have HN : Hid (∀ k : Nat, k < 2 → ∃ p, W2.cell? ⟨w.heap.size + 1, k, none⟩ = some p ∧ NR W2 p) := Lib.hid (by
    intro k hk
    rcases (show k = 0 ∨ k = 1 by omega) with rfl | rfl
    · exact ⟨_, c1 0, .inl rfl⟩
    · exact ⟨_, c1 1, .inr ⟨_, rfl, c0 0 (by omega), c0 1 (by omega), c0 2 (by omega)⟩⟩)
  have HW : Hid ((w.alloc (.cells #[.slice none 0 0, .int .i64 0, .bool false] 58)).alloc (.cells #[.pointer none, .pointer (some ⟨w.heap.size, 0, none⟩)] 45) = W2) := Lib.hid (by rw [hW2, hW1])
  clear hW1 hW2 hs1 hb12 c0 c1
  go_enter Try.func8, Try.ntmps8
  go_wp2_with fail
  rw [HW.out]
  go_loop [9] (fun x => ∃ k : Nat, x = .int .i64 k ∧ k ≤ 2) (fun x => 2 - (intOf x).toNat)
  case atStart => exact ⟨0, rfl, by decide⟩
  case round =>
    rename_i hwr
    clear hwr
    obtain ⟨k, rfl, hk⟩ := hrel
    by_cases hlt : (k : Int) < 2
    · obtain ⟨p, hc, hN⟩ := HN.out k (by omega)
      have HP := Lib.hid hN
      have q1 : k < 2 := by omega
      clear hN
      go_wp2_with fail
      refine (n_U8 HP.out).mono ?_
      rintro e w1 ⟨rfl, rfl⟩
      go_wp2_with fail
      refine (n_U16 HP.out).mono ?_
      rintro e w1 ⟨rfl, rfl⟩
      go_wp2_with fail
      refine (n_U32 HP.out).mono ?_
      rintro e w1 ⟨rfl, rfl⟩
      go_wp2_with fail
      refine (n_U64 HP.out).mono ?_
      rintro e w1 ⟨rfl, rfl⟩
      go_wp2_with fail
      refine (n_Var HP.out).mono ?_
      rintro e w1 ⟨rfl, rfl⟩
      go_wp2_with fail
      refine (n_Raw HP.out).mono ?_
      rintro e w1 ⟨rfl, rfl⟩
      go_wp2_with fail
      refine (n_Text HP.out).mono ?_
      rintro e w1 ⟨rfl, rfl⟩
      go_wp2_with fail
      refine (n_Left HP.out).mono ?_
      rintro e w1 ⟨rfl, rfl⟩
      go_wp2_with fail
      refine (n_Err HP.out).mono ?_
      rintro e w1 ⟨rfl, rfl⟩
      go_wp2_with fail
      refine (n_End HP.out).mono ?_
      rintro e w1 ⟨rfl, rfl⟩
      go_wp2
      exact ⟨⟨k + 1, by go_num, by omega⟩, by simp [intOf]; omega⟩
    · go_wp2_with fail
      refine (live_any _).mono ?_
      rintro e w3 ⟨rfl, hb⟩
      have KB := Lib.hid (Below.thn HB.out hb)
      clear hb
      go_wp2
      go_ret
      exact ⟨rfl, KB.out⟩
end Go.Proofs.Ytljnfciolalbdaa
