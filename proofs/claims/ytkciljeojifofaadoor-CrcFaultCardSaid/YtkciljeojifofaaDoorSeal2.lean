/- What Seal and Open of the program and of the reference tell. -/
import Derived.Test.YtkciljeojifofaaDoorSeal
namespace Go.Proofs.YtkciljeojifofaaDoor
open Go.RowKit Crc
set_option linter.unusedVariables false
set_option linter.unusedSimpArgs false

set_option maxHeartbeats 400000 in
theorem Seal_any (A : Option Addr) (n c : Nat) (l : List Nat) (w : World) (hT : Tab w) (hl : RdB w A n l) (hn : n ≤ 1000000) :
    Calls Tryd.prog 16 #[.slice A n c] w fun e w' => ∃ v, e = .returned v ∧ OwnL encB 5 w' w.heap.size v (sumB (crcAdd 0 l) ++ l) ∧ Below w.heap.size w w' := by
  have HT := Lib.hid hT
  have HL := Lib.hid hl
  clear hT hl
  obtain ⟨i0, hi, hz0, hz1, hz2⟩ := info_parts info5
  go_enter Tryd.func16, Tryd.ntmps16
  go_wp2_with fail
  refine (head_any _ _ _ _ _ HT.out HL.out).mono ?_
  rintro e w1 ⟨rfl, hb1⟩
  have HB1 := Lib.hid hb1
  clear hb1
  have HS := Lib.hid (sumB_bytes (crcAdd 0 l))
  have HQ : Hid (sumB (crcAdd 0 l) = [crcAdd 0 l / 16777216 % 256, crcAdd 0 l / 65536 % 256, crcAdd 0 l / 256 % 256, crcAdd 0 l % 256]) := rfl
  unfold sumB
  generalize crcAdd 0 l / 16777216 % 256 = b0 at *
  generalize crcAdd 0 l / 65536 % 256 = b1 at *
  generalize crcAdd 0 l / 256 % 256 = b2 at *
  generalize crcAdd 0 l % 256 = b3 at *
  simp only [List.map_cons, List.map_nil]
  have HW : Hid (Rd encB (w1.alloc (.cells #[.int .u8 b0, .int .u8 b1, .int .u8 b2, .int .u8 b3] 49)) (some ⟨w1.heap.size, 0, none⟩) 4 [b0, b1, b2, b3]) := Rd.new w1 49 [b0, b1, b2, b3] _ 4 (0, 0) rfl rfl (by decide)
  have HBA := Lib.hid ((Below.refl w1.heap.size w1).alloc (Nat.le_refl _) (.cells #[.int .u8 b0, .int .u8 b1, .int .u8 b2, .int .u8 b3] 49))
  go_wp2_with (first
    | (at_make; refine wpList_make_own _ rfl _ _ 31 rfl w.heap.size 5 i0 (.int .u8 0) 1 Tryd.underlying31 hi hz0 hz1 .i64 .i64 _ (4 + n) rfl rfl (by omega) (by rw [hz2]; omega) (by unfold maxLen; omega) (by have := HB1.out.size; simp; omega) ?_; intro w2 hown2 hg2; have hbw2 := (Below.refl _ _).grown hg2 (Nat.le_refl _) (by simp); have HR1 := Lib.hid (HW.out.below hbw2); have HBW := Lib.hid (Below.thn HB1.out (Below.thn HBA.out hbw2)); rw [World.size_alloc] at hown2; have HO2 : Hid (OwnL encB 5 w2 w.heap.size (.slice (some ⟨w1.heap.size + 1, 0, none⟩) 0 (4 + n)) []) := hown2; clear hown2 hg2 hbw2)
    | (at_builtin; refine wpl_append (enc := encB) w.heap.size rfl (.tmp 11) (.tmp 12) 31 5 (.int .u8 0) 1 rfl Tryd.underlying31 info5 rfl (by decide) encB_one rfl rfl HO2.out HR1.out (by simp) HBW.out.size ?_; intro v3 w3 hown3 hg3 hat3; have HB3 := Lib.hid (HBW.out.grown hg3 HBW.out.size (fun k hk => (HO2.out.base k hk).1)); have HO3 := Lib.hid hown3; have HR3 := Lib.hid (HL.out.below HB3.out).rd; clear hown3 hg3 hat3)
    | (at_builtin; refine wpl_append (enc := encB) w.heap.size rfl (.tmp 13) (.tmp 14) 31 5 (.int .u8 0) 1 rfl Tryd.underlying31 info5 rfl (by decide) encB_one rfl rfl HO3.out HR3.out (by simp; omega) HB3.out.size ?_; intro v4 w4 hown4 hg4 hat4))
  go_ret
  refine ⟨v4, rfl, by rw [HQ.out]; simpa using hown4, HB3.out.grown hg4 HB3.out.size (fun k hk => (HO3.out.base k hk).1)⟩
end Go.Proofs.YtkciljeojifofaaDoor
