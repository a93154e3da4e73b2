/- The walk of the law CrcSums: it answers true and writes nothing that was there. -/
import Derived.Test.YtkciljeojifofaaDoorWalkD
namespace Go.Proofs.YtkciljeojifofaaDoor
open Go.RowKit Crc

set_option maxHeartbeats 400000 in
theorem sums_any (s : Int) (A : Option Addr) (n c : Nat) (ls : List (List Nat)) (w : World) (h0 : 0 ≤ s) (hr : s < 4294967296) (hT : Tab w) (hl : RdBB w A n ls) :
    Calls Tryd.prog 3 #[.int .u32 s, .slice A n c] w fun e w' => e = .returned (.bool true) ∧ Below w.heap.size w w' := by
  have HT := Lib.hid hT
  have HL := Lib.hid hl
  clear hT hl
  generalize hf : fewB ls = f
  have HF := Lib.hid hf
  clear hf
  cases f with
  | false =>
    go_enter Tryd.func3, Tryd.ntmps3
    go_wp2_with fail
    refine (live_any w HT.out).mono ?_
    rintro e w1 ⟨rfl, hb1⟩
    have HB1 := Lib.hid hb1
    clear hb1
    go_wp2_with fail
    refine (few_any _ _ _ _ _ (HL.out.below HB1.out)).mono ?_
    rintro e w' ⟨rfl, rfl⟩
    rw [HF.out]
    go_wp2_with fail
    refine (live_any w1 (HT.out.below HB1.out)).mono ?_
    rintro e w2 ⟨rfl, hb2⟩
    have HB2 := Lib.hid hb2
    clear hb2
    go_wp2
    go_ret
    exact ⟨rfl, Below.then HB1.out HB2.out⟩
  | true =>
    go_enter Tryd.func3, Tryd.ntmps3
    go_wp2_with fail
    refine (live_any w HT.out).mono ?_
    rintro e w1 ⟨rfl, hb1⟩
    have HB1 := Lib.hid hb1
    clear hb1
    go_wp2_with fail
    refine (few_any _ _ _ _ _ (HL.out.below HB1.out)).mono ?_
    rintro e w' ⟨rfl, rfl⟩
    rw [HF.out]
    go_wp2_with fail
    refine (Of_any _ _ _ _ _ (HT.out.below HB1.out) (HL.out.below HB1.out)).mono ?_
    rintro e w' ⟨rfl, rfl⟩
    go_wp2_with fail
    refine (refOf_any _ _ _ _ _ (HL.out.below HB1.out)).mono ?_
    rintro e w' ⟨rfl, rfl⟩
    go_wp2_with fail
    refine (add_any _ _ _ _ _ _ h0 hr (HT.out.below HB1.out) (HL.out.below HB1.out)).mono ?_
    rintro e w' ⟨rfl, rfl⟩
    go_wp2_with fail
    refine (refAdd_any _ _ _ _ _ _ h0 hr (HL.out.below HB1.out)).mono ?_
    rintro e w' ⟨rfl, rfl⟩
    go_wp2
    go_ret
    exact ⟨rfl, HB1.out⟩
end Go.Proofs.YtkciljeojifofaaDoor
