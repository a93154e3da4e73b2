/- grown: a copy of bytes with noughts behind. -/
import Derived.Test.YtmonlookmnlgnaaCopy
import Derived.Test.YtmonlookmnlgnaaCompare
namespace Go.Proofs.Ytmonlookmnlgnaa
open Go.RowKit
set_option linter.unusedVariables false
set_option linter.unusedSimpArgs false

set_option maxRecDepth 100000 in
set_option maxHeartbeats 2000000 in
theorem grown_any (A : Option Addr) (n c k : Nat) (l : List Nat) (w : World) (hl : RdB w A n l) (hb : n + k ≤ 70368744177664) :
    Calls Try.prog 43 #[.slice A n c, .int .i64 k] w fun e w' => e = .returned (.tuple #[.slice (some ⟨w.heap.size, 0, none⟩) (n + k : Nat) (n + k : Nat), .slice (cutAt (some ⟨w.heap.size, 0, none⟩) (n + k) n) k k]) ∧
      OwnB w' w.heap.size (.slice (some ⟨w.heap.size, 0, none⟩) (n + k) (n + k)) (l ++ List.replicate k 0) ∧ Below w.heap.size w w' := by
  have HR := Lib.hid hl
  clear hl
  obtain ⟨N, hN⟩ : ∃ N, N = n + k := ⟨_, rfl⟩
  have e1 : (n : Int) + (k : Int) = (N : Int) := by omega
  have hnN : n ≤ N := by omega
  rw [← hN] at hb ⊢
  have HO : OwnB (w.alloc (.cells (madeCells #[.int .u8 0] N) 5)) w.heap.size (.slice (some ⟨w.heap.size, 0, none⟩) N N) (List.replicate N 0) :=
    ⟨OwnL.made w w.heap.size 5 0 N (Nat.le_refl _) (by omega), Byt.replicate _ _ (by decide)⟩
  have HB := (Below.refl w.heap.size w).alloc (Nat.le_refl _) (.cells (madeCells #[.int .u8 0] N) 5)
  obtain ⟨w1, hcp, hown, hg⟩ := run_copy_own _ w.heap.size 3 w.heap.size 0 N N N N _ l A n c HO (by simp) (HR.out.below HB) hnN (by omega)
  have hcut := run_cut_l (some ⟨w.heap.size, 0, none⟩) N N n hnN (Nat.le_refl _)
  have e2 : N - n = k := by omega
  rw [e2] at hcut
  have hmk := run_makeB N hb
  have HC := Lib.hid (below_grown HB hg (Nat.le_refl _))
  have HW := Lib.hid hown
  have HN := Lib.hid hN
  clear hown hg HO HB e2 hN
  go_enter Try.func43, Try.ntmps43
  go_upto_region 3 with fail
  go_quiet (fail)
  go_wp2
  go_ret2
  have hd := Below.drewN w1 nq
  refine ⟨rfl, ?_, HC.out.trans (hd.mono HC.out.size)⟩
  have h := HW.out
  have hlen := HR.out.len
  rw [setR_eq _ _ _ (by rw [List.length_replicate, HR.out.len]; omega)] at h
  have e3 : (List.replicate N 0).take 0 ++ l ++ (List.replicate N 0).drop (0 + l.length) = l ++ List.replicate k 0 := by
    rw [List.drop_replicate, Nat.zero_add, hlen, HN.out, Nat.add_sub_cancel_left]; simp
  rw [e3] at h
  exact h.below hd
end Go.Proofs.Ytmonlookmnlgnaa
