/- Which postings may be: the program's. -/
import Derived.Test.YtaaddckhldccjaaPost
namespace Go.Proofs.Ytaaddckhldccjaa
open Go.RowKit
set_option linter.unusedVariables false
set_option linter.unusedSimpArgs false

set_option maxRecDepth 100000 in
set_option maxHeartbeats 4000000 in
theorem Check_pv (prev : Nat) (p : Po) (v : Value) (w : World) (h : PV w v p) (hp : prev < 4294967296) :
    Calls Try.prog 78 #[.int .u32 prev, v] w (ChkPE prev p w) := by
  obtain ⟨u, rfl, ⟨A, n, c, rfl, hnc, hc, hr⟩, hd⟩ := h
  obtain ⟨d, l⟩ := p
  simp only at hr hd ⊢
  have HR := Lib.hid hr
  have hn := hr.max
  have HLn := Lib.hid hr.len
  have HB0 := Lib.hid ((Below.refl w.heap.size w).alloc (Nat.le_refl _) (.cells #[.int .u32 (d : Nat), .slice A n c] 32))
  have hd' : d ≤ 4294967295 := by omega
  have hp' : prev ≤ 4294967295 := by omega
  clear hr hd hp
  by_cases g0 : (d : Int) ≤ (prev : Int)
  · have HN : Hid (¬ okP prev (d, l)) := Lib.hid (fun h => by have h1 := h.1; have h2 := HLn.out; simp only at h1; omega)
    go_enter Try.func78, Try.ntmps78
    go_wp2
    go_ret
    exact chkPE_no HN.out HB0.out
  by_cases g1 : 2147483647 < (d : Int)
  · have HN : Hid (¬ okP prev (d, l)) := Lib.hid (fun h => by have h1 := h.2.1; have h2 := HLn.out; simp only at h1; omega)
    go_enter Try.func78, Try.ntmps78
    go_wp2
    go_ret
    exact chkPE_no HN.out HB0.out
  by_cases g2 : (n : Int) < 1
  · have HN : Hid (¬ okP prev (d, l)) := Lib.hid (fun h => by have h1 := h.2.2.1; have h2 := HLn.out; simp only at h1; omega)
    go_enter Try.func78, Try.ntmps78
    go_wp2
    go_ret
    exact chkPE_no HN.out HB0.out
  by_cases g3 : 2000 < (n : Int)
  · have HN : Hid (¬ okP prev (d, l)) := Lib.hid (fun h => by have h1 := h.2.2.2.1; have h2 := HLn.out; simp only at h1; omega)
    go_enter Try.func78, Try.ntmps78
    go_wp2
    go_ret
    exact chkPE_no HN.out HB0.out
  have HP : Hid (okPos l → okP prev (d, l)) := Lib.hid (fun h => ⟨by show prev < d; omega, by show d ≤ _; omega, by show 1 ≤ l.length; rw [HLn.out]; omega, by show l.length ≤ _; rw [HLn.out]; omega, h⟩)
  go_enter Try.func78, Try.ntmps78
  go_wp2_with fail
  obtain ⟨g, hg⟩ : ∃ g, g = w.heap.size := ⟨_, rfl⟩
  have HH := Lib.hid (World.alloc_heap_new w (.cells #[.int .u32 (d : Nat), .slice A n c] 32))
  obtain ⟨wB, hwB⟩ : ∃ wB, wB = w.alloc (.cells #[.int .u32 (d : Nat), .slice A n c] 32) := ⟨_, rfl⟩
  rw [← hwB, ← hg] at HH
  rw [← hwB] at HB0
  rw [← hwB, ← hg]
  clear hwB hg
  go_loop [31] (fun x => ∃ k : Nat, k ≤ n ∧ x = .int .i64 k ∧ Hid (∀ j, j < k → okAt l j)) (fun x => n - (intOf x).toNat)
  case atStart => exact ⟨0, by omega, rfl, Lib.hid fun j h => absurd h (Nat.not_lt_zero _)⟩
  case round =>
    obtain ⟨k, hk, rfl, HI⟩ := hrel
    by_cases hlt : (k : Int) < (n : Int)
    · obtain ⟨ad, x, rfl, HX, x0⟩ := rdI_at (HR.out.below HB0.out) (k := k) (by omega)
      have c1 : wB.cell? ⟨g, 1, none⟩ = some (.slice (some ad) n c) := by simp [World.cell?, HH.out]
      have hkl : k < l.length := by rw [HLn.out]; omega
      have HKl := Lib.hid hkl
      clear hkl
      by_cases g4 : x < 0
      · have HN : Hid (¬ okP prev (d, l)) := Lib.hid (no_at HKl.out fun h => by have := h.1; rw [posAt HX.out] at this; omega)
        go_wp2
        go_ret
        exact chkPE_no HN.out HB0.out
      by_cases g5 : 1048576 < x
      · have HN : Hid (¬ okP prev (d, l)) := Lib.hid (no_at HKl.out fun h => by have := h.2.1; rw [posAt HX.out] at this; omega)
        go_wp2
        go_ret
        exact chkPE_no HN.out HB0.out
      by_cases hk0 : k = 0
      · have HOk : Hid (okAt l k) := Lib.hid ⟨by rw [posAt HX.out]; omega, by rw [posAt HX.out]; omega, fun h => by omega⟩
        have HIs : Hid (∀ j, j < k + 1 → okAt l j) := Lib.hid fun j hj => by
          rcases Nat.lt_succ_iff_lt_or_eq.1 hj with h | rfl
          · exact HI.out j h
          · exact HOk.out
        have g0 : decide (0 < k) = false := by simp [hk0]
        clear hk0
        go_wp2
        exact ⟨⟨k + 1, by omega, by go_num, HIs⟩, by simp [intOf]; omega⟩
      · obtain ⟨ad', y, e, HY, y0⟩ := rdI_at (HR.out.below HB0.out) (k := k - 1) (by omega)
        cases e
        have g0 : (0 : Nat) < k := by omega
        have g00 : (0 : Int) < (k : Int) := by omega
        have q1 : (0 : Int) ≤ (k : Int) - 1 := by omega
        have q2 : (k : Int) - 1 < (n : Int) := by omega
        have q3 : ((k : Int) - 1).toNat = k - 1 := by omega
        by_cases g6 : x ≤ y
        · have HN : Hid (¬ okP prev (d, l)) := Lib.hid (no_at HKl.out fun h => by have := h.2.2 g0; rw [posAt HX.out, posAt HY.out] at this; omega)
          go_wp2
          go_ret
          exact chkPE_no HN.out HB0.out
        · have HOk : Hid (okAt l k) := Lib.hid ⟨by rw [posAt HX.out]; omega, by rw [posAt HX.out]; omega, fun h => by rw [posAt HX.out, posAt HY.out]; omega⟩
          go_wp2
          exact ⟨⟨k + 1, by omega, by go_num, Lib.hid fun j hj => by rcases Nat.lt_succ_iff_lt_or_eq.1 hj with h | rfl
                                                                     · exact HI.out j h
                                                                     · exact HOk.out⟩, by simp [intOf]; omega⟩
    · have HOk : Hid (okP prev (d, l)) := Lib.hid (HP.out fun j hj => HI.out j (by have := HLn.out; omega))
      go_wp2
      go_ret
      exact chkPE_yes HOk.out HB0.out
end Go.Proofs.Ytaaddckhldccjaa
