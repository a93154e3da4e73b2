/- Which postings may be: the document's. -/
import Derived.Test.YtaaddckhldccjaaPost
namespace Go.Proofs.Ytaaddckhldccjaa
open Go.RowKit
set_option linter.unusedVariables false
set_option linter.unusedSimpArgs false

def lastI (l : List Int) (k : Nat) : Int := if k = 0 then -1 else l.getD (k - 1) 0
theorem lastI_succ (l : List Int) (k : Nat) : lastI l (k + 1) = l.getD k 0 := by unfold lastI; rw [if_neg (by omega), Nat.add_sub_cancel]
theorem okAt_iff {l : List Int} {k : Nat} (h : ∀ j, j < k → okAt l j) : okAt l k ↔ (lastI l k < l.getD k 0 ∧ l.getD k 0 ≤ 1048576) := by
  unfold lastI
  cases k with
  | zero => rw [if_pos rfl]; unfold okAt; constructor
            · rintro ⟨h1, h2, _⟩; omega
            · rintro ⟨h1, h2⟩; exact ⟨by omega, h2, fun h => absurd h (Nat.lt_irrefl _)⟩
  | succ k => rw [if_neg (by omega), Nat.add_sub_cancel]
              have h0 := (h k (by omega)).1
              constructor
              · rintro ⟨h1, h2, h3⟩; exact ⟨h3 (by omega), h2⟩
              · rintro ⟨h1, h2⟩; exact ⟨by omega, h2, fun _ => h1⟩

set_option maxRecDepth 100000 in
set_option maxHeartbeats 4000000 in
theorem refCheck_pv (prev : Nat) (p : Po) (v : Value) (w : World) (h : PV w v p) (hp : prev < 4294967296) :
    Calls Try.prog 94 #[.int .u32 prev, v] w (ChkPE prev p w) := by
  obtain ⟨u, rfl, ⟨A, n, c, rfl, hnc, hc, hr⟩, hd⟩ := h
  obtain ⟨d, l⟩ := p
  simp only at hr hd ⊢
  have HR := Lib.hid hr
  have hn := hr.max
  have HLn := Lib.hid hr.len
  have HB0 := Lib.hid ((Below.refl w.heap.size w).alloc (Nat.le_refl _) (.cells #[.int .u32 (d : Nat), .slice A n c] 32))
  have hd' : d ≤ 4294967295 := by omega
  have hp' : prev ≤ 4294967295 := by omega
  clear hr hd hp
  by_cases g0 : (d : Int) ≤ (prev : Int)
  · have HN : Hid (¬ okP prev (d, l)) := Lib.hid (fun h => by have h1 := h.1; have h2 := HLn.out; simp only at h1; omega)
    go_enter Try.func94, Try.ntmps94
    go_wp2
    go_ret
    exact chkPE_no HN.out HB0.out
  by_cases g1 : 2147483647 < (d : Int)
  · have HN : Hid (¬ okP prev (d, l)) := Lib.hid (fun h => by have h1 := h.2.1; have h2 := HLn.out; simp only at h1; omega)
    go_enter Try.func94, Try.ntmps94
    go_wp2
    go_ret
    exact chkPE_no HN.out HB0.out
  by_cases g2 : (n : Int) < 1
  · have HN : Hid (¬ okP prev (d, l)) := Lib.hid (fun h => by have h1 := h.2.2.1; have h2 := HLn.out; simp only at h1; omega)
    go_enter Try.func94, Try.ntmps94
    go_wp2
    go_ret
    exact chkPE_no HN.out HB0.out
  by_cases g3 : 2000 < (n : Int)
  · have HN : Hid (¬ okP prev (d, l)) := Lib.hid (fun h => by have h1 := h.2.2.2.1; have h2 := HLn.out; simp only at h1; omega)
    go_enter Try.func94, Try.ntmps94
    go_wp2
    go_ret
    exact chkPE_no HN.out HB0.out
  have HP : Hid (okPos l → okP prev (d, l)) := Lib.hid (fun h => ⟨by show prev < d; omega, by show d ≤ _; omega, by show 1 ≤ l.length; rw [HLn.out]; omega, by show l.length ≤ _; rw [HLn.out]; omega, h⟩)
  go_enter Try.func94, Try.ntmps94
  go_wp2_with fail
  obtain ⟨g, hg⟩ : ∃ g, g = w.heap.size := ⟨_, rfl⟩
  have HH := Lib.hid (World.alloc_heap_new w (.cells #[.int .u32 (d : Nat), .slice A n c] 32))
  obtain ⟨wB, hwB⟩ : ∃ wB, wB = w.alloc (.cells #[.int .u32 (d : Nat), .slice A n c] 32) := ⟨_, rfl⟩
  rw [← hwB, ← hg] at HH
  rw [← hwB] at HB0
  rw [← hwB, ← hg]
  clear hwB hg
  go_loop [5, 6] (fun x5 x6 => ∃ k : Nat, k ≤ n ∧ x6 = .int .i64 k ∧ ∃ la : Int, x5 = .int .i64 la ∧ Hid (la = lastI l k ∧ ∀ j, j < k → okAt l j)) (fun _ x6 => n - (intOf x6).toNat)
  case atStart => exact ⟨0, by omega, rfl, -1, rfl, Lib.hid ⟨rfl, fun j h => absurd h (Nat.not_lt_zero _)⟩⟩
  case round =>
    obtain ⟨k, hk, rfl, la, rfl, HI⟩ := hrel
    have c1 : wB.cell? ⟨g, 1, none⟩ = some (.slice A n c) := by simp [World.cell?, HH.out]
    by_cases hlt : (k : Int) < (n : Int)
    · obtain ⟨ad, x, rfl, HX, x0⟩ := rdI_at (HR.out.below HB0.out) (k := k) (by omega)
      have HKl : Hid (k < l.length) := Lib.hid (by rw [HLn.out]; omega)
      have HIf := Lib.hid (okAt_iff HI.out.2)
      rw [posAt HX.out, ← HI.out.1] at HIf
      by_cases g4 : x ≤ la
      · have HN : Hid (¬ okP prev (d, l)) := Lib.hid (no_at HKl.out fun h => by have := (HIf.out.1 h).1; omega)
        go_wp2
        go_ret
        exact chkPE_no HN.out HB0.out
      by_cases g5 : 1048576 < x
      · have HN : Hid (¬ okP prev (d, l)) := Lib.hid (no_at HKl.out fun h => by have := (HIf.out.1 h).2; omega)
        go_wp2
        go_ret
        exact chkPE_no HN.out HB0.out
      have HOk : Hid (okAt l k) := Lib.hid (HIf.out.2 ⟨by omega, by omega⟩)
      go_wp2
      exact ⟨⟨k + 1, by omega, by go_num, x, rfl, Lib.hid ⟨by rw [lastI_succ, posAt HX.out], fun j hj => by
        rcases Nat.lt_succ_iff_lt_or_eq.1 hj with h | rfl
        · exact HI.out.2 j h
        · exact HOk.out⟩⟩, by simp [intOf]; omega⟩
    · have HOk : Hid (okP prev (d, l)) := Lib.hid (HP.out fun j hj => HI.out.2 j (by have := HLn.out; omega))
      go_wp2
      go_ret
      exact chkPE_yes HOk.out HB0.out
end Go.Proofs.Ytaaddckhldccjaa
