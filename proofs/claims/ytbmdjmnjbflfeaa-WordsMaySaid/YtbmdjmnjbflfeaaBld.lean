/- A word's builder: a rune is put behind, the string is read. -/
import Derived.Test.YtbmdjmnjbflfeaaMay2
import Derived.WalkSpells
namespace Go.Proofs.Ytbmdjmnjbflfeaa
open Go.RowKit Go.Shelf Go.Maps
set_option linter.unusedVariables false
set_option linter.unusedSimpArgs false

theorem encL_one {r : Nat} (h : r < 128) : encL (r : Int) = [r] := by
  rw [encL_form ⟨by omega, by omega, by omega⟩]
  simp [formN, h]
theorem encL_two {r : Nat} (h1 : 128 ≤ r) (h2 : r < 2048) : encL (r : Int) = [192 + r / 64, 128 + r % 64] := by
  rw [encL_form ⟨by omega, by omega, by omega⟩]
  simp [formN, h2, show ¬ r < 128 by omega]
set_option maxRecDepth 100000 in
set_option maxHeartbeats 2000000 in
theorem AppendRune_any (base : Nat) (v : Value) (l : List Nat) (r : Nat) (w : World) (h : OwnB w base v l) (h1 : r < 2048) (hl : l.length ≤ 1000000) (hb : base ≤ w.heap.size) :
    Calls Try.prog 104 #[v, .int .i32 (r : Int)] w fun e w' => ∃ v', e = .returned v' ∧ OwnB w' base v' (l ++ encL (r : Int)) ∧ (∃ o, (w.alloc o).grownBy w' v.ownBlock) ∧ (v'.ownBlock = v.ownBlock ∨ ∀ k, v'.ownBlock = some k → w.heap.size ≤ k) := by
  by_cases h7 : r < 128
  · rw [encL_one h7]
    have h7' : (r : Int) ≤ 127 := by omega
    have hA := OwnB.below h ((Below.refl w.heap.size w).alloc (Nat.le_refl _) (.cells #[.int .u8 (r : Int)] 5))
    have hR := Rd.new w 5 [r] #[.int .u8 (r : Int)] 1 (0, 0) (enc := encB) rfl rfl (by decide)
    obtain ⟨v1, w1, r1, o1, g1, at1⟩ := run_append_rd (P := Try.prog) (c := 1) base 26 26 5 (.int .u8 0) 1 Try.underlying26 infoB rfl (by decide) encB_one hA.1 hR (by omega) (by simp; omega)
    have HO : Hid (OwnB w1 base v1 (l ++ [r])) := Lib.hid ⟨o1, h.2.append (fun c hc => by simp at hc; omega)⟩
    have HG : Hid ((w.alloc (.cells #[.int .u8 (r : Int)] 5)).grownBy w1 v.ownBlock) := Lib.hid g1
    have HA := Lib.hid at1
    clear o1 g1 at1 hA hR h
    go_enter Try.func104, Try.ntmps104
    go_wp2_with (at_builtin; refine wpl_append_run rfl _ _ _ rfl rfl rfl r1 ?_)
    go_ret
    refine ⟨v1, by simp [results], HO.out, ⟨_, HG.out⟩, ?_⟩
    rcases HA.out with e | e
    · exact .inl e
    · exact .inr fun k hk => by rw [e] at hk; simp at hk; omega
  · rw [encL_two (by omega) h1]
    have h7' : ¬ (r : Int) ≤ 127 := by omega
    have h8' : (r : Int) ≤ 2047 := by omega
    have h9' : (128 : Int) ≤ (r : Int) := by omega
    have hA := OwnB.below h ((Below.refl w.heap.size w).alloc (Nat.le_refl _) (.cells #[.int .u8 (192 + (r : Int) / 64), .int .u8 (128 + (r : Int) % 64)] 5))
    have hR := Rd.new w 5 [192 + r / 64, 128 + r % 64] #[.int .u8 (192 + (r : Int) / 64), .int .u8 (128 + (r : Int) % 64)] 2 (0, 0) (enc := encB) (by simp) rfl (by decide)
    obtain ⟨v1, w1, r1, o1, g1, at1⟩ := run_append_rd (P := Try.prog) (c := 2) base 26 26 5 (.int .u8 0) 1 Try.underlying26 infoB rfl (by decide) encB_one hA.1 hR (by omega) (by simp; omega)
    have HO : Hid (OwnB w1 base v1 (l ++ [192 + r / 64, 128 + r % 64])) := Lib.hid ⟨o1, h.2.append (fun c hc => by simp at hc; omega)⟩
    have HG : Hid ((w.alloc (.cells #[.int .u8 (192 + (r : Int) / 64), .int .u8 (128 + (r : Int) % 64)] 5)).grownBy w1 v.ownBlock) := Lib.hid g1
    have HA := Lib.hid at1
    clear o1 g1 at1 hA hR h h7
    go_enter Try.func104, Try.ntmps104
    go_wp2_with fail
    have C : Calls Try.prog 113 #[v, .int .i32 (r : Int)] w fun e w' => e = .returned v1 ∧ w' = w1 := by
      go_enter Try.func113, Try.ntmps113
      go_wp2_with (at_builtin; refine wpl_append_run rfl _ _ _ rfl rfl rfl r1 ?_)
      go_ret
      exact ⟨by simp [results], rfl⟩
    refine C.mono ?_
    rintro e w2 ⟨rfl, rfl⟩
    go_wp2
    go_ret
    refine ⟨v1, by simp [results], HO.out, ⟨_, HG.out⟩, ?_⟩
    rcases HA.out with e | e
    · exact .inl e
    · exact .inr fun k hk => by rw [e] at hk; simp at hk; omega
end Go.Proofs.Ytbmdjmnjbflfeaa
