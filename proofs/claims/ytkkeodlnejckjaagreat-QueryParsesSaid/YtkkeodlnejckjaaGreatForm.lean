/- A rune's shortest form, of the document; how many bytes it has. -/
import Derived.Test.YtkkeodlnejckjaaGreatTab
import Derived.Test.YtkkeodlnejckjaaGreatBytes
namespace Go.Proofs.YtkkeodlnejckjaaGreat
open Go.RowKit
set_option linter.unusedVariables false
set_option linter.unusedSimpArgs false

def formN (n : Nat) : List Nat :=
  if n < 128 then [n] else if n < 2048 then [192 + n / 64, 128 + n % 64]
  else if n < 65536 then [224 + n / 4096, 128 + n / 64 % 64, 128 + n % 64]
  else [240 + n / 262144, 128 + n / 4096 % 64, 128 + n / 64 % 64, 128 + n % 64]
def formL (r : Int) : List Nat := if r < 0 ∨ r > 1114111 ∨ (55296 ≤ r ∧ r ≤ 57343) then [] else formN r.toNat
theorem formN_byt {n : Nat} (h : n ≤ 1114111) : Byt (formN n) := by
  unfold formN
  intro c hc
  repeat' split at hc
  all_goals simp at hc
  all_goals omega
theorem formL_no {r : Int} (h : r < 0 ∨ r > 1114111 ∨ (55296 ≤ r ∧ r ≤ 57343)) : formL r = [] := if_pos h
theorem formL_yes {n : Nat} (h1 : n ≤ 1114111) (h2 : n < 55296 ∨ 57343 < n) : formL (n : Int) = formN n := by
  unfold formL
  rw [if_neg (by omega)]
  simp
theorem OwnB.lit (w : World) (l : List Nat) (C : Array Value) (n : Nat) (hC : C = (l.map encB).toArray) (hn : l.length = n) (hb : Byt l) (hm : n ≤ 9223372036854775807) :
    OwnB (w.alloc (.cells C 5)) w.heap.size (.slice (some ⟨w.heap.size, 0, none⟩) n n) l := ⟨OwnL.lit w w.heap.size 5 l C n hC hn (Nat.le_refl _) hm, hb⟩

set_option maxRecDepth 100000 in
set_option maxHeartbeats 1000000 in
theorem Form_any (r : Int) (w : World) (h1 : -2147483648 ≤ r) (h2 : r ≤ 2147483647) :
    Calls Tryz.prog 113 #[.int .i32 r] w fun e w' => ∃ v, e = .returned v ∧ OwnB w' w.heap.size v (formL r) ∧ Below w.heap.size w w' := by
  rcases (show r < 0 ∨ r > 1114111 ∨ (55296 ≤ r ∧ r ≤ 57343) ∨ (0 ≤ r ∧ r ≤ 127) ∨ (128 ≤ r ∧ r ≤ 2047) ∨ (2048 ≤ r ∧ r ≤ 55295) ∨ (57344 ≤ r ∧ r ≤ 65535) ∨ (65536 ≤ r ∧ r ≤ 1114111) from by omega) with h | h | h | h | h | h | h | h
  · rw [formL_no (.inl h)]
    go_enter Tryz.func113, Tryz.ntmps113
    go_wp2
    go_ret
    exact ⟨_, rfl, OwnB.nil _ _, Below.refl _ _⟩
  · rw [formL_no (.inr (.inl h))]
    go_enter Tryz.func113, Tryz.ntmps113
    go_wp2
    go_ret
    exact ⟨_, rfl, OwnB.nil _ _, Below.refl _ _⟩
  · rw [formL_no (.inr (.inr h))]
    obtain ⟨h3, h4⟩ := h
    go_enter Tryz.func113, Tryz.ntmps113
    go_wp2
    go_ret
    exact ⟨_, rfl, OwnB.nil _ _, Below.refl _ _⟩
  · obtain ⟨h3, h4⟩ := h
    obtain ⟨L, hL⟩ : ∃ L, L = formL r := ⟨_, rfl⟩
    rw [← hL]
    have HL := Lib.hid hL
    clear hL h1 h2
    go_enter Tryz.func113, Tryz.ntmps113
    go_wp2
    go_ret
    obtain ⟨n, rfl⟩ : ∃ n : Nat, r = n := ⟨r.toNat, by omega⟩
    have hL := HL.out
    rw [formL_yes (by omega) (by omega)] at hL
    subst hL
    refine ⟨_, rfl, OwnB.lit _ _ _ _ ?_ ?_ (formN_byt (by omega)) (by decide), (Below.refl _ w).alloc (Nat.le_refl _) _⟩
    · unfold formN
      first
        | (rw [if_pos (by omega)]; simp [encB]; done)
        | (rw [if_neg (by omega), if_pos (by omega)]; simp [encB]; done)
        | (rw [if_neg (by omega), if_neg (by omega), if_pos (by omega)]; simp [encB]; done)
        | (rw [if_neg (by omega), if_neg (by omega), if_neg (by omega)]; simp [encB]; done)
    · unfold formN
      first
        | (rw [if_pos (by omega)]; rfl)
        | (rw [if_neg (by omega), if_pos (by omega)]; rfl)
        | (rw [if_neg (by omega), if_neg (by omega), if_pos (by omega)]; rfl)
        | (rw [if_neg (by omega), if_neg (by omega), if_neg (by omega)]; rfl)
  · obtain ⟨h3, h4⟩ := h
    obtain ⟨L, hL⟩ : ∃ L, L = formL r := ⟨_, rfl⟩
    rw [← hL]
    have HL := Lib.hid hL
    clear hL h1 h2
    go_enter Tryz.func113, Tryz.ntmps113
    go_wp2
    go_ret
    obtain ⟨n, rfl⟩ : ∃ n : Nat, r = n := ⟨r.toNat, by omega⟩
    have hL := HL.out
    rw [formL_yes (by omega) (by omega)] at hL
    subst hL
    refine ⟨_, rfl, OwnB.lit _ _ _ _ ?_ ?_ (formN_byt (by omega)) (by decide), (Below.refl _ w).alloc (Nat.le_refl _) _⟩
    · unfold formN
      first
        | (rw [if_pos (by omega)]; simp [encB]; done)
        | (rw [if_neg (by omega), if_pos (by omega)]; simp [encB]; done)
        | (rw [if_neg (by omega), if_neg (by omega), if_pos (by omega)]; simp [encB]; done)
        | (rw [if_neg (by omega), if_neg (by omega), if_neg (by omega)]; simp [encB]; done)
    · unfold formN
      first
        | (rw [if_pos (by omega)]; rfl)
        | (rw [if_neg (by omega), if_pos (by omega)]; rfl)
        | (rw [if_neg (by omega), if_neg (by omega), if_pos (by omega)]; rfl)
        | (rw [if_neg (by omega), if_neg (by omega), if_neg (by omega)]; rfl)
  · obtain ⟨h3, h4⟩ := h
    obtain ⟨L, hL⟩ : ∃ L, L = formL r := ⟨_, rfl⟩
    rw [← hL]
    have HL := Lib.hid hL
    clear hL h1 h2
    go_enter Tryz.func113, Tryz.ntmps113
    go_wp2
    go_ret
    obtain ⟨n, rfl⟩ : ∃ n : Nat, r = n := ⟨r.toNat, by omega⟩
    have hL := HL.out
    rw [formL_yes (by omega) (by omega)] at hL
    subst hL
    refine ⟨_, rfl, OwnB.lit _ _ _ _ ?_ ?_ (formN_byt (by omega)) (by decide), (Below.refl _ w).alloc (Nat.le_refl _) _⟩
    · unfold formN
      first
        | (rw [if_pos (by omega)]; simp [encB]; done)
        | (rw [if_neg (by omega), if_pos (by omega)]; simp [encB]; done)
        | (rw [if_neg (by omega), if_neg (by omega), if_pos (by omega)]; simp [encB]; done)
        | (rw [if_neg (by omega), if_neg (by omega), if_neg (by omega)]; simp [encB]; done)
    · unfold formN
      first
        | (rw [if_pos (by omega)]; rfl)
        | (rw [if_neg (by omega), if_pos (by omega)]; rfl)
        | (rw [if_neg (by omega), if_neg (by omega), if_pos (by omega)]; rfl)
        | (rw [if_neg (by omega), if_neg (by omega), if_neg (by omega)]; rfl)
  · obtain ⟨h3, h4⟩ := h
    obtain ⟨L, hL⟩ : ∃ L, L = formL r := ⟨_, rfl⟩
    rw [← hL]
    have HL := Lib.hid hL
    clear hL h1 h2
    go_enter Tryz.func113, Tryz.ntmps113
    go_wp2
    go_ret
    obtain ⟨n, rfl⟩ : ∃ n : Nat, r = n := ⟨r.toNat, by omega⟩
    have hL := HL.out
    rw [formL_yes (by omega) (by omega)] at hL
    subst hL
    refine ⟨_, rfl, OwnB.lit _ _ _ _ ?_ ?_ (formN_byt (by omega)) (by decide), (Below.refl _ w).alloc (Nat.le_refl _) _⟩
    · unfold formN
      first
        | (rw [if_pos (by omega)]; simp [encB]; done)
        | (rw [if_neg (by omega), if_pos (by omega)]; simp [encB]; done)
        | (rw [if_neg (by omega), if_neg (by omega), if_pos (by omega)]; simp [encB]; done)
        | (rw [if_neg (by omega), if_neg (by omega), if_neg (by omega)]; simp [encB]; done)
    · unfold formN
      first
        | (rw [if_pos (by omega)]; rfl)
        | (rw [if_neg (by omega), if_pos (by omega)]; rfl)
        | (rw [if_neg (by omega), if_neg (by omega), if_pos (by omega)]; rfl)
        | (rw [if_neg (by omega), if_neg (by omega), if_neg (by omega)]; rfl)
  · obtain ⟨h3, h4⟩ := h
    obtain ⟨L, hL⟩ : ∃ L, L = formL r := ⟨_, rfl⟩
    rw [← hL]
    have HL := Lib.hid hL
    clear hL h1 h2
    go_enter Tryz.func113, Tryz.ntmps113
    go_wp2
    go_ret
    obtain ⟨n, rfl⟩ : ∃ n : Nat, r = n := ⟨r.toNat, by omega⟩
    have hL := HL.out
    rw [formL_yes (by omega) (by omega)] at hL
    subst hL
    refine ⟨_, rfl, OwnB.lit _ _ _ _ ?_ ?_ (formN_byt (by omega)) (by decide), (Below.refl _ w).alloc (Nat.le_refl _) _⟩
    · unfold formN
      first
        | (rw [if_pos (by omega)]; simp [encB]; done)
        | (rw [if_neg (by omega), if_pos (by omega)]; simp [encB]; done)
        | (rw [if_neg (by omega), if_neg (by omega), if_pos (by omega)]; simp [encB]; done)
        | (rw [if_neg (by omega), if_neg (by omega), if_neg (by omega)]; simp [encB]; done)
    · unfold formN
      first
        | (rw [if_pos (by omega)]; rfl)
        | (rw [if_neg (by omega), if_pos (by omega)]; rfl)
        | (rw [if_neg (by omega), if_neg (by omega), if_pos (by omega)]; rfl)
        | (rw [if_neg (by omega), if_neg (by omega), if_neg (by omega)]; rfl)
end Go.Proofs.YtkkeodlnejckjaaGreat
