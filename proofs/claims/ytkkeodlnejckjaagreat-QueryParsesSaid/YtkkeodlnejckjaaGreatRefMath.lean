/- The document's first rune of bytes is the model's. No program. -/
import Derived.Test.YtkkeodlnejckjaaGreatForm
import Derived.Test.YtkkeodlnejckjaaGreatUtf
namespace Go.Proofs.YtkkeodlnejckjaaGreat
open Go.RowKit
set_option linter.unusedVariables false
set_option linter.unusedSimpArgs false

def valN (n : Nat) (l : List Nat) : Nat :=
  if n = 2 then l.getD 0 0 % 32 * 64 + l.getD 1 0 % 64
  else if n = 3 then l.getD 0 0 % 16 * 4096 + l.getD 1 0 % 64 * 64 + l.getD 2 0 % 64
  else if n = 4 then l.getD 0 0 % 8 * 262144 + l.getD 1 0 % 64 * 4096 + l.getD 2 0 % 64 * 64 + l.getD 3 0 % 64
  else l.getD 0 0
theorem valN_lt {n : Nat} {l : List Nat} (h : Byt l) : valN n l < 2097152 := by
  have h0 := h.getD 0
  have h1 := h.getD 1
  have h2 := h.getD 2
  have h3 := h.getD 3
  unfold valN
  repeat' split
  all_goals omega
def okN (n : Nat) (l : List Nat) : Prop := n ≤ l.length ∧ formL (valN n l : Nat) = l.take n
theorem take2 {l : List Nat} (h : 2 ≤ l.length) : l.take 2 = [l.getD 0 0, l.getD 1 0] := by
  match l, h with
  | a :: b :: l, _ => simp
theorem take3 {l : List Nat} (h : 3 ≤ l.length) : l.take 3 = [l.getD 0 0, l.getD 1 0, l.getD 2 0] := by
  match l, h with
  | a :: b :: c :: l, _ => simp
theorem take4 {l : List Nat} (h : 4 ≤ l.length) : l.take 4 = [l.getD 0 0, l.getD 1 0, l.getD 2 0, l.getD 3 0] := by
  match l, h with
  | a :: b :: c :: d :: l, _ => simp
theorem take1 {l : List Nat} (h : 1 ≤ l.length) : l.take 1 = [l.getD 0 0] := by
  match l, h with
  | a :: l, _ => simp
/-- When the document finds a rune of n bytes, by the bytes alone. -/
def okB1 (n b0 b1 b2 b3 : Nat) : Prop :=
  (n = 1 ∧ b0 < 128) ∨ (n = 2 ∧ 192 ≤ b0 ∧ b0 < 224 ∧ 128 ≤ b1 ∧ b1 < 192 ∧ 128 ≤ b0 % 32 * 64 + b1 % 64) ∨
  (n = 3 ∧ 224 ≤ b0 ∧ b0 < 240 ∧ 128 ≤ b1 ∧ b1 < 192 ∧ 128 ≤ b2 ∧ b2 < 192 ∧ 2048 ≤ b0 % 16 * 4096 + b1 % 64 * 64 + b2 % 64 ∧ ¬ (55296 ≤ b0 % 16 * 4096 + b1 % 64 * 64 + b2 % 64 ∧ b0 % 16 * 4096 + b1 % 64 * 64 + b2 % 64 ≤ 57343)) ∨
  (n = 4 ∧ 240 ≤ b0 ∧ b0 < 248 ∧ 128 ≤ b1 ∧ b1 < 192 ∧ 128 ≤ b2 ∧ b2 < 192 ∧ 128 ≤ b3 ∧ b3 < 192 ∧ 65536 ≤ b0 % 8 * 262144 + b1 % 64 * 4096 + b2 % 64 * 64 + b3 % 64 ∧ b0 % 8 * 262144 + b1 % 64 * 4096 + b2 % 64 * 64 + b3 % 64 ≤ 1114111)
theorem formN_eq1 {v b0 : Nat} : formN v = [b0] ↔ v < 128 ∧ v = b0 := by
  unfold formN
  repeat' split
  all_goals simp
  all_goals omega
theorem formN_eq2 {v b0 b1 : Nat} : formN v = [b0, b1] ↔ 128 ≤ v ∧ v < 2048 ∧ 192 + v / 64 = b0 ∧ 128 + v % 64 = b1 := by
  unfold formN
  repeat' split
  all_goals simp
  all_goals omega
theorem formN_eq3 {v b0 b1 b2 : Nat} : formN v = [b0, b1, b2] ↔ 2048 ≤ v ∧ v < 65536 ∧ 224 + v / 4096 = b0 ∧ 128 + v / 64 % 64 = b1 ∧ 128 + v % 64 = b2 := by
  unfold formN
  repeat' split
  all_goals simp
  all_goals omega
theorem formN_eq4 {v b0 b1 b2 b3 : Nat} : formN v = [b0, b1, b2, b3] ↔ 65536 ≤ v ∧ 240 + v / 262144 = b0 ∧ 128 + v / 4096 % 64 = b1 ∧ 128 + v / 64 % 64 = b2 ∧ 128 + v % 64 = b3 := by
  unfold formN
  repeat' split
  all_goals simp
  all_goals omega
theorem formL_cons {v a : Nat} {l : List Nat} : formL (v : Nat) = a :: l ↔ v ≤ 1114111 ∧ ¬ (55296 ≤ v ∧ v ≤ 57343) ∧ formN v = a :: l := by
  by_cases h : (v : Int) < 0 ∨ (v : Int) > 1114111 ∨ (55296 ≤ (v : Int) ∧ (v : Int) ≤ 57343)
  · rw [formL_no h]
    constructor
    · intro h; cases h
    · intro h; omega
  · rw [formL_yes (by omega) (by omega)]
    constructor
    · intro h1; exact ⟨by omega, by omega, h1⟩
    · intro h1; exact h1.2.2
theorem okN_iff {n : Nat} {l : List Nat} (hb : Byt l) (h1 : 1 ≤ n) (h4 : n ≤ 4) : okN n l ↔ n ≤ l.length ∧ okB1 n (l.getD 0 0) (l.getD 1 0) (l.getD 2 0) (l.getD 3 0) := by
  have g0 := hb.getD 0
  have g1 := hb.getD 1
  have g2 := hb.getD 2
  have g3 := hb.getD 3
  unfold okN
  by_cases hn : n ≤ l.length
  · obtain rfl | rfl | rfl | rfl : n = 1 ∨ n = 2 ∨ n = 3 ∨ n = 4 := by omega
    · rw [take1 hn, formL_cons, formN_eq1]
      unfold valN okB1
      simp
      omega
    · rw [take2 hn, formL_cons, formN_eq2]
      unfold valN okB1
      simp
      omega
    · rw [take3 hn, formL_cons, formN_eq3]
      unfold valN okB1
      simp
      omega
    · rw [take4 hn, formL_cons, formN_eq4]
      unfold valN okB1
      simp
      omega
  · constructor
    · intro h; exact absurd h.1 hn
    · intro h; exact absurd h.1 hn
theorem dec_of {l : List Nat} (hb : Byt l) (n : Nat) (h1 : 1 ≤ n) (h4 : n ≤ 4) (h : okN n l) : dec l = (valN n l, n) := by
  rw [okN_iff hb h1 h4] at h
  have g0 := hb.getD 0
  have g1 := hb.getD 1
  have g2 := hb.getD 2
  have g3 := hb.getD 3
  obtain ⟨hn, h⟩ := h
  unfold dec Lib.decodeN
  unfold okB1 at h
  obtain rfl | rfl | rfl | rfl : n = 1 ∨ n = 2 ∨ n = 3 ∨ n = 4 := by omega
  all_goals
    unfold valN
    simp only [if_true, if_false, Nat.reduceEqDiff]
    generalize l.getD 0 0 = b0 at *
    generalize l.getD 1 0 = b1 at *
    generalize l.getD 2 0 = b2 at *
    generalize l.getD 3 0 = b3 at *
    simp at h
    repeat' split
    all_goals first | (exfalso; omega) | rfl
theorem dec_no {l : List Nat} (hb : Byt l) (h0 : 1 ≤ l.length) (h : ∀ m, 1 ≤ m → m ≤ 4 → ¬ okN m l) : dec l = (65533, 1) := by
  have k1 := h 1 (by decide) (by decide)
  have k2 := h 2 (by decide) (by decide)
  have k3 := h 3 (by decide) (by decide)
  have k4 := h 4 (by decide) (by decide)
  rw [okN_iff hb (by decide) (by decide)] at k1 k2 k3 k4
  have g0 := hb.getD 0
  have g1 := hb.getD 1
  have g2 := hb.getD 2
  have g3 := hb.getD 3
  unfold dec Lib.decodeN
  unfold okB1 at *
  generalize l.getD 0 0 = b0 at *
  generalize l.getD 1 0 = b1 at *
  generalize l.getD 2 0 = b2 at *
  generalize l.getD 3 0 = b3 at *
  simp at k1 k2 k3 k4
  repeat' split
  all_goals first | (exfalso; omega) | rfl
end Go.Proofs.YtkkeodlnejckjaaGreat
