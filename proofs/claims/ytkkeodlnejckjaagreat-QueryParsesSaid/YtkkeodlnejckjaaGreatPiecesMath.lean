/- The runes of bytes in two pieces. No program. -/
import Derived.Test.YtkkeodlnejckjaaGreatUtf
namespace Go.Proofs.YtkkeodlnejckjaaGreat
open Go.RowKit
set_option linter.unusedVariables false
set_option linter.unusedSimpArgs false

/-- Begins with no byte from 128 to 191. -/
def freshL (b : List Nat) : Prop := b = [] ∨ ¬ (128 ≤ b.getD 0 0 ∧ b.getD 0 0 < 192)
theorem dec_append (x b : List Nat) (hx : x ≠ []) (hb : freshL b) : dec (x ++ b) = dec x := by
  have hf : b.getD 0 0 / 64 ≠ 2 := by
    rcases hb with rfl | h
    · simp
    · omega
  have hl : b = [] ∨ 0 < b.length := by
    rcases List.eq_nil_or_concat b with h | ⟨_, _, h⟩
    · exact .inl h
    · right; subst h; simp
  unfold dec
  match x, hx with
  | [p], _ =>
    rcases hl with rfl | h
    · rw [List.append_nil]
    · have e1 : ([p] ++ b).getD 1 0 = b.getD 0 0 := by simp
      rw [e1]
      simp only [List.getD_cons_zero, List.cons_append, List.nil_append, List.length_cons, List.length_nil, List.getD_cons_succ, List.getD_nil]
      generalize b.getD 0 0 = c at *
      unfold Lib.decodeN
      simp [hf]
  | [p, q], _ =>
    rcases hl with rfl | h
    · rw [List.append_nil]
    · have e1 : ([p, q] ++ b).getD 2 0 = b.getD 0 0 := by simp
      rw [e1]
      simp only [List.getD_cons_zero, List.cons_append, List.nil_append, List.length_cons, List.length_nil, List.getD_cons_succ, List.getD_nil]
      generalize b.getD 0 0 = c at *
      unfold Lib.decodeN
      simp [hf]
  | [p, q, r], _ =>
    rcases hl with rfl | h
    · rw [List.append_nil]
    · have e1 : ([p, q, r] ++ b).getD 3 0 = b.getD 0 0 := by simp
      rw [e1]
      simp only [List.getD_cons_zero, List.cons_append, List.nil_append, List.length_cons, List.length_nil, List.getD_cons_succ, List.getD_nil]
      generalize b.getD 0 0 = c at *
      unfold Lib.decodeN
      simp [hf]
  | p :: q :: r :: s :: x, _ =>
    simp only [List.getD_cons_zero, List.cons_append, List.length_cons, List.length_append, List.getD_cons_succ]
    unfold Lib.decodeN
    have h1 : ∀ m : Nat, 1 < m + 1 + 1 + 1 + 1 := by intro m; omega
    have h2 : ∀ m : Nat, 2 < m + 1 + 1 + 1 + 1 := by intro m; omega
    have h3 : ∀ m : Nat, 3 < m + 1 + 1 + 1 + 1 := by intro m; omega
    simp only [h1, h2, h3]
def shiftL (k : Nat) (M : List (Nat × Nat)) : List (Nat × Nat) := M.map fun x => (k + x.1, x.2)
theorem mkAt_shift : ∀ (n k j : Nat) (l : List Nat), l.length ≤ n → mkAt (k + j) l = shiftL k (mkAt j l) := by
  intro n
  induction n with
  | zero =>
    intro k j l hl
    obtain rfl : l = [] := List.eq_nil_of_length_eq_zero (by omega)
    rfl
  | succ n ih =>
    intro k j l hl
    by_cases h0 : l = []
    · subst h0; rfl
    · have hw := dec_w l
      have hp : 0 < l.length := List.length_pos_iff.2 h0
      rw [mkAt_step (k + j) l h0, mkAt_step j l h0, Nat.add_assoc, ih k (j + (dec l).2) _ (by simp; omega)]
      rfl
theorem mkAt_append (b : List Nat) (hb : freshL b) : ∀ (n k : Nat) (a : List Nat), a.length ≤ n → mkAt k (a ++ b) = mkAt k a ++ mkAt (k + a.length) b := by
  intro n
  induction n with
  | zero =>
    intro k a ha
    obtain rfl : a = [] := List.eq_nil_of_length_eq_zero (by omega)
    simp [mkAt_nil]
  | succ n ih =>
    intro k a ha
    by_cases h0 : a = []
    · subst h0; simp [mkAt_nil]
    · have hw := dec_w a
      have hle := dec_le a h0
      have hp : 0 < a.length := List.length_pos_iff.2 h0
      rw [mkAt_step k a h0, mkAt_step k (a ++ b) (by simp [h0]), dec_append a b h0 hb, List.drop_append_of_le_length hle, ih _ _ (by simp; omega), List.length_drop, List.cons_append,
        show k + (dec a).2 + (a.length - (dec a).2) = k + a.length from by omega]
theorem marks_append (a b : List Nat) (hb : freshL b) : marksL (a ++ b) = marksL a ++ shiftL a.length (marksL b) := by
  show mkAt 0 (a ++ b) = mkAt 0 a ++ shiftL a.length (mkAt 0 b)
  rw [mkAt_append b hb _ 0 a (Nat.le_refl _), ← mkAt_shift _ a.length 0 b (Nat.le_refl _)]
  simp
end Go.Proofs.YtkkeodlnejckjaaGreat
