/- What stands behind all that begin with bytes: the plain law. -/
import Derived.Test.YtljnfciolalbdaaCmp
namespace Go.Proofs.Ytljnfciolalbdaa
open Go.RowKit
set_option linter.unusedVariables false
set_option linter.unusedSimpArgs false

/-- How many bytes are left when the last ones of 255 are struck. -/
def trimN (l : List Nat) : Nat → Nat
  | 0 => 0
  | n + 1 => if l.getD n 0 = 255 then trimN l n else n + 1
theorem trimN_le (l : List Nat) : ∀ n, trimN l n ≤ n
  | 0 => Nat.le_refl _
  | n + 1 => by
    unfold trimN
    split
    · have := trimN_le l n; omega
    · omega
theorem trimN_last (l : List Nat) : ∀ n, trimN l n ≠ 0 → l.getD (trimN l n - 1) 0 ≠ 255
  | 0 => fun h => absurd rfl h
  | n + 1 => by
    unfold trimN
    split
    · exact trimN_last l n
    · rename_i h; intro _; simpa using h
def afterL (l : List Nat) : List Nat := if trimN l l.length = 0 then [] else (l.take (trimN l l.length)).set (trimN l l.length - 1) (l.getD (trimN l l.length - 1) 0 + 1)
theorem afterL_byt {l : List Nat} (h : Byt l) : Byt (afterL l) := by
  unfold afterL
  split
  · exact Byt.nil
  · rename_i h0
    refine (h.take _).set _ _ ?_
    have := trimN_last l l.length h0
    have := h.getD (trimN l l.length - 1)
    omega
/-- The same, from the front. -/
def afterR : List Nat → Option (List Nat)
  | [] => none
  | c :: r => match afterR r with
    | some t => some (c :: t)
    | none => if c = 255 then none else some [c + 1]
theorem trimN_cons (c : Nat) (r : List Nat) : ∀ n, trimN (c :: r) (n + 1) = if trimN r n = 0 then (if c = 255 then 0 else 1) else trimN r n + 1
  | 0 => by simp [trimN]
  | n + 1 => by
    have h := trimN_cons c r n
    rw [trimN, h]
    have e : (c :: r).getD (n + 1) 0 = r.getD n 0 := by simp
    rw [e]
    conv => rhs; rw [trimN]
    by_cases hr : r.getD n 0 = 255
    · rw [if_pos hr, if_pos hr]
    · rw [if_neg hr, if_neg hr, if_neg (by omega)]
theorem afterR_eq : ∀ l : List Nat, afterR l = if trimN l l.length = 0 then none else some (afterL l)
  | [] => rfl
  | c :: r => by
    have ih := afterR_eq r
    unfold afterR
    rw [ih]
    unfold afterL
    rw [List.length_cons, trimN_cons]
    by_cases h : trimN r r.length = 0
    · rw [if_pos h, if_pos h]
      by_cases hc : c = 255
      · simp [hc]
      · simp [hc]
    · obtain ⟨k, hk⟩ : ∃ k, trimN r r.length = k + 1 := ⟨trimN r r.length - 1, by omega⟩
      rw [hk]
      simp
/-- Begins with. -/
def begL (a b : List Nat) : Prop := b.length ≤ a.length ∧ prefL a b = b.length
theorem begL_cons (x c : Nat) (a r : List Nat) : begL (x :: a) (c :: r) ↔ x = c ∧ begL a r := by
  unfold begL
  rw [show prefL (x :: a) (c :: r) = if x = c then prefL a r + 1 else 0 from rfl]
  by_cases h : x = c
  · rw [if_pos h]; simp [h]
  · rw [if_neg h]; simp [h]
theorem cmpL_vals : ∀ a b : List Nat, cmpL a b = -1 ∨ cmpL a b = 0 ∨ cmpL a b = 1
  | [], [] => .inr (.inl rfl)
  | [], _ :: _ => .inl rfl
  | _ :: _, [] => .inr (.inr rfl)
  | x :: a, y :: b => by
    unfold cmpL
    split
    · exact cmpL_vals a b
    · split
      · exact .inl rfl
      · exact .inr (.inr rfl)
theorem cmpL_nil (a : List Nat) : 0 ≤ cmpL a [] := by cases a <;> simp [cmpL]
theorem between : ∀ (b a : List Nat), Byt a → (begL a b ↔ 0 ≤ cmpL a b ∧ ∀ t, afterR b = some t → cmpL a t < 0)
  | [], a, _ => by
    have := cmpL_nil a
    simp [begL, afterR, this]
    cases a <;> rfl
  | c :: r, [], _ => by simp [begL, cmpL]
  | c :: r, x :: a, h => by
    have hx : x < 256 := h x (by simp)
    have ih := between r a (fun y hy => h y (by simp [hy]))
    rw [begL_cons]
    unfold afterR
    by_cases hxc : x = c
    · subst hxc
      rw [ih]
      have e1 : cmpL (x :: a) (x :: r) = cmpL a r := by rw [cmpL, if_pos rfl]
      rw [e1]
      cases hr : afterR r with
      | some t =>
        have e2 : cmpL (x :: a) (x :: t) = cmpL a t := by rw [cmpL, if_pos rfl]
        simp [e2]
      | none =>
        by_cases h255 : x = 255
        · simp [h255]
        · have e3 : cmpL (x :: a) [x + 1] = -1 := by rw [cmpL, if_neg (by omega), if_pos (by omega)]
          simp [h255, e3]
    · by_cases hlt : x < c
      · have e1 : cmpL (x :: a) (c :: r) = -1 := by rw [cmpL, if_neg hxc, if_pos hlt]
        simp [hxc, e1]
      · have hgt : c < x := by omega
        have key : ¬ ∀ t, (match afterR r with | some t => some (c :: t) | none => if c = 255 then none else some [c + 1]) = some t → cmpL (x :: a) t < 0 := by
          intro hall
          cases hr : afterR r with
          | some t =>
            rw [hr] at hall
            have := hall (c :: t) rfl
            rw [cmpL, if_neg hxc, if_neg hlt] at this
            omega
          | none =>
            rw [hr] at hall
            have := hall [c + 1] (by simp; omega)
            by_cases h1 : x = c + 1
            · rw [cmpL, if_pos h1] at this
              have := cmpL_nil a
              omega
            · rw [cmpL, if_neg h1, if_neg (by omega)] at this
              omega
        constructor
        · intro h; exact absurd h.1 hxc
        · intro h; exact absurd h.2 key
theorem between_law (a b : List Nat) (ha : Byt a) : (decide (b.length ≤ a.length) && decide (prefL a b = b.length)) = (decide (0 ≤ cmpL a b) && (decide (trimN b b.length = 0) || decide (cmpL a (afterL b) < 0))) := by
  have h := between b a ha
  rw [afterR_eq] at h
  unfold begL at h
  rw [Bool.eq_iff_iff]
  simp only [Bool.and_eq_true, Bool.or_eq_true, decide_eq_true_eq]
  rw [h]
  by_cases h0 : trimN b b.length = 0
  · simp [h0]
  · simp [h0]
end Go.Proofs.Ytljnfciolalbdaa
