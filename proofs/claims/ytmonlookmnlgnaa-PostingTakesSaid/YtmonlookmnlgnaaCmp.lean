/- How two texts compare: the plain law. -/
import Derived.Test.YtmonlookmnlgnaaBytes
namespace Go.Proofs.Ytmonlookmnlgnaa
open Go.RowKit
set_option linter.unusedVariables false
set_option linter.unusedSimpArgs false

/-- How many bytes both begin with that are the same. -/
def prefL : List Nat → List Nat → Nat
  | x :: a, y :: b => if x = y then prefL a b + 1 else 0
  | _, _ => 0
/-- Which one stands ahead. -/
def cmpL : List Nat → List Nat → Int
  | [], [] => 0
  | [], _ :: _ => -1
  | _ :: _, [] => 1
  | x :: a, y :: b => if x = y then cmpL a b else if x < y then -1 else 1
theorem prefL_le : ∀ a b : List Nat, prefL a b ≤ a.length ∧ prefL a b ≤ b.length
  | [], _ => ⟨Nat.zero_le _, Nat.zero_le _⟩
  | _ :: _, [] => ⟨Nat.zero_le _, Nat.zero_le _⟩
  | x :: a, y :: b => by
    have h := prefL_le a b
    unfold prefL
    split
    · simp; omega
    · simp
theorem prefL_uniq : ∀ (a b : List Nat) (n : Nat), n ≤ a.length → n ≤ b.length → (∀ j, j < n → a.getD j 0 = b.getD j 0) → (n = a.length ∨ n = b.length ∨ a.getD n 0 ≠ b.getD n 0) → n = prefL a b
  | [], b, n, h1, _, _, _ => by simp [prefL] at *; omega
  | x :: a, [], n, _, h2, _, _ => by simp [prefL] at *; omega
  | x :: a, y :: b, n, h1, h2, h3, h4 => by
    unfold prefL
    cases n with
    | zero =>
      have : x ≠ y := by rcases h4 with h | h | h <;> simp_all
      rw [if_neg this]
    | succ m =>
      have h0 := h3 0 (by omega)
      simp at h0
      rw [if_pos h0]
      have := prefL_uniq a b m (by simp at h1; omega) (by simp at h2; omega) (fun j hj => by simpa using h3 (j + 1) (by omega)) (by simpa using h4)
      omega
theorem prefL_spec : ∀ (a b : List Nat), (∀ j, j < prefL a b → a.getD j 0 = b.getD j 0) ∧ (prefL a b < a.length → prefL a b < b.length → a.getD (prefL a b) 0 ≠ b.getD (prefL a b) 0)
  | [], b => ⟨fun j h => by simp [prefL] at h, fun h => by simp [prefL] at h⟩
  | x :: a, [] => ⟨fun j h => by simp [prefL] at h, fun _ h => by simp [prefL] at h⟩
  | x :: a, y :: b => by
    obtain ⟨h1, h2⟩ := prefL_spec a b
    unfold prefL
    split
    · rename_i h
      refine ⟨fun j hj => ?_, fun g1 g2 => ?_⟩
      · cases j with
        | zero => simpa using h
        | succ j => simpa using h1 j (by omega)
      · simpa using h2 (by simpa using g1) (by simpa using g2)
    · rename_i h
      exact ⟨fun j hj => by omega, fun _ _ => by simpa using h⟩
theorem cmpL_pref : ∀ (a b : List Nat), cmpL a b = if prefL a b = a.length then (if prefL a b = b.length then 0 else -1) else if prefL a b = b.length then 1 else if a.getD (prefL a b) 0 < b.getD (prefL a b) 0 then -1 else 1
  | [], [] => rfl
  | [], y :: b => by simp [cmpL, prefL]
  | x :: a, [] => by simp [cmpL, prefL]
  | x :: a, y :: b => by
    have h := cmpL_pref a b
    unfold cmpL prefL
    split
    · rw [h]; simp
    · rename_i hne; simp
theorem cmpL_self (a : List Nat) : cmpL a a = 0 := by
  induction a with
  | nil => rfl
  | cons x a ih => simp [cmpL, ih]
theorem cmpL_zero : ∀ (a b : List Nat), cmpL a b = 0 → a = b
  | [], [], _ => rfl
  | [], y :: b, h => by simp [cmpL] at h
  | x :: a, [], h => by simp [cmpL] at h
  | x :: a, y :: b, h => by
    unfold cmpL at h
    split at h
    · rename_i e; rw [e, cmpL_zero a b h]
    · split at h <;> simp at h
theorem cmpL_eq (a b : List Nat) : cmpL a b = 0 ↔ a = b := ⟨cmpL_zero a b, fun h => by rw [h]; exact cmpL_self b⟩
end Go.Proofs.Ytmonlookmnlgnaa
