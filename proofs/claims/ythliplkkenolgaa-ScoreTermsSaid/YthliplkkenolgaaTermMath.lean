/- The plain law of a term's weight: its bounds, and how it grows. -/
import Derived.Test.YthliplkkenolgaaTerm
namespace Go.Proofs.Ythliplkkenolgaa
open Go.RowKit
set_option linter.unusedVariables false
set_option linter.unusedSimpArgs false

theorem idf_2560 {D W d : Int} (h : okS D W ∧ 1 ≤ d ∧ d ≤ D) : 0 ≤ idfX D W d ∧ idfX D W d ≤ 2560 := by
  unfold idfX
  rw [if_pos h]
  have hs := h.1
  unfold okS at hs
  obtain ⟨a, ha⟩ : ∃ a, a = (2 * D + 2).toNat := ⟨_, rfl⟩
  obtain ⟨b, hb⟩ : ∃ b, b = (2 * d + 1).toNat := ⟨_, rfl⟩
  rw [← ha, ← hb]
  have hba : b ≤ a := by omega
  have hb3 : 3 ≤ b := by omega
  have ha2 : a ≤ 802 := by omega
  obtain ⟨r, h1, h2, _⟩ := logN_out a b
  obtain ⟨g1, _⟩ := whole_spec (by omega) hba
  have hw : whole a b < 9 := by
    apply (Nat.pow_lt_pow_iff_right (a := 2) (by decide)).1
    have : 3 * 2 ^ whole a b ≤ b * 2 ^ whole a b := Nat.mul_le_mul_right _ hb3
    show 2 ^ whole a b < 512
    omega
  omega
theorem quo_mono {k a b c d : Int} (hk : 0 ≤ k) (hb : 0 < b) (hd : 0 < d) (h : a * d ≤ c * b) : k * a / b ≤ k * c / d := by
  rw [Int.le_ediv_iff_mul_le hd]
  have h1 : k * a / b * b ≤ k * a := Int.ediv_mul_le _ (by omega)
  obtain ⟨q, hq⟩ : ∃ q, q = k * a / b := ⟨_, rfl⟩
  rw [← hq] at h1 ⊢
  have h2 : q * b * d ≤ k * a * d := Int.mul_le_mul_of_nonneg_right h1 (by omega)
  have h3 : k * (a * d) ≤ k * (c * b) := Int.mul_le_mul_of_nonneg_left h hk
  have h4 : (q * d) * b ≤ (k * c) * b := by
    calc (q * d) * b = q * b * d := by ac_rfl
      _ ≤ k * a * d := h2
      _ = k * (a * d) := by ac_rfl
      _ ≤ k * (c * b) := h3
      _ = (k * c) * b := by ac_rfl
  exact Int.le_of_mul_le_mul_right h4 hb
theorem term_den {D W d m n : Int} (h : okT D W d m n) : 0 < 10 * (m * W) + (3 * W + 9 * n * D) ∧ 0 < 3 * W + 9 * n * D := by
  obtain ⟨⟨p1, p2⟩, ⟨p3, p4⟩⟩ := term_nums h
  have hs := h.1.1
  unfold okS at hs
  have e : 9 * n * D = 9 * (n * D) := Int.mul_assoc _ _ _
  rw [e]
  omega
theorem term_le {D W d m n : Int} (h : okT D W d m n) : 0 ≤ termX D W d m n ∧ termX D W d m n ≤ 22 * idfX D W d / 10 := by
  obtain ⟨h1, h2⟩ := term_den h
  obtain ⟨⟨p1, p2⟩, _⟩ := term_nums h
  obtain ⟨x1, _⟩ := idf_2560 h.1
  rw [(term_yes h).1]
  constructor
  · exact Int.ediv_nonneg (Int.mul_nonneg (by omega) (by omega)) (by omega)
  · have := quo_mono (k := idfX D W d * 22) (a := m * W) (b := 10 * (m * W) + (3 * W + 9 * n * D)) (c := 1) (d := 10) (by omega) h1 (by decide) (by omega)
    rw [Int.mul_one, Int.mul_comm (idfX D W d) 22] at this
    rwa [Int.mul_comm (idfX D W d) 22]
end Go.Proofs.Ythliplkkenolgaa
