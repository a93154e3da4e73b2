/- The plain law of the logarithm in 256ths. -/
import Derived.Lib.BitFns
import Derived.Lib.ItoaNum
namespace Go.Proofs.Ythliplkkenolgaa
set_option linter.unusedVariables false
set_option linter.unusedSimpArgs false

/-- The whole part. -/
def whole (a b : Nat) : Nat := Nat.log2 (a / b)
/-- A number and what is told so far go on by one bit. -/
def stpL (s : Nat × Nat) : Nat × Nat := if 2147483648 ≤ s.1 * s.1 / 1073741824 then (s.1 * s.1 / 1073741824 / 2, 2 * s.2 + 1) else (s.1 * s.1 / 1073741824, 2 * s.2)
def itL : Nat → Nat × Nat → Nat × Nat
  | 0, s => s
  | k + 1, s => stpL (itL k s)
def mant (a b : Nat) : Nat := a * 1073741824 / (b * 2 ^ whole a b)
/-- How many rounds: eight (named, lest anything goes through them). -/
noncomputable def k8 : Nat := Classical.choose (⟨8, rfl⟩ : ∃ n : Nat, n = 8)
theorem k8_eq : k8 = 8 := Classical.choose_spec (⟨8, rfl⟩ : ∃ n : Nat, n = 8)
noncomputable def logN (a b : Nat) : Nat := (itL k8 (mant a b, whole a b)).2

theorem whole_spec {a b : Nat} (hb : 0 < b) (h : b ≤ a) : b * 2 ^ whole a b ≤ a ∧ a < b * 2 ^ (whole a b + 1) := by
  have hq : a / b ≠ 0 := by
    have := Nat.div_pos h hb
    omega
  have h1 : 2 ^ whole a b ≤ a / b := Nat.log2_self_le hq
  have h2 : a / b < 2 ^ (whole a b + 1) := Nat.lt_log2_self
  constructor
  · rw [Nat.mul_comm]; exact (Nat.le_div_iff_mul_le hb).1 h1
  · rw [Nat.mul_comm]; exact (Nat.div_lt_iff_lt_mul hb).1 h2
theorem whole_uniq {a b w : Nat} (hb : 0 < b) (h1 : b * 2 ^ w ≤ a) (h2 : a < b * 2 ^ (w + 1)) : w = whole a b := by
  have hba : b ≤ a := Nat.le_trans (Nat.le_mul_of_pos_right b (Nat.two_pow_pos w)) h1
  obtain ⟨g1, g2⟩ := whole_spec hb hba
  have key : ∀ x y : Nat, b * 2 ^ x ≤ a → a < b * 2 ^ (y + 1) → x ≤ y := by
    intro x y hx hy
    have : 2 ^ x < 2 ^ (y + 1) := Nat.lt_of_mul_lt_mul_left (Nat.lt_of_le_of_lt hx hy)
    have := (Nat.pow_lt_pow_iff_right (a := 2) (by decide)).1 this
    omega
  have a1 := key _ _ h1 g2
  have a2 := key _ _ g1 h2
  omega
theorem whole_lt {a b : Nat} (hb : 0 < b) (h : b ≤ a) (ha : a < 2147483648) : whole a b ≤ 30 := by
  obtain ⟨g1, _⟩ := whole_spec hb h
  have : 2 ^ whole a b < 2 ^ 31 := Nat.lt_of_le_of_lt (Nat.le_trans (Nat.le_mul_of_pos_left _ hb) g1) ha
  have := (Nat.pow_lt_pow_iff_right (a := 2) (by decide)).1 this
  omega
theorem mant_bounds {a b : Nat} (hb : 0 < b) (h : b ≤ a) : 1073741824 ≤ mant a b ∧ mant a b < 2147483648 := by
  obtain ⟨g1, g2⟩ := whole_spec hb h
  unfold mant
  generalize whole a b = w at *
  have hp : 0 < b * 2 ^ w := Nat.mul_pos hb (Nat.two_pow_pos w)
  rw [Nat.pow_succ, ← Nat.mul_assoc] at g2
  generalize b * 2 ^ w = c at *
  constructor
  · rw [Nat.le_div_iff_mul_le hp]; omega
  · rw [Nat.div_lt_iff_lt_mul hp]; omega

theorem stpL_bounds {s : Nat × Nat} (h : 1073741824 ≤ s.1 ∧ s.1 < 2147483648) : 1073741824 ≤ (stpL s).1 ∧ (stpL s).1 < 2147483648 := by
  have h1 : 1073741824 * 1073741824 ≤ s.1 * s.1 := Nat.mul_le_mul h.1 h.1
  have h2 : s.1 * s.1 < 2147483648 * 2147483648 := Nat.mul_lt_mul'' h.2 h.2
  unfold stpL
  generalize s.1 * s.1 = q at *
  split <;> simp only <;> omega
theorem itL_bounds {s : Nat × Nat} (h : 1073741824 ≤ s.1 ∧ s.1 < 2147483648) : ∀ k, 1073741824 ≤ (itL k s).1 ∧ (itL k s).1 < 2147483648
  | 0 => h
  | k + 1 => stpL_bounds (itL_bounds h k)
theorem itL_out (m : Nat) (o : Nat) : ∀ k, (itL k (m, o)).1 = (itL k (m, 0)).1 ∧ (itL k (m, o)).2 = 2 ^ k * o + (itL k (m, 0)).2 ∧ (itL k (m, 0)).2 < 2 ^ k
  | 0 => ⟨rfl, by simp [itL], by simp [itL]⟩
  | k + 1 => by
    obtain ⟨h1, h2, h3⟩ := itL_out m o k
    show (stpL (itL k (m, o))).1 = (stpL (itL k (m, 0))).1 ∧ (stpL (itL k (m, o))).2 = 2 ^ (k + 1) * o + (stpL (itL k (m, 0))).2 ∧ (stpL (itL k (m, 0))).2 < 2 ^ (k + 1)
    unfold stpL
    rw [h1, h2, Nat.pow_succ]
    generalize (itL k (m, 0)).1 * (itL k (m, 0)).1 / 1073741824 = q
    have e : 2 ^ k * 2 * o = 2 * (2 ^ k * o) := by rw [Nat.mul_comm (2 ^ k) 2, Nat.mul_assoc]
    rw [e]
    generalize 2 ^ k * o = r
    generalize 2 ^ k = z at *
    split <;> simp only [true_and] <;> omega

/-- Which of two is less far. -/
def LexLe (s t : Nat × Nat) : Prop := s.2 < t.2 ∨ (s.2 = t.2 ∧ s.1 ≤ t.1)
theorem stpL_mono {s t : Nat × Nat} (h : LexLe s t) : LexLe (stpL s) (stpL t) := by
  obtain ⟨s1, s2⟩ := s
  obtain ⟨t1, t2⟩ := t
  have hm : s1 ≤ t1 → s1 * s1 / 1073741824 ≤ t1 * t1 / 1073741824 := fun h2 => Nat.div_le_div_right (Nat.mul_le_mul h2 h2)
  unfold LexLe at h
  simp only at h
  unfold stpL
  simp only
  generalize s1 * s1 / 1073741824 = q at *
  generalize t1 * t1 / 1073741824 = r at *
  by_cases hq : 2147483648 ≤ q <;> by_cases hr : 2147483648 ≤ r <;> simp only [hq, hr, ↓reduceIte] <;> unfold LexLe <;> simp only <;> omega
theorem itL_mono {s t : Nat × Nat} (h : LexLe s t) : ∀ k, LexLe (itL k s) (itL k t)
  | 0 => h
  | k + 1 => stpL_mono (itL_mono h k)
theorem LexLe.le {s t : Nat × Nat} (h : LexLe s t) : s.2 ≤ t.2 := by
  rcases h with h | ⟨h, _⟩ <;> omega

theorem logN_out (a b : Nat) : ∃ r, logN a b = 256 * whole a b + r ∧ r < 256 ∧ ∀ a' b', mant a' b' = mant a b → logN a' b' = 256 * whole a' b' + r := by
  have key : ∀ w, (itL k8 (mant a b, w)).2 = 256 * w + (itL k8 (mant a b, 0)).2 ∧ (itL k8 (mant a b, 0)).2 < 256 := by
    intro w
    obtain ⟨_, h2, h3⟩ := itL_out (mant a b) w k8
    rw [show 2 ^ k8 = 256 by rw [k8_eq]] at h2 h3
    exact ⟨h2, h3⟩
  obtain ⟨r, hr⟩ : ∃ r, r = (itL k8 (mant a b, 0)).2 := ⟨_, rfl⟩
  rw [← hr] at key
  refine ⟨r, (key _).1, (key 0).2, fun a' b' e => ?_⟩
  unfold logN
  rw [e]
  exact (key _).1
theorem logN_lt {a b : Nat} (hb : 0 < b) (h : b ≤ a) (ha : a < 2147483648) : logN a b < 8192 := by
  obtain ⟨r, h1, h2, _⟩ := logN_out a b
  have := whole_lt hb h ha
  omega
theorem itL_one : ∀ k, itL k (1073741824, 0) = (1073741824, 0)
  | 0 => rfl
  | k + 1 => by
    show stpL (itL k (1073741824, 0)) = _
    rw [itL_one k]
    decide
theorem logN_self {a : Nat} (ha : 0 < a) : logN a a = 0 := by
  have hw : whole a a = 0 := by unfold whole; rw [Nat.div_self ha]; rfl
  have hm : mant a a = 1073741824 := by unfold mant; rw [hw, Nat.pow_zero, Nat.mul_one, Nat.mul_comm, Nat.mul_div_cancel _ ha]
  unfold logN
  rw [hw, hm, itL_one]
theorem logN_twice {a b : Nat} (hb : 0 < b) (h : b ≤ a) : logN (2 * a) b = logN a b + 256 := by
  obtain ⟨g1, g2⟩ := whole_spec hb h
  have hw : whole a b + 1 = whole (2 * a) b := by
    apply whole_uniq hb
    · rw [Nat.pow_succ, ← Nat.mul_assoc]; omega
    · rw [Nat.pow_succ, ← Nat.mul_assoc]; omega
  have hm : mant (2 * a) b = mant a b := by
    unfold mant
    rw [← hw, Nat.pow_succ, ← Nat.mul_assoc, Nat.mul_assoc, Nat.mul_comm 2]
    exact Nat.mul_div_mul_right _ _ (by decide)
  obtain ⟨r, h1, _, h3⟩ := logN_out a b
  have e1 := h3 _ _ hm
  omega
theorem div_mono {a b a' b' z c : Nat} (hp : 0 < b) (hp' : 0 < b' * z) (hab : a * b' ≤ a' * b) : a * c / (b * z) ≤ a' * c / (b' * z) := by
  rw [Nat.le_div_iff_mul_le hp']
  have h1 : a * c / (b * z) * (b * z) ≤ a * c := Nat.div_mul_le_self _ _
  generalize a * c / (b * z) = q at *
  have h2 : q * (b * z) * b' ≤ a' * b * c := by
    refine Nat.le_trans (Nat.mul_le_mul_right b' h1) ?_
    rw [Nat.mul_right_comm a]
    exact Nat.mul_le_mul_right _ hab
  have e : q * (b * z) * b' = (q * (b' * z)) * b := by ac_rfl
  have e' : a' * b * c = (a' * c) * b := by ac_rfl
  rw [e, e'] at h2
  exact Nat.le_of_mul_le_mul_right h2 hp
theorem log_mono {a b a' b' : Nat} (hb : 0 < b) (hb' : 0 < b') (h : b ≤ a) (h' : b' ≤ a') (hab : a * b' ≤ a' * b) : logN a b ≤ logN a' b' := by
  obtain ⟨g1, g2⟩ := whole_spec hb h
  obtain ⟨k1, k2⟩ := whole_spec hb' h'
  have hw : whole a b ≤ whole a' b' := by
    have h1 : b * 2 ^ whole a b * b' < b' * 2 ^ (whole a' b' + 1) * b := Nat.lt_of_le_of_lt (Nat.le_trans (Nat.mul_le_mul_right b' g1) hab) (Nat.mul_lt_mul_of_pos_right k2 hb)
    have h2 : (b * b') * 2 ^ whole a b < (b * b') * 2 ^ (whole a' b' + 1) := by
      have e1 : b * 2 ^ whole a b * b' = (b * b') * 2 ^ whole a b := by rw [Nat.mul_right_comm]
      have e2 : b' * 2 ^ (whole a' b' + 1) * b = (b * b') * 2 ^ (whole a' b' + 1) := by rw [Nat.mul_right_comm, Nat.mul_comm b' b]
      rw [← e1, ← e2]; exact h1
    have h3 := (Nat.pow_lt_pow_iff_right (a := 2) (by decide)).1 (Nat.lt_of_mul_lt_mul_left h2)
    omega
  have hm : LexLe (mant a b, whole a b) (mant a' b', whole a' b') := by
    rcases Nat.lt_or_eq_of_le hw with hlt | heq
    · exact .inl hlt
    · refine .inr ⟨heq, ?_⟩
      show mant a b ≤ mant a' b'
      unfold mant
      rw [heq]
      exact div_mono hb (Nat.mul_pos hb' (Nat.two_pow_pos _)) hab
  exact (itL_mono hm k8).le
theorem logN_scale {a b n : Nat} (hb : 0 < b) (hn : 0 < n) (h : b ≤ a) : logN (a * n) (b * n) = logN a b := by
  apply Nat.le_antisymm
  · exact log_mono (Nat.mul_pos hb hn) hb (Nat.mul_le_mul_right n h) h (by rw [Nat.mul_right_comm, Nat.mul_assoc]; exact Nat.le_refl _)
  · exact log_mono hb (Nat.mul_pos hb hn) h (Nat.mul_le_mul_right n h) (by rw [Nat.mul_right_comm, Nat.mul_assoc]; exact Nat.le_refl _)

/-- How many bits: between two powers. -/
theorem bitLen_bounds {x : Nat} (h0 : 0 < x) (h : x < 2147483648) : 1 ≤ Lib.bitLen x ∧ 2 ^ (Lib.bitLen x - 1) ≤ x ∧ x < 2 ^ Lib.bitLen x := Lib.bitLenAux_bounds 64 x (Nat.lt_of_lt_of_le h (by decide)) (by omega)
theorem bits_whole {a b : Nat} (hb : 0 < b) (h : b ≤ a) (ha : a < 2147483648) : ∃ w : Nat, Lib.bitLen a = Lib.bitLen b + w ∧ w ≤ 31 ∧ b * 2 ^ w < 2147483648 ∧ (b * 2 ^ w ≤ a → whole a b = w) ∧ (¬ b * 2 ^ w ≤ a → w = whole a b + 1) := by
  obtain ⟨a1, a2, a3⟩ := bitLen_bounds (by omega) ha
  obtain ⟨b1, b2, b3⟩ := bitLen_bounds hb (by omega)
  have hle : Lib.bitLen b ≤ Lib.bitLen a := by
    have : 2 ^ (Lib.bitLen b - 1) < 2 ^ Lib.bitLen a := by omega
    have := (Nat.pow_lt_pow_iff_right (a := 2) (by decide)).1 this
    omega
  have h31 : Lib.bitLen a ≤ 31 := Lib.bitLen_le a 31 (by decide) ha
  generalize Lib.bitLen a = la at *
  generalize Lib.bitLen b = lb at *
  obtain ⟨w, rfl⟩ : ∃ w, la = lb + w := ⟨la - lb, by omega⟩
  obtain ⟨lb, rfl⟩ : ∃ l, lb = l + 1 := ⟨lb - 1, by omega⟩
  have e1 : 2 ^ (lb + 1 + w - 1) = 2 ^ lb * 2 ^ w := by rw [← Nat.pow_add]; congr 1; omega
  have e2 : 2 ^ (lb + 1 + w) = 2 * (2 ^ lb * 2 ^ w) := by rw [show lb + 1 + w = (lb + w) + 1 by omega, Nat.pow_succ, Nat.pow_add]; omega
  have e3 : 2 ^ (lb + 1) = 2 * 2 ^ lb := by rw [Nat.pow_succ]; omega
  have e31 : 2 ^ (lb + 1 + w) ≤ 2 ^ 31 := Nat.pow_le_pow_right (by decide) h31
  simp only [Nat.add_sub_cancel] at b2
  rw [e1] at a2
  rw [e2] at a3 e31
  rw [e3] at b3
  have c1 : 2 ^ lb * 2 ^ w ≤ b * 2 ^ w := Nat.mul_le_mul_right _ b2
  have c2 : b * 2 ^ w < 2 * 2 ^ lb * 2 ^ w := Nat.mul_lt_mul_of_pos_right b3 (Nat.two_pow_pos w)
  rw [Nat.mul_assoc] at c2
  refine ⟨w, rfl, by omega, by omega, fun hh => (whole_uniq hb hh ?_).symm, fun hh => ?_⟩
  · rw [Nat.pow_succ, ← Nat.mul_assoc]; omega
  · have hw : w ≠ 0 := by rintro rfl; simp at hh; omega
    obtain ⟨v, rfl⟩ : ∃ v, w = v + 1 := ⟨w - 1, by omega⟩
    have e6 : 2 ^ lb * 2 ^ (v + 1) = 2 * (2 ^ lb * 2 ^ v) := by rw [Nat.pow_succ, ← Nat.mul_assoc]; omega
    have e5 : b * 2 ^ (v + 1) = 2 * (b * 2 ^ v) := by rw [Nat.pow_succ, ← Nat.mul_assoc]; omega
    rw [e6] at a2 a3 c1 c2
    rw [e5] at c1 c2
    have := whole_uniq (a := a) (w := v) hb (by omega) (by rw [e5]; omega)
    omega
end Go.Proofs.Ythliplkkenolgaa
