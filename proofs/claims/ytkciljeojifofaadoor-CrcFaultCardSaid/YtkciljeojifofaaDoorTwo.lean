/- The steps of a register as matrices: what nought, times, twice and Two of the program tell, and Two of the reference. -/
import Derived.Test.YtkciljeojifofaaDoorWalkD
namespace Go.Proofs.YtkciljeojifofaaDoor
open Go.RowKit Crc
set_option linter.unusedVariables false
set_option linter.unusedSimpArgs false

/-- A step that turns over what is turned over, within 32 bits. -/
structure Lin (f : Nat → Nat) : Prop where
  xor : ∀ a b, f (a ^^^ b) = f a ^^^ f b
  lt : ∀ a, a < 4294967296 → f a < 4294967296
theorem Lin.zero {f : Nat → Nat} (h : Lin f) : f 0 = 0 := by
  have := h.xor 0 0
  simp at this
  exact this
theorem Lin.comp {f g : Nat → Nat} (h : Lin f) (k : Lin g) : Lin (fun r => f (g r)) := ⟨fun a b => by rw [k.xor, h.xor], fun a ha => h.lt _ (k.lt a ha)⟩
theorem lin_st8 : Lin st8 := ⟨st8_xor, fun _ => st8_lt⟩
/-- n times. -/
def itN : Nat → Nat → Nat
  | 0, r => r
  | n + 1, r => itN n (st8 r)
theorem itN_add : ∀ (m n r : Nat), itN (m + n) r = itN m (itN n r)
  | m, 0, r => rfl
  | m, n + 1, r => by rw [Nat.add_succ]; exact itN_add m n (st8 r)
theorem lin_itN : ∀ n, Lin (itN n)
  | 0 => ⟨fun _ _ => rfl, fun _ h => h⟩
  | n + 1 => (lin_itN n).comp lin_st8
/-- What becomes of the first k bits. -/
def part (f : Nat → Nat) (r : Nat) : Nat → Nat
  | 0 => 0
  | k + 1 => if r / 2 ^ k % 2 = 1 then part f r k ^^^ f (2 ^ k) else part f r k
theorem part_is {f : Nat → Nat} (h : Lin f) (r : Nat) : ∀ k, part f r k = f (r % 2 ^ k)
  | 0 => by simp [part, Nat.mod_one, h.zero]
  | k + 1 => by
    unfold part
    have e : r % 2 ^ (k + 1) = (r % 2 ^ k) ^^^ (if r / 2 ^ k % 2 = 1 then 2 ^ k else 0) := by
      apply Nat.eq_of_testBit_eq
      intro i
      rw [Nat.testBit_xor, Nat.testBit_mod_two_pow, Nat.testBit_mod_two_pow]
      have hb : r.testBit k = decide (r / 2 ^ k % 2 = 1) := by
        rw [Nat.testBit_eq_decide_div_mod_eq]
      by_cases h1 : r / 2 ^ k % 2 = 1
      · rw [if_pos h1, Nat.testBit_two_pow]
        rw [decide_eq_true h1] at hb
        rcases Nat.lt_trichotomy i k with h2 | h2 | h2
        · simp [h2, show i < k + 1 by omega, show ¬ k = i by omega]
        · subst h2; simp [hb]
        · simp [show ¬ i < k by omega, show ¬ i < k + 1 by omega, show ¬ k = i by omega]
      · rw [if_neg h1]
        rw [decide_eq_false h1] at hb
        rcases Nat.lt_trichotomy i k with h2 | h2 | h2
        · simp [h2, show i < k + 1 by omega]
        · subst h2; simp [hb]
        · simp [show ¬ i < k by omega, show ¬ i < k + 1 by omega]
    rw [part_is h r k, e, h.xor]
    split
    · rfl
    · rw [h.zero, Nat.xor_zero]
theorem part_32 {f : Nat → Nat} (h : Lin f) {r : Nat} (hr : r < 4294967296) : part f r 32 = f r := by
  rw [part_is h, Nat.mod_eq_of_lt (by simpa using hr)]
theorem part_lt {f : Nat → Nat} (h : Lin f) (r : Nat) (k : Nat) (hk : k ≤ 32) : part f r k < 4294967296 := by
  rw [part_is h]
  refine h.lt _ (Nat.lt_of_lt_of_le (Nat.mod_lt _ (Nat.two_pow_pos k)) ?_)
  exact Nat.pow_le_pow_right (n := 2) (by decide) hk

/-- A block that holds a step's columns. -/
def Mat (w : World) (g : Nat) (f : Nat → Nat) : Prop := ∀ i : Nat, i < 32 → w.cell? ⟨g, i, none⟩ = some (.int .u32 (f (2 ^ i) : Nat))
theorem Mat.below {w w' : World} {g : Nat} {f : Nat → Nat} (h : Mat w g f) (hb : Below w.heap.size w w') : Mat w' g f := fun i hi => cell_below hb (h i hi)
/-- The same up to k; the rest is there. -/
structure MatK (g : Nat) (f : Nat → Nat) (k : Nat) (w wr : World) : Prop where
  below : Below g w wr
  lt : g < wr.heap.size
  cells : ∀ i : Nat, i < 32 → wr.cell? ⟨g, i, none⟩ = some (.int .u32 (if i < k then f (2 ^ i) else 0 : Nat))
  froz : ∀ i : Nat, i < 32 → wr.frozen? ⟨g, i, none⟩ = false
theorem MatK.next {g : Nat} {f : Nat → Nat} {k : Nat} {w wr : World} (h : MatK g f k w wr) (hk : k < 32) : MatK g f (k + 1) w (wr.setCell ⟨g, k, none⟩ (.int .u32 (f (2 ^ k) : Nat))) := by
  refine ⟨h.below.setCell (Nat.le_refl _) _, by simpa [World.setCell] using h.lt, fun j hj => ?_, fun j hj => ?_⟩
  · by_cases e : j = k
    · subst e
      rw [World.cell?_setCell_same' _ _ _ (by rw [h.cells j hj]; rfl)]
      simp
    · rw [World.cell?_setCell_other _ _ _ _ (by intro e'; injection e' with _ e'; exact e e'.symm), h.cells j hj]
      have : (j < k + 1) = (j < k) := by simp; omega
      simp [this]
  · rw [World.frozen?_setCell]; exact h.froz j hj
theorem MatK.mat {g : Nat} {f : Nat → Nat} {w wr : World} (h : MatK g f 32 w wr) : Mat wr g f := fun i hi => by rw [h.cells i hi, if_pos hi]

set_option maxRecDepth 100000 in
set_option maxHeartbeats 400000 in
theorem times_any (g : Nat) (f : Nat → Nat) (r : Int) (w : World) (hf : Lin f) (h0 : 0 ≤ r) (hr : r < 4294967296) (hM : Mat w g f) :
    Calls Tryd.prog 30 #[.pointer (some ⟨g, 0, none⟩), .int .u32 r] w fun e w' => e = .returned (.int .u32 (f r.toNat : Nat)) ∧ w = w' := by
  obtain ⟨r, rfl⟩ := Int.eq_ofNat_of_zero_le h0
  have HM := Lib.hid hM
  have HF := Lib.hid hf
  clear hM hf
  go_enter Tryd.func30, Tryd.ntmps30
  go_wp2
  go_loop [5, 7] (fun o i => ∃ k : Nat, k ≤ 32 ∧ i = .int .i64 k ∧ o = .int .u32 (part f r k : Nat)) (fun _ i => 32 - (intOf i).toNat)
  case atStart => exact ⟨0, by decide, rfl, rfl⟩
  case round =>
    rename_i hwr; clear hwr
    obtain ⟨k, hk, rfl, rfl⟩ := hrel
    by_cases hlt : (k : Int) < 32
    · have hc := HM.out k (by omega)
      have hpl := part_lt HF.out r k hk
      have hql : ((f (2 ^ k) : Nat) : Int) < 4294967296 := by
        have := HF.out.lt (2 ^ k) (Nat.pow_lt_pow_right (a := 2) (n := 32) (by decide) (by omega)); omega
      have hx := u32_xor (part f r k) (f (2 ^ k)) hpl (by omega)
      have HX : Hid (part f r (k + 1) = if r / 2 ^ k % 2 = 1 then part f r k ^^^ f (2 ^ k) else part f r k) := rfl
      clear hpl
      generalize part f r k = q at *
      generalize f (2 ^ k) = z at *
      have hdv : ((r : Int) / 2 ^ k) = ((r / 2 ^ k : Nat) : Int) := by simp
      have hle : r / 2 ^ k ≤ r := Nat.div_le_self _ _
      have hb := u32_and1 (r / 2 ^ k) (by omega)
      rw [← hdv] at hb
      clear hdv hle
      by_cases h1 : r / 2 ^ k % 2 = 1
      · rw [h1] at hb
        have H1 := Lib.hid h1
        clear h1
        go_wp2
        go_round
        case rel => exact ⟨k + 1, by omega, by go_num, by rw [HX.out, if_pos H1.out]⟩
        case measure => simp [intOf]; omega
      · rw [show r / 2 ^ k % 2 = 0 by omega] at hb
        have H1 := Lib.hid h1
        clear h1
        have ht : (((0 : Nat) : Int) == 1) = false := by decide
        go_wp2
        go_round
        case rel => exact ⟨k + 1, by omega, by go_num, by rw [HX.out, if_neg H1.out]⟩
        case measure => simp [intOf]; omega
    · go_wp2
      go_ret
      exact ⟨by simp only [Int.toNat_natCast]; rw [← part_32 HF.out (by omega), show k = 32 by omega]; simp, rfl⟩

theorem MatK.start (w : World) (f : Nat → Nat) : MatK w.heap.size f 0 w (w.alloc (.cells #[.int .u32 0, .int .u32 0, .int .u32 0, .int .u32 0, .int .u32 0, .int .u32 0, .int .u32 0, .int .u32 0, .int .u32 0, .int .u32 0, .int .u32 0, .int .u32 0, .int .u32 0, .int .u32 0, .int .u32 0, .int .u32 0, .int .u32 0, .int .u32 0, .int .u32 0, .int .u32 0, .int .u32 0, .int .u32 0, .int .u32 0, .int .u32 0, .int .u32 0, .int .u32 0, .int .u32 0, .int .u32 0, .int .u32 0, .int .u32 0, .int .u32 0, .int .u32 0] 57)) := by
  refine ⟨(Below.refl _ _).alloc (Nat.le_refl _) _, by simp, fun j hj => ?_, fun j hj => ?_⟩
  · rw [World.cell?_alloc_mark, show (#[.int .u32 0, .int .u32 0, .int .u32 0, .int .u32 0, .int .u32 0, .int .u32 0, .int .u32 0, .int .u32 0, .int .u32 0, .int .u32 0, .int .u32 0, .int .u32 0, .int .u32 0, .int .u32 0, .int .u32 0, .int .u32 0, .int .u32 0, .int .u32 0, .int .u32 0, .int .u32 0, .int .u32 0, .int .u32 0, .int .u32 0, .int .u32 0, .int .u32 0, .int .u32 0, .int .u32 0, .int .u32 0, .int .u32 0, .int .u32 0, .int .u32 0, .int .u32 0] : Array Value) = Array.replicate 32 (.int .u32 0) from rfl]
    simp [hj]
  · unfold World.frozen?
    rw [heap_alloc_new]
    simp

set_option maxRecDepth 100000 in
set_option maxHeartbeats 400000 in
theorem nought_any (w : World) (hT : Tab w) :
    Calls Tryd.prog 29 #[] w fun e w' => ∃ g, e = .returned (.pointer (some ⟨g, 0, none⟩)) ∧ Mat w' g st8 ∧ Below w.heap.size w w' := by
  have HT := Lib.hid hT
  clear hT
  go_enter Tryd.func29, Tryd.ntmps29
  have hst := MatK.start w st8
  have HB0 := Lib.hid ((Below.refl w.heap.size w).alloc (Nat.le_refl _) (.cells #[.int .u32 0, .int .u32 0, .int .u32 0, .int .u32 0, .int .u32 0, .int .u32 0, .int .u32 0, .int .u32 0, .int .u32 0, .int .u32 0, .int .u32 0, .int .u32 0, .int .u32 0, .int .u32 0, .int .u32 0, .int .u32 0, .int .u32 0, .int .u32 0, .int .u32 0, .int .u32 0, .int .u32 0, .int .u32 0, .int .u32 0, .int .u32 0, .int .u32 0, .int .u32 0, .int .u32 0, .int .u32 0, .int .u32 0, .int .u32 0, .int .u32 0, .int .u32 0] 57))
  go_wp2
  obtain ⟨g, hg⟩ : ∃ g, g = w.heap.size := ⟨_, rfl⟩
  have HG := Lib.hid hg
  rw [← hg] at hst ⊢
  clear hg
  generalize w.alloc (.cells #[.int .u32 0, .int .u32 0, .int .u32 0, .int .u32 0, .int .u32 0, .int .u32 0, .int .u32 0, .int .u32 0, .int .u32 0, .int .u32 0, .int .u32 0, .int .u32 0, .int .u32 0, .int .u32 0, .int .u32 0, .int .u32 0, .int .u32 0, .int .u32 0, .int .u32 0, .int .u32 0, .int .u32 0, .int .u32 0, .int .u32 0, .int .u32 0, .int .u32 0, .int .u32 0, .int .u32 0, .int .u32 0, .int .u32 0, .int .u32 0, .int .u32 0, .int .u32 0] 57) = W0 at *
  have HST := Lib.hid hst
  clear hst
  go_loopw [3] (fun i wr => ∃ k : Nat, k ≤ 32 ∧ i = .int .i64 k ∧ MatK g st8 k w wr) (fun i _ => 32 - (intOf i).toNat)
  case atStart => exact ⟨0, by decide, rfl, HST.out⟩
  case round =>
    obtain ⟨k, hk, rfl, hI⟩ := hrel
    have HTr := Lib.hid (HT.out.below (HG.out ▸ hI.below))
    by_cases hlt : (k : Int) < 32
    · have hs := hI.cells k (by omega)
      have hf := hI.froz k (by omega)
      have HI := Lib.hid (hI.next (k := k) (by omega))
      clear hI
      have HP : Hid (2 ^ k < 4294967296) := Nat.pow_lt_pow_right (a := 2) (n := 32) (by decide) (by omega)
      have HV : Hid (st8 (2 ^ k) = st4 (st4 (2 ^ k))) := rfl
      have hsh : (2 : Int) ^ k % 4294967296 = ((2 ^ k : Nat) : Int) := by
        have e : ((2 : Int) ^ k) = ((2 ^ k : Nat) : Int) := by simp
        have h2 : ((2 ^ k : Nat) : Int) < 4294967296 := Int.ofNat_lt.2 HP.out
        rw [e]
        exact Int.emod_eq_of_lt (Int.natCast_nonneg _) h2
      generalize (2 ^ k : Nat) = z at *
      have HL4 := Lib.hid (st4_lt HP.out)
      go_wp2_with (go_at_call 32; refine (nibble_any _ _ (by omega) (by first | (have := HP.out; omega) | (have := HL4.out; omega)) HTr.out).mono ?_; rintro e w' ⟨rfl, rfl⟩; try simp only [Int.toNat_natCast])
      go_roundw
      case rel => exact ⟨k + 1, by omega, by go_num, HI.out⟩
      case measure => simp [intOf]; omega
    · obtain rfl : k = 32 := by omega
      have HI := Lib.hid hI
      clear hI
      go_wp2
      go_ret
      exact ⟨_, rfl, HI.out.mat, HG.out ▸ HI.out.below⟩

set_option maxRecDepth 100000 in
set_option maxHeartbeats 400000 in
theorem twice_any (b : Nat) (f : Nat → Nat) (w : World) (hf : Lin f) (hM : Mat w b f) :
    Calls Tryd.prog 31 #[.pointer (some ⟨b, 0, none⟩)] w fun e w' => ∃ g, e = .returned (.pointer (some ⟨g, 0, none⟩)) ∧ Mat w' g (fun r => f (f r)) ∧ Below w.heap.size w w' := by
  have HM := Lib.hid hM
  have HF := Lib.hid hf
  clear hM hf
  go_enter Tryd.func31, Tryd.ntmps31
  have hst := MatK.start w (fun r => f (f r))
  go_wp2
  obtain ⟨g, hg⟩ : ∃ g, g = w.heap.size := ⟨_, rfl⟩
  have HG := Lib.hid hg
  rw [← hg] at hst ⊢
  clear hg
  generalize w.alloc (.cells #[.int .u32 0, .int .u32 0, .int .u32 0, .int .u32 0, .int .u32 0, .int .u32 0, .int .u32 0, .int .u32 0, .int .u32 0, .int .u32 0, .int .u32 0, .int .u32 0, .int .u32 0, .int .u32 0, .int .u32 0, .int .u32 0, .int .u32 0, .int .u32 0, .int .u32 0, .int .u32 0, .int .u32 0, .int .u32 0, .int .u32 0, .int .u32 0, .int .u32 0, .int .u32 0, .int .u32 0, .int .u32 0, .int .u32 0, .int .u32 0, .int .u32 0, .int .u32 0] 57) = W0 at *
  have HST := Lib.hid hst
  clear hst
  go_loopw [5] (fun i wr => ∃ k : Nat, k ≤ 32 ∧ i = .int .i64 k ∧ MatK g (fun r => f (f r)) k w wr) (fun i _ => 32 - (intOf i).toNat)
  case atStart => exact ⟨0, by decide, rfl, HST.out⟩
  case round =>
    obtain ⟨k, hk, rfl, hI⟩ := hrel
    have HMr := Lib.hid (HM.out.below (HG.out ▸ hI.below))
    by_cases hlt : (k : Int) < 32
    · have hs := hI.cells k (by omega)
      have hf := hI.froz k (by omega)
      have hc := HMr.out k (by omega)
      have HI := Lib.hid (hI.next (k := k) (by omega))
      clear hI
      have HP : Hid (f (2 ^ k) < 4294967296) := HF.out.lt _ (Nat.pow_lt_pow_right (a := 2) (n := 32) (by decide) (by omega))
      generalize f (2 ^ k) = z at *
      go_wp2_with (go_at_call 30; refine (times_any _ _ _ _ HF.out (by omega) (by have := HP.out; omega) HMr.out).mono ?_; rintro e w' ⟨rfl, rfl⟩; try simp only [Int.toNat_natCast])
      go_roundw
      case rel => exact ⟨k + 1, by omega, by go_num, HI.out⟩
      case measure => simp [intOf]; omega
    · obtain rfl : k = 32 := by omega
      have HI := Lib.hid hI
      clear hI
      go_wp2
      go_ret
      exact ⟨_, rfl, HI.out.mat, HG.out ▸ HI.out.below⟩
end Go.Proofs.YtkciljeojifofaaDoor
