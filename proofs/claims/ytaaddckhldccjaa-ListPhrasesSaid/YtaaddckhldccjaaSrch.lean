/- Whether a number is one of a rising row. -/
import Derived.Test.YtaaddckhldccjaaVV
import Derived.Deep.LoopGhost
import Derived.WalkSpells
namespace Go.Proofs.Ytaaddckhldccjaa
open Go.RowKit
set_option linter.unusedVariables false
set_option linter.unusedSimpArgs false

def ltB (a b : Int) : Prop := a < b
instance (a b : Int) : Decidable (ltB a b) := inferInstanceAs (Decidable (a < b))
theorem ltB_trans {a b c : Int} (h : ltB a b) (k : ltB b c) : ltB a c := Int.lt_trans h k
theorem ltB_irrefl (a : Int) : ¬ ltB a a := Int.lt_irrefl a
def stAt (l : List Int) (i : Nat) : Int := l.getD i 0
theorem stAt_of {l : List Int} {i : Nat} {x : Int} (h : ∃ hl : i < l.length, l[i] = x) : stAt l i = x := by
  obtain ⟨hl, rfl⟩ := h
  unfold stAt
  rw [List.getD_eq_getElem?_getD, List.getElem?_eq_getElem hl]; rfl
def inZ (l : List Int) (t : Int) : Bool := decide (t ∈ l)
theorem inZ_iff (l : List Int) (t : Int) : inZ l t = true ↔ t ∈ l := decide_eq_true_iff
theorem cmpNaN_any (x : Int) (w : World) : Calls Try.prog 95 #[.int .i64 x] w fun e w' => e = .returned (.bool false) ∧ w = w' := by
  go_enter Try.func95, Try.ntmps95
  go_wp2
  go_ret
  exact ⟨by simp [results], rfl⟩
theorem slNaN_any (x : Int) (w : World) : Calls Try.prog 80 #[.int .i64 x] w fun e w' => e = .returned (.bool false) ∧ w = w' := by
  go_enter Try.func80, Try.ntmps80
  go_wp2
  go_ret
  exact ⟨by simp [results], rfl⟩
set_option maxHeartbeats 1000000 in
theorem Less_any (x y : Int) (w : World) : Calls Try.prog 79 #[.int .i64 x, .int .i64 y] w fun e w' => e = .returned (.bool (decide (ltB x y))) ∧ w = w' := by
  go_enter Try.func79, Try.ntmps79
  go_wp2_with fail
  refine (cmpNaN_any x w).mono ?_
  rintro e w' ⟨rfl, rfl⟩
  go_wp2
  go_ret
  exact ⟨rfl, rfl⟩
theorem stAt_mem {l : List Int} {i : Nat} (h : i < l.length) : stAt l i ∈ l := by
  rw [stAt_of ⟨h, rfl⟩]
  exact List.getElem_mem h
theorem inZ_at {l : List Int} (hs : ∀ j i, i < j → j < l.length → ltB (stAt l i) (stAt l j)) {t : Int} {lo : Nat} (h1 : ∀ k, k < lo → ltB (stAt l k) t) (h2 : ∀ k, lo ≤ k → k < l.length → ¬ ltB (stAt l k) t) :
    inZ l t = decide (lo < l.length ∧ stAt l lo = t) := by
  by_cases h : lo < l.length ∧ stAt l lo = t
  · rw [decide_eq_true h, (inZ_iff l t).2 (by rw [← h.2]; exact stAt_mem h.1)]
  · rw [decide_eq_false h]
    rw [Bool.eq_false_iff]
    intro hi
    obtain ⟨k, hk, e⟩ := List.getElem_of_mem ((inZ_iff l t).1 hi)
    have e' : stAt l k = t := by rw [stAt_of ⟨hk, rfl⟩]; exact e
    rcases Nat.lt_trichotomy k lo with hlt | rfl | hgt
    · have := h1 k hlt
      rw [e'] at this
      exact ltB_irrefl _ this
    · exact h ⟨hk, e'⟩
    · have := hs k lo hgt hk
      rw [e'] at this
      exact h2 lo (Nat.le_refl _) (by omega) this
def cntZ (l : List Int) (t : Int) : Nat := (l.filter fun x => decide (x < t)).length
theorem cntZ_at {l : List Int} {t : Int} {lo : Nat} (hl : lo ≤ l.length) (h1 : ∀ k, k < lo → ltB (stAt l k) t) (h2 : ∀ k, lo ≤ k → k < l.length → ¬ ltB (stAt l k) t) : cntZ l t = lo := by
  unfold cntZ
  conv => lhs; rw [← List.take_append_drop lo l]
  rw [List.filter_append, List.filter_eq_self.2, List.filter_eq_nil_iff.2, List.append_nil, List.length_take, Nat.min_eq_left hl]
  · intro x hx
    obtain ⟨k, hk, rfl⟩ := List.getElem_of_mem hx
    have hk2 : lo + k < l.length := by simp at hk; omega
    have := h2 (lo + k) (by omega) hk2
    rw [stAt_of ⟨hk2, rfl⟩] at this
    rw [List.getElem_drop]
    simpa [ltB] using this
  · intro x hx
    obtain ⟨k, hk, rfl⟩ := List.getElem_of_mem hx
    have hk2 : k < l.length := by simp at hk; omega
    have := h1 k (by simp at hk; omega)
    rw [stAt_of ⟨hk2, rfl⟩] at this
    rw [List.getElem_take]
    simpa [ltB] using this
set_option maxRecDepth 100000 in
set_option maxHeartbeats 4000000 in
theorem SearchI_any (B : Option Addr) (m d : Nat) (st : List Int) (t : Int) (w : World) (hr : Rd encI w B m st) (hm : m ≤ 1000000) (hs : ∀ j i, i < j → j < st.length → ltB (stAt st i) (stAt st j)) :
    Calls Try.prog 66 #[.slice B m d, .int .i64 t] w fun e w' => e = .returned (.tuple #[.int .i64 (cntZ st t : Nat), .bool (inZ st t)]) ∧ w' = w := by
  have HR := Lib.hid hr
  have HS := Lib.hid hs
  have HL := Lib.hid hr.len
  clear hr hs
  go_enter Try.func66, Try.ntmps66
  go_wp2
  go_loopg [7, 8] m (fun g s7 s8 wr => ∃ lo hi : Nat, s7 = .int .i64 lo ∧ s8 = .int .i64 hi ∧ lo ≤ hi ∧ hi ≤ m ∧ hi - lo ≤ g ∧ w = wr ∧ Hid ((∀ k, k < lo → ltB (stAt st k) t) ∧ (∀ k, hi ≤ k → k < st.length → ¬ ltB (stAt st k) t)))
  case atStart => exact ⟨0, m, rfl, rfl, Nat.zero_le _, Nat.le_refl _, by omega, rfl, Lib.hid ⟨fun t ht => absurd ht (Nat.not_lt_zero _), fun t h1 h2 => by have := HL.out; omega⟩⟩
  case round =>
    obtain ⟨lo, hi, rfl, rfl, hlh, hin, hg, rfl, HI⟩ := hrel
    by_cases hlt : lo < hi
    · obtain ⟨ad, y, rfl, HX, cm⟩ := rdI_at HR.out (k := (lo + hi) / 2) (by omega)
      have HY := Lib.hid (stAt_of HX.out)
      by_cases hyx : ltB y t
      · have hd : decide (ltB y t) = true := decide_eq_true hyx
        have HX2 := Lib.hid hyx
        clear hyx
        go_wp2_with fail
        refine (Less_any y t _).mono ?_
        rintro e w' ⟨rfl, rfl⟩
        rw [hd]
        go_wp2
        go_roundg (hi - ((lo + hi) / 2 + 1))
        case measure => omega
        case rel =>
          refine ⟨(lo + hi) / 2 + 1, hi, by rw [show ((lo : Int) + (hi : Int)) / 2 + 1 = (((lo + hi) / 2 + 1 : Nat) : Int) by omega], rfl, by omega, hin, Nat.le_refl _, rfl, Lib.hid ⟨fun k hk => ?_, HI.out.2⟩⟩
          rcases Nat.lt_or_ge k ((lo + hi) / 2) with h | h
          · have := HS.out _ _ h (by have := HL.out; omega)
            rw [HY.out] at this
            exact ltB_trans this HX2.out
          · obtain rfl : k = (lo + hi) / 2 := by omega
            rw [HY.out]
            exact HX2.out
      · have hd : decide (ltB y t) = false := decide_eq_false hyx
        have HX2 := Lib.hid hyx
        clear hyx
        go_wp2_with fail
        refine (Less_any y t _).mono ?_
        rintro e w' ⟨rfl, rfl⟩
        rw [hd]
        go_wp2
        go_roundg ((lo + hi) / 2 - lo)
        case measure => omega
        case rel =>
          refine ⟨lo, (lo + hi) / 2, rfl, by rw [show ((lo : Int) + (hi : Int)) / 2 = (((lo + hi) / 2 : Nat) : Int) by omega], by omega, by omega, Nat.le_refl _, rfl, Lib.hid ⟨HI.out.1, fun k hk hkn => ?_⟩⟩
          intro hc
          refine HX2.out ?_
          rcases Nat.lt_or_ge ((lo + hi) / 2) k with h | h
          · have := HS.out _ _ h hkn
            rw [HY.out] at this
            exact ltB_trans this hc
          · obtain rfl : k = (lo + hi) / 2 := by omega
            rw [HY.out] at hc
            exact hc
    · obtain rfl : hi = lo := by omega
      have HE := Lib.hid (inZ_at HS.out HI.out.1 HI.out.2)
      have HC := Lib.hid (cntZ_at (show hi ≤ st.length by rw [HL.out]; exact hin) HI.out.1 HI.out.2)
      by_cases hn : hi < m
      · obtain ⟨ad, y, rfl, HX, cm⟩ := rdI_at HR.out (k := hi) hn
        have HY := Lib.hid (stAt_of HX.out)
        by_cases hyx : y = t
        · have he : (y == t) = true := by rw [hyx]; simp
          have HYX := Lib.hid hyx
          clear hyx
          go_wp2
          go_ret2
          refine ⟨?_, rfl⟩
          rw [HC.out, HE.out, HY.out, decide_eq_true (show hi < st.length ∧ y = t from ⟨by rw [HL.out]; exact hn, HYX.out⟩)]
          rfl
        · have he : (y == t) = false := by simpa using hyx
          have HYX := Lib.hid hyx
          clear hyx
          go_wp2_with (first
            | (go_at_call 80; refine (slNaN_any _ _).mono ?_; rintro e w' ⟨rfl, rfl⟩)
            | fail)
          go_ret2
          refine ⟨?_, rfl⟩
          rw [HC.out, HE.out, HY.out, decide_eq_false (show ¬ (hi < st.length ∧ y = t) from fun h => HYX.out h.2)]
          rfl
      · go_wp2
        go_ret2
        refine ⟨?_, rfl⟩
        rw [HC.out, HE.out, decide_eq_false (show ¬ (hi < st.length ∧ _) from fun h => hn (by have := h.1; have := HL.out; omega))]
        rfl
end Go.Proofs.Ytaaddckhldccjaa
