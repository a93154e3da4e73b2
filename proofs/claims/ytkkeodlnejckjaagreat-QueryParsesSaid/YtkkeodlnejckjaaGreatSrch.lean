/- Whether a string is one of a rising row. -/
import Derived.Test.YtkkeodlnejckjaaGreatMay2
import Derived.WalkSpells
namespace Go.Proofs.YtkkeodlnejckjaaGreat
open Go.RowKit Go.Shelf Go.Maps
set_option linter.unusedVariables false
set_option linter.unusedSimpArgs false

theorem cmpNaN_any (x : ByteArray) (w : World) : Calls Tryz.prog 136 #[.string x] w fun e w' => e = .returned (.bool false) ∧ w = w' := by
  go_enter Tryz.func136, Tryz.ntmps136
  go_wp2
  go_ret
  exact ⟨by simp [results], rfl⟩
theorem slNaN_any (x : ByteArray) (w : World) : Calls Tryz.prog 134 #[.string x] w fun e w' => e = .returned (.bool false) ∧ w = w' := by
  go_enter Tryz.func134, Tryz.ntmps134
  go_wp2
  go_ret
  exact ⟨by simp [results], rfl⟩
set_option maxHeartbeats 1000000 in
theorem Less_any (x y : ByteArray) (w : World) : Calls Tryz.prog 133 #[.string x, .string y] w fun e w' => e = .returned (.bool (decide (ltB x y))) ∧ w = w' := by
  go_enter Tryz.func133, Tryz.ntmps133
  go_wp2_with fail
  refine (cmpNaN_any x w).mono ?_
  rintro e w' ⟨rfl, rfl⟩
  go_wp2
  go_ret
  exact ⟨by rw [← blS]; rfl, rfl⟩
theorem stAt_mem {l : List ByteArray} {i : Nat} (h : i < l.length) : stAt l i ∈ l := by
  rw [stAt_of ⟨h, rfl⟩]
  exact List.getElem_mem h
theorem inS_at {l : List ByteArray} (hs : ∀ j i, i < j → j < l.length → ltB (stAt l i) (stAt l j)) {t : ByteArray} {lo : Nat} (h1 : ∀ k, k < lo → ltB (stAt l k) t) (h2 : ∀ k, lo ≤ k → k < l.length → ¬ ltB (stAt l k) t) :
    inS l t = decide (lo < l.length ∧ stAt l lo = t) := by
  by_cases h : lo < l.length ∧ stAt l lo = t
  · rw [decide_eq_true h, (inS_iff l t).2 (by rw [← h.2]; exact stAt_mem h.1)]
  · rw [decide_eq_false h]
    rw [Bool.eq_false_iff]
    intro hi
    obtain ⟨k, hk, e⟩ := List.getElem_of_mem ((inS_iff l t).1 hi)
    have e' : stAt l k = t := by rw [stAt_of ⟨hk, rfl⟩]; exact e
    rcases Nat.lt_trichotomy k lo with hlt | rfl | hgt
    · have := h1 k hlt
      rw [e'] at this
      exact ltB_irrefl _ this
    · exact h ⟨hk, e'⟩
    · have := hs k lo hgt hk
      rw [e'] at this
      exact h2 lo (Nat.le_refl _) (by omega) this
set_option maxRecDepth 100000 in
set_option maxHeartbeats 4000000 in
theorem Search_any (B : Option Addr) (m d : Nat) (st : List ByteArray) (t : ByteArray) (w : World) (hr : Rd encS w B m st) (hm : m ≤ 1000000) (hs : ∀ j i, i < j → j < st.length → ltB (stAt st i) (stAt st j)) :
    Calls Tryz.prog 131 #[.slice B m d, .string t] w fun e w' => (∃ i : Int, e = .returned (.tuple #[.int .i64 i, .bool (inS st t)])) ∧ w = w' := by
  have HR := Lib.hid hr
  have HS := Lib.hid hs
  have HL := Lib.hid hr.len
  clear hr hs
  go_enter Tryz.func131, Tryz.ntmps131
  go_wp2
  go_loopg [7, 8] m (fun g s7 s8 wr => ∃ lo hi : Nat, s7 = .int .i64 lo ∧ s8 = .int .i64 hi ∧ lo ≤ hi ∧ hi ≤ m ∧ hi - lo ≤ g ∧ w = wr ∧ Hid ((∀ k, k < lo → ltB (stAt st k) t) ∧ (∀ k, hi ≤ k → k < st.length → ¬ ltB (stAt st k) t)))
  case atStart => exact ⟨0, m, rfl, rfl, Nat.zero_le _, Nat.le_refl _, by omega, rfl, Lib.hid ⟨fun t ht => absurd ht (Nat.not_lt_zero _), fun t h1 h2 => by have := HL.out; omega⟩⟩
  case round =>
    obtain ⟨lo, hi, rfl, rfl, hlh, hin, hg, rfl, HI⟩ := hrel
    by_cases hlt : lo < hi
    · obtain ⟨ad, y, rfl, HX, cm⟩ := rdS_at HR.out (k := (lo + hi) / 2) (by omega)
      have HY := Lib.hid (stAt_of HX.out)
      by_cases hyx : ltB y t
      · have hd : decide (ltB y t) = true := decide_eq_true hyx
        have HX2 := Lib.hid hyx
        clear hyx
        go_wp2_with fail
        refine (Less_any y t _).mono ?_
        rintro e w' ⟨rfl, rfl⟩
        rw [hd]
        go_wp2
        go_roundg (hi - ((lo + hi) / 2 + 1))
        case measure => omega
        case rel =>
          refine ⟨(lo + hi) / 2 + 1, hi, by rw [show ((lo : Int) + (hi : Int)) / 2 + 1 = (((lo + hi) / 2 + 1 : Nat) : Int) by omega], rfl, by omega, hin, Nat.le_refl _, rfl, Lib.hid ⟨fun k hk => ?_, HI.out.2⟩⟩
          rcases Nat.lt_or_ge k ((lo + hi) / 2) with h | h
          · have := HS.out _ _ h (by have := HL.out; omega)
            rw [HY.out] at this
            exact ltB_trans this HX2.out
          · obtain rfl : k = (lo + hi) / 2 := by omega
            rw [HY.out]
            exact HX2.out
      · have hd : decide (ltB y t) = false := decide_eq_false hyx
        have HX2 := Lib.hid hyx
        clear hyx
        go_wp2_with fail
        refine (Less_any y t _).mono ?_
        rintro e w' ⟨rfl, rfl⟩
        rw [hd]
        go_wp2
        go_roundg ((lo + hi) / 2 - lo)
        case measure => omega
        case rel =>
          refine ⟨lo, (lo + hi) / 2, rfl, by rw [show ((lo : Int) + (hi : Int)) / 2 = (((lo + hi) / 2 : Nat) : Int) by omega], by omega, by omega, Nat.le_refl _, rfl, Lib.hid ⟨HI.out.1, fun k hk hkn => ?_⟩⟩
          intro hc
          refine HX2.out ?_
          rcases Nat.lt_or_ge ((lo + hi) / 2) k with h | h
          · have := HS.out _ _ h hkn
            rw [HY.out] at this
            exact ltB_trans this hc
          · obtain rfl : k = (lo + hi) / 2 := by omega
            rw [HY.out] at hc
            exact hc
    · obtain rfl : hi = lo := by omega
      have HE := Lib.hid (inS_at HS.out HI.out.1 HI.out.2)
      by_cases hn : hi < m
      · obtain ⟨ad, y, rfl, HX, cm⟩ := rdS_at HR.out (k := hi) hn
        have HY := Lib.hid (stAt_of HX.out)
        by_cases hyx : y = t
        · have he : (y.toList == t.toList) = true := by rw [hyx]; simp
          have HYX := Lib.hid hyx
          clear hyx
          go_wp2
          go_ret2
          refine ⟨⟨hi, ?_⟩, rfl⟩
          rw [HE.out, HY.out, decide_eq_true (show hi < st.length ∧ y = t from ⟨by rw [HL.out]; exact hn, HYX.out⟩)]
          rfl
        · have he : (y.toList == t.toList) = false := by
            rw [Bool.eq_false_iff]
            intro h
            refine hyx ?_
            have h2 : y.toList = t.toList := by simpa using h
            rw [Lib.toList_data, Lib.toList_data] at h2
            cases y; cases t
            congr 1
            exact Array.toList_inj.1 h2
          have HYX := Lib.hid hyx
          clear hyx
          go_wp2_with (first
            | (go_at_call 134; refine (slNaN_any _ _).mono ?_; rintro e w' ⟨rfl, rfl⟩)
            | fail)
          go_ret2
          refine ⟨⟨hi, ?_⟩, rfl⟩
          rw [HE.out, HY.out, decide_eq_false (show ¬ (hi < st.length ∧ y = t) from fun h => HYX.out h.2)]
          rfl
      · go_wp2
        go_ret2
        refine ⟨⟨hi, ?_⟩, rfl⟩
        rw [HE.out, decide_eq_false (show ¬ (hi < st.length ∧ _) from fun h => hn (by have := h.1; have := HL.out; omega))]
        rfl
set_option maxRecDepth 100000 in
set_option maxHeartbeats 1000000 in
theorem stops_any (A : Option Addr) (n c : Nat) (B : Option Addr) (m d : Nat) (cf : Cf) (t : ByteArray) (w : World) (hr : Rd encS w B m cf.st) (hm : m ≤ 1000000) (hs : ∀ j i, i < j → j < cf.st.length → ltB (stAt cf.st i) (stAt cf.st j)) :
    Calls Tryz.prog 128 #[confV A n c B m d cf.cap, .string t] w fun e w' => e = .returned (.bool (inS cf.st t)) ∧ Below w.heap.size w w' := by
  have hbx := (Below.refl w.heap.size w).alloc (Nat.le_refl _) (.cells #[.slice A n c, .slice B m d, .int .i64 cf.cap] 25)
  have C := Lib.hid (Search_any B m d cf.st t _ (hr.below hbx) hm hs)
  have HB := Lib.hid hbx
  obtain ⟨cp, hcp⟩ : ∃ cp, cp = cf.cap := ⟨_, rfl⟩
  rw [← hcp] at C HB ⊢
  clear hr hs hcp hbx
  go_enter Tryz.func128, Tryz.ntmps128
  go_wp2_with fail
  refine C.out.mono ?_
  rintro e w1 ⟨⟨i, rfl⟩, rfl⟩
  go_wp2
  go_ret
  exact ⟨rfl, HB.out⟩
end Go.Proofs.YtkkeodlnejckjaaGreat
