/- What Check and Idf tell: the program's and the reference's. -/
import Derived.Test.YthliplkkenolgaaRefLog
import Derived.Below
import Derived.Laws.IdiomStrings
namespace Go.Proofs.Ythliplkkenolgaa
open Go.RowKit
set_option linter.unusedVariables false
set_option linter.unusedSimpArgs false

def okS (D W : Int) : Prop := 1 ≤ D ∧ D ≤ 400 ∧ 1 ≤ W ∧ W ≤ 1048576
instance (D W : Int) : Decidable (okS D W) := by unfold okS; exact inferInstance
def chk (D W : Int) : Int := if okS D W then 0 else 220
theorem chk_no {D W : Int} (h : ¬ okS D W) : chk D W = 220 := if_neg h
theorem chk_yes {D W : Int} (h : okS D W) : chk D W = 0 := if_pos h
noncomputable def idfX (D W d : Int) : Int := if okS D W ∧ 1 ≤ d ∧ d ≤ D then (logN (2 * D + 2).toNat (2 * d + 1).toNat : Nat) else 0
def idfE (D W d : Int) : Int := if okS D W ∧ 1 ≤ d ∧ d ≤ D then 0 else 220
theorem idf_no {D W d : Int} (h : ¬ (okS D W ∧ 1 ≤ d ∧ d ≤ D)) : idfX D W d = 0 ∧ idfE D W d = 220 := ⟨if_neg h, if_neg h⟩
theorem idf_yes {D W d : Int} (h : okS D W ∧ 1 ≤ d ∧ d ≤ D) : idfX D W d = logX (2 * D + 2) (2 * d + 1) ∧ idfE D W d = logE (2 * D + 2) (2 * d + 1) ∧ idfE D W d = 0 := by
  have hs := h.1
  unfold okS at hs
  have h' : 1 ≤ 2 * d + 1 ∧ 2 * d + 1 ≤ 2 * D + 2 ∧ 2 * D + 2 ≤ 2147483647 := by omega
  unfold idfX idfE logX logE
  rw [if_pos h, if_pos h, if_pos h', if_pos h']
  exact ⟨rfl, rfl, rfl⟩
abbrev i64 (n : Int) : Prop := -9223372036854775808 ≤ n ∧ n ≤ 9223372036854775807

theorem Below.thn' {w a b : World} (h : Below w.heap.size w a) (k : Below a.heap.size a b) : Below w.heap.size w b := h.trans (k.mono h.size)
theorem box_keep {w w' : World} {D W : Value} {t : TypeId} (hb : Below (w.alloc (.cells #[D, W] t)).heap.size (w.alloc (.cells #[D, W] t)) w') : w'.cell? ⟨w.heap.size, 0, none⟩ = some D := by
  rw [hb.cell (by simp), World.cell?_alloc_mark]
  rfl
theorem box_keep1 {w w' : World} {D W : Value} {t : TypeId} (hb : Below (w.alloc (.cells #[D, W] t)).heap.size (w.alloc (.cells #[D, W] t)) w') : w'.cell? ⟨w.heap.size, 1, none⟩ = some W := by
  rw [hb.cell (by simp), World.cell?_alloc_mark]
  rfl

set_option maxRecDepth 100000 in
set_option maxHeartbeats 1000000 in
theorem Check_any (D W : Int) (w : World) (hD : i64 D) (hW : i64 W) :
    Calls Try.prog 13 #[.agg #[.int .i64 D, .int .i64 W]] w fun e w' => e = .returned (.int .i64 (chk D W)) ∧ Below w.heap.size w w' := by
  have HB := Lib.hid ((Below.refl w.heap.size w).alloc (Nat.le_refl _) (.cells #[.int .i64 D, .int .i64 W] 23))
  clear hD hW
  by_cases h : okS D W
  · have HV := Lib.hid (chk_yes h)
    obtain ⟨h1, h2, h3, h4⟩ := h
    go_enter Try.func13, Try.ntmps13
    go_wp2
    go_ret
    exact ⟨by rw [HV.out]; rfl, HB.out⟩
  · have HV := Lib.hid (chk_no h)
    have HN : Hid (¬ okS D W) := h
    clear h
    by_cases h1 : D < 1
    · go_enter Try.func13, Try.ntmps13
      go_wp2
      go_ret
      exact ⟨by rw [HV.out]; rfl, HB.out⟩
    by_cases h2 : 400 < D
    · go_enter Try.func13, Try.ntmps13
      go_wp2
      go_ret
      exact ⟨by rw [HV.out]; rfl, HB.out⟩
    by_cases h3 : W < 1
    · go_enter Try.func13, Try.ntmps13
      go_wp2
      go_ret
      exact ⟨by rw [HV.out]; rfl, HB.out⟩
    have h4 : 1048576 < W := by
      have := HN.out
      unfold okS at this
      omega
    go_enter Try.func13, Try.ntmps13
    go_wp2
    go_ret
    exact ⟨by rw [HV.out]; rfl, HB.out⟩

set_option maxRecDepth 100000 in
set_option maxHeartbeats 1000000 in
theorem refCheck_any (D W : Int) (w : World) (hD : i64 D) (hW : i64 W) :
    Calls Try.prog 14 #[.agg #[.int .i64 D, .int .i64 W]] w fun e w' => e = .returned (.int .i64 (chk D W)) ∧ Below w.heap.size w w' := by
  have HB := Lib.hid ((Below.refl w.heap.size w).alloc (Nat.le_refl _) (.cells #[.int .i64 D, .int .i64 W] 23))
  clear hD hW
  by_cases h : okS D W
  · have HV := Lib.hid (chk_yes h)
    obtain ⟨h1, h2, h3, h4⟩ := h
    go_enter Try.func14, Try.ntmps14
    go_wp2
    go_ret
    exact ⟨by rw [HV.out]; rfl, HB.out⟩
  · have HV := Lib.hid (chk_no h)
    have HN : Hid (¬ okS D W) := h
    clear h
    by_cases h1 : D < 1
    · go_enter Try.func14, Try.ntmps14
      go_wp2
      go_ret
      exact ⟨by rw [HV.out]; rfl, HB.out⟩
    by_cases h2 : 400 < D
    · go_enter Try.func14, Try.ntmps14
      go_wp2
      go_ret
      exact ⟨by rw [HV.out]; rfl, HB.out⟩
    by_cases h3 : W < 1
    · go_enter Try.func14, Try.ntmps14
      go_wp2
      go_ret
      exact ⟨by rw [HV.out]; rfl, HB.out⟩
    have h4 : 1048576 < W := by
      have := HN.out
      unfold okS at this
      omega
    go_enter Try.func14, Try.ntmps14
    go_wp2
    go_ret
    exact ⟨by rw [HV.out]; rfl, HB.out⟩

set_option maxRecDepth 100000 in
set_option maxHeartbeats 1000000 in
theorem Idf_any (D W d : Int) (w : World) (hD : i64 D) (hW : i64 W) (hd : i64 d) :
    Calls Try.prog 10 #[.agg #[.int .i64 D, .int .i64 W], .int .i64 d] w fun e w' => e = .returned (.tuple #[.int .i64 (idfX D W d), .int .i64 (idfE D W d)]) ∧ Below w.heap.size w w' := by
  have HB := Lib.hid ((Below.refl w.heap.size w).alloc (Nat.le_refl _) (.cells #[.int .i64 D, .int .i64 W] 23))
  have HC : Hid (∀ w : World, Calls Try.prog 13 #[.agg #[.int .i64 D, .int .i64 W]] w fun e w' => e = .returned (.int .i64 (chk D W)) ∧ Below w.heap.size w w') := fun w => Check_any D W w hD hW
  have HK : Hid (∀ w', Below (w.alloc (.cells #[.int .i64 D, .int .i64 W] 23)).heap.size (w.alloc (.cells #[.int .i64 D, .int .i64 W] 23)) w' → w'.cell? ⟨w.heap.size, 0, none⟩ = some (.int .i64 D)) := fun w' hb => box_keep hb
  have HK2 : Hid (∀ w', Below (w.alloc (.cells #[.int .i64 D, .int .i64 W] 23)).heap.size (w.alloc (.cells #[.int .i64 D, .int .i64 W] 23)) w' → w'.cell? ⟨w.heap.size, 1, none⟩ = some (.int .i64 W)) := fun w' hb => box_keep1 hb
  clear hD hW hd
  by_cases h : okS D W
  · have HE := Lib.hid (chk_yes h)
    by_cases h1 : d < 1
    · have HV := Lib.hid (idf_no (D := D) (W := W) (d := d) (by omega))
      go_enter Try.func10, Try.ntmps10
      go_wp2_with fail
      refine (HC.out _).mono ?_
      rintro e w' ⟨rfl, hb⟩
      rw [HE.out]
      have HB2 := Lib.hid (Below.thn' HB.out hb)
      have hk := HK.out _ hb
      have hk2 := HK2.out _ hb
      clear hb
      go_wp2
      go_ret2
      exact ⟨by rw [HV.out.1, HV.out.2]; rfl, HB2.out⟩
    by_cases h2 : D < d
    · have HV := Lib.hid (idf_no (D := D) (W := W) (d := d) (by omega))
      go_enter Try.func10, Try.ntmps10
      go_wp2_with fail
      refine (HC.out _).mono ?_
      rintro e w' ⟨rfl, hb⟩
      rw [HE.out]
      have HB2 := Lib.hid (Below.thn' HB.out hb)
      have hk := HK.out _ hb
      have hk2 := HK2.out _ hb
      clear hb
      go_wp2
      go_ret2
      exact ⟨by rw [HV.out.1, HV.out.2]; rfl, HB2.out⟩
    have HV := Lib.hid (idf_yes (D := D) (W := W) (d := d) ⟨h, by omega, by omega⟩)
    obtain ⟨g1, g2, g3, g4⟩ := h
    go_enter Try.func10, Try.ntmps10
    go_wp2_with fail
    refine (HC.out _).mono ?_
    rintro e w' ⟨rfl, hb⟩
    rw [HE.out]
    have HB2 := Lib.hid (Below.thn' HB.out hb)
    have hk := HK.out _ hb
    have hk2 := HK2.out _ hb
    clear hb
    go_wp2_with fail
    refine (Log_any _ _ _ (by omega) (by omega)).mono ?_
    rintro e w3 ⟨rfl, rfl⟩
    rw [← HV.out.1, ← HV.out.2.1]
    go_wp2
    go_ret2
    exact ⟨rfl, HB2.out⟩
  · have HE := Lib.hid (chk_no h)
    have HV := Lib.hid (idf_no (D := D) (W := W) (d := d) (fun h2 => h h2.1))
    go_enter Try.func10, Try.ntmps10
    go_wp2_with fail
    refine (HC.out _).mono ?_
    rintro e w' ⟨rfl, hb⟩
    rw [HE.out]
    have HB2 := Lib.hid (Below.thn' HB.out hb)
    have hk := HK.out _ hb
    have hk2 := HK2.out _ hb
    clear hb h
    go_wp2
    go_ret2
    exact ⟨by rw [HV.out.1, HV.out.2]; rfl, HB2.out⟩

set_option maxRecDepth 100000 in
set_option maxHeartbeats 1000000 in
theorem refIdf_any (D W d : Int) (w : World) (hD : i64 D) (hW : i64 W) (hd : i64 d) :
    Calls Try.prog 11 #[.agg #[.int .i64 D, .int .i64 W], .int .i64 d] w fun e w' => e = .returned (.tuple #[.int .i64 (idfX D W d), .int .i64 (idfE D W d)]) ∧ Below w.heap.size w w' := by
  have HB := Lib.hid ((Below.refl w.heap.size w).alloc (Nat.le_refl _) (.cells #[.int .i64 D, .int .i64 W] 23))
  have HC : Hid (∀ w : World, Calls Try.prog 14 #[.agg #[.int .i64 D, .int .i64 W]] w fun e w' => e = .returned (.int .i64 (chk D W)) ∧ Below w.heap.size w w') := fun w => refCheck_any D W w hD hW
  have HK : Hid (∀ w', Below (w.alloc (.cells #[.int .i64 D, .int .i64 W] 23)).heap.size (w.alloc (.cells #[.int .i64 D, .int .i64 W] 23)) w' → w'.cell? ⟨w.heap.size, 0, none⟩ = some (.int .i64 D)) := fun w' hb => box_keep hb
  have HK2 : Hid (∀ w', Below (w.alloc (.cells #[.int .i64 D, .int .i64 W] 23)).heap.size (w.alloc (.cells #[.int .i64 D, .int .i64 W] 23)) w' → w'.cell? ⟨w.heap.size, 1, none⟩ = some (.int .i64 W)) := fun w' hb => box_keep1 hb
  clear hD hW hd
  by_cases h : okS D W
  · have HE := Lib.hid (chk_yes h)
    by_cases h1 : d < 1
    · have HV := Lib.hid (idf_no (D := D) (W := W) (d := d) (by omega))
      go_enter Try.func11, Try.ntmps11
      go_wp2_with fail
      refine (HC.out _).mono ?_
      rintro e w' ⟨rfl, hb⟩
      rw [HE.out]
      have HB2 := Lib.hid (Below.thn' HB.out hb)
      have hk := HK.out _ hb
      have hk2 := HK2.out _ hb
      clear hb
      go_wp2
      go_ret2
      exact ⟨by rw [HV.out.1, HV.out.2]; rfl, HB2.out⟩
    by_cases h2 : D < d
    · have HV := Lib.hid (idf_no (D := D) (W := W) (d := d) (by omega))
      go_enter Try.func11, Try.ntmps11
      go_wp2_with fail
      refine (HC.out _).mono ?_
      rintro e w' ⟨rfl, hb⟩
      rw [HE.out]
      have HB2 := Lib.hid (Below.thn' HB.out hb)
      have hk := HK.out _ hb
      have hk2 := HK2.out _ hb
      clear hb
      go_wp2
      go_ret2
      exact ⟨by rw [HV.out.1, HV.out.2]; rfl, HB2.out⟩
    have HV := Lib.hid (idf_yes (D := D) (W := W) (d := d) ⟨h, by omega, by omega⟩)
    obtain ⟨g1, g2, g3, g4⟩ := h
    go_enter Try.func11, Try.ntmps11
    go_wp2_with fail
    refine (HC.out _).mono ?_
    rintro e w' ⟨rfl, hb⟩
    rw [HE.out]
    have HB2 := Lib.hid (Below.thn' HB.out hb)
    have hk := HK.out _ hb
    have hk2 := HK2.out _ hb
    clear hb
    go_wp2_with fail
    refine (refLog_any _ _ _ (by omega) (by omega)).mono ?_
    rintro e w3 ⟨rfl, rfl⟩
    rw [← HV.out.1, ← HV.out.2.1]
    go_wp2
    go_ret2
    exact ⟨rfl, HB2.out⟩
  · have HE := Lib.hid (chk_no h)
    have HV := Lib.hid (idf_no (D := D) (W := W) (d := d) (fun h2 => h h2.1))
    go_enter Try.func11, Try.ntmps11
    go_wp2_with fail
    refine (HC.out _).mono ?_
    rintro e w' ⟨rfl, hb⟩
    rw [HE.out]
    have HB2 := Lib.hid (Below.thn' HB.out hb)
    have hk := HK.out _ hb
    have hk2 := HK2.out _ hb
    clear hb h
    go_wp2
    go_ret2
    exact ⟨by rw [HV.out.1, HV.out.2]; rfl, HB2.out⟩

end Go.Proofs.Ythliplkkenolgaa
