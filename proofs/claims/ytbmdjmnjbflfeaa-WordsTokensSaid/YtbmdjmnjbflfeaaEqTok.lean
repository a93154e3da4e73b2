/- Tokens compared. -/
import Derived.Test.YtbmdjmnjbflfeaaTold
import Derived.Test.YtbmdjmnjbflfeaaRunes
import Derived.WalkSpells
import Derived.BigQuiet
namespace Go.Proofs.Ytbmdjmnjbflfeaa
open Go.RowKit Go.Shelf
set_option linter.unusedVariables false
set_option linter.unusedSimpArgs false

theorem str_eq {a b : ByteArray} : (a.toList == b.toList) = decide (a = b) := by
  by_cases h : a = b
  · subst h; simp
  · have : ¬ a.toList = b.toList := fun e => h (by
      rw [Lib.toList_data, Lib.toList_data] at e
      cases a; cases b
      congr 1
      exact Array.toList_inj.1 e)
    simp [h, this]
theorem run_neqTk (p q : ByteArray) (r s : Int) (W : World) : (binOp .neq 33 (.agg #[.string p, .int .i64 r]) (.agg #[.string q, .int .i64 s])).run Try.prog W = .ok (.bool (!(decide (p = q) && r == s))) W := by
  simp only [binOp]
  simp [Op.equal, Op.maxDepth, run_equalIn_struct (P := Try.prog) W 9999 33 _ _ (by kernel_rfl) (by kernel_rfl), Program.fieldsOf, Try.underlying33, Op.eqFields, go_sem]
  rw [← str_eq]
  by_cases h1 : p.toList = q.toList <;> by_cases h2 : r = s <;> simp [h1, h2]
theorem run_neqTk_yes (x y : Tok) (h : x = y) (W : World) : (binOp .neq 33 (.agg #[.string x.1, .int .i64 x.2]) (.agg #[.string y.1, .int .i64 y.2])).run Try.prog W = .ok (.bool false) W := by
  subst h; rw [run_neqTk]; simp
theorem run_neqTk_no (x y : Tok) (h : x ≠ y) (W : World) : (binOp .neq 33 (.agg #[.string x.1, .int .i64 x.2]) (.agg #[.string y.1, .int .i64 y.2])).run Try.prog W = .ok (.bool true) W := by
  rw [run_neqTk]
  have : ¬ (x.1 = y.1 ∧ x.2 = y.2) := fun e => h (Prod.ext e.1 e.2)
  have h2 : (decide (x.1 = y.1) && (x.2 : Int) == (y.2 : Int)) = false := by
    rw [Bool.eq_false_iff]
    intro h3
    simp at h3
    exact this ⟨h3.1, by have := h3.2; omega⟩
  rw [h2]
  rfl
set_option maxRecDepth 100000 in
set_option maxHeartbeats 2000000 in
theorem equalTk_any (A B : Option Addr) (n m c d : Nat) (a b : List Tok) (w : World) (ha : RdK encTk 2 w A n a) (hb : RdK encTk 2 w B m b) :
    Calls Try.prog 13 #[.slice A n c, .slice B m d] w fun e w' => e = .returned (.bool (decide (a = b))) ∧ Below w.heap.size w w' := by
  obtain ⟨R, hR⟩ : ∃ R, R = decide (a = b) := ⟨_, rfl⟩
  rw [← hR]
  have HR := Lib.hid hR
  have HA := Lib.hid ha
  have HB := Lib.hid hb
  have hn := ha.max
  have hm := hb.max
  clear ha hb hR
  by_cases hnm : n = m
  · subst hnm
    go_enter Try.func13, Try.ntmps13
    go_wp2_with fail
    go_loopw [13] (fun x wr => ∃ k : Nat, k ≤ n ∧ x = .int .i64 k ∧ Hid (a.take k = b.take k ∧ Below w.heap.size w wr)) (fun x _ => n - (intOf x).toNat)
    case atStart => exact ⟨0, by omega, rfl, Lib.hid ⟨by simp, Below.refl _ _⟩⟩
    case round =>
      obtain ⟨k, hk, rfl, HI⟩ := hrel
      by_cases hlt : (k : Int) < (n : Int)
      · obtain ⟨ad, x, rfl, HX, x0, x1⟩ := (HA.out.below HI.out.2).at2 (k := k) (by omega)
        obtain ⟨ae, y, rfl, HY, y0, y1⟩ := (HB.out.below HI.out.2).at2 (k := k) (by omega)
        by_cases hxy : x = y
        · have hq := run_neqTk_yes x y hxy
          have HXY := Lib.hid hxy
          clear hxy
          go_upto_region 6 with fail
          go_quiet (fail)
          clear hq x0 x1 y0 y1
          go_wp2
          refine ⟨⟨k + 1, by omega, by go_num, Lib.hid ⟨?_, below_drewN HI.out.2 nq⟩⟩, by simp [intOf]; omega⟩
          obtain ⟨_, e1⟩ := HX.out
          obtain ⟨_, e2⟩ := HY.out
          exact (take_stepG _ _).2 ⟨HI.out.1, by rw [e1, e2, HXY.out]⟩
        · have hq := run_neqTk_no x y hxy
          have HF : Hid (R = false) := Lib.hid (by rw [HR.out]; exact decide_eq_false (ne_of_at HX.out HY.out hxy))
          clear hxy
          go_upto_region 6 with fail
          go_quiet (fail)
          clear hq x0 x1 y0 y1
          go_wp2
          go_ret
          exact ⟨by rw [HF.out]; rfl, below_drewN HI.out.2 nq⟩
      · have HT : Hid (R = true) := Lib.hid (by
          rw [HR.out]
          have h := HI.out.1
          have h1 := HA.out.len
          have h2 := HB.out.len
          rw [List.take_of_length_le (by omega), List.take_of_length_le (by omega)] at h
          exact decide_eq_true h)
        go_wp2
        go_ret
        exact ⟨by rw [HT.out]; rfl, HI.out.2⟩
  · have g0 : ((n : Int) == (m : Int)) = false := by simp; omega
    have g1 : ((n : Int) != (m : Int)) = true := by simp; omega
    have HF : Hid (R = false) := Lib.hid (by
      rw [HR.out]
      refine decide_eq_false fun e => hnm ?_
      rw [← HA.out.len, ← HB.out.len, e])
    clear hnm
    go_enter Try.func13, Try.ntmps13
    go_wp2
    go_ret
    exact ⟨by rw [HF.out]; rfl, Below.refl _ _⟩
/-- Two values that read as tokens. -/
theorem equalTk_ts {w : World} {u v : Value} {a b : List Tok} (ha : TS w u a) (hb : TS w v b) :
    Calls Try.prog 13 #[u, v] w fun e w' => e = .returned (.bool (decide (a = b))) ∧ Below w.heap.size w w' := by
  obtain ⟨A, n, c, rfl, h1, h2, h3⟩ := ha
  obtain ⟨B, m, d, rfl, h4, h5, h6⟩ := hb
  exact equalTk_any A B n m c d a b w h3 h6
end Go.Proofs.Ytbmdjmnjbflfeaa
