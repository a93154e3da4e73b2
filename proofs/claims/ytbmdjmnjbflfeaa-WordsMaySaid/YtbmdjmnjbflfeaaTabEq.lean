/- Tables copied and compared; rows of runes compared. -/
import Derived.Test.YtbmdjmnjbflfeaaRefText
import Derived.WalkSpells
namespace Go.Proofs.Ytbmdjmnjbflfeaa
open Go.RowKit Go.Shelf
set_option linter.unusedVariables false
set_option linter.unusedSimpArgs false

abbrev encF : Fo → List Value := fun x => [.int .i32 x.1, .int .i32 x.2.1, .int .i64 x.2.2]
theorem encF_len (x : Fo) : (encF x).length = 3 := rfl
theorem encF_one (x : Fo) (u : Value) (h : u ∈ encF x) : u.oneCell' = true := by
  simp at h
  rcases h with rfl | rfl | rfl <;> rfl
theorem infoF : (Try.prog.info? 84).map (fun i => (i.zero, i.size, i.bytes)) = some (some (.agg #[.int .i32 0, .int .i32 0, .int .i64 0]), 3, 16) := by kernel_rfl
abbrev RdF := RdK encF 3
theorem RdT.k {w : World} {A : Option Addr} {n : Nat} {l : List Fo} (h : RdT w A n l) : RdF w A n l :=
  ⟨h.len, h.max, fun h0 => by
    obtain ⟨ad, e, hc⟩ := h.cell h0
    refine ⟨ad, e, fun j hj i v hv => ?_⟩
    obtain ⟨h1, h2, h3⟩ := hc j hj
    match i with
    | 0 => cases hv; exact h1
    | 1 => cases hv; rw [add_at _ _ _ (by decide)]; exact h2
    | 2 => cases hv; rw [add_at _ _ _ (by decide)]; exact h3
    | i + 3 => simp at hv⟩
theorem RdK.t {w : World} {A : Option Addr} {n : Nat} {l : List Fo} (h : RdF w A n l) : RdT w A n l :=
  ⟨h.len, h.max, fun h0 => by
    obtain ⟨ad, e, hc⟩ := h.cell h0
    refine ⟨ad, e, fun j hj => ⟨hc j hj 0 _ rfl, ?_, ?_⟩⟩
    · rw [← add_at _ _ _ (by decide)]; exact hc j hj 1 _ rfl
    · rw [← add_at _ _ _ (by decide)]; exact hc j hj 2 _ rfl⟩
/-- A value that reads as a table. -/
def FS (w : World) (v : Value) (l : List Fo) : Prop := ∃ A n c, v = .slice A n c ∧ n ≤ c ∧ c ≤ 9223372036854775807 ∧ RdT w A n l
theorem FS.below {w w' : World} {v : Value} {L : List Fo} (h : FS w v L) (hb : Below w.heap.size w w') : FS w' v L := by
  obtain ⟨A, n, c, e, h1, h2, h3⟩ := h
  exact ⟨A, n, c, e, h1, h2, h3.below hb⟩
theorem run_neqFo (p q m r s k : Int) (W : World) : (binOp .neq 84 (.agg #[.int .i32 p, .int .i32 q, .int .i64 m]) (.agg #[.int .i32 r, .int .i32 s, .int .i64 k])).run Try.prog W = .ok (.bool (!(p == r && q == s && m == k))) W := by
  simp only [binOp]
  simp [Op.equal, Op.maxDepth, run_equalIn_struct (P := Try.prog) W 9999 84 _ _ (by kernel_rfl) (by kernel_rfl), Program.fieldsOf, Try.underlying84, Op.eqFields, go_sem]
  by_cases h1 : p = r <;> by_cases h2 : q = s <;> by_cases h3 : m = k <;> simp [h1, h2, h3]
theorem run_neqFo_yes (x y : Fo) (h : x = y) (W : World) : (binOp .neq 84 (.agg #[.int .i32 x.1, .int .i32 x.2.1, .int .i64 x.2.2]) (.agg #[.int .i32 y.1, .int .i32 y.2.1, .int .i64 y.2.2])).run Try.prog W = .ok (.bool false) W := by
  subst h; rw [run_neqFo]; simp
theorem run_neqFo_no (x y : Fo) (h : x ≠ y) (W : World) : (binOp .neq 84 (.agg #[.int .i32 x.1, .int .i32 x.2.1, .int .i64 x.2.2]) (.agg #[.int .i32 y.1, .int .i32 y.2.1, .int .i64 y.2.2])).run Try.prog W = .ok (.bool true) W := by
  rw [run_neqFo]
  have : ¬ (x.1 = y.1 ∧ x.2.1 = y.2.1 ∧ x.2.2 = y.2.2) := fun e => h (Prod.ext e.1 (Prod.ext e.2.1 e.2.2))
  have h2 : (x.1 == y.1 && x.2.1 == y.2.1 && x.2.2 == y.2.2) = false := by
    rw [Bool.eq_false_iff]
    intro h3
    simp at h3
    exact this ⟨h3.1.1, h3.1.2, h3.2⟩
  rw [h2]
  rfl
set_option maxRecDepth 100000 in
set_option maxHeartbeats 2000000 in
theorem equalF_any (A B : Option Addr) (n m c d : Nat) (a b : List Fo) (w : World) (ha : RdF w A n a) (hb : RdF w B m b) :
    Calls Try.prog 58 #[.slice A n c, .slice B m d] w fun e w' => e = .returned (.bool (decide (a = b))) ∧ Below w.heap.size w w' := by
  obtain ⟨R, hR⟩ : ∃ R, R = decide (a = b) := ⟨_, rfl⟩
  rw [← hR]
  have HR := Lib.hid hR
  have HA := Lib.hid ha
  have HB := Lib.hid hb
  have hn := ha.max
  have hm := hb.max
  clear ha hb hR
  by_cases hnm : n = m
  · subst hnm
    go_enter Try.func58, Try.ntmps58
    go_wp2_with fail
    go_loopw [13] (fun x wr => ∃ k : Nat, k ≤ n ∧ x = .int .i64 k ∧ Hid (a.take k = b.take k ∧ Below w.heap.size w wr)) (fun x _ => n - (intOf x).toNat)
    case atStart => exact ⟨0, by omega, rfl, Lib.hid ⟨by simp, Below.refl _ _⟩⟩
    case round =>
      obtain ⟨k, hk, rfl, HI⟩ := hrel
      by_cases hlt : (k : Int) < (n : Int)
      · obtain ⟨ad, x, rfl, HX, x0, x1, x2⟩ := (HA.out.below HI.out.2).at3 (k := k) (by omega)
        obtain ⟨ae, y, rfl, HY, y0, y1, y2⟩ := (HB.out.below HI.out.2).at3 (k := k) (by omega)
        by_cases hxy : x = y
        · have hq := run_neqFo_yes x y hxy
          have HXY := Lib.hid hxy
          clear hxy
          go_upto_region 6 with fail
          go_quiet (fail)
          clear hq x0 x1 x2 y0 y1 y2
          go_wp2
          refine ⟨⟨k + 1, by omega, by go_num, Lib.hid ⟨?_, below_drewN HI.out.2 nq⟩⟩, by simp [intOf]; omega⟩
          obtain ⟨_, e1⟩ := HX.out
          obtain ⟨_, e2⟩ := HY.out
          exact (take_stepG _ _).2 ⟨HI.out.1, by rw [e1, e2, HXY.out]⟩
        · have hq := run_neqFo_no x y hxy
          have HF : Hid (R = false) := Lib.hid (by rw [HR.out]; exact decide_eq_false (ne_of_at HX.out HY.out hxy))
          clear hxy
          go_upto_region 6 with fail
          go_quiet (fail)
          clear hq x0 x1 x2 y0 y1 y2
          go_wp2
          go_ret
          exact ⟨by rw [HF.out]; rfl, below_drewN HI.out.2 nq⟩
      · have HT : Hid (R = true) := Lib.hid (by
          rw [HR.out]
          have h := HI.out.1
          have h1 := HA.out.len
          have h2 := HB.out.len
          rw [List.take_of_length_le (by omega), List.take_of_length_le (by omega)] at h
          exact decide_eq_true h)
        go_wp2
        go_ret
        exact ⟨by rw [HT.out]; rfl, HI.out.2⟩
  · have g0 : ((n : Int) == (m : Int)) = false := by simp; omega
    have g1 : ((n : Int) != (m : Int)) = true := by simp; omega
    have HF : Hid (R = false) := Lib.hid (by
      rw [HR.out]
      refine decide_eq_false fun e => hnm ?_
      rw [← HA.out.len, ← HB.out.len, e])
    clear hnm
    go_enter Try.func58, Try.ntmps58
    go_wp2
    go_ret
    exact ⟨by rw [HF.out]; rfl, Below.refl _ _⟩

theorem rd32_at {w : World} {A : Option Addr} {n : Nat} {l : List Int} (h : Rd enc32 w A n l) {k : Nat} (hk : k < n) : ∃ (ad : Addr) (x : Int), A = some ad ∧ Hid (∃ hl : k < l.length, l[k] = x) ∧ w.cell? (ad.add k) = some (.int .i32 x) := by
  obtain ⟨ad, e, hc⟩ := h.cell (by omega)
  have hl : k < l.length := by rw [h.len]; exact hk
  exact ⟨ad, l[k], e, Lib.hid ⟨hl, rfl⟩, hc k hl⟩
end Go.Proofs.Ytbmdjmnjbflfeaa
