/- Tables copied and compared; rows of runes compared. -/
import Derived.Test.YtkkeodlnejckjaaGreatRefText
import Derived.WalkSpells
namespace Go.Proofs.YtkkeodlnejckjaaGreat
open Go.RowKit Go.Shelf
set_option linter.unusedVariables false
set_option linter.unusedSimpArgs false

abbrev encF : Fo → List Value := fun x => [.int .i32 x.1, .int .i32 x.2.1, .int .i64 x.2.2]
theorem encF_len (x : Fo) : (encF x).length = 3 := rfl
theorem encF_one (x : Fo) (u : Value) (h : u ∈ encF x) : u.oneCell' = true := by
  simp at h
  rcases h with rfl | rfl | rfl <;> rfl
theorem infoF : (Tryz.prog.info? 96).map (fun i => (i.zero, i.size, i.bytes)) = some (some (.agg #[.int .i32 0, .int .i32 0, .int .i64 0]), 3, 16) := by kernel_rfl
abbrev RdF := RdK encF 3
theorem RdT.k {w : World} {A : Option Addr} {n : Nat} {l : List Fo} (h : RdT w A n l) : RdF w A n l :=
  ⟨h.len, h.max, fun h0 => by
    obtain ⟨ad, e, hc⟩ := h.cell h0
    refine ⟨ad, e, fun j hj i v hv => ?_⟩
    obtain ⟨h1, h2, h3⟩ := hc j hj
    match i with
    | 0 => cases hv; exact h1
    | 1 => cases hv; rw [add_at _ _ _ (by decide)]; exact h2
    | 2 => cases hv; rw [add_at _ _ _ (by decide)]; exact h3
    | i + 3 => simp at hv⟩
theorem RdK.t {w : World} {A : Option Addr} {n : Nat} {l : List Fo} (h : RdF w A n l) : RdT w A n l :=
  ⟨h.len, h.max, fun h0 => by
    obtain ⟨ad, e, hc⟩ := h.cell h0
    refine ⟨ad, e, fun j hj => ⟨hc j hj 0 _ rfl, ?_, ?_⟩⟩
    · rw [← add_at _ _ _ (by decide)]; exact hc j hj 1 _ rfl
    · rw [← add_at _ _ _ (by decide)]; exact hc j hj 2 _ rfl⟩
/-- A value that reads as a table. -/
def FS (w : World) (v : Value) (l : List Fo) : Prop := ∃ A n c, v = .slice A n c ∧ n ≤ c ∧ c ≤ 9223372036854775807 ∧ RdT w A n l
theorem FS.below {w w' : World} {v : Value} {L : List Fo} (h : FS w v L) (hb : Below w.heap.size w w') : FS w' v L := by
  obtain ⟨A, n, c, e, h1, h2, h3⟩ := h
  exact ⟨A, n, c, e, h1, h2, h3.below hb⟩
theorem run_neqFo (p q m r s k : Int) (W : World) : (binOp .neq 96 (.agg #[.int .i32 p, .int .i32 q, .int .i64 m]) (.agg #[.int .i32 r, .int .i32 s, .int .i64 k])).run Tryz.prog W = .ok (.bool (!(p == r && q == s && m == k))) W := by
  simp only [binOp]
  simp [Op.equal, Op.maxDepth, run_equalIn_struct (P := Tryz.prog) W 9999 96 _ _ (by kernel_rfl) (by kernel_rfl), Program.fieldsOf, Tryz.underlying96, Op.eqFields, go_sem]
  by_cases h1 : p = r <;> by_cases h2 : q = s <;> by_cases h3 : m = k <;> simp [h1, h2, h3]
theorem run_neqFo_yes (x y : Fo) (h : x = y) (W : World) : (binOp .neq 96 (.agg #[.int .i32 x.1, .int .i32 x.2.1, .int .i64 x.2.2]) (.agg #[.int .i32 y.1, .int .i32 y.2.1, .int .i64 y.2.2])).run Tryz.prog W = .ok (.bool false) W := by
  subst h; rw [run_neqFo]; simp
theorem run_neqFo_no (x y : Fo) (h : x ≠ y) (W : World) : (binOp .neq 96 (.agg #[.int .i32 x.1, .int .i32 x.2.1, .int .i64 x.2.2]) (.agg #[.int .i32 y.1, .int .i32 y.2.1, .int .i64 y.2.2])).run Tryz.prog W = .ok (.bool true) W := by
  rw [run_neqFo]
  have : ¬ (x.1 = y.1 ∧ x.2.1 = y.2.1 ∧ x.2.2 = y.2.2) := fun e => h (Prod.ext e.1 (Prod.ext e.2.1 e.2.2))
  have h2 : (x.1 == y.1 && x.2.1 == y.2.1 && x.2.2 == y.2.2) = false := by
    rw [Bool.eq_false_iff]
    intro h3
    simp at h3
    exact this ⟨h3.1.1, h3.1.2, h3.2⟩
  rw [h2]
  rfl
theorem rd32_at {w : World} {A : Option Addr} {n : Nat} {l : List Int} (h : Rd enc32 w A n l) {k : Nat} (hk : k < n) : ∃ (ad : Addr) (x : Int), A = some ad ∧ Hid (∃ hl : k < l.length, l[k] = x) ∧ w.cell? (ad.add k) = some (.int .i32 x) := by
  obtain ⟨ad, e, hc⟩ := h.cell (by omega)
  have hl : k < l.length := by rw [h.len]; exact hk
  exact ⟨ad, l[k], e, Lib.hid ⟨hl, rfl⟩, hc k hl⟩
end Go.Proofs.YtkkeodlnejckjaaGreat
