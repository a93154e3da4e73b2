/- copy of bytes that are read into a slice of one's own. -/
import Derived.Test.YtmonlookmnlgnaaBytes
import Derived.Laws.IdiomCopy
namespace Go.Proofs.Ytmonlookmnlgnaa
open Go.RowKit
set_option linter.unusedVariables false
set_option linter.unusedSimpArgs false

/-- Elements laid over others from a place on. -/
def setR {α : Type} : List α → Nat → List α → List α
  | xs, _, [] => xs
  | xs, o, y :: r => setR (xs.set o y) (o + 1) r
theorem setR_length {α : Type} : ∀ (ys xs : List α) (o : Nat), (setR xs o ys).length = xs.length
  | [], _, _ => rfl
  | y :: r, xs, o => by rw [setR, setR_length r]; simp
theorem setR_eq {α : Type} : ∀ (ys xs : List α) (o : Nat), o + ys.length ≤ xs.length → setR xs o ys = xs.take o ++ ys ++ xs.drop (o + ys.length)
  | [], xs, o, _ => by simp [setR]
  | y :: r, xs, o, h => by
    have h' : o + 1 + r.length ≤ xs.length := by simp at h; omega
    rw [setR, setR_eq r _ (o + 1) (by simpa using h')]
    have e1 : (xs.set o y).take (o + 1) = xs.take o ++ [y] := by
      rw [List.take_add_one, List.take_set, List.set_eq_of_length_le (by rw [List.length_take]; exact Nat.min_le_left _ _)]
      simp [show o < xs.length by omega]
    have e2 : (xs.set o y).drop (o + 1 + r.length) = xs.drop (o + (y :: r).length) := by
      rw [List.drop_set_of_lt (by omega)]
      congr 1
      simp; omega
    rw [e1, e2]
    simp
theorem setR_all {α : Type} (xs ys : List α) (h : ys.length = xs.length) : setR xs 0 ys = ys := by
  rw [setR_eq ys xs 0 (by omega)]
  simp [← h]
section
variable {α : Type} {enc : α → Value}
theorem OwnL.setCells {e : TypeId} {base g c : Nat} : ∀ (ys : List α) (o : Nat) {w : World} {l : List α}, OwnL enc e w base (.slice (some ⟨g, 0, none⟩) l.length c) l →
    OwnL enc e (w.setCells g o (ys.map enc)) base (.slice (some ⟨g, 0, none⟩) l.length c) (setR l o ys) ∧ w.grownBy (w.setCells g o (ys.map enc)) (some g)
  | [], o, w, l, h => ⟨h, World.grownBy.refl w _⟩
  | y :: r, o, w, l, h => by
    obtain ⟨h1, h2⟩ := h.set o y
    have h1' : OwnL enc e (w.setCell ⟨g, o, none⟩ (enc y)) base (.slice (some ⟨g, 0, none⟩) (l.set o y).length c) (l.set o y) := by rw [List.length_set]; exact h1
    obtain ⟨k1, k2⟩ := OwnL.setCells r (o + 1) h1'
    rw [List.length_set] at k1
    exact ⟨k1, h2.trans k2⟩
end
/-- The copy. -/
theorem run_copy_own (w : World) (base ty : Nat) (g o N C dl dc : Nat) (xs ys : List Nat) (A : Option Addr) (m c : Nat) (ho : OwnB w base (.slice (some ⟨g, 0, none⟩) N C) xs) (hx : xs.length = N) (hr : RdB w A m ys) (hm : m ≤ dl) (hd : o + dl ≤ N) :
    ∃ w1, (Builtin.copy_ #[23, 23] ty #[.slice (some ⟨g, o, none⟩) dl dc, .slice A m c]).run Try.prog w = .ok (.int .i64 (m : Int)) w1 ∧ OwnB w1 base (.slice (some ⟨g, 0, none⟩) N C) (setR xs o ys) ∧ w.grownBy w1 (some g) := by
  subst hx
  have hlen := hr.len
  have hsz : (Try.prog.info? 5).map (·.size) = some 1 := by
    obtain ⟨i, hi, hz⟩ := Option.map_eq_some_iff.1 infoB
    rw [hi]
    simp only [Prod.mk.injEq] at hz
    simp [hz.2.1]
  have hbyt : Byt (setR xs o ys) := by
    rw [setR_eq ys xs o (by omega)]
    exact ((ho.2.take o).append hr.byt).append (ho.2.drop _)
  rcases Nat.eq_zero_or_pos m with h0 | h0
  · subst h0
    obtain rfl : ys = [] := List.eq_nil_of_length_eq_zero hlen
    refine ⟨w, ?_, ho, World.grownBy.refl w _⟩
    exact run_copy_none w 23 23 ty 5 _ A dl dc 0 c Try.underlying23 hsz (by simp)
  · obtain ⟨ad, rfl, hc⟩ := hr.rd.cell h0
    obtain ⟨h1, h2⟩ := OwnL.setCells ys o ho.1
    refine ⟨_, ?_, ⟨h1, hbyt⟩, h2⟩
    have hcell : ∀ j, j < ys.length → ∃ u, w.cell? ⟨g, o + j, none⟩ = some u ∧ w.frozen? ⟨g, o + j, none⟩ = false := fun j hj => by
      obtain ⟨k1, k2⟩ := ho.1.cellAt (o + j) (by omega)
      exact ⟨_, k1, k2⟩
    have := run_copy_cells (P := Try.prog) w 23 23 ty 5 g o dl dc ad m c (ys.map encB) Try.underlying23 hsz (by rw [List.length_map, hlen]; exact (Nat.min_eq_left hm).symm)
      (fun j v hv => by
        have hj : j < ys.length := by
          rcases Nat.lt_or_ge j ys.length with h | h
          · exact h
          · simp [List.getElem?_eq_none h] at hv
        rw [hc j hj]
        simpa [List.getElem?_eq_getElem hj] using hv)
      (fun j hj => by
        obtain ⟨u, k1, _⟩ := hcell j (by simpa using hj)
        rw [k1]; rfl)
      (fun j hj => by
        obtain ⟨u, _, k2⟩ := hcell j (by simpa using hj)
        exact k2)
      (fun v hv => by obtain ⟨q, _, rfl⟩ := List.mem_map.1 hv; rfl)
    rw [this]
    simp [goInt, hlen]
/-- Where a slice of one's own lies. -/
theorem OwnB.op {w : World} {base n : Nat} {v : Value} {l : List Nat} (h : OwnB w base v l) (hn : l.length = n) (h0 : 0 < n) : ∃ g C, v = .slice (some ⟨g, 0, none⟩) n C ∧ base ≤ g ∧ g < w.heap.size ∧ n ≤ C ∧ C ≤ 9223372036854775807 := by
  subst hn
  exact h.1.place h0
/-- A store of a byte. -/
theorem OwnB.put {w : World} {base g N C : Nat} {l : List Nat} (h : OwnB w base (.slice (some ⟨g, 0, none⟩) N C) l) (hl : l.length = N) {i x : Nat} (hi : i < N) (hx : x < 256) :
    (∃ cv, w.cell? ⟨g, i, none⟩ = some cv ∧ w.frozen? ⟨g, i, none⟩ = false) ∧ OwnB (w.setCell ⟨g, i, none⟩ (.int .u8 (x : Int))) base (.slice (some ⟨g, 0, none⟩) N C) (l.set i x) ∧ w.grownBy (w.setCell ⟨g, i, none⟩ (.int .u8 (x : Int))) (some g) := by
  subst hl
  obtain ⟨h1, h2⟩ := h.1.cellAt i hi
  obtain ⟨k1, k2⟩ := h.1.set i x
  exact ⟨⟨_, h1, h2⟩, ⟨k1, h.2.set i x hx⟩, k2⟩
theorem OwnB.get {w : World} {base g N C : Nat} {l : List Nat} (h : OwnB w base (.slice (some ⟨g, 0, none⟩) N C) l) (hl : l.length = N) {i : Nat} (hi : i < N) :
    w.cell? ⟨g, i, none⟩ = some (.int .u8 (l.getD i 0 : Nat)) ∧ l.getD i 0 < 256 := by
  subst hl
  obtain ⟨h1, h2⟩ := h.1.cellAt i hi
  refine ⟨?_, h.2.getD i⟩
  rw [h1, List.getD_eq_getElem?_getD, List.getElem?_eq_getElem hi]
  rfl
/-- A growth of a block of one's own, from a world ahead. -/
theorem below_grown {w0 w w1 : World} {g : Nat} (hb : Below w0.heap.size w0 w) (h : w.grownBy w1 (some g)) (hg : w0.heap.size ≤ g) : Below w0.heap.size w0 w1 := hb.grown h (by have := hb.size; exact this) (fun k hk => by injection hk with hk; omega)
end Go.Proofs.Ytmonlookmnlgnaa
