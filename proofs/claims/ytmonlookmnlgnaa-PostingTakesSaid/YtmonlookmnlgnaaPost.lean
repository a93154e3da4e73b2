/- Postings, as lists; postings in memory. -/
import Derived.Test.YtmonlookmnlgnaaRefVar
import Derived.Test.YtmonlookmnlgnaaOwnK
import Derived.RangeFuncBox
import Derived.RangeFuncNested
namespace Go.Proofs.Ytmonlookmnlgnaa
open Go.RowKit
set_option linter.unusedVariables false
set_option linter.unusedSimpArgs false

/-- A document's number, and the positions in it. -/
abbrev Po := Nat × List Int
abbrev encI : Int → Value := fun x => .int .i64 x
theorem encI_one (x : Int) : (encI x).oneCell' = true := rfl
theorem infoI : (Try.prog.info? 3).map (fun i => (i.zero, i.size, i.bytes)) = some (some (.int .i64 0), 1, 8) := by kernel_rfl
/-- A value that reads as whole numbers. -/
def IS (w : World) (v : Value) (l : List Int) : Prop := ∃ A n c, v = .slice A n c ∧ n ≤ c ∧ c ≤ 9223372036854775807 ∧ Rd encI w A n l
theorem IS.below {w w' : World} {v : Value} {l : List Int} (h : IS w v l) (hb : Below w.heap.size w w') : IS w' v l := by
  obtain ⟨A, n, c, e, h1, h2, h3⟩ := h
  exact ⟨A, n, c, e, h1, h2, h3.below hb⟩
theorem IS.nil (w : World) : IS w (.slice none 0 0) [] := ⟨none, 0, 0, rfl, Nat.le_refl _, by decide, Rd.empty w⟩
theorem rdI_at {w : World} {A : Option Addr} {n : Nat} {l : List Int} (h : Rd encI w A n l) {k : Nat} (hk : k < n) : ∃ (ad : Addr) (x : Int), A = some ad ∧ Hid (∃ hl : k < l.length, l[k] = x) ∧ w.cell? (ad.add k) = some (.int .i64 x) := by
  obtain ⟨ad, e, hc⟩ := h.cell (by omega)
  have hl : k < l.length := by rw [h.len]; exact hk
  exact ⟨ad, l[k], e, Lib.hid ⟨hl, rfl⟩, hc k hl⟩
/-- A posting's value. -/
def PV (w : World) (v : Value) (p : Po) : Prop := ∃ u, v = .agg #[.int .u32 (p.1 : Nat), u] ∧ IS w u p.2 ∧ p.1 < 4294967296
theorem PV.below {w w' : World} {v : Value} {p : Po} (h : PV w v p) (hb : Below w.heap.size w w') : PV w' v p := by
  obtain ⟨u, e, h1, h2⟩ := h
  exact ⟨u, e, h1.below hb, h2⟩

/-- May the positions be? -/
def okAt (l : List Int) (i : Nat) : Prop := 0 ≤ l.getD i 0 ∧ l.getD i 0 ≤ 1048576 ∧ (0 < i → l.getD (i - 1) 0 < l.getD i 0)
def okPos (l : List Int) : Prop := ∀ i, i < l.length → okAt l i
def okP (prev : Nat) (p : Po) : Prop := prev < p.1 ∧ p.1 ≤ 2147483647 ∧ 1 ≤ p.2.length ∧ p.2.length ≤ 2000 ∧ okPos p.2
noncomputable def chkP (prev : Nat) (p : Po) : Int := open Classical in if okP prev p then 0 else 150
theorem chkP_yes {prev : Nat} {p : Po} (h : okP prev p) : chkP prev p = 0 := if_pos h
theorem chkP_no {prev : Nat} {p : Po} (h : ¬ okP prev p) : chkP prev p = 150 := if_neg h
theorem posAt {l : List Int} {k : Nat} {x : Int} (h : ∃ hl : k < l.length, l[k] = x) : l.getD k 0 = x := by
  obtain ⟨hl, rfl⟩ := h
  rw [List.getD_eq_getElem?_getD, List.getElem?_eq_getElem hl]; rfl
/-- What Check answers. -/
def ChkPE (prev : Nat) (p : Po) (w : World) (e : Ending) (w' : World) : Prop := e = .returned (.int .i64 (chkP prev p)) ∧ Below w.heap.size w w'
theorem chkPE_no {prev : Nat} {p : Po} {w w' : World} (h : ¬ okP prev p) (hb : Below w.heap.size w w') : ChkPE prev p w (.returned (.int .i64 150)) w' := ⟨by rw [chkP_no h], hb⟩
theorem chkPE_yes {prev : Nat} {p : Po} {w w' : World} (h : okP prev p) (hb : Below w.heap.size w w') : ChkPE prev p w (.returned (.int .i64 0)) w' := ⟨by rw [chkP_yes h], hb⟩
theorem no_at {prev : Nat} {p : Po} {k : Nat} (hk : k < p.2.length) (h : ¬ okAt p.2 k) : ¬ okP prev p := fun ho => h (ho.2.2.2.2 k hk)
end Go.Proofs.Ytmonlookmnlgnaa
