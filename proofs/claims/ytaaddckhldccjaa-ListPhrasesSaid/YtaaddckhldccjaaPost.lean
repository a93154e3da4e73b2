/- Postings, as lists; postings in memory. -/
import Derived.Test.YtaaddckhldccjaaBytes
import Derived.Test.YtaaddckhldccjaaOwnK
import Derived.Test.YtaaddckhldccjaaReg
import Derived.WalkSmall
import Derived.WalkSpells
import Derived.BigQuiet
import Derived.Lib.SmallJoins
import Derived.RangeFuncBox
import Derived.RangeFuncNested
namespace Go.Proofs.Ytaaddckhldccjaa
open Go.RowKit
set_option linter.unusedVariables false
set_option linter.unusedSimpArgs false

/-- A document's number, and the positions in it. -/
abbrev Po := Nat × List Int
abbrev encI : Int → Value := fun x => .int .i64 x
theorem encI_one (x : Int) : (encI x).oneCell' = true := rfl
theorem infoI : (Try.prog.info? 3).map (fun i => (i.zero, i.size, i.bytes)) = some (some (.int .i64 0), 1, 8) := by kernel_rfl
/-- A value that reads as whole numbers. -/
def IS (w : World) (v : Value) (l : List Int) : Prop := ∃ A n c, v = .slice A n c ∧ n ≤ c ∧ c ≤ 9223372036854775807 ∧ Rd encI w A n l
theorem IS.below {w w' : World} {v : Value} {l : List Int} (h : IS w v l) (hb : Below w.heap.size w w') : IS w' v l := by
  obtain ⟨A, n, c, e, h1, h2, h3⟩ := h
  exact ⟨A, n, c, e, h1, h2, h3.below hb⟩
theorem IS.nil (w : World) : IS w (.slice none 0 0) [] := ⟨none, 0, 0, rfl, Nat.le_refl _, by decide, Rd.empty w⟩
theorem rdI_at {w : World} {A : Option Addr} {n : Nat} {l : List Int} (h : Rd encI w A n l) {k : Nat} (hk : k < n) : ∃ (ad : Addr) (x : Int), A = some ad ∧ Hid (∃ hl : k < l.length, l[k] = x) ∧ w.cell? (ad.add k) = some (.int .i64 x) := by
  obtain ⟨ad, e, hc⟩ := h.cell (by omega)
  have hl : k < l.length := by rw [h.len]; exact hk
  exact ⟨ad, l[k], e, Lib.hid ⟨hl, rfl⟩, hc k hl⟩
/-- A posting's value. -/
def PV (w : World) (v : Value) (p : Po) : Prop := ∃ u, v = .agg #[.int .u32 (p.1 : Nat), u] ∧ IS w u p.2 ∧ p.1 < 4294967296
theorem PV.below {w w' : World} {v : Value} {p : Po} (h : PV w v p) (hb : Below w.heap.size w w') : PV w' v p := by
  obtain ⟨u, e, h1, h2⟩ := h
  exact ⟨u, e, h1.below hb, h2⟩

/-- May the positions be? -/
def okAt (l : List Int) (i : Nat) : Prop := 0 ≤ l.getD i 0 ∧ l.getD i 0 ≤ 1048576 ∧ (0 < i → l.getD (i - 1) 0 < l.getD i 0)
def okPos (l : List Int) : Prop := ∀ i, i < l.length → okAt l i
def okP (prev : Nat) (p : Po) : Prop := prev < p.1 ∧ p.1 ≤ 2147483647 ∧ 1 ≤ p.2.length ∧ p.2.length ≤ 2000 ∧ okPos p.2
noncomputable def chkP (prev : Nat) (p : Po) : Int := open Classical in if okP prev p then 0 else 150
theorem chkP_yes {prev : Nat} {p : Po} (h : okP prev p) : chkP prev p = 0 := if_pos h
theorem chkP_no {prev : Nat} {p : Po} (h : ¬ okP prev p) : chkP prev p = 150 := if_neg h
theorem posAt {l : List Int} {k : Nat} {x : Int} (h : ∃ hl : k < l.length, l[k] = x) : l.getD k 0 = x := by
  obtain ⟨hl, rfl⟩ := h
  rw [List.getD_eq_getElem?_getD, List.getElem?_eq_getElem hl]; rfl
/-- What Check answers. -/
def ChkPE (prev : Nat) (p : Po) (w : World) (e : Ending) (w' : World) : Prop := e = .returned (.int .i64 (chkP prev p)) ∧ Below w.heap.size w w'
theorem chkPE_no {prev : Nat} {p : Po} {w w' : World} (h : ¬ okP prev p) (hb : Below w.heap.size w w') : ChkPE prev p w (.returned (.int .i64 150)) w' := ⟨by rw [chkP_no h], hb⟩
theorem chkPE_yes {prev : Nat} {p : Po} {w w' : World} (h : okP prev p) (hb : Below w.heap.size w w') : ChkPE prev p w (.returned (.int .i64 0)) w' := ⟨by rw [chkP_yes h], hb⟩
theorem no_at {prev : Nat} {p : Po} {k : Nat} (hk : k < p.2.length) (h : ¬ okAt p.2 k) : ¬ okP prev p := fun ho => h (ho.2.2.2.2 k hk)
/-- A box of two cells. -/
theorem box2 (w : World) (t : TypeId) (x y : Value) : (w.alloc (.cells #[x, y] t)).cell? ⟨w.heap.size, 0, none⟩ = some x ∧ (w.alloc (.cells #[x, y] t)).cell? ⟨w.heap.size, 1, none⟩ = some y :=
  ⟨World.cell?_alloc_mark w _ t (0, 0) 0, World.cell?_alloc_mark w _ t (0, 0) 1⟩
structure RdPo (w : World) (A : Option Addr) (n : Nat) (ls : List Po) : Prop where
  len : ls.length = n
  max : n ≤ 9223372036854775807
  cell : 0 < n → ∃ ad, A = some ad ∧ ∀ j (h : j < ls.length), ∃ B m c, w.cell? (ad.add (j * 2)) = some (.int .u32 (ls[j].1 : Nat)) ∧ w.cell? ⟨(ad.add (j * 2)).block, (ad.add (j * 2)).off + 1, none⟩ = some (.slice B m c) ∧
    m ≤ c ∧ c ≤ 9223372036854775807 ∧ Rd encI w B m ls[j].2 ∧ ls[j].1 < 4294967296
theorem RdPo.below {w w' : World} {A : Option Addr} {n : Nat} {ls : List Po} (h : RdPo w A n ls) (hb : Below w.heap.size w w') : RdPo w' A n ls :=
  ⟨h.len, h.max, fun h0 => by
    obtain ⟨ad, e, hc⟩ := h.cell h0
    refine ⟨ad, e, fun j hj => ?_⟩
    obtain ⟨B, m, c, h1, h2, h3, h4, h5, h6⟩ := hc j hj
    exact ⟨B, m, c, cell_keep hb h1, cell_keep hb h2, h3, h4, h5.below hb, h6⟩⟩
theorem RdPo.at {w : World} {A : Option Addr} {n : Nat} {ls : List Po} (h : RdPo w A n ls) {k : Nat} (hk : k < n) : ∃ (ad : Addr) (B : Option Addr) (m c : Nat) (d : Nat) (l : List Int), A = some ad ∧ Hid (∃ hl : k < ls.length, ls[k] = (d, l)) ∧
    w.cell? (ad.add (k * 2)) = some (.int .u32 (d : Nat)) ∧ w.cell? ⟨(ad.add (k * 2)).block, (ad.add (k * 2)).off + 1, none⟩ = some (.slice B m c) ∧ m ≤ c ∧ c ≤ 9223372036854775807 ∧ Hid (Rd encI w B m l) ∧ d ≤ 4294967295 := by
  obtain ⟨ad, e, hc⟩ := h.cell (by omega)
  have hl : k < ls.length := by rw [h.len]; exact hk
  obtain ⟨B, m, c, h1, h2, h3, h4, h5, h6⟩ := hc k hl
  exact ⟨ad, B, m, c, ls[k].1, ls[k].2, e, Lib.hid ⟨hl, rfl⟩, h1, h2, h3, h4, Lib.hid h5, by omega⟩
theorem RdPo.empty (w : World) : RdPo w Option.none 0 [] := ⟨rfl, by decide, fun h => by omega⟩
theorem RdPo.take {w : World} {A : Option Addr} {n : Nat} {l : List Po} (h : RdPo w A n l) (r : Nat) (hr : r ≤ n) : RdPo w A r (l.take r) :=
  ⟨by rw [List.length_take, h.len]; omega, by have := h.max; omega, fun h0 => by
    obtain ⟨ad, e, hcl⟩ := h.cell (by omega)
    exact ⟨ad, e, fun j hj => by rw [List.getElem_take]; exact hcl j (by simp at hj; omega)⟩⟩
theorem RdPo.drop {w : World} {A : Option Addr} {n : Nat} {l : List Po} (h : RdPo w A n l) (c r : Nat) (hr : r ≤ n) (hc : n ≤ c) : RdPo w (if c = r then A else A.map (·.add (r * 2))) (n - r) (l.drop r) :=
  ⟨by rw [List.length_drop, h.len], by have := h.max; omega, fun h0 => by
    obtain ⟨ad, rfl, hcl⟩ := h.cell (by omega)
    rw [if_neg (by omega)]
    refine ⟨ad.add (r * 2), rfl, fun j hj => ?_⟩
    have e : (ad.add (r * 2)).add (j * 2) = ad.add ((r + j) * 2) := by rw [add_add', Nat.add_mul]
    rw [List.getElem_drop, e]
    exact hcl (r + j) (by simp at hj; omega)⟩
/-- A value that reads as postings. -/
def LS (w : World) (v : Value) (ls : List Po) : Prop := ∃ A n c, v = .slice A n c ∧ n ≤ c ∧ c ≤ 9223372036854775807 ∧ RdPo w A n ls
theorem LS.below {w w' : World} {v : Value} {ls : List Po} (h : LS w v ls) (hb : Below w.heap.size w w') : LS w' v ls := by
  obtain ⟨A, n, c, e, h1, h2, h3⟩ := h
  exact ⟨A, n, c, e, h1, h2, h3.below hb⟩
theorem RdPo.pv {w : World} {B : Option Addr} {m c d : Nat} {l : List Int} (h : Rd encI w B m l) (h1 : m ≤ c) (h2 : c ≤ 9223372036854775807) (hd : d ≤ 4294967295) : PV w (.agg #[.int .u32 (d : Nat), .slice B m c]) (d, l) :=
  ⟨_, rfl, ⟨B, m, c, rfl, h1, h2, h⟩, by show d < _; omega⟩

/-- A block of two cells. -/
def Box2 (w : World) (g : Nat) (t : TypeId) (x y : Value) : Prop := w.heap[g]? = some (.cells #[x, y] t (0, 0))
theorem Box2.new (w : World) (t : TypeId) (x y : Value) : Box2 (w.alloc (.cells #[x, y] t)) w.heap.size t x y := World.alloc_heap_new w _
theorem Box2.lt {w : World} {g : Nat} {t : TypeId} {x y : Value} (h : Box2 w g t x y) : g < w.heap.size := (Array.getElem?_eq_some_iff.1 h).1
theorem Box2.kept {w w' : World} {g : Nat} {t : TypeId} {x y : Value} {row : Option Nat} (h : Box2 w g t x y) (hg : w.grownBy w' row) (hne : some g ≠ row) : Box2 w' g t x y := (hg.block g h.lt hne).trans h
theorem Box2.below {w w' : World} {g : Nat} {t : TypeId} {x y : Value} (h : Box2 w g t x y) (hb : Below w.heap.size w w') : Box2 w' g t x y := (hb.block g h.lt).trans h
theorem Box2.facts {w : World} {g : Nat} {t : TypeId} {x y : Value} (h : Box2 w g t x y) : w.cell? ⟨g, 0, none⟩ = some x ∧ w.cell? ⟨g, 1, none⟩ = some y ∧ w.frozen? ⟨g, 0, none⟩ = false ∧ w.frozen? ⟨g, 1, none⟩ = false := by
  have h' : w.heap[g]? = _ := h
  refine ⟨?_, ?_, ?_, ?_⟩ <;> simp [World.cell?, World.frozen?, h']
theorem Box2.set1 {w : World} {g : Nat} {t : TypeId} {x y : Value} (z : Value) (h : Box2 w g t x y) : Box2 (w.setCell ⟨g, 1, none⟩ z) g t x z := by
  obtain ⟨hlt, hk⟩ := Array.getElem?_eq_some_iff.1 h
  show (w.heap.modify g _)[g]? = _
  rw [Array.getElem?_eq_getElem (by rw [Array.size_modify]; exact hlt), Array.getElem_modify_self, hk]
  rfl
theorem Box2.set0 {w : World} {g : Nat} {t : TypeId} {x y : Value} (z : Value) (h : Box2 w g t x y) : Box2 (w.setCell ⟨g, 0, none⟩ z) g t z y := by
  obtain ⟨hlt, hk⟩ := Array.getElem?_eq_some_iff.1 h
  show (w.heap.modify g _)[g]? = _
  rw [Array.getElem?_eq_getElem (by rw [Array.size_modify]; exact hlt), Array.getElem_modify_self, hk]
  rfl
end Go.Proofs.Ytaaddckhldccjaa
