import Derived.Test.YtkkeodlnejckjaaGreatOwnK
import Derived.Test.YtkkeodlnejckjaaGreatReg
import Derived.RangeFuncBox

/- append of one element of several cells. -/
namespace Go.Proofs.YtkkeodlnejckjaaGreat
open Go.RowKit
set_option linter.unusedVariables false
set_option linter.unusedSimpArgs false

section
variable {α : Type} {enc : α → List Value} {sz : Nat}
theorem push_K {P : Program} {w1 : World} (base : Nat) (t e : TypeId) (z : Value) (by_ : Nat) (ht : P.underlying t = some (.slice e)) (hinfo : (P.info? e).map (fun i => (i.zero, i.size, i.bytes)) = some (some z, sz, by_))
    (hz : z.cells.size = sz) (hs0 : 0 < sz) (hb0 : 0 < by_) (hb9 : by_ ≤ 1000) (hsz : ∀ x, (enc x).length = sz) (h1 : ∀ x, ∀ u ∈ enc x, u.oneCell' = true) {v : Value} {L : List α} (x : α) (C : Array Value) (hC : C = (enc x).toArray)
    (h : OwnK enc sz e w1 base v L) (hbase : base ≤ w1.heap.size) (hl : L.length ≤ 1000000) :
    ∃ A' c' w', (Builtin.append_ #[t, t] t #[v, .slice (some ⟨w1.heap.size, 0, none⟩) 1 1]).run P (w1.alloc (.cells C e)) = .ok (.slice A' (L.length + 1) c') w' ∧
      OwnK enc sz e w' base (.slice A' (L.length + 1) c') (L ++ [x]) ∧ L.length + 1 ≤ c' ∧ c' ≤ 9223372036854775807 ∧ w1.grownBy w' v.ownBlock := by
  have hbT : Below w1.heap.size w1 (w1.alloc (.cells C e)) := (Below.refl _ _).alloc (Nat.le_refl _) _
  have hA := h.below hbT
  have hrd := RdK.one w1 e x C (0, 0) (enc := enc) (sz := sz) hC (hsz x)
  obtain ⟨v1, w', r, o, g, _⟩ := run_append_rdK (P := P) (c := 1) base t t e z by_ ht hinfo hz hs0 hb0 hsz h1 hA hrd (by
    have : (L.length + 1) * by_ ≤ 1000001 * 1000 := Nat.mul_le_mul (by omega) hb9
    omega) (by simp; omega)
  obtain ⟨A', c', e', h2, h3, _⟩ := OwnK.rd hsz o
  have hlen : (L ++ [x]).length = L.length + 1 := by simp
  rw [hlen] at e' h2
  subst e'
  exact ⟨A', c', w', r, o, h2, h3, (grown_below hbT _).trans g⟩
end
/-- What keeps all old blocks but an own row's keeps the old ones. -/
theorem Below.row {w w1 w' : World} {base : Nat} {v : Value} (hb : Below base w w1) (hg : w1.grownBy w' v.ownBlock) (hs : base ≤ w1.heap.size) (h : ∀ k, v.ownBlock = some k → base ≤ k) : Below base w w' := hb.grown hg hs h
end Go.Proofs.YtkkeodlnejckjaaGreat

/- A block of so many cells; a store into it. -/
namespace Go.Proofs.YtkkeodlnejckjaaGreat
open Go.RowKit
set_option linter.unusedVariables false
set_option linter.unusedSimpArgs false

def BoxA (w : World) (g : Nat) (t : TypeId) (C : List Value) : Prop := w.heap[g]? = some (.cells C.toArray t (0, 0))
theorem BoxA.new (w : World) (t : TypeId) (C : List Value) : BoxA (w.alloc (.cells C.toArray t)) w.heap.size t C := World.alloc_heap_new w _
theorem BoxA.lt {w : World} {g : Nat} {t : TypeId} {C : List Value} (h : BoxA w g t C) : g < w.heap.size := (Array.getElem?_eq_some_iff.1 h).1
theorem BoxA.kept {w w' : World} {g : Nat} {t : TypeId} {C : List Value} {row : Option Nat} (h : BoxA w g t C) (hg : w.grownBy w' row) (hne : some g ≠ row) : BoxA w' g t C := (hg.block g h.lt hne).trans h
theorem BoxA.below {w w' : World} {g : Nat} {t : TypeId} {C : List Value} (h : BoxA w g t C) (hb : Below w.heap.size w w') : BoxA w' g t C := (hb.block g h.lt).trans h
theorem BoxA.cell {w : World} {g : Nat} {t : TypeId} {C : List Value} (h : BoxA w g t C) (i : Nat) (v : Value) (hv : C[i]? = some v) : w.cell? ⟨g, i, none⟩ = some v := by
  have h' : w.heap[g]? = _ := h
  simp [World.cell?, h', hv]
theorem BoxA.frozen {w : World} {g : Nat} {t : TypeId} {C : List Value} (h : BoxA w g t C) (i : Nat) : w.frozen? ⟨g, i, none⟩ = false := by
  have h' : w.heap[g]? = _ := h
  simp [World.frozen?, h']
theorem BoxA.set {w : World} {g : Nat} {t : TypeId} {C : List Value} (h : BoxA w g t C) (i : Nat) (z : Value) : BoxA (w.setCell ⟨g, i, none⟩ z) g t (C.set i z) := by
  obtain ⟨hlt, hk⟩ := Array.getElem?_eq_some_iff.1 h
  show (w.heap.modify g _)[g]? = _
  rw [Array.getElem?_eq_getElem (by rw [Array.size_modify]; exact hlt), Array.getElem_modify_self, hk]
  simp
theorem BoxA.set_grown (w : World) (g i : Nat) (z : Value) : w.grownBy (w.setCell ⟨g, i, none⟩ z) (some g) :=
  ⟨rfl, rfl, rfl, (KeepsWalks.setCell w _ z).size, fun k _ hk => Below.heap_setCell _ _ _ k (fun e => hk (by rw [e]))⟩
/-- Three cells. -/
theorem BoxA.three {w : World} {g : Nat} {t : TypeId} {a b c : Value} (h : BoxA w g t [a, b, c]) : w.cell? ⟨g, 0, none⟩ = some a ∧ w.cell? ⟨g, 1, none⟩ = some b ∧ w.cell? ⟨g, 2, none⟩ = some c ∧ w.frozen? ⟨g, 0, none⟩ = false ∧ w.frozen? ⟨g, 1, none⟩ = false ∧ w.frozen? ⟨g, 2, none⟩ = false :=
  ⟨h.cell 0 _ rfl, h.cell 1 _ rfl, h.cell 2 _ rfl, h.frozen 0, h.frozen 1, h.frozen 2⟩
theorem BoxA.set3 {w : World} {g : Nat} {t : TypeId} {a b c : Value} (h : BoxA w g t [a, b, c]) (x y z : Value) :
    BoxA (((w.setCell ⟨g, 0, none⟩ x).setCell ⟨g, 1, none⟩ y).setCell ⟨g, 2, none⟩ z) g t [x, y, z] ∧ w.grownBy (((w.setCell ⟨g, 0, none⟩ x).setCell ⟨g, 1, none⟩ y).setCell ⟨g, 2, none⟩ z) (some g) :=
  ⟨((h.set 0 x).set 1 y).set 2 z, ((BoxA.set_grown w g 0 x).trans (BoxA.set_grown _ g 1 y)).trans (BoxA.set_grown _ g 2 z)⟩
end Go.Proofs.YtkkeodlnejckjaaGreat
