/- A posting taken, as lists. Boxes of two cells. -/
import Derived.Test.YtmonlookmnlgnaaPut
namespace Go.Proofs.Ytmonlookmnlgnaa
open Go.RowKit
set_option linter.unusedVariables false
set_option linter.unusedSimpArgs false

set_option maxRecDepth 100000 in
theorem RVar_gen {w : World} {g : Nat} {l : List Nat} {e : Int} {lo hi : Nat} (h : Rdr w g l e lo hi) :
    Calls Try.prog 38 #[.pointer (some ⟨g, 0, none⟩)] w fun e' w' => e' = .returned (.int .u32 (if e = 0 then (takeV l).1 else 0 : Nat)) ∧ Rdr w' g (if e = 0 then takeR l else l) (if e = 0 then (takeV l).2 else e) lo hi ∧ w.grownBy w' (some g) := by
  by_cases h0 : e = 0
  · subst h0
    simp only [if_true]
    exact RVar_any h
  · have C0 := Lib.hid (none_any h)
    have HH := Lib.hid h
    rw [decide_eq_true h0] at C0
    simp only [if_neg h0]
    clear h h0
    go_enter Try.func38, Try.ntmps38
    go_wp2
    go_step3
    go_wp2_with fail
    refine C0.out.mono ?_
    rintro e w1 ⟨rfl, rfl⟩
    go_wp2
    (try rw [Exit.noGoto_ret])
    go_ret
    exact ⟨rfl, HH.out, World.grownBy.refl w _⟩
def vrV (l : List Nat) (e : Int) : Nat := if e = 0 then (takeV l).1 else 0
def vrL (l : List Nat) (e : Int) : List Nat := if e = 0 then takeR l else l
def vrE (l : List Nat) (e : Int) : Int := if e = 0 then (takeV l).2 else e
theorem RVar_g2 {w : World} {g : Nat} {l : List Nat} {e : Int} {lo hi : Nat} (h : Rdr w g l e lo hi) :
    Calls Try.prog 38 #[.pointer (some ⟨g, 0, none⟩)] w fun e' w' => e' = .returned (.int .u32 (vrV l e : Nat)) ∧ Rdr w' g (vrL l e) (vrE l e) lo hi ∧ w.grownBy w' (some g) := RVar_gen h

/-- So many positions taken. -/
def takeN : Nat → Nat → List Nat → Option (List Int × List Nat)
  | 0, _, l => some ([], l)
  | n + 1, last, l => if (takeV l).2 ≠ 0 ∨ 1048576 < last + (takeV l).1 then none else (takeN n (last + (takeV l).1) (takeR l)).map fun x => (((last + (takeV l).1 : Nat) : Int) :: x.1, x.2)
noncomputable def finP (prev doc : Nat) (o : Option (List Int × List Nat)) : Option (Po × List Nat) :=
  open Classical in match o with
  | none => none
  | some x => if okP prev (doc, x.1) then some ((doc, x.1), x.2) else none
theorem finP_none (prev doc : Nat) : finP prev doc none = none := rfl
theorem finP_yes {prev doc : Nat} {x : List Int × List Nat} (h : okP prev (doc, x.1)) : finP prev doc (some x) = some ((doc, x.1), x.2) := if_pos h
theorem finP_no {prev doc : Nat} {x : List Int × List Nat} (h : ¬ okP prev (doc, x.1)) : finP prev doc (some x) = none := if_neg h
noncomputable def takeP (l : List Nat) (prev : Nat) : Option (Po × List Nat) :=
  if (takeV l).2 ≠ 0 ∨ (takeV (takeR l)).2 ≠ 0 ∨ 2147483647 < prev + (takeV l).1 ∨ 2000 < (takeV (takeR l)).1 then none
  else finP prev (prev + (takeV l).1) (takeN (takeV (takeR l)).1 0 (takeR (takeR l)))
noncomputable def tkR (b : List Nat) (at_ : Int) (prev : Nat) : Po × Int × Int :=
  if at_ < 0 ∨ (b.length : Int) < at_ then ((0, []), 0, 1) else match takeP (b.drop at_.toNat) prev with
    | none => ((0, []), 0, 150)
    | some x => (x.1, (b.length : Int) - (x.2.length : Nat), 0)
theorem tvF_lt : ∀ (l : List Nat) (i v : Nat), Byt l → i ≤ 4 → v < 128 ^ i → (tvF l i v).1 < 4294967296
  | [], i, v, hb, hi, hv => by simp [tvF]
  | c :: r, i, v, hb, hi, hv => by
    have hc := hb c (by simp)
    unfold tvF
    by_cases h1 : (i = 4 ∧ 15 < c) ∨ (0 < i ∧ c = 0)
    · rw [if_pos h1]; decide
    · rw [if_neg h1]
      by_cases h2 : c < 128
      · rw [if_pos h2]
        rcases (show i < 4 ∨ i = 4 by omega) with h | h
        · exact (shl_lt v c i h hv h2).2
        · subst h
          simp only
          omega
      · rw [if_neg h2]
        have h4 : i < 4 := by omega
        exact tvF_lt r (i + 1) _ (fun x hx => hb x (by simp [hx])) (by omega) (shl_lt v (c % 128) i h4 hv (by omega)).1
theorem takeV_lt {l : List Nat} (hb : Byt l) : (takeV l).1 < 4294967296 := tvF_lt l 0 0 hb (by decide) (by decide)
theorem takeR_byt {l : List Nat} (hb : Byt l) : Byt (takeR l) := by
  unfold takeR
  split
  · exact hb.drop _
  · exact hb
theorem vrL_byt {l : List Nat} {e : Int} (hb : Byt l) : Byt (vrL l e) := by
  unfold vrL
  split
  · exact takeR_byt hb
  · exact hb
/-- What is left is of it. -/
theorem takeR_len (l : List Nat) : (takeR l).length ≤ l.length := by
  unfold takeR
  split
  · simp
  · exact Nat.le_refl _
theorem takeN_step {n last : Nat} {l : List Nat} (h1 : (takeV l).2 = 0) (h2 : last + (takeV l).1 ≤ 1048576) :
    takeN (n + 1) last l = (takeN n (last + (takeV l).1) (takeR l)).map fun x => (((last + (takeV l).1 : Nat) : Int) :: x.1, x.2) := by
  rw [takeN, if_neg (by rintro (h | h); exact h h1; omega)]
theorem takeN_no {n last : Nat} {l : List Nat} (h : (takeV l).2 ≠ 0 ∨ 1048576 < last + (takeV l).1) : takeN (n + 1) last l = none := by rw [takeN, if_pos h]
theorem takeN_len : ∀ (n last : Nat) (l : List Nat) (x : List Int × List Nat), takeN n last l = some x → x.1.length = n
  | 0, last, l, x, h => by simp [takeN] at h; subst h; rfl
  | n + 1, last, l, x, h => by
    unfold takeN at h
    split at h
    · cases h
    · obtain ⟨y, hy, rfl⟩ := Option.map_eq_some_iff.1 h
      simp [takeN_len n _ _ y hy]

/-- A block of two cells. -/
def Box2 (w : World) (g : Nat) (t : TypeId) (x y : Value) : Prop := w.heap[g]? = some (.cells #[x, y] t (0, 0))
theorem Box2.new (w : World) (t : TypeId) (x y : Value) : Box2 (w.alloc (.cells #[x, y] t)) w.heap.size t x y := World.alloc_heap_new w _
theorem Box2.lt {w : World} {g : Nat} {t : TypeId} {x y : Value} (h : Box2 w g t x y) : g < w.heap.size := (Array.getElem?_eq_some_iff.1 h).1
theorem Box2.kept {w w' : World} {g : Nat} {t : TypeId} {x y : Value} {row : Option Nat} (h : Box2 w g t x y) (hg : w.grownBy w' row) (hne : some g ≠ row) : Box2 w' g t x y := (hg.block g h.lt hne).trans h
theorem Box2.below {w w' : World} {g : Nat} {t : TypeId} {x y : Value} (h : Box2 w g t x y) (hb : Below w.heap.size w w') : Box2 w' g t x y := (hb.block g h.lt).trans h
theorem Box2.facts {w : World} {g : Nat} {t : TypeId} {x y : Value} (h : Box2 w g t x y) : w.cell? ⟨g, 0, none⟩ = some x ∧ w.cell? ⟨g, 1, none⟩ = some y ∧ w.frozen? ⟨g, 0, none⟩ = false ∧ w.frozen? ⟨g, 1, none⟩ = false := by
  have h' : w.heap[g]? = _ := h
  refine ⟨?_, ?_, ?_, ?_⟩ <;> simp [World.cell?, World.frozen?, h']
theorem Box2.set1 {w : World} {g : Nat} {t : TypeId} {x y : Value} (z : Value) (h : Box2 w g t x y) : Box2 (w.setCell ⟨g, 1, none⟩ z) g t x z := by
  obtain ⟨hlt, hk⟩ := Array.getElem?_eq_some_iff.1 h
  show (w.heap.modify g _)[g]? = _
  rw [Array.getElem?_eq_getElem (by rw [Array.size_modify]; exact hlt), Array.getElem_modify_self, hk]
  rfl
theorem Box2.set0 {w : World} {g : Nat} {t : TypeId} {x y : Value} (z : Value) (h : Box2 w g t x y) : Box2 (w.setCell ⟨g, 0, none⟩ z) g t z y := by
  obtain ⟨hlt, hk⟩ := Array.getElem?_eq_some_iff.1 h
  show (w.heap.modify g _)[g]? = _
  rw [Array.getElem?_eq_getElem (by rw [Array.size_modify]; exact hlt), Array.getElem_modify_self, hk]
  rfl
/-- What Take answers. -/
def TakeE (b : List Nat) (at_ : Int) (prev : Nat) (w : World) (e : Ending) (w' : World) : Prop :=
  ∃ u, e = .returned (.tuple #[.agg #[.int .u32 ((tkR b at_ prev).1.1 : Nat), u], .int .i64 (tkR b at_ prev).2.1, .int .i64 (tkR b at_ prev).2.2]) ∧ OwnL encI 3 w' w.heap.size u (tkR b at_ prev).1.2 ∧ Below w.heap.size w w'
end Go.Proofs.Ytmonlookmnlgnaa
