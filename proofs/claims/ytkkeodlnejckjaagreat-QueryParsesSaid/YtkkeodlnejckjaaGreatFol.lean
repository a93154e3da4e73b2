/- What a rune is folded to, kept in a map. -/
import Derived.Test.YtkkeodlnejckjaaGreatRefText
import Derived.WalkArith
import Derived.Maps.OwnSet
import Derived.Maps.Views
namespace Go.Proofs.YtkkeodlnejckjaaGreat
open Go.RowKit Go.Shelf Go.Maps
set_option linter.unusedVariables false
set_option linter.unusedSimpArgs false

theorem ite_lit {a b : Int} (h : a = b) : Value.int .i32 a = Value.int .i32 b := by rw [h]
set_option maxHeartbeats 1000000 in
theorem Rune_any (A : Option Addr) (n c : Nat) (l : List Fo) (r : Int) (w : World) (hl : RdT w A n l) :
    Calls Tryz.prog 109 #[.slice A n c, .int .i32 r] w fun e w' => e = .returned (.int .i32 (oneR (eff l) r)) ∧ Below w.heap.size w w' := by
  have HL := Lib.hid hl
  clear hl
  go_enter Tryz.func109, Tryz.ntmps109
  go_wp2_with fail
  refine (Check_any A n c l w HL.out).mono ?_
  rintro e w1 ⟨rfl, hb⟩
  have HB := Lib.hid hb
  clear hb
  by_cases h : okTb l
  · rw [chk_yes h]
    have HE := Lib.hid (eff_yes h)
    clear h
    go_wp2_with fail
    refine (one_any A n c l r w1 (HL.out.below HB.out)).mono ?_
    rintro e w2 ⟨rfl, hb⟩
    have HB2 := Lib.hid hb
    clear hb
    go_wp2
    go_ret
    exact ⟨by rw [HE.out]; rfl, Below.thn HB.out HB2.out⟩
  · rw [chk_no h]
    have HE := Lib.hid (eff_no h)
    clear h
    go_wp2
    go_ret
    exact ⟨by rw [HE.out, oneR_nil]; rfl, HB.out⟩

abbrev DU := DataW Unit
theorem lawR : Keyed Tryz.prog 21 := int_keyed Tryz.underlying21
theorem zeroR (w : World) : (zeroValue 21).run Tryz.prog w = .ok (.int .i32 0) w := by kernel_rfl
abbrev li (x : Int) : DU := .lit (.int .i32 x)
/-- What the map tells is what the table does. -/
def OkD (l : List Fo) (D : DU) : Prop := IsMap D ∧ ∀ r : Int, Maps.has D (.int .i32 r) = true → D.atKey (.int .i32 r) (li 0) = li (oneR (eff l) r)
theorem OkD.empty (l : List Fo) : OkD l (.map []) := ⟨isMap_empty, fun r h => by simp [Maps.has] at h⟩
theorem OkD.put {l : List Fo} {D : DU} (h : OkD l D) (r : Int) : OkD l (D.put (.int .i32 r) (li (oneR (eff l) r))) := by
  refine ⟨h.1.put _ _, fun s hs => ?_⟩
  by_cases e : s = r
  · subst e
    rw [atKey_put_same h.1 (by trivial)]
  · have hne : (Lit.int .i32 s) ≠ .int .i32 r := fun he => e (by injection he)
    rw [atKey_put_other hne]
    rw [has_put_other hne] at hs
    exact h.2 s hs
/-- A table that lies below base. -/
def TabAt (w : World) (base : Nat) (A : Option Addr) (n : Nat) (l : List Fo) : Prop := ∃ w0 : World, RdT w0 A n l ∧ Below w0.heap.size w0 w ∧ w0.heap.size ≤ base
theorem TabAt.rd {w : World} {base : Nat} {A : Option Addr} {n : Nat} {l : List Fo} (h : TabAt w base A n l) : RdT w A n l := by
  obtain ⟨w0, h1, h2, _⟩ := h
  exact h1.below h2
theorem TabAt.low {w w' : World} {base : Nat} {A : Option Addr} {n : Nat} {l : List Fo} (h : TabAt w base A n l) (hb : Below base w w') : TabAt w' base A n l := by
  obtain ⟨w0, h1, h2, h3⟩ := h
  exact ⟨w0, h1, h2.trans (hb.mono h3), h3⟩
theorem TabAt.below {w w' : World} {base : Nat} {A : Option Addr} {n : Nat} {l : List Fo} (h : TabAt w base A n l) (hb : Below w.heap.size w w') : TabAt w' base A n l := by
  obtain ⟨w0, h1, h2, h3⟩ := h
  exact ⟨w0, h1, h2.trans (hb.mono h2.size), h3⟩
/-- A folder at block f, its map at M. -/
structure Fol (w : World) (base f M : Nat) (l : List Fo) (k : Nat) : Prop where
  ex : ∃ A n c D, w.heap[f]? = some (.cells #[.slice A n c, .map (some M)] 139 (0, 0)) ∧ TabAt w base A n l ∧ w.ownsMap Tryz.prog 21 (plainElem Tryz.prog 21) M k D ∧ OkD l D
  small : k ≤ 1000000000
  hf : base ≤ f
  hM : base ≤ M
theorem wf_i32' {r : Int} (h1 : -2147483648 ≤ r) (h2 : r ≤ 2147483647) : (Lit.int .i32 r).wf = true := WalkArith.wf_i32 ⟨h1, h2⟩
theorem cell_0 {w : World} {f : Nat} {x y : Value} {t : TypeId} {fr : Nat × Nat} (h : w.heap[f]? = some (.cells #[x, y] t fr)) : w.cell? ⟨f, 0, none⟩ = some x := by simp [World.cell?, h]
theorem cell_1 {w : World} {f : Nat} {x y : Value} {t : TypeId} {fr : Nat × Nat} (h : w.heap[f]? = some (.cells #[x, y] t fr)) : w.cell? ⟨f, 1, none⟩ = some y := by simp [World.cell?, h]
/-- A table, read, lies in cells: a map that is written leaves it. -/
theorem RdT.kept {w w' : World} {A : Option Addr} {n : Nat} {l : List Fo} (h : RdT w A n l) (hk : ∀ a v, w.cell? a = some v → w'.cell? a = some v) : RdT w' A n l :=
  ⟨h.len, h.max, fun h0 => by
    obtain ⟨ad, e, hc⟩ := h.cell h0
    exact ⟨ad, e, fun j hj => ⟨hk _ _ (hc j hj).1, hk _ _ (hc j hj).2.1, hk _ _ (hc j hj).2.2⟩⟩⟩
theorem mapBlock {w : World} {P : Program} {k : TypeId} {R : Value → Option (DU × List MemPlace)} {b n : Nat} {D : DU} (h : w.ownsMap P k R b n D) : ∃ es c, w.heap[b]? = some (.map es c) := by
  obtain ⟨es, c, hb, _⟩ := h
  exact ⟨es, c, hb⟩
theorem turned_cell {w w' : World} {b : Nat} (h : w.mapTurned w' b) : ∀ a v, w.cell? a = some v → w'.cell? a = some v := by
  obtain ⟨es, c, es', c', hb, rfl⟩ := id h
  intro a v hc
  have hne : a.block ≠ b := fun e => by simp [World.cell?, e, hb] at hc
  rw [World.cell?_of_block (h.grown.block _ (cell_lt' hc) (fun e => hne (by cases e; rfl)))]
  exact hc
theorem Grown.thn {a b c : World} {row : Option Nat} (h : a.grownBy b row) (k : b.grownBy c row) : a.grownBy c row :=
  ⟨k.os.trans h.os, k.tape.trans h.tape, k.output.trans h.output, Nat.le_trans h.size k.size, fun i hi hr => (k.block i (Nat.lt_of_lt_of_le hi h.size) hr).trans (h.block i hi hr)⟩
theorem Grown.below {a b : World} {row : Option Nat} (h : Below a.heap.size a b) : a.grownBy b row := ⟨h.os, h.tape, h.output, h.size, fun i hi _ => h.block i hi⟩
theorem ownsMap_below {w w' : World} {P : Program} {k : TypeId} {R : Value → Option (DU × List MemPlace)} {b n : Nat} {D : DU} (h : w.ownsMap P k R b n D) (hb : Below w.heap.size w w') : w'.ownsMap P k R b n D :=
  h.kept (Grown.below (row := none) hb) (by simp)
theorem Fol.below {w w' : World} {base f M : Nat} {l : List Fo} {k : Nat} (h : Fol w base f M l k) (hb : Below w.heap.size w w') : Fol w' base f M l k := by
  obtain ⟨A, n, c, D, h1, h2, h3, h4⟩ := h.ex
  exact ⟨⟨A, n, c, D, (hb.block f (Array.getElem?_eq_some_iff.1 h1).1).trans h1, h2.below hb, ownsMap_below h3 hb, h4⟩, h.small, h.hf, h.hM⟩
set_option maxRecDepth 100000 in
set_option maxHeartbeats 2000000 in
theorem folderRune_any (base f M : Nat) (l : List Fo) (k : Nat) (r : Int) (w : World) (h : Fol w base f M l k) (h1 : -2147483648 ≤ r) (h2 : r ≤ 2147483647) (hk : k < 1000000000) :
    Calls Tryz.prog 94 #[.pointer (some ⟨f, 0, none⟩), .int .i32 r] w fun e w' => e = .returned (.int .i32 (oneR (eff l) r)) ∧ w.grownBy w' (some M) ∧ Fol w' base f M l (k + 1) := by
  obtain ⟨A, n, c, D, hf, hl, hm, hD⟩ := h.ex
  have c0 := cell_0 hf
  have c1 := cell_1 hf
  have hkey := keyOf_int_mk (P := Tryz.prog) Tryz.underlying21 (wf_i32' h1 h2)
  have HT := Lib.hid hl
  have HL := Lib.hid hl.rd
  have HF := Lib.hid hf
  have HM := Lib.hid hm
  have HH := Lib.hid (And.intro h.hf h.hM)
  have HD := Lib.hid hD
  have hr1 := oneE_i32 l h1 h2
  obtain ⟨R, hR⟩ : ∃ R, R = oneR (eff l) r := ⟨_, rfl⟩
  have HR := Lib.hid hR
  rw [← hR] at hr1
  clear hf hl hm hD h hR
  have hk' := Lib.hid hk
  have hk2 : Hid (k < maxLen) := Lib.hid (by unfold maxLen; omega)
  clear hk
  by_cases hh : Maps.has D (.int .i32 r) = true
  · go_enter Tryz.func94, Tryz.ntmps94
    go_wp2_with (first
      | (at_lookup; refine wpList_lookup_own_ok_int _ rfl _ _ 137 rfl 21 21 .i32 lawR Tryz.underlying137 Tryz.underlying21 (zeroR _) M k D rfl HM.out _ _ rfl hkey ?_; intro x hat hwc; rw [hh])
      | fail)
    have hx : x = oneR (eff l) r := by
      have := hat.symm.trans (HD.out.2 r hh)
      simp [li] at this
      exact this
    go_ret
    refine ⟨by rw [hx]; rfl, Grown.below (Below.refl _ _), ⟨⟨A, n, c, D, HF.out, HT.out, HM.out.mono (by omega), HD.out⟩, by have := hk'.out; omega, HH.out.1, HH.out.2⟩⟩
  · have hh' : Maps.has D (.int .i32 r) = false := by simpa using hh
    clear hh
    go_enter Tryz.func94, Tryz.ntmps94
    go_wp2_with (first
      | (at_lookup; refine wpList_lookup_own_ok_int _ rfl _ _ 137 rfl 21 21 .i32 lawR Tryz.underlying137 Tryz.underlying21 (zeroR _) M k D rfl HM.out _ _ rfl hkey ?_; intro x hat hwc; rw [hh'])
      | fail)
    refine (Rune_any A n c l r w HL.out).mono ?_
    rintro e w1 ⟨rfl, hb⟩
    rw [← HR.out]
    have HB := Lib.hid hb
    have c1' := cell_keep hb c1
    have HM1 := Lib.hid (ownsMap_below HM.out hb)
    clear hb c0 c1
    go_wp2_with (first
      | (at_mapUpdate; refine wpList_mapUpdate_in _ rfl _ _ _ 137 rfl 21 21 lawR Tryz.underlying137 _ M k D rfl HM1.out hk2.out _ _ _ rfl rfl hkey _ [] (plainElem_int Tryz.underlying21 (wf_i32' hr1.1 hr1.2)) ?_; intro w2 hown1 hturn1)
      | fail)
    go_ret
    have hg : w1.grownBy w2 (some M) := hturn1.grown
    refine ⟨by rw [HR.out]; rfl, Grown.thn (Grown.below HB.out) hg, ⟨⟨A, n, c, _, ?_, (HT.out.below HB.out).low (Below.grown (Below.refl _ _) hg (Nat.le_trans (Nat.le_of_lt (Nat.lt_of_le_of_lt HH.out.2 HM.out.lt)) HB.out.size) (fun j hj => by cases hj; exact HH.out.2)), hown1, by rw [HR.out]; exact HD.out.put r⟩, by have := hk'.out; omega, HH.out.1, HH.out.2⟩⟩
    have hf1 := (HB.out.block f (Array.getElem?_eq_some_iff.1 HF.out).1).trans HF.out
    refine (hg.block f (Array.getElem?_eq_some_iff.1 hf1).1 ?_).trans hf1
    intro e
    cases e
    obtain ⟨es, cc, hmb⟩ := mapBlock HM1.out
    rw [hf1] at hmb
    cases hmb
end Go.Proofs.YtkkeodlnejckjaaGreat
