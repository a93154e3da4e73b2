import Derived.Test.YtbmdjmnjbflfeaaFormW
import Derived.Test.YtbmdjmnjbflfeaaOwnK
import Derived.WalkSpells
import Derived.Test.YtbmdjmnjbflfeaaReg
import Derived.Test.YtbmdjmnjbflfeaaRefTerms
import Derived.BigQuiet
import Derived.Laws.Tables

/- A form is read again: plain Lean. -/
namespace Go.Proofs.Ytbmdjmnjbflfeaa
open Go.RowKit
set_option linter.unusedVariables false
set_option linter.unusedSimpArgs false

/-- What a reader has still, and its error. -/
abbrev Rs := List Nat × Int
def v1 (s : Rs) : Nat := beN (rawL 1 s.1 s.2).1
def n1 (s : Rs) : Rs := (rawL 1 s.1 s.2).2
def v2 (s : Rs) : Nat := beN (rawL 2 s.1 s.2).1
def n2 (s : Rs) : Rs := (rawL 2 s.1 s.2).2
def vT (s : Rs) : List Nat := (txtL 255 s.1 s.2).1
def nT (s : Rs) : Rs := (txtL 255 s.1 s.2).2
def foS (s : Rs) : Fo × Rs := (((v2 s : Nat), (v2 (n2 s) : Nat), ((v1 (n2 (n2 s)) : Nat) : Int) + 1), n1 (n2 (n2 s)))
def foI (s : Rs) : Nat → List Fo × Rs
  | 0 => ([], s)
  | k + 1 => ((foI s k).1 ++ [(foS (foI s k).2).1], (foS (foI s k).2).2)
def stI (s : Rs) : Nat → List ByteArray × Rs
  | 0 => ([], s)
  | k + 1 => ((stI s k).1 ++ [strL (vT (stI s k).2)], nT (stI s k).2)
/-- What is read of bytes. -/
def prsW (l : List Nat) : Cf × Rs :=
  let s1 := n1 (l, 0)
  let a := foI (n1 s1) (v1 s1)
  let b := stI (n1 a.2) (v1 a.2)
  (⟨a.1, b.1, (v1 (l, 0) : Nat)⟩, b.2)
open Classical in
noncomputable def parX (l : List Nat) : Cf × Int := if endE (prsW l).2.1 (prsW l).2.2 = 0 ∧ bytX (prsW l).1 = (l, 0) then ((prsW l).1, 0) else (⟨[], [], 0⟩, 140)
theorem v1_cons (x : Nat) (l : List Nat) : v1 (x :: l, 0) = x ∧ n1 (x :: l, 0) = (l, 0) := by
  have h : rawL 1 (x :: l) 0 = ([x], l, 0) := by rw [rawL_ok (by simp)]; rfl
  unfold v1 n1
  rw [h]
  exact ⟨by simp [beN], rfl⟩
theorem v2_be (v : Nat) (hv : v < 65536) (l : List Nat) : v2 (be 2 v ++ l, 0) = v ∧ n2 (be 2 v ++ l, 0) = (l, 0) := by
  have h : rawL 2 (be 2 v ++ l) 0 = (be 2 v, l, 0) := by
    rw [rawL_ok (by simp [be_length])]
    rw [List.take_append_of_le_length (by simp [be_length]), List.take_of_length_le (by simp [be_length]), List.drop_append_of_le_length (by simp [be_length]), List.drop_eq_nil_of_le (by simp [be_length]), List.nil_append]
  unfold v2 n2
  rw [h]
  refine ⟨?_, rfl⟩
  simp [be, beN]
  omega
theorem vT_fmS (s : ByteArray) (hs : s.size ≤ 255) (l : List Nat) : vT (fmS s ++ l, 0) = bsL s ∧ nT (fmS s ++ l, 0) = (l, 0) := by
  have hb := bsL_len s
  have h : txtL 255 (fmS s ++ l) 0 = (bsL s, l, 0) := by
    unfold txtL fmS
    rw [if_pos rfl, if_neg (by decide), if_neg (by simp), if_neg (by simp; omega), if_neg (by simp; omega)]
    simp only [List.cons_append, List.getD_cons_zero, Nat.add_comm 1, List.take_succ_cons, List.drop_succ_cons, List.drop_zero]
    rw [List.take_append_of_le_length (by omega), List.take_of_length_le (by omega), List.drop_append_of_le_length (by omega), List.drop_eq_nil_of_le (by omega), List.nil_append]
  unfold vT nT
  rw [h]
  exact ⟨rfl, rfl⟩
theorem foS_fmF {x : Fo} (h : gd x) (l : List Nat) : foS (fmF x ++ l, 0) = (x, (l, 0)) := by
  have hr := gd_rng h
  obtain ⟨p, hp⟩ : ∃ p : Nat, x.1 = (p : Int) := ⟨x.1.toNat, by omega⟩
  obtain ⟨q, hq⟩ : ∃ q : Nat, x.2.1 = (q : Int) := ⟨x.2.1.toNat, by omega⟩
  obtain ⟨r, hr2⟩ : ∃ r : Nat, x.2.2 = (r : Int) + 1 := ⟨(x.2.2 - 1).toNat, by have := h.1; omega⟩
  have hf : fmF x ++ l = be 2 p ++ (be 2 q ++ (r :: l)) := by
    unfold fmF
    rw [hp, hq, hr2]
    simp
  have h1 := v2_be p (by omega) (be 2 q ++ (r :: l))
  have h2 := v2_be q (by omega) (r :: l)
  have h3 := v1_cons r l
  unfold foS
  rw [hf, h1.1, h1.2, h2.1, h2.2, h3.1, h3.2]
  obtain ⟨a, b, c⟩ := x
  simp only at hp hq hr2
  rw [hp, hq, hr2]
theorem foI_form (fo : List Fo) (hg : ∀ x ∈ fo, gd x) (l : List Nat) : ∀ k, k ≤ fo.length → foI (fo.flatMap fmF ++ l, 0) k = (fo.take k, ((fo.drop k).flatMap fmF ++ l, 0))
  | 0, _ => by simp [foI]
  | k + 1, hk => by
    unfold foI
    rw [foI_form fo hg l k (by omega)]
    have hd : fo.drop k = fo[k] :: fo.drop (k + 1) := List.drop_eq_getElem_cons (by omega)
    simp only
    rw [hd, List.flatMap_cons, List.append_assoc, foS_fmF (hg _ (List.getElem_mem _))]
    rw [List.take_succ_eq_append_getElem (by omega)]
theorem stI_form (st : List ByteArray) (hs : ∀ s ∈ st, s.size ≤ 255) (l : List Nat) : ∀ k, k ≤ st.length → stI (st.flatMap fmS ++ l, 0) k = (st.take k, ((st.drop k).flatMap fmS ++ l, 0))
  | 0, _ => by simp [stI]
  | k + 1, hk => by
    unfold stI
    rw [stI_form st hs l k (by omega)]
    have hd : st.drop k = st[k] :: st.drop (k + 1) := List.drop_eq_getElem_cons (by omega)
    have h := vT_fmS st[k] (hs _ (List.getElem_mem _)) ((st.drop (k + 1)).flatMap fmS ++ l)
    simp only
    rw [hd, List.flatMap_cons, List.append_assoc, h.1, h.2, bsL_str]
    rw [List.take_succ_eq_append_getElem (by omega)]
theorem prsW_form {cf : Cf} (hm : mayC cf) (hl : (fmtC cf).length ≤ 240) : prsW (fmtC cf) = (cf, ([], 0)) := by
  have hsz : ∀ s ∈ cf.st, s.size ≤ 255 := fun s hs => by
    rcases Nat.lt_or_ge 255 s.size with h | h
    · have := fmt_long hs h
      omega
    · exact h
  have hgd : ∀ x ∈ cf.fo, gd x := fun x hx => by
    obtain ⟨i, hi, rfl⟩ := List.mem_iff_getElem.1 hx
    exact (hm.1.2.1 i hi).1
  have e : fmtC cf = cf.cap.toNat :: cf.fo.length :: (cf.fo.flatMap fmF ++ (cf.st.length :: (cf.st.flatMap fmS ++ []))) := by
    unfold fmtC
    simp
  have h1 := v1_cons cf.cap.toNat (cf.fo.length :: (cf.fo.flatMap fmF ++ (cf.st.length :: (cf.st.flatMap fmS ++ []))))
  have h2 := v1_cons cf.fo.length (cf.fo.flatMap fmF ++ (cf.st.length :: (cf.st.flatMap fmS ++ [])))
  have h3 := foI_form cf.fo hgd (cf.st.length :: (cf.st.flatMap fmS ++ [])) cf.fo.length (Nat.le_refl _)
  rw [List.take_length, List.drop_length, List.flatMap_nil, List.nil_append] at h3
  have h4 := v1_cons cf.st.length (cf.st.flatMap fmS ++ [])
  have h5 := stI_form cf.st hsz [] cf.st.length (Nat.le_refl _)
  rw [List.take_length, List.drop_length, List.flatMap_nil, List.nil_append] at h5
  have hc : ((cf.cap.toNat : Nat) : Int) = cf.cap := by have := hm.2.1; omega
  unfold prsW
  simp only
  rw [e, h1.1, h1.2, h2.1, h2.2, h3]
  simp only
  rw [h4.1, h4.2, h5, hc]
theorem parX_form {cf : Cf} (hm : mayC cf) (hl : (fmtC cf).length ≤ 240) : parX (fmtC cf) = (cf, 0) := by
  unfold parX
  rw [prsW_form hm hl]
  rw [if_pos]
  refine ⟨by simp [endE], ?_⟩
  show bytX cf = _
  unfold bytX
  rw [if_pos hm, if_neg (by omega)]
end Go.Proofs.Ytbmdjmnjbflfeaa

/- What stands while a form is read. -/
namespace Go.Proofs.Ytbmdjmnjbflfeaa
open Go.RowKit Go.Shelf
set_option linter.unusedVariables false
set_option linter.unusedSimpArgs false

/-- The reader, the way that is being read, its rows, the result's box. -/
structure PI (w : World) (g lo hi gc gr b1 : Nat) (s : Rs) (vF vS : Value) (cap : Int) (LF : List Fo) (LS : List ByteArray) (W : World) : Prop where
  rd : Rdr W g s.1 s.2 lo hi
  bx : W.heap[gc]? = some (.cells #[vF, vS, .int .i64 cap] 25 (0, 0))
  br : W.heap[gr]? = some (.cells #[.slice none 0 0, .slice none 0 0, .int .i64 0] 25 (0, 0))
  oF : OwnK encF 3 84 W b1 vF LF
  oS : OwnL encS 9 W b1 vS LS
  be : Below w.heap.size w W
  o1 : w.heap.size ≤ gr ∧ gr < lo ∧ lo ≤ hi ∧ hi ≤ g ∧ g < gc ∧ gc < b1 ∧ b1 ≤ W.heap.size
section
variable {w : World} {g lo hi gc gr b1 : Nat} {s : Rs} {vF vS : Value} {cap : Int} {LF : List Fo} {LS : List ByteArray} {W W' : World}
theorem PI.below (h : PI w g lo hi gc gr b1 s vF vS cap LF LS W) (hb : Below W.heap.size W W') : PI w g lo hi gc gr b1 s vF vS cap LF LS W' :=
  ⟨h.rd.below hb, (hb.block _ (Array.getElem?_eq_some_iff.1 h.bx).1).trans h.bx, (hb.block _ (Array.getElem?_eq_some_iff.1 h.br).1).trans h.br, OwnK.below h.oF hb, h.oS.below hb, Below.thn h.be hb, by have := h.o1; have := hb.size; omega⟩
theorem rowK_ne {α : Type} {enc : α → List Value} {sz : Nat} {e : TypeId} {base k : Nat} {v : Value} {L : List α} (h : OwnK enc sz e W base v L) (hk : k < base) : v.ownBlock = none ∨ v.ownBlock ≠ some k := by
  cases hv : v.ownBlock with
  | none => exact .inl rfl
  | some j => exact .inr fun e => by cases e; have := (OwnK.base h k hv).1; omega
theorem rowL_ne {α : Type} {enc : α → Value} {e : TypeId} {base k : Nat} {v : Value} {L : List α} (h : OwnL enc e W base v L) (hk : k < base) : v.ownBlock = none ∨ v.ownBlock ≠ some k := by
  cases hv : v.ownBlock with
  | none => exact .inl rfl
  | some j => exact .inr fun e => by cases e; have := (OwnL.base h k hv).1; omega
/-- The reader has read. -/
theorem PI.read {s' : Rs} (h : PI w g lo hi gc gr b1 s vF vS cap LF LS W) (hr : Rdr W' g s'.1 s'.2 lo hi) (hg : W.grownBy W' (some g)) : PI w g lo hi gc gr b1 s' vF vS cap LF LS W' := by
  have o := h.o1
  have hs := hg.size
  refine ⟨hr, (hg.block _ (Array.getElem?_eq_some_iff.1 h.bx).1 (fun e => by cases e; omega)).trans h.bx, (hg.block _ (Array.getElem?_eq_some_iff.1 h.br).1 (fun e => by cases e; omega)).trans h.br, OwnK.kept h.oF hg (rowK_ne h.oF (by omega)), h.oS.kept hg (rowL_ne h.oS (by omega)), h.be.grown hg h.be.size (fun k hk => by cases hk; omega), by omega⟩
/-- One range more; it is stored. -/
theorem PI.putF (h : PI w g lo hi gc gr b1 s vF vS cap LF LS W) {v1 : Value} {LF' : List Fo} (ho : OwnK encF 3 84 W' b1 v1 LF') (hg : W.grownBy W' vF.ownBlock) (hsep : ∀ k, vS.ownBlock = some k → vF.ownBlock ≠ some k) :
    PI w g lo hi gc gr b1 s v1 vS cap LF' LS (W'.setCell ⟨gc, 0, none⟩ v1) := by
  have o := h.o1
  have hs := hg.size
  have hb : ∀ k, vF.ownBlock = some k → b1 ≤ k := fun k hk => (OwnK.base h.oF k hk).1
  have hbx := (hg.block gc (Array.getElem?_eq_some_iff.1 h.bx).1 (fun e => by have := hb gc e.symm; omega)).trans h.bx
  have hbr := (hg.block gr (Array.getElem?_eq_some_iff.1 h.br).1 (fun e => by have := hb gr e.symm; omega)).trans h.br
  have hrd := h.rd.kept hg (fun e => by have := hb g e.symm; omega) (fun k h1 h2 e => by have := hb k e.symm; omega)
  have hoS : OwnL encS 9 W' b1 vS LS := h.oS.kept hg (by
    cases hv : vS.ownBlock with
    | none => exact .inl rfl
    | some j => exact .inr fun e => hsep j hv e.symm)
  have hbe : Below w.heap.size w W' := h.be.grown hg h.be.size (fun k hk => by have := hb k hk; omega)
  have hset : W'.grownBy (W'.setCell ⟨gc, 0, none⟩ v1) (some gc) := grown_setCell W' ⟨gc, 0, none⟩ v1
  refine ⟨hrd.kept hset (fun e => by cases e; omega) (fun k h1 h2 e => by cases e; omega), ?_, (hset.block gr (Array.getElem?_eq_some_iff.1 hbr).1 (fun e => by cases e; omega)).trans hbr, OwnK.kept ho hset (rowK_ne ho (by omega)), hoS.kept hset (rowL_ne hoS (by omega)), hbe.setCell (p := ⟨gc, 0, none⟩) (by show w.heap.size ≤ gc; omega) _, by rw [World.size_setCell]; omega⟩
  have hlt := (Array.getElem?_eq_some_iff.1 hbx).1
  simp [World.setCell, Array.getElem?_modify, hbx]
theorem PI.setx (h : PI w g lo hi gc gr b1 s vF vS cap LF LS W) (k i : Nat) (u : Value) (hk : b1 ≤ k) (hF : vF.ownBlock ≠ some k) (hS : vS.ownBlock ≠ some k) : PI w g lo hi gc gr b1 s vF vS cap LF LS (W.setCell ⟨k, i, none⟩ u) := by
  have o := h.o1
  have hset : W.grownBy (W.setCell ⟨k, i, none⟩ u) (some k) := grown_setCell W ⟨k, i, none⟩ u
  exact ⟨h.rd.kept hset (fun e => by cases e; omega) (fun j h1 h2 e => by cases e; omega), (hset.block _ (Array.getElem?_eq_some_iff.1 h.bx).1 (fun e => by cases e; omega)).trans h.bx, (hset.block _ (Array.getElem?_eq_some_iff.1 h.br).1 (fun e => by cases e; omega)).trans h.br,
    OwnK.kept h.oF hset (.inr hF), h.oS.kept hset (.inr hS), h.be.setCell (p := ⟨k, i, none⟩) (by show w.heap.size ≤ k; omega) _, by rw [World.size_setCell]; omega⟩
theorem PI.u16 (h : PI w g lo hi gc gr b1 s vF vS cap LF LS W) : Calls Try.prog 55 #[.pointer (some ⟨g, 0, none⟩)] W fun e w' => e = .returned (.int .u16 (v2 s : Nat)) ∧ PI w g lo hi gc gr b1 (n2 s) vF vS cap LF LS w' ∧ W.grownBy w' (some g) := by
  refine (RU16_any h.rd).mono ?_
  rintro e w' ⟨rfl, hr, hg⟩
  exact ⟨rfl, h.read (s' := n2 s) hr hg, hg⟩
theorem PI.u8 (h : PI w g lo hi gc gr b1 s vF vS cap LF LS W) : Calls Try.prog 54 #[.pointer (some ⟨g, 0, none⟩)] W fun e w' => e = .returned (.int .u8 (v1 s : Nat)) ∧ PI w g lo hi gc gr b1 (n1 s) vF vS cap LF LS w' ∧ W.grownBy w' (some g) := by
  refine (RU8_any h.rd).mono ?_
  rintro e w' ⟨rfl, hr, hg⟩
  exact ⟨rfl, h.read (s' := n1 s) hr hg, hg⟩
theorem PI.txt (h : PI w g lo hi gc gr b1 s vF vS cap LF LS W) : Calls Try.prog 56 #[.pointer (some ⟨g, 0, none⟩), .int .i64 255] W fun e w' => ∃ r, e = .returned r ∧ BSin w' r (vT s) lo hi ∧ PI w g lo hi gc gr b1 (nT s) vF vS cap LF LS w' ∧ W.grownBy w' (some g) := by
  refine (RText_any 255 (by decide) h.rd).mono ?_
  rintro e w' ⟨r, rfl, hr, hd, hg⟩
  exact ⟨r, rfl, hr, h.read (s' := nT s) hd hg, hg⟩
theorem rows_sep {α β : Type} {enc : α → List Value} {enc' : β → Value} {sz : Nat} {e e' : TypeId} {b b' : Nat} {v v' : Value} {L : List α} {L' : List β} (h : OwnK enc sz e W b v L) (h' : OwnL enc' e' W b' v' L') (he : e ≠ e') (k : Nat) (hk : v.ownBlock = some k) : v'.ownBlock ≠ some k := by
  intro hk'
  rcases h.2 with ⟨rfl, _⟩ | ⟨g1, c1, cur1, rfl, _, hh1, _⟩
  · simp [Value.ownBlock] at hk
  · rcases h'.2 with ⟨rfl, _⟩ | ⟨g2, c2, cur2, rfl, _, hh2, _⟩
    · simp [Value.ownBlock] at hk'
    · simp only [Value.ownBlock, Option.some.injEq] at hk hk'
      subst hk
      subst hk'
      rw [hh1] at hh2
      simp only [Option.some.injEq, Obj.cells.injEq] at hh2
      exact he hh2.2.1
/-- One stop more; before it is stored. -/
structure PIh (w : World) (g lo hi gc gr b1 : Nat) (s : Rs) (vF vS v1 : Value) (cap : Int) (LF : List Fo) (LS' : List ByteArray) (W : World) : Prop where
  rd : Rdr W g s.1 s.2 lo hi
  bx : W.heap[gc]? = some (.cells #[vF, vS, .int .i64 cap] 25 (0, 0))
  br : W.heap[gr]? = some (.cells #[.slice none 0 0, .slice none 0 0, .int .i64 0] 25 (0, 0))
  oF : OwnK encF 3 84 W b1 vF LF
  oS : OwnL encS 9 W b1 v1 LS'
  be : Below w.heap.size w W
  o1 : w.heap.size ≤ gr ∧ gr < lo ∧ lo ≤ hi ∧ hi ≤ g ∧ g < gc ∧ gc < b1 ∧ b1 ≤ W.heap.size
theorem PI.half (h : PI w g lo hi gc gr b1 s vF vS cap LF LS W) {v1 : Value} {LS' : List ByteArray} (ho : OwnL encS 9 W' b1 v1 LS') (hg : W.grownBy W' vS.ownBlock) : PIh w g lo hi gc gr b1 s vF vS v1 cap LF LS' W' := by
  have o := h.o1
  have hs := hg.size
  have hb : ∀ k, vS.ownBlock = some k → b1 ≤ k := fun k hk => (OwnL.base h.oS k hk).1
  refine ⟨h.rd.kept hg (fun e => by have := hb g e.symm; omega) (fun k h1 h2 e => by have := hb k e.symm; omega), (hg.block gc (Array.getElem?_eq_some_iff.1 h.bx).1 (fun e => by have := hb gc e.symm; omega)).trans h.bx, (hg.block gr (Array.getElem?_eq_some_iff.1 h.br).1 (fun e => by have := hb gr e.symm; omega)).trans h.br, OwnK.kept h.oF hg ?_, ho, h.be.grown hg h.be.size (fun k hk => by have := hb k hk; omega), by omega⟩
  cases hv : vF.ownBlock with
  | none => exact .inl rfl
  | some j => exact .inr fun e => rows_sep h.oF h.oS (by decide) j hv e.symm
theorem PIh.store {v1 : Value} {LS' : List ByteArray} (h : PIh w g lo hi gc gr b1 s vF vS v1 cap LF LS' W) : PI w g lo hi gc gr b1 s vF v1 cap LF LS' (W.setCell ⟨gc, 1, none⟩ v1) := by
  have o := h.o1
  have hset : W.grownBy (W.setCell ⟨gc, 1, none⟩ v1) (some gc) := grown_setCell W ⟨gc, 1, none⟩ v1
  refine ⟨h.rd.kept hset (fun e => by cases e; omega) (fun k h1 h2 e => by cases e; omega), ?_, (hset.block gr (Array.getElem?_eq_some_iff.1 h.br).1 (fun e => by cases e; omega)).trans h.br, OwnK.kept h.oF hset (rowK_ne h.oF (by omega)), h.oS.kept hset (rowL_ne h.oS (by omega)), h.be.setCell (p := ⟨gc, 1, none⟩) (by show w.heap.size ≤ gc; omega) _, by rw [World.size_setCell]; omega⟩
  simp [World.setCell, Array.getElem?_modify, h.bx]
theorem PI.v2_lt (h : PI w g lo hi gc gr b1 s vF vS cap LF LS W) : v2 s < 65536 := beN_rawL h.rd.byt (k := 2) (e := s.2)
theorem PI.v1_lt (h : PI w g lo hi gc gr b1 s vF vS cap LF LS W) : v1 s < 256 := beN_rawL h.rd.byt (k := 1) (e := s.2)
end
end Go.Proofs.Ytbmdjmnjbflfeaa

/- A region that draws its order, by an invariant on what has come up, on the values and on the world. -/
namespace Go.Proofs.Ytbmdjmnjbflfeaa
open Go.RowKit
set_option linter.unusedVariables false
variable {P : Program}
section
variable {ops : Array Oper} {Q : Exit → Act → World → Prop} {a0 : Act} {w0 : World}
def upd (r : Nat → Value) (i : Nat) (v : Value) : Nat → Value := fun k => if k = i then v else r k
structure FlowInvG (ops : Array Oper) (a0 : Act) (J : (Nat → Prop) → (Nat → Value) → World → Prop) (l : Array Bool) (r : Nat → Value) (a : Act) (w : World) : Prop where
  size : l.size = ops.size
  inv : J (fun k => l.getD k false = true) r w
  defers : a.defers = a0.defers
  tmps : a.tmps.size = a0.tmps.size
  closed : ∀ k o, ops[k]? = some o → l.getD k false = true → ∀ j, needsB o j = true → l.getD j false = true
  facts : ∀ i o d, ops[i]? = some o → l.getD i false = true → o.dst = some d → a.tmps.getD d undef = r i
  rest : ∀ t, (∀ i o, ops[i]? = some o → l.getD i false = true → o.dst ≠ some t) → a.tmps.getD t undef = a0.tmps.getD t undef
theorem wp_region_flowG {id : Nat} (hm : P.follows .mixedOrders = true) (J : (Nat → Prop) → (Nat → Value) → World → Prop)
    (hJ0 : ∀ r, J (fun _ => False) r w0.drew) (hback : backB ops = true) (honce : onceB ops a0.tmps.size = true)
    (step : ∀ (i : Nat) (o : Oper), ops[i]? = some o → ∀ (ρ : Operand → Value) (y : Nat → Option Bool) (w : World) (S : Nat → Prop) (r : Nat → Value), J S r w → ¬ S i → (∀ j, needsB o j = true → S j) → (∀ k ok, ops[k]? = some ok → S k → ∀ j, needsB ok j = true → S j) → Plain ρ →
      (∀ (j : Nat) (o' : Oper) (d : Tmp), ops[j]? = some o' → needsB o j = true → o'.dst = some d → ρ (.tmp d) = r j) →
      (∀ (t : Tmp), freeB ops i t = true → ρ (.tmp t) = a0.tmps.getD t undef) →
      (∀ (j : Nat) (o' : Oper) (d : Tmp) (b : Bool), ops[j]? = some o' → o'.dst = some d → ρ (.tmp d) = .bool b → y j = some b) →
      (∀ (j : Nat) (o' : Oper) (d : Tmp), ops[j]? = some o' → o'.dst = some d → ρ (.tmp d) = undef → y j = none) →
      if Region.wanted o y = true then Does P o ρ w (fun v w' => J (fun k => k = i ∨ S k) (upd r i v) w') else J (fun k => k = i ∨ S k) (upd r i undef) w)
    (fin : ∀ (a : Act) (w : World) (S : Nat → Prop) (r : Nat → Value), J S r w → (∀ i, i < ops.size → S i) → a.defers = a0.defers → a.tmps.size = a0.tmps.size → (∀ (i : Nat) (o : Oper) (d : Tmp), ops[i]? = some o → o.dst = some d → a.tmps.getD d undef = r i) →
      (∀ (t : Tmp), writesB ops t = false → a.tmps.getD t undef = a0.tmps.getD t undef) → Q .normal a w) :
    (Code.region id ops true).wp P Q a0 w0 := by
  refine wp_region_any hm ?_
  have key : ∀ (fuel : Nat) (l : Array Bool) (r : Nat → Value) (a : Act) (w : World), leftOf ops.size l ≤ fuel → FlowInvG ops a0 J l r a w → wpAny P .any ops Q fuel l a w := by
    have done : ∀ (l : Array Bool) (r : Nat → Value) (a : Act) (w : World), FlowInvG ops a0 J l r a w → Region.ready .any ops l = [] → Q .normal a w := by
      intro l r a w hI hr'
      have hall := ready_nil hI.size hback hr'
      refine fin a w _ r hI.inv hall hI.defers hI.tmps (fun i o d ho hd => hI.facts i o d ho (hall i (Array.getElem?_eq_some_iff.1 ho).1) hd) (fun t ht => hI.rest t fun i o ho _ => writes_not ht i o ho)
    intro fuel
    induction fuel with
    | zero =>
      intro l r a w hl hI
      have hr : Region.ready .any ops l = [] := by
        rw [List.eq_nil_iff_forall_not_mem]
        intro i hi
        obtain ⟨o, ho, hlt, hn, _⟩ := ready_spec hi
        have := left_set (n := ops.size) (l := l) hI.size hlt hn
        omega
      exact ⟨hr, done l r a w hI hr⟩
    | succ fuel ih =>
      intro l r a w hl hI
      refine ⟨done l r a w hI, fun i hi => ?_⟩
      obtain ⟨o, ho, hlt, hn, hneeds⟩ := ready_spec hi
      have hlt' : i < l.size := by rw [hI.size]; exact hlt
      have hnf : l.getD i false = false := by
        have : l.getD i true = l.getD i false := by simp [Array.getD, hlt']
        rw [← this]; exact hn
      have hdl : ∀ (j : Nat) (o' : Oper) (d : Tmp), ops[j]? = some o' → o'.dst = some d → d < a.tmps.size := by
        intro j o' d hj hd
        have hon := List.all_eq_true.1 honce j (List.mem_range.2 (Array.getElem?_eq_some_iff.1 hj).1)
        rw [hj] at hon
        simp only [hd, Bool.and_eq_true, decide_eq_true_eq] at hon
        rw [hI.tmps]
        exact hon.1
      have hyv : ∀ (j : Nat) (o' : Oper) (d : Tmp), ops[j]? = some o' → o'.dst = some d → yielded ops a.tmps j = (match a.tmps.getD d undef with
          | .bool b => some b
          | _ => none) := by
        intro j o' d hj hd
        have hlt2 := hdl j o' d hj hd
        unfold yielded
        rw [hj]
        simp only [Option.bind_some, hd]
        have e : a.tmps.getD d undef = a.tmps[d] := by simp [Array.getD, hlt2]
        rw [Array.getElem?_eq_getElem hlt2, e]
        generalize a.tmps[d] = v
        cases v <;> rfl
      have hst := step i o ho a.eval (yielded ops a.tmps) w (fun k => l.getD k false = true) r hI.inv (by rw [hnf]; exact Bool.false_ne_true) hneeds hI.closed ⟨fun _ => rfl, fun _ => rfl, fun _ => rfl⟩ (fun j o' d hj hnj hd => hI.facts j o' d hj (hneeds j hnj) hd)
        (fun t hfree => hI.rest t fun k ok hk hlk hdk => by
          unfold freeB at hfree
          rw [List.all_eq_true] at hfree
          have h1 := hfree k (List.mem_range.2 (Array.getElem?_eq_some_iff.1 hk).1)
          rw [hk] at h1
          simp only [Bool.or_eq_true] at h1
          rcases h1 with (h1 | h1) | h1
          · simp [hdk] at h1
          · rw [beq_iff_eq] at h1
            subst h1
            rw [hnf] at hlk; cases hlk
          · rw [hI.closed k ok hk hlk i h1] at hnf; cases hnf)
        (fun j o' d b hj hd hb => by
          rw [hyv j o' d hj hd]
          have hb' : a.tmps.getD d undef = .bool b := hb
          rw [hb'])
        (fun j o' d hj hd hb => by
          rw [hyv j o' d hj hd]
          have hb' : a.tmps.getD d undef = undef := hb
          rw [hb']
          rfl)
      have next : ∀ v w', J (fun k => k = i ∨ l.getD k false = true) (upd r i v) w' → wpAny P .any ops Q fuel (l.setIfInBounds i true) (a.put o.dst v) w' := by
        intro v w' hj'
        refine ih _ (upd r i v) _ _ (by have := left_set (n := ops.size) (l := l) hI.size hlt hn; omega) ?_
        refine ⟨by simpa using hI.size, (by have e : (fun k => (l.setIfInBounds i true).getD k false = true) = (fun k => k = i ∨ l.getD k false = true) := funext fun k => propext (getD_set hlt'); rw [e]; exact hj'), ?_, ?_, ?_, ?_, ?_⟩
        · rw [← hI.defers]; cases o.dst <;> rfl
        · rw [← hI.tmps]; cases o.dst <;> simp [Act.put]
        · intro k ok hk hlk j hj
          rw [getD_set hlt'] at hlk ⊢
          rcases hlk with rfl | hlk
          · rw [ho] at hk
            obtain rfl := Option.some.inj hk
            exact .inr (hneeds j hj)
          · exact .inr (hI.closed k ok hk hlk j hj)
        · intro k ok d hk hlk hd
          have hon := List.all_eq_true.1 honce k (List.mem_range.2 (Array.getElem?_eq_some_iff.1 hk).1)
          rw [hk] at hon
          simp only [hd, Bool.and_eq_true, decide_eq_true_eq] at hon
          obtain ⟨hdl, hon⟩ := hon
          rw [List.all_eq_true] at hon
          rw [getD_set hlt'] at hlk
          rcases hlk with rfl | hlk
          · rw [ho] at hk
            obtain rfl := Option.some.inj hk
            rw [hd, put_getD (by rw [hI.tmps]; exact hdl), if_pos rfl]
            simp [upd]
          · have hne : o.dst ≠ some d := by
              have h1 := hon i (List.mem_range.2 hlt)
              rw [ho] at h1
              simp only [Bool.or_eq_true, beq_iff_eq] at h1
              rcases h1 with rfl | h1
              · rw [hnf] at hlk; cases hlk
              · simpa using h1
            have he : (a.put o.dst v).tmps.getD d undef = a.tmps.getD d undef := by
              cases hod : o.dst with
              | none => rfl
              | some d' =>
                have hi2 := List.all_eq_true.1 honce i (List.mem_range.2 hlt)
                rw [ho] at hi2
                simp only [hod, Bool.and_eq_true, decide_eq_true_eq] at hi2
                rw [put_getD (by rw [hI.tmps]; exact hi2.1), if_neg]
                rintro rfl
                exact hne hod
            rw [he]
            have hki : k ≠ i := fun e => by subst e; rw [hnf] at hlk; cases hlk
            simp only [upd, if_neg hki]
            exact hI.facts k ok d hk hlk hd
        · intro t ht
          have hne : o.dst ≠ some t := ht i o ho (by rw [getD_set hlt']; exact .inl rfl)
          have he : (a.put o.dst v).tmps.getD t undef = a.tmps.getD t undef := by
            cases hod : o.dst with
            | none => rfl
            | some d' =>
              have hi2 := List.all_eq_true.1 honce i (List.mem_range.2 hlt)
              rw [ho] at hi2
              simp only [hod, Bool.and_eq_true, decide_eq_true_eq] at hi2
              rw [put_getD (by rw [hI.tmps]; exact hi2.1), if_neg]
              rintro rfl
              exact hne hod
          rw [he]
          exact hI.rest t fun k ok hk hlk => ht k ok hk (by rw [getD_set hlt']; exact .inr hlk)
      unfold wpOp
      rw [ho]
      simp only
      split at hst
      · rename_i hw
        rw [if_pos hw]
        exact .inl (Does.wp hst fun v w' h3 => next v w' h3)
      · rename_i hw
        rw [if_neg hw]
        exact next _ _ hst
  refine key ops.size _ (fun _ => undef) _ _ ?_ ?_
  · unfold leftOf
    refine Nat.le_trans (List.length_filter_le _ _) (by simp)
  · have hz : ∀ k, (Array.replicate ops.size false).getD k false = false := by
      intro k
      by_cases hk : k < ops.size
      · simp [Array.getD, hk]
      · simp [Array.getD, hk]
    refine ⟨by simp, (by have e : (fun k => (Array.replicate ops.size false).getD k false = true) = (fun _ => False) := funext fun k => propext (Iff.intro (fun h => by rw [hz] at h; cases h) (fun h => False.elim h)); rw [e]; exact hJ0 _), rfl, rfl, fun k o _ h => ?_, fun i o d _ h => ?_, fun t _ => rfl⟩
    · rw [hz] at h; cases h
    · rw [hz] at h; cases h
end
end Go.Proofs.Ytbmdjmnjbflfeaa

/- The region that takes a stop: what holds, by what has come up. -/
namespace Go.Proofs.Ytbmdjmnjbflfeaa
open Go.RowKit Go.Shelf
set_option linter.unusedVariables false
set_option linter.unusedSimpArgs false

structure PJ (w : World) (g lo hi gc gr b1 : Nat) (s : Rs) (vF vS : Value) (cap : Int) (LF : List Fo) (LS : List ByteArray) (S : Nat → Prop) (r : Nat → Value) (W : World) : Prop where
  a0 : S 0 → r 0 = .pointer (some ⟨gc, 1, none⟩)
  a1 : S 1 → r 1 = vS
  a2 : S 2 → r 2 = .pointer (some ⟨g, 0, none⟩)
  a7 : S 7 → r 7 = .pointer (some ⟨gc, 1, none⟩)
  p0 : ¬ S 3 → PI w g lo hi gc gr b1 s vF vS cap LF LS W
  p3 : S 3 → ¬ S 6 → PI w g lo hi gc gr b1 (nT s) vF vS cap LF LS W
  b3 : S 3 → ¬ S 4 → BSin W (r 3) (vT s) lo hi
  b4 : S 4 → r 4 = .string (strL (vT s))
  b5 : S 5 → ¬ S 6 → ∃ q, r 5 = .slice (some q) 1 1 ∧ Rd encS W (some q) 1 [strL (vT s)]
  p6 : S 6 → ¬ S 8 → PIh w g lo hi gc gr b1 (nT s) vF vS (r 6) cap LF (LS ++ [strL (vT s)]) W
  p8 : S 8 → PI w g lo hi gc gr b1 (nT s) vF (r 6) cap LF (LS ++ [strL (vT s)]) W
section
variable {w : World} {g lo hi gc gr b1 : Nat} {s : Rs} {vF vS : Value} {cap : Int} {LF : List Fo} {LS : List ByteArray} {S : Nat → Prop} {r : Nat → Value} {W : World}
theorem upd_ne {r : Nat → Value} {i k : Nat} {v : Value} (h : k ≠ i) : upd r i v k = r k := if_neg h
theorem upd_eq {r : Nat → Value} {i : Nat} {v : Value} : upd r i v i = v := if_pos rfl
theorem PJ.pure (h : PJ w g lo hi gc gr b1 s vF vS cap LF LS S r W) {i : Nat} {v : Value} (hi3 : i ≠ 3) (hi4 : i ≠ 4) (hi5 : i ≠ 5) (hi6 : i ≠ 6) (hi8 : i ≠ 8) (h0 : i = 0 → v = .pointer (some ⟨gc, 1, none⟩)) (h1 : i = 1 → v = vS) (h2 : i = 2 → v = .pointer (some ⟨g, 0, none⟩)) (h7 : i = 7 → v = .pointer (some ⟨gc, 1, none⟩)) :
    PJ w g lo hi gc gr b1 s vF vS cap LF LS (fun k => k = i ∨ S k) (upd r i v) W := by
  have key : ∀ (k : Nat) (x : Value), (i = k → v = x) → (S k → r k = x) → (k = i ∨ S k) → upd r i v k = x := by
    intro k x hx hs hk
    by_cases e : k = i
    · subst e; rw [upd_eq]; exact hx rfl
    · rw [upd_ne e]; exact hs (hk.resolve_left e)
  refine ⟨key 0 _ h0 h.a0, key 1 _ h1 h.a1, key 2 _ h2 h.a2, key 7 _ h7 h.a7, fun hn => h.p0 fun x => hn (.inr x), fun hs hn => h.p3 (hs.resolve_left (Ne.symm hi3)) fun x => hn (.inr x), fun hs hn => ?_, fun hs => ?_, fun hs hn => ?_, fun hs hn => ?_, fun hs => ?_⟩
  · rw [upd_ne (Ne.symm hi3)]; exact h.b3 (hs.resolve_left (Ne.symm hi3)) fun x => hn (.inr x)
  · rw [upd_ne (Ne.symm hi4)]; exact h.b4 (hs.resolve_left (Ne.symm hi4))
  · rw [upd_ne (Ne.symm hi5)]; exact h.b5 (hs.resolve_left (Ne.symm hi5)) fun x => hn (.inr x)
  · rw [upd_ne (Ne.symm hi6)]; exact h.p6 (hs.resolve_left (Ne.symm hi6)) fun x => hn (.inr x)
  · rw [upd_ne (Ne.symm hi6)]; exact h.p8 (hs.resolve_left (Ne.symm hi8))
theorem PJ.call (h : PJ w g lo hi gc gr b1 s vF vS cap LF LS S r W) {v : Value} {W' : World} (n4 : ¬ S 4) (n5 : ¬ S 5) (n6 : ¬ S 6) (n8 : ¬ S 8) (hp : PI w g lo hi gc gr b1 (nT s) vF vS cap LF LS W') (hb : BSin W' v (vT s) lo hi) :
    PJ w g lo hi gc gr b1 s vF vS cap LF LS (fun k => k = 3 ∨ S k) (upd r 3 v) W' :=
  ⟨fun x => h.a0 (x.resolve_left (by decide)), fun x => h.a1 (x.resolve_left (by decide)), fun x => h.a2 (x.resolve_left (by decide)), fun x => h.a7 (x.resolve_left (by decide)), fun hn => absurd (.inl rfl) hn, fun _ _ => hp, fun _ _ => hb,
    fun x => absurd (x.resolve_left (by decide)) n4, fun x => absurd (x.resolve_left (by decide)) n5, fun x => absurd (x.resolve_left (by decide)) n6, fun x => absurd (x.resolve_left (by decide)) n8⟩
theorem PJ.str (h : PJ w g lo hi gc gr b1 s vF vS cap LF LS S r W) (s3 : S 3) (n5 : ¬ S 5) (n6 : ¬ S 6) (n8 : ¬ S 8) :
    PJ w g lo hi gc gr b1 s vF vS cap LF LS (fun k => k = 4 ∨ S k) (upd r 4 (.string (strL (vT s)))) W :=
  ⟨fun x => h.a0 (x.resolve_left (by decide)), fun x => h.a1 (x.resolve_left (by decide)), fun x => h.a2 (x.resolve_left (by decide)), fun x => h.a7 (x.resolve_left (by decide)), fun hn => absurd (.inr s3) hn, fun _ _ => h.p3 s3 n6, fun _ hn => absurd (.inl rfl) hn,
    fun _ => rfl, fun x => absurd (x.resolve_left (by decide)) n5, fun x => absurd (x.resolve_left (by decide)) n6, fun x => absurd (x.resolve_left (by decide)) n8⟩
theorem PJ.row (h : PJ w g lo hi gc gr b1 s vF vS cap LF LS S r W) (s3 : S 3) (s4 : S 4) (n6 : ¬ S 6) (n8 : ¬ S 8) {q : Addr} {W' : World} (hb : Below W.heap.size W W') (hr : Rd encS W' (some q) 1 [strL (vT s)]) :
    PJ w g lo hi gc gr b1 s vF vS cap LF LS (fun k => k = 5 ∨ S k) (upd r 5 (.slice (some q) 1 1)) W' :=
  ⟨fun x => h.a0 (x.resolve_left (by decide)), fun x => h.a1 (x.resolve_left (by decide)), fun x => h.a2 (x.resolve_left (by decide)), fun x => h.a7 (x.resolve_left (by decide)), fun hn => absurd (.inr s3) hn, fun _ _ => (h.p3 s3 n6).below hb, fun _ hn => absurd (.inr s4) hn,
    fun x => h.b4 (x.resolve_left (by decide)), fun _ _ => ⟨q, rfl, hr⟩, fun x => absurd (x.resolve_left (by decide)) n6, fun x => absurd (x.resolve_left (by decide)) n8⟩
theorem PJ.app (h : PJ w g lo hi gc gr b1 s vF vS cap LF LS S r W) (s3 : S 3) (s4 : S 4) (n8 : ¬ S 8) {v : Value} {W' : World} (hp : PIh w g lo hi gc gr b1 (nT s) vF vS v cap LF (LS ++ [strL (vT s)]) W') :
    PJ w g lo hi gc gr b1 s vF vS cap LF LS (fun k => k = 6 ∨ S k) (upd r 6 v) W' :=
  ⟨fun x => h.a0 (x.resolve_left (by decide)), fun x => h.a1 (x.resolve_left (by decide)), fun x => h.a2 (x.resolve_left (by decide)), fun x => h.a7 (x.resolve_left (by decide)), fun hn => absurd (.inr s3) hn, fun _ hn => absurd (.inl rfl) hn, fun _ hn => absurd (.inr s4) hn,
    fun x => h.b4 (x.resolve_left (by decide)), fun _ hn => absurd (.inl rfl) hn, fun _ _ => hp, fun x => absurd (x.resolve_left (by decide)) n8⟩
theorem PJ.sto (h : PJ w g lo hi gc gr b1 s vF vS cap LF LS S r W) (s3 : S 3) (s4 : S 4) (s6 : S 6) (n8 : ¬ S 8) (u : Value) :
    PJ w g lo hi gc gr b1 s vF vS cap LF LS (fun k => k = 8 ∨ S k) (upd r 8 u) (W.setCell ⟨gc, 1, none⟩ (r 6)) :=
  ⟨fun x => h.a0 (x.resolve_left (by decide)), fun x => h.a1 (x.resolve_left (by decide)), fun x => h.a2 (x.resolve_left (by decide)), fun x => h.a7 (x.resolve_left (by decide)), fun hn => absurd (.inr s3) hn, fun _ hn => absurd (.inr s6) hn, fun _ hn => absurd (.inr s4) hn,
    fun x => h.b4 (x.resolve_left (by decide)), fun _ hn => absurd (.inr s6) hn, fun _ hn => absurd (.inl rfl) hn, fun _ => (h.p6 s6 n8).store⟩
end
end Go.Proofs.Ytbmdjmnjbflfeaa

/- What a way that was read is like; bytes compared. -/
namespace Go.Proofs.Ytbmdjmnjbflfeaa
open Go.RowKit Go.Shelf
set_option linter.unusedVariables false
set_option linter.unusedSimpArgs false

theorem strL_eq {a b : List Nat} (ha : Byt a) (hb : Byt b) : (strL a = strL b) ↔ a = b := ⟨fun h => strL_inj ha hb h, fun h => by rw [h]⟩
set_option maxRecDepth 100000 in
set_option maxHeartbeats 1000000 in
theorem bytesEqual_any (A : Option Addr) (n c : Nat) (a : List Nat) (B : Option Addr) (m d : Nat) (b : List Nat) (w : World) (ha : RdB w A n a) (hc : n ≤ c) (hb : RdB w B m b) (hd : m ≤ d) :
    Calls Try.prog 27 #[.slice A n c, .slice B m d] w fun e w' => e = .returned (.bool (decide (a = b))) ∧ w = w' := by
  have h1 := run_str w A n c a ha hc
  have h2 := run_str w B m d b hb hd
  obtain ⟨R, hR⟩ : ∃ R, R = decide (a = b) := ⟨_, rfl⟩
  have he : ((strL a).toList == (strL b).toList) = R := by
    rw [str_eqB, hR]
    exact decide_eq_decide.2 (strL_eq ha.byt hb.byt)
  rw [← hR]
  clear ha hb hR
  go_enter Try.func27, Try.ntmps27
  go_wp2
  go_ret
  exact ⟨rfl, rfl⟩
theorem rawL_byt2 {l : List Nat} (h : Byt l) (k : Nat) (e : Int) : Byt (rawL k l e).2.1 := by
  unfold rawL
  split
  · split
    · exact fun c hc => h c (List.mem_of_mem_drop hc)
    · exact h
  · exact h
theorem txtL_byt2 {l : List Nat} (h : Byt l) (e : Int) : Byt (txtL 255 l e).2.1 := by
  unfold txtL
  (repeat' split) <;> first | exact h | exact fun c hc => h c (List.mem_of_mem_drop hc)
theorem vT_len (s : Rs) : (vT s).length ≤ 255 := by
  unfold vT txtL
  (repeat' split) <;> simp only [List.length_nil, List.length_drop, List.length_take] <;> omega
theorem v2_lt' {s : Rs} (h : Byt s.1) : v2 s < 65536 := beN_rawL h (k := 2) (e := s.2)
theorem v1_lt' {s : Rs} (h : Byt s.1) : v1 s < 256 := beN_rawL h (k := 1) (e := s.2)
theorem n2_byt {s : Rs} (h : Byt s.1) : Byt (n2 s).1 := rawL_byt2 h 2 s.2
theorem n1_byt {s : Rs} (h : Byt s.1) : Byt (n1 s).1 := rawL_byt2 h 1 s.2
theorem nT_byt {s : Rs} (h : Byt s.1) : Byt (nT s).1 := txtL_byt2 h s.2
theorem foI_byt {s : Rs} (h : Byt s.1) : ∀ k, Byt (foI s k).2.1
  | 0 => h
  | k + 1 => n1_byt (n2_byt (n2_byt (foI_byt h k)))
theorem foI_wf {s : Rs} (h : Byt s.1) : ∀ k, wfT (foI s k).1
  | 0 => fun x hx => by cases hx
  | k + 1 => by
    intro x hx
    have hx : x ∈ (foI s k).1 ++ [(foS (foI s k).2).1] := hx
    rcases List.mem_append.1 hx with h1 | h1
    · exact foI_wf h k x h1
    · rw [List.mem_singleton] at h1
      subst h1
      have hb := foI_byt h k
      have a1 := v2_lt' hb
      have a2 := v2_lt' (n2_byt hb)
      have a3 := v1_lt' (n2_byt (n2_byt hb))
      unfold foS
      refine ⟨⟨?_, ?_⟩, ⟨?_, ?_⟩, ?_, ?_⟩ <;> simp only <;> omega
theorem stI_sz (s : Rs) : ∀ k, ∀ x ∈ (stI s k).1, x.size ≤ 255
  | 0, x, hx => by cases hx
  | k + 1, x, hx => by
    have hx : x ∈ (stI s k).1 ++ [strL (vT (stI s k).2)] := hx
    rcases List.mem_append.1 hx with h1 | h1
    · exact stI_sz s k x h1
    · rw [List.mem_singleton] at h1
      subst h1
      rw [strL_size]
      exact vT_len _
section
variable {w : World} {g lo hi gc gr b1 : Nat} {s : Rs} {vF vS : Value} {cap : Int} {LF : List Fo} {LS : List ByteArray} {W : World}
/-- The way that was read, read. -/
theorem PI.rdc (h : PI w g lo hi gc gr b1 s vF vS cap LF LS W) (hw : wfT LF) (hs : ∀ x ∈ LS, x.size ≤ 255) : ∃ (A : Option Addr) (n c : Nat) (B : Option Addr) (m d : Nat), vF = .slice A n c ∧ vS = .slice B m d ∧ RdC W A n c B m d ⟨LF, LS, cap⟩ := by
  obtain ⟨A, c, e1, h1, h2, h3⟩ := OwnK.rd encF_len h.oF
  obtain ⟨B, d, e2, k1, k2, k3⟩ := OwnL.rd h.oS
  exact ⟨A, _, c, B, _, d, e1, e2, ⟨RdK.t h3, k3, h1, h2, k1, k2, hw, fun s hs' => Nat.le_trans (hs s hs') (by decide)⟩⟩
theorem PI.rdc_set {A B : Option Addr} {n c m d : Nat} (h : PI w g lo hi gc gr b1 s (.slice A n c) (.slice B m d) cap LF LS W) {W' : World} (hg : W.grownBy W' (some gr)) (hw : wfT LF) (hs : ∀ x ∈ LS, x.size ≤ 255) : RdC W' A n c B m d ⟨LF, LS, cap⟩ := by
  have o := h.o1
  obtain ⟨A1, c1, e1, h1, h2, h3⟩ := OwnK.rd encF_len (OwnK.kept h.oF hg (rowK_ne h.oF (by omega)))
  obtain ⟨B1, d1, e2, k1, k2, k3⟩ := OwnL.rd (h.oS.kept hg (rowL_ne h.oS (by omega)))
  injection e1 with e3 e4 e5
  injection e2 with e6 e7 e8
  subst e3 e4 e5 e6 e7 e8
  exact ⟨RdK.t h3, k3, h1, h2, k1, k2, hw, fun s hs' => Nat.le_trans (hs s hs') (by decide)⟩
/-- A way is stored into the result's box. -/
theorem set3 {W : World} {k : Nat} {a b c : Value} {t : TypeId} (h : W.heap[k]? = some (.cells #[a, b, c] t (0, 0))) (x y z : Value) :
    (((W.setCell ⟨k, 0, none⟩ x).setCell ⟨k, 1, none⟩ y).setCell ⟨k, 2, none⟩ z).heap[k]? = some (.cells #[x, y, z] t (0, 0)) ∧ W.grownBy (((W.setCell ⟨k, 0, none⟩ x).setCell ⟨k, 1, none⟩ y).setCell ⟨k, 2, none⟩ z) (some k) := by
  refine ⟨by simp [World.setCell, Array.getElem?_modify, h], ?_⟩
  exact ((grown_setCell W ⟨k, 0, none⟩ x).trans (grown_setCell _ ⟨k, 1, none⟩ y)).trans (grown_setCell _ ⟨k, 2, none⟩ z)
theorem rdc_nil (W : World) : RdC W none 0 0 none 0 0 ⟨[], [], 0⟩ :=
  ⟨⟨rfl, by decide, fun h => by omega⟩, Rd.empty _, Nat.le_refl _, by decide, Nat.le_refl _, by decide, fun x hx => (by cases hx), fun s hs => (by cases hs)⟩
end
end Go.Proofs.Ytbmdjmnjbflfeaa

/- A way, read of its form. -/
namespace Go.Proofs.Ytbmdjmnjbflfeaa
open Go.RowKit Go.Shelf
set_option linter.unusedVariables false
set_option linter.unusedSimpArgs false

theorem stI_len (s : Rs) : ∀ k, (stI s k).1.length = k
  | 0 => rfl
  | k + 1 => by
    show ((stI s k).1 ++ [strL (vT (stI s k).2)]).length = k + 1
    rw [List.length_append, stI_len s k]
    rfl
theorem foI_len (s : Rs) : ∀ k, (foI s k).1.length = k
  | 0 => rfl
  | k + 1 => by
    show ((foI s k).1 ++ [(foS (foI s k).2).1]).length = k + 1
    rw [List.length_append, foI_len s k]
    rfl
set_option maxRecDepth 100000 in
set_option maxHeartbeats 8000000 in
theorem ParseW_any (A : Option Addr) (n c : Nat) (l : List Nat) (w : World) (hl : RdB w A n l) (hc : n ≤ c) (hc2 : c ≤ 9223372036854775807) (hn : n ≤ 1000) :
    Calls Try.prog 25 #[.slice A n c] w fun e w' => ∃ (A' : Option Addr) (n' c' : Nat) (B' : Option Addr) (m' d' : Nat), e = .returned (.tuple #[confV A' n' c' B' m' d' (parX l).1.cap, .int .i64 (parX l).2]) ∧ RdC w' A' n' c' B' m' d' (parX l).1 ∧ Below w.heap.size w w' := by
  have hz : ∀ (W : World) (d : Int), (Instr.build 25 #[(2, .int .i64 d)]).run Try.prog W = .ok (.agg #[.slice none 0 0, .slice none 0 0, .int .i64 d]) W := fun W d => run_build W 25 _ _ (by kernel_rfl)
  have hz2 : ∀ (W : World) (a b : Int), (Instr.build 84 #[(0, .int .i32 a), (1, .int .i32 b)]).run Try.prog W = .ok (.agg #[.int .i32 a, .int .i32 b, .int .i64 0]) W := fun W a b => run_build W 84 _ _ (by kernel_rfl)
  obtain ⟨gr, hgr⟩ : ∃ gr, gr = w.heap.size := ⟨_, rfl⟩
  obtain ⟨w1, hw1⟩ : ∃ w1, w1 = w.alloc (.cells #[.slice none 0 0, .slice none 0 0, .int .i64 0] 25) := ⟨_, rfl⟩
  have hb1 : Below w.heap.size w w1 := by rw [hw1]; exact (Below.refl _ _).alloc (Nat.le_refl _) _
  have hr1 : w1.heap[gr]? = some (.cells #[.slice none 0 0, .slice none 0 0, .int .i64 0] 25 (0, 0)) := by rw [hw1, hgr]; exact World.alloc_heap_new w _
  have CR := Lib.hid (Read_bs w1 (show BS w1 (.slice A n c) l from ⟨_, _, _, rfl, hc, hc2, hl.below hb1⟩) (by rw [hl.len]; omega))
  have HW1 := Lib.hid hw1
  have HB1 := Lib.hid hb1
  have HR1 := Lib.hid hr1
  have HGR := Lib.hid hgr
  have HS1 : Hid (w1.heap.size = gr + 1) := Lib.hid (by rw [hw1, hgr]; simp)
  have HL := Lib.hid hl
  clear hw1 hb1 hr1 hgr hl
  go_enter Try.func25, Try.ntmps25
  go_wp2_with fail
  rw [← HW1.out, ← HGR.out]
  clear HW1
  refine CR.out.mono ?_
  rintro e w2 ⟨g, rfl, hg, hrd, hb⟩
  have HG := Lib.hid hg
  have HB2 := Lib.hid (Below.thn HB1.out hb)
  have HR2 := Lib.hid ((hb.block gr (Array.getElem?_eq_some_iff.1 HR1.out).1).trans HR1.out)
  have HRD := Lib.hid hrd
  have HSB := Lib.hid hb.size
  have C1 := Lib.hid (show Calls Try.prog 54 #[.pointer (some ⟨g, 0, none⟩)] w2 fun e w' => e = .returned (.int .u8 (v1 (l, 0) : Nat)) ∧ Rdr w' g (n1 (l, 0)).1 (n1 (l, 0)).2 w1.heap.size g ∧ w2.grownBy w' (some g) from RU8_any hrd)
  have hv1 : v1 (l, 0) < 256 := beN_rawL hrd.byt (k := 1) (e := 0)
  obtain ⟨cN, hcN⟩ : ∃ cN, cN = v1 (l, 0) := ⟨_, rfl⟩
  rw [← hcN] at C1 hv1
  have hwc : IntKind.i64.wrap (cN : Int) = (cN : Int) := by rw [IntKind.wrap_i64]; omega
  have HCN := Lib.hid hcN
  clear hg hrd hb CR HB1 HR1 hcN
  go_wp2_with fail
  refine C1.out.mono ?_
  rintro e w3 ⟨rfl, hrd, hgb⟩
  -- the box of the way
  obtain ⟨gc, hgc⟩ : ∃ gc, gc = w3.heap.size := ⟨_, rfl⟩
  have hbx : Below w3.heap.size w3 (w3.alloc (.cells #[.slice none 0 0, .slice none 0 0, .int .i64 (cN : Nat)] 25)) := (Below.refl _ _).alloc (Nat.le_refl _) _
  have hcx := World.alloc_heap_new w3 (.cells #[.slice none 0 0, .slice none 0 0, .int .i64 (cN : Nat)] 25)
  obtain ⟨w4, hw4⟩ : ∃ w4, w4 = w3.alloc (.cells #[.slice none 0 0, .slice none 0 0, .int .i64 (cN : Nat)] 25) := ⟨_, rfl⟩
  have hs4 : w4.heap.size = w3.heap.size + 1 := by rw [hw4]; simp
  rw [← hw4] at hbx hcx
  rw [← hgc] at hcx
  have HP4 : Hid (PI w g w1.heap.size g gc gr (gc + 1) (n1 (l, 0)) (.slice none 0 0) (.slice none 0 0) (cN : Nat) [] [] w4) := Lib.hid (by
    have hs3 := hgb.size
    have hgl := HRD.out.lt
    refine ⟨hrd.below hbx, hcx, (hbx.block gr ?_).trans ((hgb.block gr (Array.getElem?_eq_some_iff.1 HR2.out).1 (fun e => ?_)).trans HR2.out), World.ownsRow_nil _ _ _ _, OwnL.nil _ _ _ _, Below.thn (HB2.out.grown hgb HB2.out.size (fun k hk => ?_)) hbx, ?_⟩
    · have := (Array.getElem?_eq_some_iff.1 HR2.out).1; omega
    · cases e; have := HG.out; have := HS1.out; omega
    · cases hk; have := HG.out; have := HS1.out; have := HGR.out; omega
    · have := HG.out; have := HS1.out; have := HGR.out; omega)
  have HW4 := Lib.hid hw4
  have HGC := Lib.hid hgc
  clear hbx hcx hw4 hs4 hgc hrd hgb C1 HRD HR2 HB2 HSB
  go_wp2_with fail
  rw [← HW4.out, ← HGC.out]
  clear HW4 HGC
  refine HP4.out.u8.mono ?_
  rintro e w5 ⟨rfl, hp5, _⟩
  obtain ⟨b1, hb1⟩ : ∃ b1, b1 = gc + 1 := ⟨_, rfl⟩
  obtain ⟨lo, hlo⟩ : ∃ lo, lo = w1.heap.size := ⟨_, rfl⟩
  obtain ⟨N, hN⟩ : ∃ N, N = v1 (n1 (l, 0)) := ⟨_, rfl⟩
  have hN256 : N < 256 := by rw [hN]; exact HP4.out.v1_lt
  obtain ⟨s2, hs2⟩ : ∃ s2, s2 = n1 (n1 (l, 0)) := ⟨_, rfl⟩
  rw [← hb1, ← hlo, ← hs2] at hp5
  rw [← hN]
  have HP5 := Lib.hid hp5
  have HN := Lib.hid hN
  have HS2 := Lib.hid hs2
  clear hp5 hb1 hlo hN hs2 HP4
  go_wp2_with fail
  go_loopw [17] (fun y wr => ∃ k : Nat, k ≤ N ∧ y = .int .u8 (k : Nat) ∧ ∃ (Af : Option Addr) (nf cf' : Nat), Hid (PI w g lo g gc gr b1 (foI s2 k).2 (.slice Af nf cf') (.slice none 0 0) (cN : Nat) (foI s2 k).1 [] wr)) (fun y _ => N - (intOf y).toNat)
  case atStart => exact ⟨0, Nat.zero_le _, rfl, none, 0, 0, HP5⟩
  case round =>
    obtain ⟨k, hk, rfl, Af, nf, cf', HP⟩ := hrel
    by_cases hlt : (k : Int) < (N : Int)
    · obtain ⟨s, hs⟩ : ∃ s, s = (foI s2 k).2 := ⟨_, rfl⟩
      obtain ⟨LF, hLF⟩ : ∃ LF, LF = (foI s2 k).1 := ⟨_, rfl⟩
      rw [← hs, ← hLF] at HP
      have HS := Lib.hid hs
      have HLF := Lib.hid hLF
      clear hs hLF
      go_wp2_with fail
      refine HP.out.u16.mono ?_
      rintro e w6 ⟨rfl, hp6, _⟩
      obtain ⟨p, hp⟩ : ∃ p, p = v2 s := ⟨_, rfl⟩
      have hp16 : p < 65536 := by rw [hp]; exact HP.out.v2_lt
      have hwp : IntKind.i32.wrap (p : Int) = (p : Int) := by rw [IntKind.wrap_i32]; omega
      rw [← hp]
      have HPE := Lib.hid hp
      have HP6 := Lib.hid hp6
      clear hp hp6
      go_wp2_with fail
      refine HP6.out.u16.mono ?_
      rintro e w7 ⟨rfl, hp7, _⟩
      obtain ⟨q, hq⟩ : ∃ q, q = v2 (n2 s) := ⟨_, rfl⟩
      have hq16 : q < 65536 := by rw [hq]; exact HP6.out.v2_lt
      have hwq : IntKind.i32.wrap (q : Int) = (q : Int) := by rw [IntKind.wrap_i32]; omega
      rw [← hq]
      have HQE := Lib.hid hq
      have HP7 := Lib.hid hp7
      clear hq hp7
      -- the range's box
      obtain ⟨gx, hgx⟩ : ∃ gx, gx = w7.heap.size := ⟨_, rfl⟩
      have hbx : Below w7.heap.size w7 (w7.alloc (.cells #[.int .i32 (p : Nat), .int .i32 (q : Nat), .int .i64 0] 84)) := (Below.refl _ _).alloc (Nat.le_refl _) _
      have hcx := World.alloc_heap_new w7 (.cells #[.int .i32 (p : Nat), .int .i32 (q : Nat), .int .i64 0] 84)
      obtain ⟨w8, hw8⟩ : ∃ w8, w8 = w7.alloc (.cells #[.int .i32 (p : Nat), .int .i32 (q : Nat), .int .i64 0] 84) := ⟨_, rfl⟩
      rw [← hw8] at hbx hcx
      rw [← hgx] at hcx
      have HP8 := Lib.hid (HP7.out.below hbx)
      have HX8 := Lib.hid hcx
      have HW8 := Lib.hid hw8
      have HGX := Lib.hid hgx
      clear hbx hcx hw8 hgx
      go_wp2_with fail
      rw [← HW8.out, ← HGX.out]
      clear HW8
      refine HP8.out.u8.mono ?_
      rintro e w9 ⟨rfl, hp9, hg9⟩
      obtain ⟨r, hr⟩ : ∃ r, r = v1 (n2 (n2 s)) := ⟨_, rfl⟩
      have hr8 : r < 256 := by rw [hr]; exact HP8.out.v1_lt
      have hwr : IntKind.i64.wrap (r : Int) = (r : Int) := by rw [IntKind.wrap_i64]; omega
      rw [← hr]
      have HRE := Lib.hid hr
      have hgb : b1 ≤ gx := by have := HP7.out.o1; have := HGX.out; omega
      have HGB := Lib.hid hgb
      have hx9 : w9.heap[gx]? = some (.cells #[.int .i32 (p : Nat), .int .i32 (q : Nat), .int .i64 0] 84 (0, 0)) := (hg9.block gx (Array.getElem?_eq_some_iff.1 HX8.out).1 (fun e => by cases e; have := HP7.out.o1; omega)).trans HX8.out
      have HNE : Hid ((Value.slice Af nf cf').ownBlock ≠ some gx) := Lib.hid (fun e => by
        have := (OwnK.base HP7.out.oF gx e).2
        have := HGX.out
        omega)
      have HP10 := Lib.hid (hp9.setx gx 2 (.int .i64 ((r : Int) + 1)) hgb HNE.out (by simp [Value.ownBlock]))
      have hx10 : (w9.setCell ⟨gx, 2, none⟩ (.int .i64 ((r : Int) + 1))).heap[gx]? = some (.cells #[.int .i32 (p : Nat), .int .i32 (q : Nat), .int .i64 ((r : Int) + 1)] 84 (0, 0)) := by simp [World.setCell, Array.getElem?_modify, hx9]
      obtain ⟨x0, x1, x2⟩ := cells3 hx9
      have xf : w9.frozen? ⟨gx, 2, none⟩ = false := by simp [World.frozen?, hx9]
      obtain ⟨y0, y1, y2⟩ := cells3 hx10
      obtain ⟨z0, z1, z2⟩ := cells3 HP10.out.bx
      obtain ⟨wS, hwS⟩ : ∃ wS, wS = w9.setCell ⟨gx, 2, none⟩ (.int .i64 ((r : Int) + 1)) := ⟨_, rfl⟩
      rw [← hwS] at HP10
      have hbT : Below wS.heap.size wS (wS.alloc (.cells #[.int .i32 (p : Nat), .int .i32 (q : Nat), .int .i64 ((r : Int) + 1)] 84)) := (Below.refl _ _).alloc (Nat.le_refl _) _
      have HP11 := Lib.hid (HP10.out.below hbT)
      obtain ⟨A7, c7, e7, l7, m7, _⟩ := OwnK.rd encF_len HP10.out.oF
      have hnl : nf = LF.length := by injection e7
      have hlk : LF.length = k := by
        rw [HLF.out]
        exact foI_len s2 k
      have hrd := RdK.one (enc := encF) (sz := 3) wS 84 ((p : Nat), (q : Nat), (r : Int) + 1) #[.int .i32 (p : Nat), .int .i32 (q : Nat), .int .i64 ((r : Int) + 1)] (0, 0) rfl rfl
      obtain ⟨v35, w12, r35, o35, g35, _⟩ := run_append_rdK (P := Try.prog) (c := 1) b1 22 22 84 (.agg #[.int .i32 0, .int .i32 0, .int .i64 0]) 16 Try.underlying22 infoF rfl (by decide) (by decide) encF_len (fun x u h => encF_one x u h) HP11.out.oF hrd (by omega) (by have := HP11.out.o1; omega)
      obtain ⟨A8, c8, e8, l8, m8, _⟩ := OwnK.rd encF_len o35
      have hl8 : (LF ++ [(((p : Nat) : Int), ((q : Nat) : Int), (r : Int) + 1)]).length = k + 1 := by rw [List.length_append, hlk]; rfl
      rw [hl8] at e8 l8
      subst e8
      have HPN := Lib.hid (HP11.out.putF o35 g35 (fun k hk => by simp [Value.ownBlock] at hk))
      have hbx12 : w12.heap[gc]? = some (.cells #[.slice Af nf cf', .slice none 0 0, .int .i64 (cN : Nat)] 25 (0, 0)) := (g35.block gc (Array.getElem?_eq_some_iff.1 HP11.out.bx).1 (fun e => by have := (OwnK.base HP11.out.oF gc e.symm).1; have := HP11.out.o1; omega)).trans HP11.out.bx
      obtain ⟨q0, q1, q2⟩ := cells3 hbx12
      have qf : w12.frozen? ⟨gc, 0, none⟩ = false := by simp [World.frozen?, hbx12]
      have HST : Hid (foI s2 (k + 1) = (LF ++ [(((p : Nat) : Int), ((q : Nat) : Int), (r : Int) + 1)], n1 (n2 (n2 s)))) := Lib.hid (by
        show ((foI s2 k).1 ++ [(foS (foI s2 k).2).1], (foS (foI s2 k).2).2) = _
        rw [← HS.out, ← HLF.out, HPE.out, HQE.out, HRE.out]
        rfl)
      have HPZ : Hid (PI w g lo g gc gr b1 (foI s2 (k + 1)).2 (.slice A8 (k + 1) c8) (.slice none 0 0) (cN : Nat) (foI s2 (k + 1)).1 [] (w12.setCell ⟨gc, 0, none⟩ (.slice A8 (k + 1) c8))) := Lib.hid (by
        rw [HST.out]
        exact HPN.out)
      have hwk : IntKind.u8.wrap ((k : Int) + 1) = (k : Int) + 1 := by rw [IntKind.wrap_u8]; omega
      rw [hwS] at r35
      try simp only [World.size_alloc, World.size_setCell] at r35
      clear hr hgb hx9 hp9 hg9 hx10 hwS hbT e7 hnl hlk hrd o35 g35 hl8 hbx12
      go_wp2_with (at_builtin; refine wpl_append_run rfl _ _ _ rfl rfl rfl r35 ?_)
      exact ⟨⟨k + 1, by omega, by simp; try go_num, A8, k + 1, c8, HPZ⟩, by simp [intOf]; try omega⟩
    · obtain rfl : k = N := by omega
      obtain ⟨s3, hs3⟩ : ∃ s3, s3 = (foI s2 k).2 := ⟨_, rfl⟩
      obtain ⟨LF, hLF⟩ : ∃ LF, LF = (foI s2 k).1 := ⟨_, rfl⟩
      rw [← hs3, ← hLF] at HP
      have HS3 := Lib.hid hs3
      have HLF := Lib.hid hLF
      clear hs3 hLF hz2
      go_wp2_with fail
      refine HP.out.u8.mono ?_
      rintro e w6 ⟨rfl, hp6, _⟩
      obtain ⟨M, hM⟩ : ∃ M, M = v1 s3 := ⟨_, rfl⟩
      have hM256 : M < 256 := by rw [hM]; exact HP.out.v1_lt
      obtain ⟨s4, hs4⟩ : ∃ s4, s4 = n1 s3 := ⟨_, rfl⟩
      rw [← hM]
      rw [← hs4] at hp6
      have HME := Lib.hid hM
      have HS4 := Lib.hid hs4
      have HP6 := Lib.hid hp6
      clear hM hs4 hp6
      go_wp2_with fail
      go_loopw [40] (fun y wr => ∃ j : Nat, j ≤ M ∧ y = .int .u8 (j : Nat) ∧ ∃ (As : Option Addr) (ns cs : Nat), Hid (PI w g lo g gc gr b1 (stI s4 j).2 (.slice Af nf cf') (.slice As ns cs) (cN : Nat) LF (stI s4 j).1 wr)) (fun y _ => M - (intOf y).toNat)
      case atStart => exact ⟨0, Nat.zero_le _, rfl, none, 0, 0, HP6⟩
      case round =>
        obtain ⟨j, hj, rfl, As, ns, cs, HQ⟩ := hrel
        by_cases hjl : (j : Int) < (M : Int)
        · obtain ⟨s, hs⟩ : ∃ s, s = (stI s4 j).2 := ⟨_, rfl⟩
          obtain ⟨LS, hLS⟩ : ∃ LS, LS = (stI s4 j).1 := ⟨_, rfl⟩
          rw [← hs, ← hLS] at HQ
          have HS := Lib.hid hs
          have HLS := Lib.hid hLS
          clear hs hLS
          have hlj : LS.length = j := by
            rw [HLS.out]
            exact stI_len s4 j
          go_wp2_with fail
          refine wp_region_flowG (by kernel_rfl) (PJ w g lo g gc gr b1 s (.slice Af nf cf') (.slice As ns cs) (cN : Nat) LF LS) (fun r => ⟨fun h => h.elim, fun h => h.elim, fun h => h.elim, fun h => h.elim, fun _ => HQ.out.below (Below.drew (Below.refl _ _)), fun h => h.elim, fun h => h.elim, fun h => h.elim, fun h => h.elim, fun h => h.elim, fun h => h.elim⟩) (by kernel_rfl) (by kernel_rfl) ?_ ?_
          case refine_1 =>
            intro i o ho ρ y w2 S r hJ hnS hneeds hcl hreg hn hf hyb hyn
            have hi := (Array.getElem?_eq_some_iff.1 ho).1
            rcases Nat.lt_or_ge i 9 with hi2 | hi2
            case inr => simp at hi; omega
            obtain rfl | rfl | rfl | rfl | rfl | rfl | rfl | rfl | rfl : i = 0 ∨ i = 1 ∨ i = 2 ∨ i = 3 ∨ i = 4 ∨ i = 5 ∨ i = 6 ∨ i = 7 ∨ i = 8 := by omega
            · cases ho
              rw [if_pos (show Region.wanted _ y = true from rfl)]
              have f5 : ρ (.tmp 5) = .pointer (some ⟨gc, 0, none⟩) := hf 5 (by kernel_rfl)
              exact does_ok (v := .pointer (some ⟨gc, 1, none⟩)) (w' := w2) (by simp [go_sem, hreg.const, f5]) (hJ.pure (by decide) (by decide) (by decide) (by decide) (by decide) (fun _ => rfl) (fun h => by cases h) (fun h => by cases h) (fun h => by cases h))
            · cases ho
              rw [if_pos (show Region.wanted _ y = true from rfl)]
              have f42 : ρ (.tmp 42) = r 0 := hn 0 _ 42 rfl (by kernel_rfl) rfl
              rw [hJ.a0 (hneeds 0 (by kernel_rfl))] at f42
              have n6 : ¬ S 6 := fun h => hnS (hcl 6 _ rfl h 1 (by kernel_rfl))
              have hbx : w2.heap[gc]? = some (.cells #[.slice Af nf cf', .slice As ns cs, .int .i64 (cN : Nat)] 25 (0, 0)) := by
                by_cases h3 : S 3
                · exact (hJ.p3 h3 n6).bx
                · exact (hJ.p0 h3).bx
              have k1 := (cells3 hbx).2.1
              exact does_ok (v := .slice As ns cs) (w' := w2) (by simp [go_sem, hreg.const, f42, k1]) (hJ.pure (by decide) (by decide) (by decide) (by decide) (by decide) (fun h => by cases h) (fun _ => rfl) (fun h => by cases h) (fun h => by cases h))
            · cases ho
              rw [if_pos (show Region.wanted _ y = true from rfl)]
              have f4 : ρ (.tmp 4) = .pointer (some ⟨g, 0, none⟩) := hf 4 (by kernel_rfl)
              exact does_ok (v := .pointer (some ⟨g, 0, none⟩)) (w' := w2) (by simp [go_sem, hreg.const, f4]) (hJ.pure (by decide) (by decide) (by decide) (by decide) (by decide) (fun h => by cases h) (fun h => by cases h) (fun _ => rfl) (fun h => by cases h))
            · cases ho
              rw [if_pos (show Region.wanted _ y = true from rfl)]
              have f44 : ρ (.tmp 44) = r 2 := hn 2 _ 44 rfl (by kernel_rfl) rfl
              rw [hJ.a2 (hneeds 2 (by kernel_rfl))] at f44
              have n4 : ¬ S 4 := fun h => hnS (hcl 4 _ rfl h 3 (by kernel_rfl))
              have n5 : ¬ S 5 := fun h => n4 (hcl 5 _ rfl h 4 (by kernel_rfl))
              have n6 : ¬ S 6 := fun h => n5 (hcl 6 _ rfl h 5 (by kernel_rfl))
              have n8 : ¬ S 8 := fun h => n6 (hcl 8 _ rfl h 6 (by kernel_rfl))
              refine does_enter (f := 56) (args := #[.pointer (some ⟨g, 0, none⟩), .int .i64 255]) (w' := w2) (by simp [go_sem, hreg.func, hreg.const, f44]) ?_
              refine ((hJ.p0 hnS).txt).mono ?_
              rintro e w' ⟨v, rfl, hb, hp, _⟩
              exact ⟨_, rfl, hJ.call n4 n5 n6 n8 hp hb⟩
            · cases ho
              rw [if_pos (show Region.wanted _ y = true from rfl)]
              have s3 : S 3 := hneeds 3 (by kernel_rfl)
              have f45 : ρ (.tmp 45) = r 3 := hn 3 _ 45 rfl (by kernel_rfl) rfl
              have n5 : ¬ S 5 := fun h => hnS (hcl 5 _ rfl h 4 (by kernel_rfl))
              have n6 : ¬ S 6 := fun h => n5 (hcl 6 _ rfl h 5 (by kernel_rfl))
              have n8 : ¬ S 8 := fun h => n6 (hcl 8 _ rfl h 6 (by kernel_rfl))
              obtain ⟨A', n', c', e', h1, h2, h3, _⟩ := hJ.b3 s3 hnS
              rw [e'] at f45
              have hcv := run_str w2 A' n' c' (vT s) h3 h1
              exact does_ok (v := .string (strL (vT s))) (w' := w2) (by simp [go_sem, hreg.const, f45, hcv]) (hJ.str s3 n5 n6 n8)
            · cases ho
              rw [if_pos (show Region.wanted _ y = true from rfl)]
              have s4 : S 4 := hneeds 4 (by kernel_rfl)
              have s3 : S 3 := hcl 4 _ rfl s4 3 (by kernel_rfl)
              have f46 : ρ (.tmp 46) = r 4 := hn 4 _ 46 rfl (by kernel_rfl) rfl
              rw [hJ.b4 s4] at f46
              have n6 : ¬ S 6 := fun h => hnS (hcl 6 _ rfl h 5 (by kernel_rfl))
              have n8 : ¬ S 8 := fun h => n6 (hcl 8 _ rfl h 6 (by kernel_rfl))
              exact does_ok (v := .slice (some ⟨w2.heap.size, 0, none⟩) 1 1) (w' := w2.alloc (.cells #[.string (strL (vT s))] 9)) (by simp [go_sem, hreg.const, f46]) (hJ.row s3 s4 n6 n8 ((Below.refl _ _).alloc (Nat.le_refl _) _) (Rd.new w2 9 [strL (vT s)] #[.string (strL (vT s))] 1 (0, 0) (enc := encS) rfl rfl (by decide)))
            · cases ho
              rw [if_pos (show Region.wanted _ y = true from rfl)]
              have s5 : S 5 := hneeds 5 (by kernel_rfl)
              have s4 : S 4 := hcl 5 _ rfl s5 4 (by kernel_rfl)
              have s3 : S 3 := hcl 4 _ rfl s4 3 (by kernel_rfl)
              have f43 : ρ (.tmp 43) = r 1 := hn 1 _ 43 rfl (by kernel_rfl) rfl
              rw [hJ.a1 (hneeds 1 (by kernel_rfl))] at f43
              have f47 : ρ (.tmp 47) = r 5 := hn 5 _ 47 rfl (by kernel_rfl) rfl
              have n8 : ¬ S 8 := fun h => hnS (hcl 8 _ rfl h 6 (by kernel_rfl))
              obtain ⟨q, e5, hr5⟩ := hJ.b5 s5 hnS
              rw [e5] at f47
              have hp := hJ.p3 s3 hnS
              obtain ⟨v1, w6', r6, o6, g6⟩ := run_append_S (c := 1) b1 hp.oS hr5 (by rw [hlj]; omega) hp.o1.2.2.2.2.2.2
              exact does_ok (v := v1) (w' := w6') (by simp only [execOp, List.getElem_toArray, List.getElem_cons_succ, List.getElem_cons_zero, resolve, invoke, builtin, Sem.run_bind, Sem.run_pure, Result.andThen_ok, List.map_toArray, List.map_cons, List.map_nil, f43, f47, r6]) (hJ.app s3 s4 n8 (hp.half o6 g6))
            · cases ho
              rw [if_pos (show Region.wanted _ y = true from rfl)]
              have f5 : ρ (.tmp 5) = .pointer (some ⟨gc, 0, none⟩) := hf 5 (by kernel_rfl)
              exact does_ok (v := .pointer (some ⟨gc, 1, none⟩)) (w' := w2) (by simp [go_sem, hreg.const, f5]) (hJ.pure (by decide) (by decide) (by decide) (by decide) (by decide) (fun h => by cases h) (fun h => by cases h) (fun h => by cases h) (fun _ => rfl))
            · cases ho
              rw [if_pos (show Region.wanted _ y = true from rfl)]
              have s6 : S 6 := hneeds 6 (by kernel_rfl)
              have s5 : S 5 := hcl 6 _ rfl s6 5 (by kernel_rfl)
              have s4 : S 4 := hcl 5 _ rfl s5 4 (by kernel_rfl)
              have s3 : S 3 := hcl 4 _ rfl s4 3 (by kernel_rfl)
              have f48 : ρ (.tmp 48) = r 6 := hn 6 _ 48 rfl (by kernel_rfl) rfl
              have f49 : ρ (.tmp 49) = r 7 := hn 7 _ 49 rfl (by kernel_rfl) rfl
              rw [hJ.a7 (hneeds 7 (by kernel_rfl))] at f49
              have hp := hJ.p6 s6 hnS
              obtain ⟨A9, c9, e9, _, _, _⟩ := OwnL.rd hp.oS
              have k1 := (cells3 hp.bx).2.1
              have kf : w2.frozen? ⟨gc, 1, none⟩ = false := by simp [World.frozen?, hp.bx]
              have hj8 := hJ.sto s3 s4 s6 hnS undef
              rw [e9] at f48 hj8
              exact does_skip (w' := w2.setCell ⟨gc, 1, none⟩ (.slice A9 (LS ++ [strL (vT s)]).length c9)) (by simp [go_sem, f48, f49, k1, kf]) hj8
          case refine_2 =>
            intro a wz S r hJ hall hd3 hs hfacts hrest
            have hp8 := hJ.p8 (hall 8 (by decide))
            have ha := frame_of hd3 hs hrest [42, 43, 44, 45, 46, 47, 48, 49] (by kernel_rfl)
            simp only [List.foldl, List.setIfInBounds_toArray, List.set_cons_succ, List.set_cons_zero] at ha
            clear hd3 hs hfacts hrest hall hJ
            generalize a.tmps.getD = gg at ha
            subst ha
            obtain ⟨A9, c9, e9, _, _, _⟩ := OwnL.rd hp8.oS
            rw [e9] at hp8
            obtain ⟨n9, hn9⟩ : ∃ n9, n9 = (LS ++ [strL (vT s)]).length := ⟨_, rfl⟩
            rw [← hn9] at hp8
            have HPZ : Hid (PI w g lo g gc gr b1 (stI s4 (j + 1)).2 (.slice Af nf cf') (.slice A9 n9 c9) (cN : Nat) LF (stI s4 (j + 1)).1 wz) := Lib.hid (by
              show PI w g lo g gc gr b1 (nT (stI s4 j).2) (.slice Af nf cf') (.slice A9 n9 c9) (cN : Nat) LF ((stI s4 j).1 ++ [strL (vT (stI s4 j).2)]) wz
              rw [← HS.out, ← HLS.out]
              exact hp8)
            have hwj : IntKind.u8.wrap ((j : Int) + 1) = (j : Int) + 1 := by rw [IntKind.wrap_u8]; omega
            clear hp8 e9 hn9 hlj
            go_wp2
            exact ⟨⟨j + 1, by omega, by simp; try go_num, A9, n9, c9, HPZ⟩, by simp [intOf]; try omega⟩
        · obtain rfl : j = M := by omega
          obtain ⟨s5, hs5⟩ : ∃ s5, s5 = (stI s4 j).2 := ⟨_, rfl⟩
          obtain ⟨LS, hLS⟩ : ∃ LS, LS = (stI s4 j).1 := ⟨_, rfl⟩
          rw [← hs5, ← hLS] at HQ
          have HPR : Hid (prsW l = (⟨LF, LS, (cN : Nat)⟩, s5)) := Lib.hid (by
            rw [hs5, hLS, HS4.out, HLF.out, HS2.out, HCN.out, HME.out, HS3.out, HN.out, HS2.out]
            rfl)
          have HSZ := Lib.hid (show ∀ x ∈ LS, x.size ≤ 255 from fun x hx => stI_sz s4 j x (by rw [← hLS]; exact hx))
          clear hs5 hLS
          have CE := Lib.hid (End_any HQ.out.rd)
          obtain ⟨E, hE⟩ : ∃ E, E = endE s5.1 s5.2 := ⟨_, rfl⟩
          rw [← hE] at CE
          have HEE := Lib.hid hE
          clear hE
          have hz0 : ∀ (W : World), (Instr.build 25 #[]).run Try.prog W = .ok (.agg #[.slice none 0 0, .slice none 0 0, .int .i64 0]) W := fun W => run_build W 25 _ _ (by kernel_rfl)
          go_wp2_with fail
          refine CE.out.mono ?_
          rintro e w7 ⟨rfl, rfl⟩
          clear CE
          obtain ⟨z0, z1, z2⟩ := cells3 HQ.out.br
          obtain ⟨y0, y1, y2⟩ := cells3 HQ.out.bx
          have zf0 : wr.frozen? ⟨gr, 0, none⟩ = false := by simp [World.frozen?, HQ.out.br]
          have zf1 : wr.frozen? ⟨gr, 1, none⟩ = false := by simp [World.frozen?, HQ.out.br]
          have zf2 : wr.frozen? ⟨gr, 2, none⟩ = false := by simp [World.frozen?, HQ.out.br]
          by_cases h0 : E = 0
          · subst h0
            have hby := n1_byt (s := n1 (l, 0)) (n1_byt (s := (l, 0)) HL.out.byt)
            have hwf : wfT LF := by
              rw [HLF.out, HS2.out]
              exact foI_wf hby k
            obtain ⟨A1, m1, c1, B1, m2, d1, e1, e2, hrc⟩ := HQ.out.rdc hwf HSZ.out
            injection e1 with e3 e4 e5
            injection e2 with e6 e7 e8
            subst e3 e4 e5 e6 e7 e8
            have HRC := Lib.hid hrc
            have HWF := Lib.hid hwf
            have CB := Lib.hid (BytesW_any Af nf cf' As ns cs ⟨LF, LS, (cN : Nat)⟩ wr hrc)
            obtain ⟨X, hX⟩ : ∃ X, X = bytX ⟨LF, LS, (cN : Nat)⟩ := ⟨_, rfl⟩
            rw [← hX] at CB
            have HXE := Lib.hid hX
            obtain ⟨xs, xe⟩ := X
            clear hby hwf hrc hX
            go_wp2_with fail
            refine CB.out.mono ?_
            rintro e w8 ⟨rv, rfl, ho, hb⟩
            have HB8 := Lib.hid (Below.thn HQ.out.be hb)
            have HR8 := Lib.hid ((hb.block gr (Array.getElem?_eq_some_iff.1 HQ.out.br).1).trans HQ.out.br)
            have HC8 := Lib.hid ((hb.block gc (Array.getElem?_eq_some_iff.1 HQ.out.bx).1).trans HQ.out.bx)
            have HQ8 := Lib.hid (HQ.out.below hb)
            obtain ⟨Ar, cr, er, lr, mr, hr7⟩ := OwnL.rd ho.1
            obtain ⟨nr, hnr⟩ : ∃ nr, nr = xs.length := ⟨_, rfl⟩
            rw [← hnr] at er lr hr7
            subst er
            have HXB : Hid (RdB w8 Ar nr xs) := Lib.hid ⟨hr7, ho.2⟩
            clear ho hb CB hr7 hnr z0 z1 z2 zf0 zf1 zf2 y0 y1 y2
            obtain ⟨z0, z1, z2⟩ := cells3 HR8.out
            obtain ⟨y0, y1, y2⟩ := cells3 HC8.out
            have zf0 : w8.frozen? ⟨gr, 0, none⟩ = false := by simp [World.frozen?, HR8.out]
            have zf1 : w8.frozen? ⟨gr, 1, none⟩ = false := by simp [World.frozen?, HR8.out]
            have zf2 : w8.frozen? ⟨gr, 2, none⟩ = false := by simp [World.frozen?, HR8.out]
            by_cases hxe : xe = 0
            · subst hxe
              have C27 := Lib.hid (bytesEqual_any Ar nr cr xs A n c l w8 HXB.out lr (HL.out.below HB8.out) hc)
              by_cases heq : xs = l
              · rw [decide_eq_true heq] at C27
                have HX : Hid (parX l = (⟨LF, LS, (cN : Nat)⟩, 0)) := Lib.hid (by
                  unfold parX
                  rw [HPR.out, if_pos ⟨HEE.out.symm, by rw [← HXE.out, heq]⟩])
                have hs3 := set3 HR8.out (.slice Af nf cf') (.slice As ns cs) (.int .i64 (cN : Nat))
                obtain ⟨r0, r1, r2⟩ := cells3 hs3.1
                have HBe := Lib.hid (HB8.out.grown hs3.2 HB8.out.size (fun k hk => by cases hk; have := HQ.out.o1; omega))
                have HGR2 := Lib.hid hs3.2
                clear heq hs3
                go_wp2_with fail
                refine C27.out.mono ?_
                rintro e w9 ⟨rfl, rfl⟩
                clear C27
                go_wp2_with fail
                refine bodyPost_ret (v := .tuple #[confV Af nf cf' As ns cs (cN : Nat), .int .i64 0]) (by simp [results, Try.results25, go_sem, r0, r1, r2]) rfl ⟨Af, nf, cf', As, ns, cs, by rw [HX.out], ?_, HBe.out⟩
                rw [HX.out]
                exact HQ8.out.rdc_set HGR2.out HWF.out HSZ.out
              · rw [decide_eq_false heq] at C27
                have HX : Hid (parX l = (⟨[], [], 0⟩, 140)) := Lib.hid (by
                  unfold parX
                  rw [HPR.out, if_neg (fun h => heq (by have := h.2; rw [← HXE.out] at this; exact congrArg Prod.fst this))])
                clear heq
                go_wp2_with fail
                refine C27.out.mono ?_
                rintro e w9 ⟨rfl, rfl⟩
                clear C27
                have hs3 := set3 HR8.out (.slice none 0 0) (.slice none 0 0) (.int .i64 0)
                obtain ⟨r0, r1, r2⟩ := cells3 hs3.1
                have HBe := Lib.hid (HB8.out.grown hs3.2 HB8.out.size (fun k hk => by cases hk; have := HQ.out.o1; omega))
                clear hs3
                go_wp2_with fail
                refine bodyPost_ret (v := .tuple #[.agg #[.slice none 0 0, .slice none 0 0, .int .i64 0], .int .i64 140]) (by simp [results, Try.results25, go_sem, r0, r1, r2]) rfl ⟨none, 0, 0, none, 0, 0, by rw [HX.out], ?_, HBe.out⟩
                rw [HX.out]
                exact rdc_nil _
            · have hxf : (xe == 0) = false := by simpa using hxe
              have HX : Hid (parX l = (⟨[], [], 0⟩, 140)) := Lib.hid (by
                unfold parX
                rw [HPR.out, if_neg (fun h => hxe (by have := h.2; rw [← HXE.out] at this; exact congrArg Prod.snd this))])
              have hs3 := set3 HR8.out (.slice none 0 0) (.slice none 0 0) (.int .i64 0)
              obtain ⟨r0, r1, r2⟩ := cells3 hs3.1
              have HBe := Lib.hid (HB8.out.grown hs3.2 HB8.out.size (fun k hk => by cases hk; have := HQ.out.o1; omega))
              clear hs3
              go_wp2_with fail
              refine bodyPost_ret (v := .tuple #[.agg #[.slice none 0 0, .slice none 0 0, .int .i64 0], .int .i64 140]) (by simp [results, Try.results25, go_sem, r0, r1, r2]) rfl ⟨none, 0, 0, none, 0, 0, by rw [HX.out], ?_, HBe.out⟩
              rw [HX.out]
              exact rdc_nil _
          · have h1 : (E == 0) = false := by simpa using h0
            have HX : Hid (parX l = (⟨[], [], 0⟩, 140)) := Lib.hid (by
              unfold parX
              rw [HPR.out, if_neg (fun h => h0 (by rw [HEE.out]; exact h.1))])
            have hs3 := set3 HQ.out.br (.slice none 0 0) (.slice none 0 0) (.int .i64 0)
            obtain ⟨r0, r1, r2⟩ := cells3 hs3.1
            have HBe := Lib.hid (HQ.out.be.grown hs3.2 HQ.out.be.size (fun k hk => by cases hk; have := HQ.out.o1; omega))
            clear hs3
            go_wp2_with fail
            refine bodyPost_ret (v := .tuple #[.agg #[.slice none 0 0, .slice none 0 0, .int .i64 0], .int .i64 140]) (by simp [results, Try.results25, go_sem, r0, r1, r2]) rfl ⟨none, 0, 0, none, 0, 0, by rw [HX.out], ?_, HBe.out⟩
            rw [HX.out]
            exact rdc_nil _
end Go.Proofs.Ytbmdjmnjbflfeaa
