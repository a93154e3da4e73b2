import Derived.Test.YtkkeodlnejckjaaGreatCut
import Derived.Test.YtkkeodlnejckjaaGreatOne
import Derived.Test.YtkkeodlnejckjaaGreatBox

/- What a text asks for: plain Lean. -/
namespace Go.Proofs.YtkkeodlnejckjaaGreat
open Go.RowKit
set_option linter.unusedVariables false
set_option linter.unusedSimpArgs false

/-- A part of a query. -/
abbrev QOp := Int × List ByteArray × List Int
/-- A phrase's places. -/
def offsK (p0 : Nat) (ts : List (ByteArray × Nat)) : List Int := ts.map fun t => (t.2 : Int) - (p0 : Int)
/-- What a row of bytes asks for. -/
noncomputable def asksG (cf : Cf) (b : List Nat) : Option QOp :=
  if (wordsL b).length = 0 ∨ 16 < (toksL cf b).length then none else match toksL cf b with
    | [] => some (4, [], [])
    | t :: ts => if (wordsL b).length = 1 then some (1, [t.1], []) else some (2, (t :: ts).map (fun x => x.1), offsK t.2 (t :: ts))
/-- What an item asks for. -/
noncomputable def itemG (cf : Cf) (b : List Nat) : Option QOp :=
  if b.length - 1 = 0 ∨ b.getD (b.length - 1) 0 ≠ 42 then asksG cf b else if (oneX cf (b.take (b.length - 1))).2 = 0 then some (3, [(oneX cf (b.take (b.length - 1))).1], []) else none
/-- What comes of reading: the place of a fault, or parts, and the pieces that are left. -/
inductive PRes
  | bad (a : Nat)
  | ok (o : List QOp) (r : List Pc)
abbrev opQ (k : Int) : QOp := (k, [], [])
/-- NOTs with AND, or nothing, between. -/
def allLoop (nf : List Pc → PRes) : Nat → List QOp → List Pc → PRes
  | 0, out, l => .ok out l
  | _ + 1, out, [] => .ok out []
  | f + 1, out, p :: r => if p.1 = 6 ∨ p.1 = 2 then .ok out (p :: r) else match nf (if p.1 = 5 then r else p :: r) with
    | .bad a => .bad a
    | .ok o l2 => allLoop nf f (out ++ o ++ [opQ 5]) l2
def allS (nf : List Pc → PRes) (l : List Pc) : PRes := match nf l with
  | .bad a => .bad a
  | .ok o l2 => allLoop nf (l.length + 1) o l2
/-- Alls with OR between. -/
def anyLoop (af : List Pc → PRes) : Nat → List QOp → List Pc → PRes
  | 0, out, l => .ok out l
  | _ + 1, out, [] => .ok out []
  | f + 1, out, p :: r => if p.1 = 6 then (match af r with
    | .bad a => .bad a
    | .ok o l2 => anyLoop af f (out ++ o ++ [opQ 6]) l2) else .ok out (p :: r)
def anyS (af : List Pc → PRes) (l : List Pc) : PRes := match af l with
  | .bad a => .bad a
  | .ok o l2 => anyLoop af (l.length + 1) o l2
/-- What stands in a bracket. -/
def brkS (T : Nat) (an : List Pc → PRes) (r : List Pc) : PRes := match an r with
  | .bad a => .bad a
  | .ok _ [] => .bad T
  | .ok o (q :: r2) => if q.1 = 2 then .ok o r2 else .bad q.2.1
def ofO (a : Nat) (r : List Pc) : Option QOp → PRes
  | some o => .ok [o] r
  | none => .bad a
/-- What comes; what is within is read by 'deep', if one may go deeper. -/
noncomputable def baseS (cf : Cf) (T : Nat) (deep : Option (List Pc → PRes)) : List Pc → PRes
  | [] => .bad T
  | p :: r => if p.1 = 7 then (match deep with
      | none => .bad p.2.1
      | some nf => match nf r with
        | .bad a => .bad a
        | .ok o l2 => .ok (o ++ [opQ 7]) l2) else if p.1 = 1 then (match deep with
      | none => .bad p.2.1
      | some nf => brkS T (anyS (allS nf)) r) else if p.1 = 3 then ofO p.2.1 r (asksG cf ((p.2.2.drop 1).take (p.2.2.length - 2))) else if p.1 = 8 then ofO p.2.1 r (itemG cf p.2.2) else .bad p.2.1
theorem baseS_cons (cf : Cf) (T : Nat) (deep : Option (List Pc → PRes)) (p : Pc) (r : List Pc) : baseS cf T deep (p :: r) = if p.1 = 7 then (match deep with
      | none => .bad p.2.1
      | some nf => match nf r with
        | .bad a => .bad a
        | .ok o l2 => .ok (o ++ [opQ 7]) l2) else if p.1 = 1 then (match deep with
      | none => .bad p.2.1
      | some nf => brkS T (anyS (allS nf)) r) else if p.1 = 3 then ofO p.2.1 r (asksG cf ((p.2.2.drop 1).take (p.2.2.length - 2))) else if p.1 = 8 then ofO p.2.1 r (itemG cf p.2.2) else .bad p.2.1 := rfl
noncomputable def notK (cf : Cf) (T : Nat) : Nat → List Pc → PRes
  | 0, l => baseS cf T none l
  | k + 1, l => baseS cf T (some fun l => notK cf T k l) l
noncomputable def anyK (cf : Cf) (T k : Nat) (l : List Pc) : PRes := anyS (allS (notK cf T k)) l
open Classical in
/-- What a text is read as. -/
noncomputable def parG (cf : Cf) (l : List Nat) : List QOp × Nat × Int :=
  if mayC cf then (if 200 < l.length then ([], 0, 3) else match anyK cf l.length 16 (piecesL l) with
    | .bad a => ([], a, 200)
    | .ok _ (p :: _) => ([], p.2.1, 200)
    | .ok o [] => (o, 0, 0)) else ([], 0, 140)

/-- Parts are few beside pieces. -/
def Eats (nf : List Pc → PRes) : Prop := ∀ l o r, nf l = .ok o r → o.length + 1 + 2 * r.length ≤ 2 * l.length
theorem allLoop_eats {nf : List Pc → PRes} (h : Eats nf) : ∀ (f : Nat) (out : List QOp) (l : List Pc) (o : List QOp) (r : List Pc), allLoop nf f out l = .ok o r → o.length + 2 * r.length ≤ out.length + 2 * l.length
  | 0, out, l, o, r, e => by
    unfold allLoop at e
    injection e with e1 e2
    subst e1 e2
    omega
  | f + 1, out, [], o, r, e => by
    unfold allLoop at e
    injection e with e1 e2
    subst e1 e2
    omega
  | f + 1, out, p :: l, o, r, e => by
    unfold allLoop at e
    by_cases hp : p.1 = 6 ∨ p.1 = 2
    · rw [if_pos hp] at e
      injection e with e1 e2
      subst e1 e2
      omega
    · rw [if_neg hp] at e
      cases hn : nf (if p.1 = 5 then l else p :: l) with
      | bad a => rw [hn] at e; cases e
      | ok o1 l2 =>
        rw [hn] at e
        have h1 := h _ _ _ hn
        have h2 := allLoop_eats h f _ l2 o r e
        have h3 : (if p.1 = 5 then l else p :: l).length ≤ l.length + 1 := by split <;> simp
        simp at h2
        simp
        omega
theorem allS_eats {nf : List Pc → PRes} (h : Eats nf) : Eats (allS nf) := fun l o r e => by
  unfold allS at e
  cases hn : nf l with
  | bad a => rw [hn] at e; cases e
  | ok o1 l2 =>
    rw [hn] at e
    have h1 := h _ _ _ hn
    have h2 := allLoop_eats h _ _ _ _ _ e
    omega
theorem anyLoop_eats {af : List Pc → PRes} (h : Eats af) : ∀ (f : Nat) (out : List QOp) (l : List Pc) (o : List QOp) (r : List Pc), anyLoop af f out l = .ok o r → o.length + 2 * r.length ≤ out.length + 2 * l.length
  | 0, out, l, o, r, e => by
    unfold anyLoop at e
    injection e with e1 e2
    subst e1 e2
    omega
  | f + 1, out, [], o, r, e => by
    unfold anyLoop at e
    injection e with e1 e2
    subst e1 e2
    omega
  | f + 1, out, p :: l, o, r, e => by
    unfold anyLoop at e
    by_cases hp : p.1 = 6
    · rw [if_pos hp] at e
      cases hn : af l with
      | bad a => rw [hn] at e; cases e
      | ok o1 l2 =>
        rw [hn] at e
        have h1 := h _ _ _ hn
        have h2 := anyLoop_eats h f _ l2 o r e
        simp at h2
        simp
        omega
    · rw [if_neg hp] at e
      injection e with e1 e2
      subst e1 e2
      omega
theorem anyS_eats {af : List Pc → PRes} (h : Eats af) : Eats (anyS af) := fun l o r e => by
  unfold anyS at e
  cases hn : af l with
  | bad a => rw [hn] at e; cases e
  | ok o1 l2 =>
    rw [hn] at e
    have h1 := h _ _ _ hn
    have h2 := anyLoop_eats h _ _ _ _ _ e
    omega
theorem brkS_eats {T : Nat} {an : List Pc → PRes} (h : Eats an) : Eats (brkS T an) := fun l o r e => by
  unfold brkS at e
  cases hn : an l with
  | bad a => rw [hn] at e; cases e
  | ok o1 l2 =>
    rw [hn] at e
    have h1 := h _ _ _ hn
    cases l2 with
    | nil => cases e
    | cons q r2 =>
      simp only at e
      by_cases hq : q.1 = 2
      · rw [if_pos hq] at e
        injection e with e1 e2
        subst e1 e2
        simp at h1
        omega
      · rw [if_neg hq] at e
        cases e
theorem ofO_eats {a : Nat} {r : List Pc} {x : Option QOp} {o : List QOp} {r' : List Pc} (e : ofO a r x = .ok o r') : o.length = 1 ∧ r' = r := by
  cases x with
  | none => cases e
  | some y =>
    unfold ofO at e
    injection e with e1 e2
    subst e1 e2
    exact ⟨rfl, rfl⟩
theorem baseS_eats {cf : Cf} {T : Nat} {deep : Option (List Pc → PRes)} (h : ∀ nf, deep = some nf → Eats nf) : Eats (baseS cf T deep) := fun l o r e => by
  cases l with
  | nil => cases e
  | cons p l =>
    rw [baseS_cons] at e
    by_cases h7 : p.1 = 7
    · rw [if_pos h7] at e
      cases deep with
      | none => cases e
      | some nf =>
        simp only at e
        cases hn : nf l with
        | bad a => rw [hn] at e; cases e
        | ok o1 l2 =>
          rw [hn] at e
          have h1 := h nf rfl _ _ _ hn
          injection e with e1 e2
          subst e1 e2
          simp
          omega
    rw [if_neg h7] at e
    by_cases h1 : p.1 = 1
    · rw [if_pos h1] at e
      cases deep with
      | none => cases e
      | some nf =>
        have := brkS_eats (T := T) (anyS_eats (allS_eats (h nf rfl))) l o r e
        simp
        omega
    rw [if_neg h1] at e
    by_cases h3 : p.1 = 3
    · rw [if_pos h3] at e
      obtain ⟨e1, e2⟩ := ofO_eats e
      subst e2
      simp
      omega
    rw [if_neg h3] at e
    by_cases h8 : p.1 = 8
    · rw [if_pos h8] at e
      obtain ⟨e1, e2⟩ := ofO_eats e
      subst e2
      simp
      omega
    rw [if_neg h8] at e
    cases e
theorem notK_eats (cf : Cf) (T : Nat) : ∀ k, Eats (notK cf T k)
  | 0 => by
    have : notK cf T 0 = baseS cf T none := by funext l; rfl
    rw [this]
    exact baseS_eats fun nf h => by cases h
  | k + 1 => by
    have : notK cf T (k + 1) = baseS cf T (some fun l => notK cf T k l) := by funext l; rfl
    rw [this]
    refine baseS_eats fun nf h => ?_
    injection h with h
    subst h
    exact notK_eats cf T k
end Go.Proofs.YtkkeodlnejckjaaGreat

/- A query's parts in memory. -/
namespace Go.Proofs.YtkkeodlnejckjaaGreat
open Go.RowKit Go.Shelf
set_option linter.unusedVariables false
set_option linter.unusedSimpArgs false

abbrev encI : Int → Value := fun x => .int .i64 x
theorem encI_one (x : Int) : (encI x).oneCell' = true := rfl
theorem encS_one (x : ByteArray) : (encS x).oneCell' = true := rfl
theorem infoI : (Tryz.prog.info? 3).map (fun i => (i.zero, i.size, i.bytes)) = some (some (.int .i64 0), 1, 8) := by kernel_rfl
theorem infoS : (Tryz.prog.info? 9).map (fun i => (i.zero, i.size, i.bytes)) = some (some (.string ⟨#[]⟩), 1, 16) := by kernel_rfl
theorem infoO : (Tryz.prog.info? 76).map (fun i => (i.zero, i.size, i.bytes)) = some (some (.agg #[.int .i64 0, .slice none 0 0, .slice none 0 0]), 3, 56) := by kernel_rfl
/-- A part, and its slices. -/
abbrev OpE := QOp × (Option Addr × Nat × Nat) × (Option Addr × Nat × Nat)
abbrev encO : OpE → List Value := fun x => [.int .i64 x.1.1, .slice x.2.1.1 x.2.1.2.1 x.2.1.2.2, .slice x.2.2.1 x.2.2.2.1 x.2.2.2.2]
theorem encO_len (x : OpE) : (encO x).length = 3 := rfl
theorem encO_one (x : OpE) : ∀ u ∈ encO x, u.oneCell' = true := by
  intro u hu
  simp at hu
  rcases hu with rfl | rfl | rfl <;> rfl
def RdOp (w : World) (x : OpE) : Prop := (x.2.1.2.1 ≤ x.2.1.2.2 ∧ x.2.1.2.2 ≤ 9223372036854775807 ∧ Rd encS w x.2.1.1 x.2.1.2.1 x.1.2.1) ∧ (x.2.2.2.1 ≤ x.2.2.2.2 ∧ x.2.2.2.2 ≤ 9223372036854775807 ∧ Rd encI w x.2.2.1 x.2.2.2.1 x.1.2.2)
def OwnOp (w : World) (base : Nat) (x : OpE) : Prop := OwnL encS 9 w base (.slice x.2.1.1 x.2.1.2.1 x.2.1.2.2) x.1.2.1 ∧ OwnL encI 3 w base (.slice x.2.2.1 x.2.2.2.1 x.2.2.2.2) x.1.2.2
theorem RdOp.below {w w' : World} {x : OpE} (h : RdOp w x) (hb : Below w.heap.size w w') : RdOp w' x := ⟨⟨h.1.1, h.1.2.1, h.1.2.2.below hb⟩, ⟨h.2.1, h.2.2.1, h.2.2.2.below hb⟩⟩
theorem ownL_parts {α : Type} {enc : α → Value} {e : TypeId} {w : World} {base : Nat} {A : Option Addr} {n c : Nat} {l : List α} (h : OwnL enc e w base (.slice A n c) l) : n ≤ c ∧ c ≤ 9223372036854775807 ∧ Rd enc w A n l := by
  obtain ⟨A', c', e1, h1, h2, h3⟩ := OwnL.rd h
  cases e1
  exact ⟨h1, h2, h3⟩
theorem OwnOp.rd {w : World} {base : Nat} {x : OpE} (h : OwnOp w base x) : RdOp w x := ⟨ownL_parts h.1, ownL_parts h.2⟩
theorem OwnOp.kept {w w' : World} {base : Nat} {x : OpE} (h : OwnOp w base x) {row : Option Nat} (hg : w.grownBy w' row) (h1 : ∀ k, row = some k → k < base) : OwnOp w' base x := by
  refine ⟨h.1.kept hg ?_, h.2.kept hg ?_⟩
  · cases hb : (Value.slice x.2.1.1 x.2.1.2.1 x.2.1.2.2).ownBlock with
    | none => exact .inl rfl
    | some k => right; intro e; have := h1 k e.symm; have := (h.1.base k hb).1; omega
  · cases hb : (Value.slice x.2.2.1 x.2.2.2.1 x.2.2.2.2).ownBlock with
    | none => exact .inl rfl
    | some k => right; intro e; have := h1 k e.symm; have := (h.2.base k hb).1; omega
theorem OwnOp.below {w w' : World} {base : Nat} {x : OpE} (h : OwnOp w base x) (hb : Below w.heap.size w w') : OwnOp w' base x := ⟨h.1.below hb, h.2.below hb⟩
theorem OwnOp.mono {w : World} {base base' : Nat} {x : OpE} (h : OwnOp w base x) (hb : base' ≤ base) : OwnOp w base' x := ⟨h.1.mono hb, h.2.mono hb⟩
/-- A row of another type grows. -/
theorem OwnOp.row {w w' : World} {base b2 : Nat} {x : OpE} (h : OwnOp w base x) {v : Value} {es : List OpE} (ho : OwnK encO 3 76 w b2 v es) (hg : w.grownBy w' v.ownBlock) : OwnOp w' base x :=
  ⟨h.1.kept hg (rows_apart h.1 ho (by decide)), h.2.kept hg (rows_apart h.2 ho (by decide))⟩
theorem OwnOp.nil (w : World) (base : Nat) (k : Int) : OwnOp w base (opQ k, (none, 0, 0), (none, 0, 0)) := ⟨OwnL.nil _ _ _ _, OwnL.nil _ _ _ _⟩

abbrev opsOf (es : List OpE) : List QOp := es.map fun x : OpE => x.1
/-- Parts that are read. -/
def RdO (w : World) (A : Option Addr) (n : Nat) (o : List QOp) : Prop := ∃ es : List OpE, RdK encO 3 w A n es ∧ opsOf es = o ∧ ∀ x ∈ es, RdOp w x
/-- Parts of the call's own. -/
def OwnO (w : World) (base : Nat) (v : Value) (o : List QOp) : Prop := ∃ es : List OpE, OwnK encO 3 76 w base v es ∧ opsOf es = o ∧ ∀ x ∈ es, OwnOp w base x
theorem RdO.below {w w' : World} {A : Option Addr} {n : Nat} {o : List QOp} (h : RdO w A n o) (hb : Below w.heap.size w w') : RdO w' A n o := by
  obtain ⟨es, h1, h2, h3⟩ := h
  exact ⟨es, h1.below hb, h2, fun x hx => (h3 x hx).below hb⟩
theorem OwnO.below {w w' : World} {base : Nat} {v : Value} {o : List QOp} (h : OwnO w base v o) (hb : Below w.heap.size w w') : OwnO w' base v o := by
  obtain ⟨es, h1, h2, h3⟩ := h
  exact ⟨es, h1.below hb, h2, fun x hx => (h3 x hx).below hb⟩
theorem OwnO.mono {w : World} {base base' : Nat} {v : Value} {o : List QOp} (h : OwnO w base v o) (hb : base' ≤ base) : OwnO w base' v o := by
  obtain ⟨es, h1, h2, h3⟩ := h
  exact ⟨es, h1.mono hb, h2, fun x hx => (h3 x hx).mono hb⟩
theorem ownK_kept {α : Type} {enc : α → List Value} {sz : Nat} {e : TypeId} {w w' : World} {base : Nat} {v : Value} {l : List α} (h : OwnK enc sz e w base v l) {row : Option Nat} (hg : w.grownBy w' row) (h1 : ∀ k, row = some k → k < base) : OwnK enc sz e w' base v l := h.kept hg (by
  cases hb : v.ownBlock with
  | none => exact .inl rfl
  | some k => right; intro e; have := h1 k e.symm; have := (h.base k hb).1; omega)
theorem OwnO.kept {w w' : World} {base : Nat} {v : Value} {o : List QOp} (h : OwnO w base v o) {row : Option Nat} (hg : w.grownBy w' row) (hr : ∀ k, row = some k → k < base) : OwnO w' base v o := by
  obtain ⟨es, h1, h2, h3⟩ := h
  exact ⟨es, ownK_kept h1 hg hr, h2, fun x hx => (h3 x hx).kept hg hr⟩
theorem OwnO.base {w : World} {base : Nat} {v : Value} {o : List QOp} (h : OwnO w base v o) (k : Nat) (hk : v.ownBlock = some k) : base ≤ k ∧ k < w.heap.size := by
  obtain ⟨es, h1, h2, h3⟩ := h
  exact h1.base k hk
theorem OwnO.nil (w : World) (base : Nat) : OwnO w base (.slice none 0 0) [] := ⟨[], OwnK.nil _ _ _ _ _, rfl, fun x hx => by cases hx⟩
theorem OwnO.rd {w : World} {base : Nat} {v : Value} {o : List QOp} (h : OwnO w base v o) : ∃ A c, v = .slice A o.length c ∧ o.length ≤ c ∧ c ≤ 9223372036854775807 ∧ RdO w A o.length o := by
  obtain ⟨es, h1, rfl, h3⟩ := h
  obtain ⟨A, c, e, h5, h6, h7⟩ := OwnK.rd encO_len h1
  have hl : (opsOf es).length = es.length := by simp
  rw [hl]
  exact ⟨A, c, e, h5, h6, es, h7, rfl, fun x hx => (h3 x hx).rd⟩
/-- Parts put behind parts. -/
theorem OwnO.append {w : World} {base b2 : Nat} {v : Value} {A : Option Addr} {m c : Nat} {xs ys : List QOp} (h : OwnO w base v xs) (h2 : OwnO w b2 (.slice A m c) ys) (hb : base ≤ b2) (hbase : base ≤ w.heap.size) (hl : xs.length ≤ 100000) (hl2 : ys.length ≤ 100000) :
    ∃ A' c' w', (Builtin.append_ #[29, 29] 29 #[v, .slice A m c]).run Tryz.prog w = .ok (.slice A' (xs.length + ys.length) c') w' ∧ OwnO w' base (.slice A' (xs.length + ys.length) c') (xs ++ ys) ∧ w.grownBy w' v.ownBlock ∧ xs.length + ys.length ≤ c' ∧ c' ≤ 9223372036854775807 := by
  obtain ⟨es, h1, rfl, h3⟩ := h
  obtain ⟨fs, h4, rfl, h6⟩ := h2
  obtain ⟨A1, c1, e1, _, _, hrd⟩ := OwnK.rd encO_len h4
  cases e1
  have hx : (opsOf es).length = es.length := by simp
  have hy : (opsOf fs).length = fs.length := by simp
  rw [hx] at hl
  rw [hy] at hl2
  rw [hx, hy]
  obtain ⟨v1, w', r, o, g, _⟩ := run_append_rdK (P := Tryz.prog) (c := c) base 29 29 76 _ 56 Tryz.underlying29 infoO rfl (by decide) (by decide) encO_len encO_one h1 hrd (by omega) hbase
  obtain ⟨A', c', e', g2, g3, _⟩ := OwnK.rd encO_len o
  have hlen : (es ++ fs).length = es.length + fs.length := by simp
  rw [hlen] at e' g2
  subst e'
  refine ⟨A', c', w', r, ⟨es ++ fs, o, by simp, fun x hx => ?_⟩, g, g2, g3⟩
  rcases List.mem_append.1 hx with h | h
  · exact (h3 x h).row h1 g
  · exact ((h6 x h).row h1 g).mono hb
/-- One part put behind parts. -/
theorem OwnO.push {w : World} {base : Nat} {v : Value} {xs : List QOp} (x : OpE) (C : Array Value) (hC : C = (encO x).toArray) (hx : OwnOp w base x) (h : OwnO w base v xs) (hbase : base ≤ w.heap.size) (hl : xs.length ≤ 1000000) :
    ∃ A' c' w', (Builtin.append_ #[29, 29] 29 #[v, .slice (some ⟨w.heap.size, 0, none⟩) 1 1]).run Tryz.prog (w.alloc (.cells C 76)) = .ok (.slice A' (xs.length + 1) c') w' ∧ OwnO w' base (.slice A' (xs.length + 1) c') (xs ++ [x.1]) ∧ w.grownBy w' v.ownBlock ∧ xs.length + 1 ≤ c' ∧ c' ≤ 9223372036854775807 := by
  obtain ⟨es, h1, rfl, h3⟩ := h
  have hxl : (opsOf es).length = es.length := by simp
  rw [hxl] at hl ⊢
  obtain ⟨A', c', w', r, o, h5, h6, g⟩ := push_K (P := Tryz.prog) base 29 76 _ 56 Tryz.underlying29 infoO rfl (by decide) (by decide) (by decide) encO_len encO_one x C hC h1 hbase hl
  refine ⟨A', c', w', r, ⟨es ++ [x], o, by simp, fun y hy => ?_⟩, g, h5, h6⟩
  rcases List.mem_append.1 hy with h | h
  · exact (h3 y h).row h1 g
  · simp only [List.mem_singleton] at h
    subst h
    exact hx.row h1 g
/-- A row of one part. -/
theorem OwnO.one {w : World} {base : Nat} (x : OpE) (C : Array Value) (hC : C = (encO x).toArray) (hx : OwnOp w base x) (hbase : base ≤ w.heap.size) : OwnO (w.alloc (.cells C 76)) base (.slice (some ⟨w.heap.size, 0, none⟩) 1 1) [x.1] :=
  ⟨[x], OwnK.lit encO_len w base _ [x] C 1 (by rw [hC]; simp) rfl hbase (by decide), rfl, fun y hy => by
    simp only [List.mem_singleton] at hy
    subst hy
    exact hx.below ((Below.refl _ _).alloc (Nat.le_refl _) _)⟩
end Go.Proofs.YtkkeodlnejckjaaGreat
