/- The document's reader: NOTs with AND between, these with OR between. -/
import Derived.Test.YtkkeodlnejckjaaGreatRefRdr
import Derived.Test.YtkkeodlnejckjaaGreatPar
import Derived.Deep.LoopGhost
import Derived.WalkSpells
namespace Go.Proofs.YtkkeodlnejckjaaGreat
open Go.RowKit Go.Shelf
set_option linter.unusedVariables false
set_option linter.unusedSimpArgs false

theorem kind_iff (b : List Nat) : (kindB b = 1 ↔ b = [40]) ∧ (kindB b = 2 ↔ b = [41]) ∧ (kindB b = 5 ↔ b = [65, 78, 68]) ∧ (kindB b = 6 ↔ b = [79, 82]) ∧ (kindB b = 7 ↔ b = [78, 79, 84]) := by
  by_cases h1 : b = [40]
  · subst h1; simp [kindB]
  by_cases h2 : b = [41]
  · subst h2; simp [kindB]
  by_cases h3 : b.getD 0 0 = 34
  · have e : kindB b = 3 ∨ kindB b = 4 := by
      unfold kindB
      rw [if_neg h1, if_neg h2, if_pos h3]
      split
      · exact .inr rfl
      · exact .inl rfl
    have n1 : b ≠ [65, 78, 68] := fun e => by subst e; simp at h3
    have n2 : b ≠ [79, 82] := fun e => by subst e; simp at h3
    have n3 : b ≠ [78, 79, 84] := fun e => by subst e; simp at h3
    rcases e with e | e <;> rw [e] <;> simp [h1, h2, n1, n2, n3]
  · have e : kindB b = wordK b := by
      unfold kindB
      rw [if_neg h1, if_neg h2, if_neg h3]
    rw [e]
    unfold wordK
    by_cases k1 : b = [65, 78, 68]
    · subst k1; simp
    by_cases k2 : b = [79, 82]
    · subst k2; simp
    by_cases k3 : b = [78, 79, 84]
    · subst k3; simp
    rw [if_neg k1, if_neg k2, if_neg k3]
    simp [h1, h2, k1, k2, k3]
/-- What a piece's bytes are told to be. -/
def StrF (s : ByteArray) (K : Nat) (emp : Bool) : Prop := (s.toList == ([] : List UInt8)) = emp ∧ (s.toList == ([79, 82] : List UInt8)) = decide (K = 6) ∧ (s.toList == ([41] : List UInt8)) = decide (K = 2) ∧ (s.toList == ([65, 78, 68] : List UInt8)) = decide (K = 5) ∧ (s.toList == ([78, 79, 84] : List UInt8)) = decide (K = 7) ∧ (s.toList == ([40] : List UInt8)) = decide (K = 1)
theorem strF_of {s : ByteArray} {b : List Nat} {K : Nat} {emp : Bool} (hs : s = strL b) (hb : Byt b) (h0 : emp = decide (b = [])) (h6 : K = 6 ↔ b = [79, 82]) (h2 : K = 2 ↔ b = [41]) (h5 : K = 5 ↔ b = [65, 78, 68]) (h7 : K = 7 ↔ b = [78, 79, 84]) (h1 : K = 1 ↔ b = [40]) : StrF s K emp := by
  have key : ∀ (k : List Nat) (u : List UInt8) (t : ByteArray), Byt k → t = strL k → t.toList = u → (s.toList == u) = decide (b = k) := fun k u t hk ht hu => by
    have := str_is hb hk hs ht
    rw [hu] at this
    exact this
  refine ⟨?_, ?_, ?_, ?_, ?_, ?_⟩
  · rw [h0]; exact key [] _ ⟨#[]⟩ Byt.nil rfl (Lib.toList_data _)
  · rw [decide_eq_decide.2 h6]; exact key [79, 82] _ ⟨#[79, 82]⟩ (by intro x hx; simp at hx; omega) rfl (Lib.toList_data _)
  · rw [decide_eq_decide.2 h2]; exact key [41] _ ⟨#[41]⟩ (by intro x hx; simp at hx; omega) rfl (Lib.toList_data _)
  · rw [decide_eq_decide.2 h5]; exact key [65, 78, 68] _ ⟨#[65, 78, 68]⟩ (by intro x hx; simp at hx; omega) rfl (Lib.toList_data _)
  · rw [decide_eq_decide.2 h7]; exact key [78, 79, 84] _ ⟨#[78, 79, 84]⟩ (by intro x hx; simp at hx; omega) rfl (Lib.toList_data _)
  · rw [decide_eq_decide.2 h1]; exact key [40] _ ⟨#[40]⟩ (by intro x hx; simp at hx; omega) rfl (Lib.toList_data _)
theorem QS.strF {E : RE} {W : World} {l : List Pc} {dp : Int} {at_ : Nat} (h : QS E W l dp false at_) (s : ByteArray) (hs : s = strL (headP E.T l).2.2) (hb : Byt (headP E.T l).2.2) : StrF s (headP E.T l).1 (decide (l = [])) := by
  by_cases hl : l = []
  · subst hl
    exact strF_of (b := []) hs Byt.nil rfl (by simp [headP]) (by simp [headP]) (by simp [headP]) (by simp [headP]) (by simp [headP])
  · obtain ⟨P, np, cp, i, h1, h2⟩ := h.box
    obtain ⟨k, _, hq⟩ := h2 rfl
    obtain ⟨_, _, _, _, _, _, _, _, _, hg, hk, _⟩ := hq.cons hl
    obtain ⟨i1, i2, i5, i6, i7⟩ := kind_iff (headP E.T l).2.2
    refine strF_of hs hb ?_ (by rw [hk]; exact i6) (by rw [hk]; exact i2) (by rw [hk]; exact i5) (by rw [hk]; exact i7) (by rw [hk]; exact i1)
    rw [decide_eq_false hl, decide_eq_false]
    intro e
    have := hg.2.1
    rw [e] at this
    simp at this
/-- How much is left to be read. -/
def lenQ (w : World) (g : Nat) : Nat := match w.cell? ⟨g, 7, none⟩ with
  | some (.int _ b) => if 0 ≤ b then 0 else (match w.cell? ⟨g, 3, none⟩, w.cell? ⟨g, 4, none⟩ with
    | some (.slice _ n _), some (.int _ i) => n - i.toNat + 1
    | _, _ => 0)
  | _ => 0
theorem QS.len {E : RE} {W : World} {l : List Pc} {dp : Int} {at_ : Nat} (h : QS E W l dp false at_) : lenQ W E.gb = l.length + 1 := by
  obtain ⟨P, np, cp, i, h1, h2⟩ := h.box
  obtain ⟨k, rfl, hq⟩ := h2 rfl
  obtain ⟨L, h3, _, h5, _⟩ := hq.lst
  have h6 := congrArg List.length h5
  rw [List.length_drop, List.length_map, h3.len] at h6
  unfold lenQ
  rw [h1.cell 7 _ rfl, h1.cell 3 _ rfl, h1.cell 4 _ rfl]
  simp
  omega
theorem QS.len_bad {E : RE} {W : World} {l : List Pc} {dp : Int} {at_ : Nat} (h : QS E W l dp true at_) : lenQ W E.gb = 0 := by
  obtain ⟨P, np, cp, i, h1, h2⟩ := h.box
  unfold lenQ
  rw [h1.cell 7 _ rfl]
  simp
/-- What the document's reader hands out. -/
def QRes (E : RE) (R : PRes) (b : Nat) (W : World) (dp : Int) (at_ : Nat) (e : Ending) (W' : World) : Prop :=
  ∃ (v : Value) (o : List QOp), e = .returned v ∧ OwnO W' W.heap.size v o ∧ o.length ≤ b ∧ W.grownBy W' (some E.gb) ∧ (match R with
    | .ok o' r => o = o' ∧ QS E W' r dp false at_
    | .bad a => ∃ l' dp', QS E W' l' dp' true a)
theorem QRes.bad {E : RE} {b : Nat} {W W' : World} {dp : Int} {at_ a : Nat} {l : List Pc} {dp' : Int} (hg : W.grownBy W' (some E.gb)) (h : QS E W' l dp' true a) : QRes E (.bad a) b W dp at_ (.returned (.slice none 0 0)) W' :=
  ⟨_, [], rfl, OwnO.nil _ _, Nat.zero_le _, hg, l, dp', h⟩
/-- What a loop has come to. -/
def QLpI (lp : Nat → List QOp → List Pc → PRes) (R : PRes) (E : RE) (W : World) (dp : Int) (at_ : Nat) (b : Nat) (wr : World) (v : Value) : Prop :=
  ∃ (o : List QOp) (l' : List Pc), OwnO wr W.heap.size v o ∧ W.grownBy wr (some E.gb) ∧
    ((QS E wr l' dp false at_ ∧ o.length + 1 + 2 * l'.length ≤ b ∧ ∃ f, l'.length < f ∧ lp f o l' = R) ∨ ∃ a dp', R = .bad a ∧ o.length ≤ b ∧ QS E wr l' dp' true a)
/-- Behind the first one. -/
theorem QLpI.start {nf : List Pc → PRes} (he : Eats nf) {lp : Nat → List QOp → List Pc → PRes} {E : RE} {W wr : World} {dp : Int} {at_ : Nat} {l : List Pc} {v : Value} (h : QRes E (nf l) (2 * l.length) W dp at_ (.returned v) wr) :
    QLpI lp (match nf l with
      | .bad a => .bad a
      | .ok o l2 => lp (l.length + 1) o l2) E W dp at_ (2 * l.length) wr v := by
  obtain ⟨v', o, e, ho, hol, hg, hm⟩ := h
  injection e with e
  subst e
  cases hn : nf l with
  | bad a =>
    rw [hn] at hm
    obtain ⟨l', dp', hr⟩ := hm
    exact ⟨o, l', ho, hg, .inr ⟨a, dp', rfl, hol, hr⟩⟩
  | ok o' r =>
    rw [hn] at hm
    obtain ⟨rfl, hr⟩ := hm
    have h1 := he _ _ _ hn
    exact ⟨o, r, ho, hg, .inl ⟨hr, h1, _, by omega, rfl⟩⟩
/-- What is put behind what was read, and one more. -/
theorem QLpI.step {nf : List Pc → PRes} (he : Eats nf) {lp : Nat → List QOp → List Pc → PRes} {R : PRes} {E : RE} {W W5 w8 : World} {dp : Int} {at_ b f : Nat} {o o2 : List QOp} {lx : List Pc} {v : Value} (kk : QOp)
    (hb : o.length + 1 + 2 * lx.length ≤ b) (hf : lx.length ≤ f) (hlp : (match nf lx with
      | .bad a => .bad a
      | .ok q l2 => lp f (o ++ q ++ [kk]) l2) = R) (hol2 : o2.length ≤ 2 * lx.length) (hO : OwnO w8 W.heap.size v (o ++ o2 ++ [kk])) (hG : W.grownBy w8 (some E.gb))
    (hm : match nf lx with
      | .ok o' r => o2 = o' ∧ QS E W5 r dp false at_
      | .bad a => ∃ l' dp', QS E W5 l' dp' true a)
    (hrow : ∀ {l'' : List Pc} {dq : Int} {wq : Bool} {aq : Nat}, QS E W5 l'' dq wq aq → QS E w8 l'' dq wq aq) : QLpI lp R E W dp at_ b w8 v ∧ lenQ w8 E.gb < lx.length + 1 := by
  cases hn : nf lx with
  | bad a =>
    rw [hn] at hm hlp
    obtain ⟨l', dp', hr⟩ := hm
    have hr8 := hrow hr
    refine ⟨⟨_, l', hO, hG, .inr ⟨a, dp', hlp.symm, ?_, hr8⟩⟩, by rw [hr8.len_bad]; omega⟩
    simp
    omega
  | ok o' r =>
    rw [hn] at hm hlp
    obtain ⟨rfl, hr⟩ := hm
    have hr8 := hrow hr
    have h1 := he _ _ _ hn
    refine ⟨⟨_, r, hO, hG, .inl ⟨hr8, ?_, f, by omega, hlp⟩⟩, by rw [hr8.len]; omega⟩
    simp
    omega
/-- At the loop's end. -/
theorem QLpI.done {R : PRes} {E : RE} {W w' : World} {dp : Int} {at_ b : Nat} {o : List QOp} {l' : List Pc} {v : Value} (hO : OwnO w' W.heap.size v o) (hG : W.grownBy w' (some E.gb)) (hb : o.length ≤ b) (hR : R = .ok o l') (hr : QS E w' l' dp false at_) : QRes E R b W dp at_ (.returned v) w' :=
  ⟨v, o, rfl, hO, hb, hG, by rw [hR]; exact ⟨rfl, hr⟩⟩
theorem QLpI.bad {R : PRes} {E : RE} {W wr : World} {dp dp' : Int} {at_ a b : Nat} {o : List QOp} {l' : List Pc} {v : Value} (hO : OwnO wr W.heap.size v o) (hG : W.grownBy wr (some E.gb)) (hb : o.length ≤ b) (hR : R = .bad a) (hr : QS E wr l' dp' true a) : QRes E R b W dp at_ (.returned v) wr :=
  ⟨v, o, rfl, hO, hb, hG, by rw [hR]; exact ⟨l', dp', hr⟩⟩
set_option maxRecDepth 100000 in
set_option maxHeartbeats 2000000 in
theorem qall_any (E : RE) (nf : List Pc → PRes) (he : Eats nf) (dp : Int) (HN : ∀ (W : World) (l : List Pc) (at_ : Nat), l.length ≤ 1000 → QS E W l dp false at_ → Calls Tryz.prog 81 #[.pointer (some ⟨E.gb, 0, none⟩)] W (QRes E (nf l) (2 * l.length) W dp at_))
    (W : World) (l : List Pc) (at_ : Nat) (hl : l.length ≤ 1000) (h : QS E W l dp false at_) :
    Calls Tryz.prog 61 #[.pointer (some ⟨E.gb, 0, none⟩)] W (QRes E (allS nf l) (2 * l.length) W dp at_) := by
  have C0 := Lib.hid (HN W l at_ hl h)
  have HGBL := Lib.hid h.gbl
  clear h
  go_enter Tryz.func61, Tryz.ntmps61
  go_wp2_with fail
  refine C0.out.mono ?_
  rintro e w1 h1
  have h1' := h1
  obtain ⟨v, _, rfl, _⟩ := h1'
  have HI : Hid (QLpI (allLoop nf) (allS nf l) E W dp at_ (2 * l.length) w1 v) := Lib.hid (QLpI.start he h1)
  clear h1 C0
  go_wp2_with fail
  go_loopw [3] (fun x wr => Hid (QLpI (allLoop nf) (allS nf l) E W dp at_ (2 * l.length) wr x)) (fun _ wr => lenQ wr E.gb)
  case atStart => exact HI
  case round =>
    obtain ⟨o, l', ho, hg, hs⟩ := hrel.out
    rcases hs with ⟨hr, hob, f, hf, hlp⟩ | ⟨a, dp', hR, hob, hr⟩
    case inr =>
      have y7 := hr.bad
      simp only [if_true] at y7
      have hlt : ¬ ((a : Int) < 0) := by omega
      have HE : Hid (QRes E (allS nf l) (2 * l.length) W dp at_ (.returned u3) wr) := Lib.hid (QLpI.bad ho hg hob hR hr)
      clear ho hg hr hR hrel
      go_wp2
      go_ret
      exact HE.out
    have HLEN := Lib.hid hr.len
    have y7 := hr.bad
    simp only [Bool.false_eq_true, if_false] at y7
    have hgbl0 := HGBL.out
    obtain ⟨f, rfl⟩ : ∃ g, f = g + 1 := ⟨f - 1, by omega⟩
    have CN := Lib.hid (qnext_any E wr l' dp at_ hr)
    have HF := Lib.hid hr.strF
    have HO1 := Lib.hid ho
    have HG1 := Lib.hid hg
    have HQS1 := Lib.hid hr
    clear ho hg hr hrel
    go_wp2_with fail
    refine CN.out.mono ?_
    rintro e W2 ⟨s, rfl, hs, hby, hb2⟩
    have HO := Lib.hid (HO1.out.below hb2)
    have HG := Lib.hid (HG1.out.trans (grown_below hb2 (some E.gb)))
    have HQS := Lib.hid (HQS1.out.bel hb2)
    obtain ⟨e0, e6, e2, e5, _, _⟩ := HF.out s hs hby
    clear CN HO1 HG1 HQS1 hs hby hb2 y7 HF
    cases l' with
    | nil =>
      rw [show decide (([] : List Pc) = []) = true from rfl] at e0
      have HE : Hid (QRes E (allS nf l) (2 * l.length) W dp at_ (.returned u3) W2) := Lib.hid (QLpI.done (o := o) HO.out HG.out (by omega) (by rw [← hlp]; rfl) HQS.out)
      clear HO HG HQS HLEN hlp
      go_wp2
      go_ret
      exact HE.out
    | cons p r =>
      rw [show decide (p :: r = ([] : List Pc)) = false from rfl] at e0
      by_cases h6 : p.1 = 6
      · rw [show decide ((headP E.T (p :: r)).1 = 6) = true from decide_eq_true h6] at e6
        clear e2 e5
        have HE : Hid (QRes E (allS nf l) (2 * l.length) W dp at_ (.returned u3) W2) := Lib.hid (QLpI.done (o := o) HO.out HG.out (by omega) (by rw [← hlp]; exact if_pos (.inl h6)) HQS.out)
        clear HO HG HQS HLEN hlp
        go_wp2
        go_ret
        exact HE.out
      rw [show decide ((headP E.T (p :: r)).1 = 6) = false from decide_eq_false h6] at e6
      by_cases h2 : p.1 = 2
      · rw [show decide ((headP E.T (p :: r)).1 = 2) = true from decide_eq_true h2] at e2
        clear e5
        have HE : Hid (QRes E (allS nf l) (2 * l.length) W dp at_ (.returned u3) W2) := Lib.hid (QLpI.done (o := o) HO.out HG.out (by omega) (by rw [← hlp]; exact if_pos (.inr h2)) HQS.out)
        clear HO HG HQS HLEN hlp
        go_wp2
        go_ret
        exact HE.out
      rw [show decide ((headP E.T (p :: r)).1 = 2) = false from decide_eq_false h2] at e2
      have hlp2 : allLoop nf (f + 1) o (p :: r) = (match nf (if p.1 = 5 then r else p :: r) with
        | .bad a => .bad a
        | .ok q l2 => allLoop nf f (o ++ q ++ [opQ 5]) l2) := if_neg (fun h => by rcases h with h | h; exact h6 h; exact h2 h)
      rw [hlp2] at hlp
      clear hlp2
      have hpl : (p :: r).length = r.length + 1 := rfl
      by_cases h5 : p.1 = 5
      · rw [show decide ((headP E.T (p :: r)).1 = 5) = true from decide_eq_true h5] at e5
        rw [if_pos h5] at hlp
        obtain ⟨ix, hix, x4, x4f, hadv, hga⟩ := HQS.out.adv (by simp)
        have hwx : wrap64 ((ix : Int) + 1) = (ix : Int) + 1 := by unfold wrap64; omega
        obtain ⟨W3, hW3⟩ : ∃ W3, W3 = W2.setCell ⟨E.gb, 4, none⟩ (.int .i64 ((ix : Int) + 1)) := ⟨_, rfl⟩
        rw [← hW3] at hadv hga
        have HW3 := Lib.hid hW3
        have HO1 := HO
        have HG1 := HG
        have HO := Lib.hid (HO1.out.kept hga (fun k hk => by have := HG1.out.size; injection hk with hk; omega))
        have HG := Lib.hid (HG1.out.trans hga)
        have HQS : Hid (QS E W3 r dp false at_) := Lib.hid hadv
        clear HO1 HG1 hga hadv hW3
        go_upto_region 7 with fail
        rw [← HW3.out]
        clear x4 x4f
        have HCN := Lib.hid (HN _ r at_ (by omega) HQS.out)
        go_wp2_with fail
        refine HCN.out.mono ?_
        rintro e W5 ⟨v2, o2, rfl, ho2, hol2, hg5, hm⟩
        obtain ⟨A2, c2, rfl, _⟩ := ho2.rd
        have hgW : W.heap.size ≤ W3.heap.size := HG.out.size
        have hgbW := HGBL.out
        have ho5 := HO.out.kept hg5 (fun k hk => by injection hk with hk; omega)
        obtain ⟨A7, c7, w7, r7, o7, g7, _, _⟩ := ho5.append (ho2.mono hgW) (Nat.le_refl _) (Nat.le_trans hgW hg5.size) (by omega) (by omega)
        obtain ⟨A8, c8, w8, r8, o8, g8, _, _⟩ := OwnO.push (opQ 5, (none, 0, 0), (none, 0, 0)) #[.int .i64 5, .slice none 0 0, .slice none 0 0] rfl (OwnOp.nil _ _ _) o7 (Nat.le_trans hgW (Nat.le_trans hg5.size g7.size)) (by rw [List.length_append]; omega)
        have hG8 : W.grownBy w8 (some E.gb) := grown_row (grown_row (HG.out.trans hg5) g7 (fun k hk => (ho5.base k hk).1)) g8 (fun k hk => (o7.base k hk).1)
        have hrow : ∀ {l'' : List Pc} {dq : Int} {wq : Bool} {aq : Nat}, QS E W5 l'' dq wq aq → QS E w8 l'' dq wq aq := fun h => (h.kept g7 (fun k hk => by have := (ho5.base k hk).1; omega)).kept g8 (fun k hk => by have := (o7.base k hk).1; omega)
        have hbd : ∀ W : World, (Instr.build 76 #[(0, .int .i64 5)]).run Tryz.prog W = .ok (.agg #[.int .i64 5, .slice none 0 0, .slice none 0 0]) W := fun W => run_build W 76 _ _ (by kernel_rfl)
        obtain ⟨n9, hn9⟩ : ∃ n9, n9 = o.length + o2.length := ⟨_, rfl⟩
        have hn8 : (o ++ o2).length = n9 := by rw [hn9, List.length_append]
        obtain ⟨n2, hn2⟩ : ∃ n2, n2 = o2.length := ⟨_, rfl⟩
        have HNX := QLpI.step he (opQ 5) (b := 2 * l.length) (by omega) (f := f) (lx := r) (by omega) hlp hol2 o8 hG8 hm hrow
        rw [hn8] at r8 HNX
        rw [← hn9] at r8
        rw [← hn9, ← hn2] at r7
        rw [← hn2]
        have HNX2 : Hid (QLpI (allLoop nf) (allS nf l) E W dp at_ (2 * l.length) w8 (.slice A8 (n9 + 1) c8) ∧ lenQ w8 E.gb < lenQ wr E.gb) := Lib.hid ⟨HNX.1, by have h1 := HNX.2; have h2 := HLEN.out; rw [h2]; omega⟩
        clear HCN ho2 hg5 hm ho5 o7 g7 o8 g8 hG8 hrow hn9 hn2 hn8 HNX hol2
        go_wp2_with (at_builtin; first | (refine wpl_append_run rfl _ _ _ rfl rfl rfl r7 ?_) | (refine wpl_append_run rfl _ _ _ rfl rfl rfl r8 ?_))
        exact ⟨HNX2.out.1, HNX2.out.2⟩
      · rw [show decide ((headP E.T (p :: r)).1 = 5) = false from decide_eq_false h5] at e5
        rw [if_neg h5] at hlp
        have HCN := Lib.hid (HN _ (p :: r) at_ (by omega) HQS.out)
        go_wp2_with fail
        refine HCN.out.mono ?_
        rintro e W5 ⟨v2, o2, rfl, ho2, hol2, hg5, hm⟩
        obtain ⟨A2, c2, rfl, _⟩ := ho2.rd
        have hgW : W.heap.size ≤ W2.heap.size := HG.out.size
        have hgbW := HGBL.out
        have ho5 := HO.out.kept hg5 (fun k hk => by injection hk with hk; omega)
        obtain ⟨A7, c7, w7, r7, o7, g7, _, _⟩ := ho5.append (ho2.mono hgW) (Nat.le_refl _) (Nat.le_trans hgW hg5.size) (by omega) (by omega)
        obtain ⟨A8, c8, w8, r8, o8, g8, _, _⟩ := OwnO.push (opQ 5, (none, 0, 0), (none, 0, 0)) #[.int .i64 5, .slice none 0 0, .slice none 0 0] rfl (OwnOp.nil _ _ _) o7 (Nat.le_trans hgW (Nat.le_trans hg5.size g7.size)) (by rw [List.length_append]; omega)
        have hG8 : W.grownBy w8 (some E.gb) := grown_row (grown_row (HG.out.trans hg5) g7 (fun k hk => (ho5.base k hk).1)) g8 (fun k hk => (o7.base k hk).1)
        have hrow : ∀ {l'' : List Pc} {dq : Int} {wq : Bool} {aq : Nat}, QS E W5 l'' dq wq aq → QS E w8 l'' dq wq aq := fun h => (h.kept g7 (fun k hk => by have := (ho5.base k hk).1; omega)).kept g8 (fun k hk => by have := (o7.base k hk).1; omega)
        have hbd : ∀ W : World, (Instr.build 76 #[(0, .int .i64 5)]).run Tryz.prog W = .ok (.agg #[.int .i64 5, .slice none 0 0, .slice none 0 0]) W := fun W => run_build W 76 _ _ (by kernel_rfl)
        obtain ⟨n9, hn9⟩ : ∃ n9, n9 = o.length + o2.length := ⟨_, rfl⟩
        have hn8 : (o ++ o2).length = n9 := by rw [hn9, List.length_append]
        obtain ⟨n2, hn2⟩ : ∃ n2, n2 = o2.length := ⟨_, rfl⟩
        have HNX := QLpI.step he (opQ 5) (b := 2 * l.length) (by omega) (f := f) (lx := (p :: r)) (by omega) hlp hol2 o8 hG8 hm hrow
        rw [hn8] at r8 HNX
        rw [← hn9] at r8
        rw [← hn9, ← hn2] at r7
        rw [← hn2]
        have HNX2 : Hid (QLpI (allLoop nf) (allS nf l) E W dp at_ (2 * l.length) w8 (.slice A8 (n9 + 1) c8) ∧ lenQ w8 E.gb < lenQ wr E.gb) := Lib.hid ⟨HNX.1, by have h1 := HNX.2; have h2 := HLEN.out; rw [h2]; omega⟩
        clear HCN ho2 hg5 hm ho5 o7 g7 o8 g8 hG8 hrow hn9 hn2 hn8 HNX hol2
        go_wp2_with (at_builtin; first | (refine wpl_append_run rfl _ _ _ rfl rfl rfl r7 ?_) | (refine wpl_append_run rfl _ _ _ rfl rfl rfl r8 ?_))
        exact ⟨HNX2.out.1, HNX2.out.2⟩
set_option maxRecDepth 100000 in
set_option maxHeartbeats 2000000 in
theorem qany_any (E : RE) (nf : List Pc → PRes) (he : Eats nf) (dp : Int) (HN : ∀ (W : World) (l : List Pc) (at_ : Nat), l.length ≤ 1000 → QS E W l dp false at_ → Calls Tryz.prog 61 #[.pointer (some ⟨E.gb, 0, none⟩)] W (QRes E (nf l) (2 * l.length) W dp at_))
    (W : World) (l : List Pc) (at_ : Nat) (hl : l.length ≤ 1000) (h : QS E W l dp false at_) :
    Calls Tryz.prog 36 #[.pointer (some ⟨E.gb, 0, none⟩)] W (QRes E (anyS nf l) (2 * l.length) W dp at_) := by
  have C0 := Lib.hid (HN W l at_ hl h)
  have HGBL := Lib.hid h.gbl
  clear h
  go_enter Tryz.func36, Tryz.ntmps36
  go_wp2_with fail
  refine C0.out.mono ?_
  rintro e w1 h1
  have h1' := h1
  obtain ⟨v, _, rfl, _⟩ := h1'
  have HI : Hid (QLpI (anyLoop nf) (anyS nf l) E W dp at_ (2 * l.length) w1 v) := Lib.hid (QLpI.start he h1)
  clear h1 C0
  go_wp2_with fail
  go_loopw [3] (fun x wr => Hid (QLpI (anyLoop nf) (anyS nf l) E W dp at_ (2 * l.length) wr x)) (fun _ wr => lenQ wr E.gb)
  case atStart => exact HI
  case round =>
    obtain ⟨o, l', ho, hg, hs⟩ := hrel.out
    rcases hs with ⟨hr, hob, f, hf, hlp⟩ | ⟨a, dp', hR, hob, hr⟩
    case inr =>
      have y7 := hr.bad
      simp only [if_true] at y7
      have hlt : ¬ ((a : Int) < 0) := by omega
      have HE : Hid (QRes E (anyS nf l) (2 * l.length) W dp at_ (.returned u3) wr) := Lib.hid (QLpI.bad ho hg hob hR hr)
      clear ho hg hr hR hrel
      go_wp2
      go_ret
      exact HE.out
    have HLEN := Lib.hid hr.len
    have y7 := hr.bad
    simp only [Bool.false_eq_true, if_false] at y7
    have hgbl0 := HGBL.out
    obtain ⟨f, rfl⟩ : ∃ g, f = g + 1 := ⟨f - 1, by omega⟩
    have CN := Lib.hid (qnext_any E wr l' dp at_ hr)
    have HF := Lib.hid hr.strF
    have HO1 := Lib.hid ho
    have HG1 := Lib.hid hg
    have HQS1 := Lib.hid hr
    clear ho hg hr hrel
    go_wp2_with fail
    refine CN.out.mono ?_
    rintro e W2 ⟨s, rfl, hs, hby, hb2⟩
    have HO := Lib.hid (HO1.out.below hb2)
    have HG := Lib.hid (HG1.out.trans (grown_below hb2 (some E.gb)))
    have HQS := Lib.hid (HQS1.out.bel hb2)
    obtain ⟨e0, e6, e2, e5, _, _⟩ := HF.out s hs hby
    clear CN HO1 HG1 HQS1 hs hby hb2 y7 HF
    cases l' with
    | nil =>
      rw [show decide ((headP E.T ([] : List Pc)).1 = 6) = false from rfl] at e6
      clear e0 e2 e5
      have HE : Hid (QRes E (anyS nf l) (2 * l.length) W dp at_ (.returned u3) W2) := Lib.hid (QLpI.done (o := o) HO.out HG.out (by omega) (by rw [← hlp]; rfl) HQS.out)
      clear HO HG HQS HLEN hlp
      go_wp2
      go_ret
      exact HE.out
    | cons p r =>
      clear e0 e2 e5
      by_cases h6 : p.1 = 6
      case neg =>
        rw [show decide ((headP E.T (p :: r)).1 = 6) = false from decide_eq_false h6] at e6
        have HE : Hid (QRes E (anyS nf l) (2 * l.length) W dp at_ (.returned u3) W2) := Lib.hid (QLpI.done (o := o) HO.out HG.out (by omega) (by rw [← hlp]; exact if_neg h6) HQS.out)
        clear HO HG HQS HLEN hlp
        go_wp2
        go_ret
        exact HE.out
      rw [show decide ((headP E.T (p :: r)).1 = 6) = true from decide_eq_true h6] at e6
      have hlp2 : anyLoop nf (f + 1) o (p :: r) = (match nf r with
        | .bad a => .bad a
        | .ok q l2 => anyLoop nf f (o ++ q ++ [opQ 6]) l2) := if_pos h6
      rw [hlp2] at hlp
      clear hlp2 h6
      have hpl : (p :: r).length = r.length + 1 := rfl
      obtain ⟨ix, hix, x4, x4f, hadv, hga⟩ := HQS.out.adv (by simp)
      have hwx : wrap64 ((ix : Int) + 1) = (ix : Int) + 1 := by unfold wrap64; omega
      obtain ⟨W3, hW3⟩ : ∃ W3, W3 = W2.setCell ⟨E.gb, 4, none⟩ (.int .i64 ((ix : Int) + 1)) := ⟨_, rfl⟩
      rw [← hW3] at hadv hga
      have HW3 := Lib.hid hW3
      have HO1 := HO
      have HG1 := HG
      have HO := Lib.hid (HO1.out.kept hga (fun k hk => by have := HG1.out.size; injection hk with hk; omega))
      have HG := Lib.hid (HG1.out.trans hga)
      have HQS : Hid (QS E W3 r dp false at_) := Lib.hid hadv
      clear HO1 HG1 hga hadv hW3
      go_upto_region 4 with fail
      rw [← HW3.out]
      clear x4 x4f
      have HCN := Lib.hid (HN _ r at_ (by omega) HQS.out)
      go_wp2_with fail
      refine HCN.out.mono ?_
      rintro e W5 ⟨v2, o2, rfl, ho2, hol2, hg5, hm⟩
      obtain ⟨A2, c2, rfl, _⟩ := ho2.rd
      have hgW : W.heap.size ≤ W3.heap.size := HG.out.size
      have hgbW := HGBL.out
      have ho5 := HO.out.kept hg5 (fun k hk => by injection hk with hk; omega)
      obtain ⟨A7, c7, w7, r7, o7, g7, _, _⟩ := ho5.append (ho2.mono hgW) (Nat.le_refl _) (Nat.le_trans hgW hg5.size) (by omega) (by omega)
      obtain ⟨A8, c8, w8, r8, o8, g8, _, _⟩ := OwnO.push (opQ 6, (none, 0, 0), (none, 0, 0)) #[.int .i64 6, .slice none 0 0, .slice none 0 0] rfl (OwnOp.nil _ _ _) o7 (Nat.le_trans hgW (Nat.le_trans hg5.size g7.size)) (by rw [List.length_append]; omega)
      have hG8 : W.grownBy w8 (some E.gb) := grown_row (grown_row (HG.out.trans hg5) g7 (fun k hk => (ho5.base k hk).1)) g8 (fun k hk => (o7.base k hk).1)
      have hrow : ∀ {l'' : List Pc} {dq : Int} {wq : Bool} {aq : Nat}, QS E W5 l'' dq wq aq → QS E w8 l'' dq wq aq := fun h => (h.kept g7 (fun k hk => by have := (ho5.base k hk).1; omega)).kept g8 (fun k hk => by have := (o7.base k hk).1; omega)
      have hbd : ∀ W : World, (Instr.build 76 #[(0, .int .i64 6)]).run Tryz.prog W = .ok (.agg #[.int .i64 6, .slice none 0 0, .slice none 0 0]) W := fun W => run_build W 76 _ _ (by kernel_rfl)
      obtain ⟨n9, hn9⟩ : ∃ n9, n9 = o.length + o2.length := ⟨_, rfl⟩
      have hn8 : (o ++ o2).length = n9 := by rw [hn9, List.length_append]
      obtain ⟨n2, hn2⟩ : ∃ n2, n2 = o2.length := ⟨_, rfl⟩
      have HNX := QLpI.step he (opQ 6) (b := 2 * l.length) (by omega) (f := f) (lx := r) (by omega) hlp hol2 o8 hG8 hm hrow
      rw [hn8] at r8 HNX
      rw [← hn9] at r8
      rw [← hn9, ← hn2] at r7
      rw [← hn2]
      have HNX2 : Hid (QLpI (anyLoop nf) (anyS nf l) E W dp at_ (2 * l.length) w8 (.slice A8 (n9 + 1) c8) ∧ lenQ w8 E.gb < lenQ wr E.gb) := Lib.hid ⟨HNX.1, by have h1 := HNX.2; have h2 := HLEN.out; rw [h2]; omega⟩
      clear HCN ho2 hg5 hm ho5 o7 g7 o8 g8 hG8 hrow hn9 hn2 hn8 HNX hol2
      go_wp2_with (at_builtin; first | (refine wpl_append_run rfl _ _ _ rfl rfl rfl r7 ?_) | (refine wpl_append_run rfl _ _ _ rfl rfl rfl r8 ?_))
      exact ⟨HNX2.out.1, HNX2.out.2⟩
end Go.Proofs.YtkkeodlnejckjaaGreat
