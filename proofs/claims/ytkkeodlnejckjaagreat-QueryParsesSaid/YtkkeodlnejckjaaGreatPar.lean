import Derived.Test.YtkkeodlnejckjaaGreatRdr
import Derived.Deep.LoopGhost
import Derived.WalkSpells
import Derived.Test.YtkkeodlnejckjaaGreatRefCk

/- NOTs with AND, or nothing, between: the code. -/
namespace Go.Proofs.YtkkeodlnejckjaaGreat
open Go.RowKit Go.Shelf
set_option linter.unusedVariables false
set_option linter.unusedSimpArgs false

theorem field_piece (a b c : Value) (W : World) : (Instr.field 66 (.agg #[a, b, c]) 0).run Tryz.prog W = .ok a W := by kernel_rfl
/-- How much is left to be read. -/
def lenAt (w : World) (g : Nat) : Nat := match w.cell? ⟨g, 5, none⟩ with
  | some (.bool true) => 0
  | _ => match w.cell? ⟨g, 3, none⟩ with
    | some (.slice _ n _) => n
    | _ => 0
theorem RS.len {E : RE} {W : World} {l : List Pc} {dp : Int} {at_ : Nat} (h : RS E W l dp false at_) : lenAt W E.gb = l.length + 1 := by
  obtain ⟨P, np, cp, h1, h2⟩ := h.box
  obtain ⟨L, h3, _, h5⟩ := h2.lst
  have h6 := congrArg List.length h5
  rw [List.length_map, h3.len] at h6
  unfold lenAt
  rw [h1.cell 5 _ rfl, h1.cell 3 _ rfl]
  simpa using h6
theorem RS.len_bad {E : RE} {W : World} {l : List Pc} {dp : Int} {at_ : Nat} (h : RS E W l dp true at_) : lenAt W E.gb = 0 := by
  obtain ⟨P, np, cp, h1, h2⟩ := h.box
  unfold lenAt
  rw [h1.cell 5 _ rfl]
theorem RS.wrong {E : RE} {W : World} {l : List Pc} {dp : Int} {wr : Bool} {at_ : Nat} (h : RS E W l dp wr at_) : W.cell? ⟨E.gb, 5, none⟩ = some (.bool wr) := by
  obtain ⟨P, np, cp, h1, h2⟩ := h.box
  exact h1.cell 5 _ rfl
theorem grown_row {W w1 w2 : World} {gb : Nat} {row : Option Nat} (h : W.grownBy w1 (some gb)) (h2 : w1.grownBy w2 row) (hr : ∀ k, row = some k → W.heap.size ≤ k) : W.grownBy w2 (some gb) :=
  ⟨h2.os.trans h.os, h2.tape.trans h.tape, h2.output.trans h.output, Nat.le_trans h.size h2.size, fun i hi hne => by
    rw [h2.block i (Nat.lt_of_lt_of_le hi h.size) (fun e => by have := hr i e.symm; omega), h.block i hi hne]⟩
/-- What a loop has come to. -/
def LpI (lp : Nat → List QOp → List Pc → PRes) (R : PRes) (E : RE) (W : World) (dp : Int) (at_ : Nat) (b : Nat) (wr : World) (v : Value) : Prop :=
  ∃ (o : List QOp) (l' : List Pc), OwnO wr W.heap.size v o ∧ W.grownBy wr (some E.gb) ∧
    ((RS E wr l' dp false at_ ∧ o.length + 1 + 2 * l'.length ≤ b ∧ ∃ f, l'.length < f ∧ lp f o l' = R) ∨ ∃ a dp', R = .bad a ∧ o.length ≤ b ∧ RS E wr l' dp' true a)
/-- Behind the first one. -/
theorem LpI.start {nf : List Pc → PRes} (he : Eats nf) {lp : Nat → List QOp → List Pc → PRes} {E : RE} {W wr : World} {dp : Int} {at_ : Nat} {l : List Pc} {v : Value} (h : RRes E (nf l) (2 * l.length) W dp at_ (.returned v) wr) :
    LpI lp (match nf l with
      | .bad a => .bad a
      | .ok o l2 => lp (l.length + 1) o l2) E W dp at_ (2 * l.length) wr v := by
  obtain ⟨v', o, e, ho, hol, hg, hm⟩ := h
  injection e with e
  subst e
  cases hn : nf l with
  | bad a =>
    rw [hn] at hm
    obtain ⟨l', dp', hr⟩ := hm
    exact ⟨o, l', ho, hg, .inr ⟨a, dp', rfl, hol, hr⟩⟩
  | ok o' r =>
    rw [hn] at hm
    obtain ⟨rfl, hr⟩ := hm
    have h1 := he _ _ _ hn
    exact ⟨o, r, ho, hg, .inl ⟨hr, h1, _, by omega, rfl⟩⟩
/-- What is put behind what was read, and one more. -/
theorem LpI.step {nf : List Pc → PRes} (he : Eats nf) {lp : Nat → List QOp → List Pc → PRes} {R : PRes} {E : RE} {W W5 w8 : World} {dp : Int} {at_ b f : Nat} {o o2 : List QOp} {lx : List Pc} {v : Value} (kk : QOp)
    (hb : o.length + 1 + 2 * lx.length ≤ b) (hf : lx.length ≤ f) (hlp : (match nf lx with
      | .bad a => .bad a
      | .ok q l2 => lp f (o ++ q ++ [kk]) l2) = R) (hol2 : o2.length ≤ 2 * lx.length) (hO : OwnO w8 W.heap.size v (o ++ o2 ++ [kk])) (hG : W.grownBy w8 (some E.gb))
    (hm : match nf lx with
      | .ok o' r => o2 = o' ∧ RS E W5 r dp false at_
      | .bad a => ∃ l' dp', RS E W5 l' dp' true a)
    (hrow : ∀ {l'' : List Pc} {dq : Int} {wq : Bool} {aq : Nat}, RS E W5 l'' dq wq aq → RS E w8 l'' dq wq aq) : LpI lp R E W dp at_ b w8 v ∧ lenAt w8 E.gb < lx.length + 1 := by
  cases hn : nf lx with
  | bad a =>
    rw [hn] at hm hlp
    obtain ⟨l', dp', hr⟩ := hm
    have hr8 := hrow hr
    refine ⟨⟨_, l', hO, hG, .inr ⟨a, dp', hlp.symm, ?_, hr8⟩⟩, by rw [hr8.len_bad]; omega⟩
    simp
    omega
  | ok o' r =>
    rw [hn] at hm hlp
    obtain ⟨rfl, hr⟩ := hm
    have hr8 := hrow hr
    have h1 := he _ _ _ hn
    refine ⟨⟨_, r, hO, hG, .inl ⟨hr8, ?_, f, by omega, hlp⟩⟩, by rw [hr8.len]; omega⟩
    simp
    omega
/-- At the loop's end. -/
theorem LpI.done {R : PRes} {E : RE} {W w' : World} {dp : Int} {at_ b : Nat} {o : List QOp} {l' : List Pc} {v : Value} (hO : OwnO w' W.heap.size v o) (hG : W.grownBy w' (some E.gb)) (hb : o.length ≤ b) (hR : R = .ok o l') (hr : RS E w' l' dp false at_) : RRes E R b W dp at_ (.returned v) w' :=
  ⟨v, o, rfl, hO, hb, hG, by rw [hR]; exact ⟨rfl, hr⟩⟩
theorem LpI.bad {R : PRes} {E : RE} {W wr : World} {dp dp' : Int} {at_ a b : Nat} {o : List QOp} {l' : List Pc} {v : Value} (hO : OwnO wr W.heap.size v o) (hG : W.grownBy wr (some E.gb)) (hb : o.length ≤ b) (hR : R = .bad a) (hr : RS E wr l' dp' true a) : RRes E R b W dp at_ (.returned v) wr :=
  ⟨v, o, rfl, hO, hb, hG, by rw [hR]; exact ⟨l', dp', hr⟩⟩
set_option maxRecDepth 100000 in
set_option maxHeartbeats 2000000 in
theorem all_any (E : RE) (nf : List Pc → PRes) (he : Eats nf) (dp : Int) (HN : ∀ (W : World) (l : List Pc) (at_ : Nat), l.length ≤ 1000 → RS E W l dp false at_ → Calls Tryz.prog 78 #[.pointer (some ⟨E.gb, 0, none⟩)] W (RRes E (nf l) (2 * l.length) W dp at_))
    (W : World) (l : List Pc) (at_ : Nat) (hl : l.length ≤ 1000) (h : RS E W l dp false at_) :
    Calls Tryz.prog 54 #[.pointer (some ⟨E.gb, 0, none⟩)] W (RRes E (allS nf l) (2 * l.length) W dp at_) := by
  have C0 := Lib.hid (HN W l at_ hl h)
  have HGBL := Lib.hid h.gbl
  obtain ⟨R, hR⟩ : ∃ R, R = allS nf l := ⟨_, rfl⟩
  clear h
  go_enter Tryz.func54, Tryz.ntmps54
  go_wp2_with fail
  go_step3
  go_wp2_with fail
  refine C0.out.mono ?_
  rintro e w1 h1
  have h1' := h1
  obtain ⟨v, _, rfl, _⟩ := h1'
  have HI : Hid (LpI (allLoop nf) (allS nf l) E W dp at_ (2 * l.length) w1 v) := Lib.hid (LpI.start he h1)
  clear h1 C0
  go_wp2_with fail
  go_step3
  go_wp2_with fail
  go_loopw [3] (fun x wr => Hid (LpI (allLoop nf) (allS nf l) E W dp at_ (2 * l.length) wr x)) (fun _ wr => lenAt wr E.gb)
  case atStart => exact HI
  case round =>
    obtain ⟨o, l', ho, hg, hs⟩ := hrel.out
    rcases hs with ⟨hr, hob, f, hf, hlp⟩ | ⟨a, dp', hR, hob, hr⟩
    case inr =>
      have y5 := hr.wrong
      have HE : Hid (RRes E (allS nf l) (2 * l.length) W dp at_ (.returned u3) wr) := Lib.hid (LpI.bad ho hg hob hR hr)
      clear ho hg hr hR hrel
      go_wp2
      go_ret
      exact HE.out
    have HLEN := Lib.hid hr.len
    have y5 := hr.wrong
    have hgbl0 := HGBL.out
    obtain ⟨f, rfl⟩ : ∃ g, f = g + 1 := ⟨f - 1, by omega⟩
    have CN := Lib.hid (next_any E wr l' dp false at_ hr)
    have HO1 := Lib.hid ho
    have HG1 := Lib.hid hg
    clear ho hg hr hrel
    go_wp2_with fail
    refine CN.out.mono ?_
    rintro e W2 ⟨v1, rfl, ⟨A', m', c', rfl, hok⟩, hg2, hr2⟩
    have HO := Lib.hid (HO1.out.kept hg2 (fun k hk => by injection hk with hk; omega))
    have HG := Lib.hid (HG1.out.trans hg2)
    have HRS := Lib.hid hr2
    obtain ⟨K, hK⟩ : ∃ K, K = (headP E.T l').1 := ⟨_, rfl⟩
    rw [← hK]
    obtain ⟨K2, hk2⟩ : ∃ K, K = (headP E.T l').2.1 := ⟨_, rfl⟩
    rw [← hk2]
    clear hk2
    have hfd : ∀ W : World, (Instr.field 66 (.agg #[.int .i64 (K : Nat), .int .i64 (K2 : Nat), .slice A' m' c']) 0).run Tryz.prog W = .ok (.int .i64 (K : Nat)) W := fun W => field_piece _ _ _ W
    clear CN HO1 HG1 hg2 hr2 hok y5
    cases l' with
    | nil =>
      have q0 : ((K : Int) == 0) = true := by rw [hK]; rfl
      clear hK
      have HE : Hid (RRes E (allS nf l) (2 * l.length) W dp at_ (.returned u3) W2) := Lib.hid (LpI.done (o := o) HO.out HG.out (by omega) (by rw [← hlp]; rfl) HRS.out)
      clear HO HG HRS HLEN hlp
      go_wp2
      go_ret
      exact HE.out
    | cons p r =>
      have hK2 : K = p.1 := hK
      have hne : ¬ K = 0 := by
        obtain ⟨_, _, _, _, h2⟩ := HRS.out.box
        rw [hK2]
        exact (h2.good p (by simp)).1
      have q0 : ((K : Int) == 0) = false := by simp; omega
      clear hK
      have HK2 := Lib.hid hK2
      clear hK2
      by_cases h6 : K = 6
      · have q6 : ((K : Int) == 6) = true := by rw [h6]; rfl
        have H6 := Lib.hid h6
        clear h6
        have HE : Hid (RRes E (allS nf l) (2 * l.length) W dp at_ (.returned u3) W2) := Lib.hid (LpI.done (o := o) HO.out HG.out (by omega) (by rw [← hlp]; exact if_pos (.inl (by rw [← HK2.out]; exact H6.out))) HRS.out)
        clear HO HG HRS HLEN hlp
        go_wp2
        go_ret
        exact HE.out
      have q6 : ((K : Int) == 6) = false := by simp; omega
      by_cases h2 : K = 2
      · have q2 : ((K : Int) == 2) = true := by rw [h2]; rfl
        have H2 := Lib.hid h2
        clear h2
        have HE : Hid (RRes E (allS nf l) (2 * l.length) W dp at_ (.returned u3) W2) := Lib.hid (LpI.done (o := o) HO.out HG.out (by omega) (by rw [← hlp]; exact if_pos (.inr (by rw [← HK2.out]; exact H2.out))) HRS.out)
        clear HO HG HRS HLEN hlp
        go_wp2
        go_ret
        exact HE.out
      have q2 : ((K : Int) == 2) = false := by simp; omega
      have hlp2 : allLoop nf (f + 1) o (p :: r) = (match nf (if p.1 = 5 then r else p :: r) with
        | .bad a => .bad a
        | .ok q l2 => allLoop nf f (o ++ q ++ [opQ 5]) l2) := if_neg (fun h => by rcases h with h | h; exact h6 (by rw [HK2.out]; exact h); exact h2 (by rw [HK2.out]; exact h))
      rw [hlp2] at hlp
      clear hlp2
      have hpl : (p :: r).length = r.length + 1 := rfl
      by_cases h5 : K = 5
      · have q5 : ((K : Int) == 5) = true := by rw [h5]; rfl
        have H5 := Lib.hid h5
        clear h5
        rw [if_pos (by rw [← HK2.out]; exact H5.out)] at hlp
        have CT := Lib.hid (take_any E W2 (p :: r) dp false at_ HRS.out)
        have HO1 := HO
        have HG1 := HG
        clear HO HG HRS
        go_wp2_with fail
        refine CT.out.mono ?_
        rintro e W3 ⟨v1, rfl, ⟨A'', m'', c'', rfl, hok⟩, hg2, hr2⟩
        have HO := Lib.hid (HO1.out.kept hg2 (fun k hk => by have := HG1.out.size; injection hk with hk; omega))
        have HG := Lib.hid (HG1.out.trans hg2)
        have HRS : Hid (RS E W3 r dp false at_) := Lib.hid hr2
        clear CT HO1 HG1 hg2 hr2 hok
        have HCN := Lib.hid (HN _ r at_ (by omega) HRS.out)
        go_wp2_with fail
        refine HCN.out.mono ?_
        rintro e W5 ⟨v2, o2, rfl, ho2, hol2, hg5, hm⟩
        obtain ⟨A2, c2, rfl, _⟩ := ho2.rd
        have hgW : W.heap.size ≤ W3.heap.size := HG.out.size
        have hgbW := HGBL.out
        have ho5 := HO.out.kept hg5 (fun k hk => by injection hk with hk; omega)
        obtain ⟨A7, c7, w7, r7, o7, g7, _, _⟩ := ho5.append (ho2.mono hgW) (Nat.le_refl _) (Nat.le_trans hgW hg5.size) (by omega) (by omega)
        obtain ⟨A8, c8, w8, r8, o8, g8, _, _⟩ := OwnO.push (opQ 5, (none, 0, 0), (none, 0, 0)) #[.int .i64 5, .slice none 0 0, .slice none 0 0] rfl (OwnOp.nil _ _ _) o7 (Nat.le_trans hgW (Nat.le_trans hg5.size g7.size)) (by rw [List.length_append]; omega)
        have hG8 : W.grownBy w8 (some E.gb) := grown_row (grown_row (HG.out.trans hg5) g7 (fun k hk => (ho5.base k hk).1)) g8 (fun k hk => (o7.base k hk).1)
        have hrow : ∀ {l'' : List Pc} {dq : Int} {wq : Bool} {aq : Nat}, RS E W5 l'' dq wq aq → RS E w8 l'' dq wq aq := fun h => (h.kept g7 (fun k hk => by have := (ho5.base k hk).1; omega)).kept g8 (fun k hk => by have := (o7.base k hk).1; omega)
        have hbd : ∀ W : World, (Instr.build 76 #[(0, .int .i64 5)]).run Tryz.prog W = .ok (.agg #[.int .i64 5, .slice none 0 0, .slice none 0 0]) W := fun W => run_build W 76 _ _ (by kernel_rfl)
        obtain ⟨n9, hn9⟩ : ∃ n9, n9 = o.length + o2.length := ⟨_, rfl⟩
        have hn8 : (o ++ o2).length = n9 := by rw [hn9, List.length_append]
        obtain ⟨n2, hn2⟩ : ∃ n2, n2 = o2.length := ⟨_, rfl⟩
        have HNX := LpI.step he (opQ 5) (b := 2 * l.length) (by omega) (f := f) (lx := r) (by omega) hlp hol2 o8 hG8 hm hrow
        rw [hn8] at r8 HNX
        rw [← hn9] at r8
        rw [← hn9, ← hn2] at r7
        rw [← hn2]
        have HNX2 : Hid (LpI (allLoop nf) (allS nf l) E W dp at_ (2 * l.length) w8 (.slice A8 (n9 + 1) c8) ∧ lenAt w8 E.gb < lenAt wr E.gb) := Lib.hid ⟨HNX.1, by have h1 := HNX.2; have h2 := HLEN.out; rw [h2]; omega⟩
        clear HCN ho2 hg5 hm ho5 o7 g7 o8 g8 hG8 hrow hn9 hn2 hn8 HNX hol2
        go_wp2_with (at_builtin; first | (refine wpl_append_run rfl _ _ _ rfl rfl rfl r7 ?_) | (refine wpl_append_run rfl _ _ _ rfl rfl rfl r8 ?_))
        exact ⟨HNX2.out.1, HNX2.out.2⟩
      · have q5 : ((K : Int) == 5) = false := by simp; omega
        rw [if_neg (fun h => h5 (by rw [HK2.out]; exact h))] at hlp
        have HCN := Lib.hid (HN _ (p :: r) at_ (by omega) HRS.out)
        go_wp2_with fail
        refine HCN.out.mono ?_
        rintro e W5 ⟨v2, o2, rfl, ho2, hol2, hg5, hm⟩
        obtain ⟨A2, c2, rfl, _⟩ := ho2.rd
        have hgW : W.heap.size ≤ W2.heap.size := HG.out.size
        have hgbW := HGBL.out
        have ho5 := HO.out.kept hg5 (fun k hk => by injection hk with hk; omega)
        obtain ⟨A7, c7, w7, r7, o7, g7, _, _⟩ := ho5.append (ho2.mono hgW) (Nat.le_refl _) (Nat.le_trans hgW hg5.size) (by omega) (by omega)
        obtain ⟨A8, c8, w8, r8, o8, g8, _, _⟩ := OwnO.push (opQ 5, (none, 0, 0), (none, 0, 0)) #[.int .i64 5, .slice none 0 0, .slice none 0 0] rfl (OwnOp.nil _ _ _) o7 (Nat.le_trans hgW (Nat.le_trans hg5.size g7.size)) (by rw [List.length_append]; omega)
        have hG8 : W.grownBy w8 (some E.gb) := grown_row (grown_row (HG.out.trans hg5) g7 (fun k hk => (ho5.base k hk).1)) g8 (fun k hk => (o7.base k hk).1)
        have hrow : ∀ {l'' : List Pc} {dq : Int} {wq : Bool} {aq : Nat}, RS E W5 l'' dq wq aq → RS E w8 l'' dq wq aq := fun h => (h.kept g7 (fun k hk => by have := (ho5.base k hk).1; omega)).kept g8 (fun k hk => by have := (o7.base k hk).1; omega)
        have hbd : ∀ W : World, (Instr.build 76 #[(0, .int .i64 5)]).run Tryz.prog W = .ok (.agg #[.int .i64 5, .slice none 0 0, .slice none 0 0]) W := fun W => run_build W 76 _ _ (by kernel_rfl)
        obtain ⟨n9, hn9⟩ : ∃ n9, n9 = o.length + o2.length := ⟨_, rfl⟩
        have hn8 : (o ++ o2).length = n9 := by rw [hn9, List.length_append]
        obtain ⟨n2, hn2⟩ : ∃ n2, n2 = o2.length := ⟨_, rfl⟩
        have HNX := LpI.step he (opQ 5) (b := 2 * l.length) (by omega) (f := f) (lx := (p :: r)) (by omega) hlp hol2 o8 hG8 hm hrow
        rw [hn8] at r8 HNX
        rw [← hn9] at r8
        rw [← hn9, ← hn2] at r7
        rw [← hn2]
        have HNX2 : Hid (LpI (allLoop nf) (allS nf l) E W dp at_ (2 * l.length) w8 (.slice A8 (n9 + 1) c8) ∧ lenAt w8 E.gb < lenAt wr E.gb) := Lib.hid ⟨HNX.1, by have h1 := HNX.2; have h2 := HLEN.out; rw [h2]; omega⟩
        clear HCN ho2 hg5 hm ho5 o7 g7 o8 g8 hG8 hrow hn9 hn2 hn8 HNX hol2
        go_wp2_with (at_builtin; first | (refine wpl_append_run rfl _ _ _ rfl rfl rfl r7 ?_) | (refine wpl_append_run rfl _ _ _ rfl rfl rfl r8 ?_))
        exact ⟨HNX2.out.1, HNX2.out.2⟩
end Go.Proofs.YtkkeodlnejckjaaGreat

/- What any of reads: the code. -/
namespace Go.Proofs.YtkkeodlnejckjaaGreat
open Go.RowKit Go.Shelf
set_option linter.unusedVariables false
set_option linter.unusedSimpArgs false

set_option maxRecDepth 100000 in
set_option maxHeartbeats 2000000 in
theorem any_any (E : RE) (nf : List Pc → PRes) (he : Eats nf) (dp : Int) (HN : ∀ (W : World) (l : List Pc) (at_ : Nat), l.length ≤ 1000 → RS E W l dp false at_ → Calls Tryz.prog 54 #[.pointer (some ⟨E.gb, 0, none⟩)] W (RRes E (nf l) (2 * l.length) W dp at_))
    (W : World) (l : List Pc) (at_ : Nat) (hl : l.length ≤ 1000) (h : RS E W l dp false at_) :
    Calls Tryz.prog 31 #[.pointer (some ⟨E.gb, 0, none⟩)] W (RRes E (anyS nf l) (2 * l.length) W dp at_) := by
  have C0 := Lib.hid (HN W l at_ hl h)
  have HGBL := Lib.hid h.gbl
  clear h
  go_enter Tryz.func31, Tryz.ntmps31
  go_wp2_with fail
  refine C0.out.mono ?_
  rintro e w1 h1
  have h1' := h1
  obtain ⟨v, _, rfl, _⟩ := h1'
  have HI : Hid (LpI (anyLoop nf) (anyS nf l) E W dp at_ (2 * l.length) w1 v) := Lib.hid (LpI.start he h1)
  clear h1 C0
  go_wp2_with fail
  go_loopw [3] (fun x wr => Hid (LpI (anyLoop nf) (anyS nf l) E W dp at_ (2 * l.length) wr x)) (fun _ wr => lenAt wr E.gb)
  case atStart => exact HI
  case round =>
    obtain ⟨o, l', ho, hg, hs⟩ := hrel.out
    rcases hs with ⟨hr, hob, f, hf, hlp⟩ | ⟨a, dp', hR, hob, hr⟩
    case inr =>
      have y5 := hr.wrong
      have HE : Hid (RRes E (anyS nf l) (2 * l.length) W dp at_ (.returned u3) wr) := Lib.hid (LpI.bad ho hg hob hR hr)
      clear ho hg hr hR hrel
      go_wp2
      go_ret
      exact HE.out
    have HLEN := Lib.hid hr.len
    have y5 := hr.wrong
    have hgbl0 := HGBL.out
    obtain ⟨f, rfl⟩ : ∃ g, f = g + 1 := ⟨f - 1, by omega⟩
    have CN := Lib.hid (next_any E wr l' dp false at_ hr)
    have HO1 := Lib.hid ho
    have HG1 := Lib.hid hg
    clear ho hg hr hrel
    go_wp2_with fail
    refine CN.out.mono ?_
    rintro e W2 ⟨v1, rfl, ⟨A', m', c', rfl, hok⟩, hg2, hr2⟩
    have HO := Lib.hid (HO1.out.kept hg2 (fun k hk => by injection hk with hk; omega))
    have HG := Lib.hid (HG1.out.trans hg2)
    have HRS := Lib.hid hr2
    obtain ⟨K, hK⟩ : ∃ K, K = (headP E.T l').1 := ⟨_, rfl⟩
    rw [← hK]
    obtain ⟨K2, hk2⟩ : ∃ K, K = (headP E.T l').2.1 := ⟨_, rfl⟩
    rw [← hk2]
    clear hk2
    have hfd : ∀ W : World, (Instr.field 66 (.agg #[.int .i64 (K : Nat), .int .i64 (K2 : Nat), .slice A' m' c']) 0).run Tryz.prog W = .ok (.int .i64 (K : Nat)) W := fun W => field_piece _ _ _ W
    clear CN HO1 HG1 hg2 hr2 hok y5
    cases l' with
    | nil =>
      have q6 : ((K : Int) == 6) = false := by rw [hK]; rfl
      clear hK
      have HE : Hid (RRes E (anyS nf l) (2 * l.length) W dp at_ (.returned u3) W2) := Lib.hid (LpI.done (o := o) HO.out HG.out (by omega) (by rw [← hlp]; rfl) HRS.out)
      clear HO HG HRS HLEN hlp
      go_wp2
      go_ret
      exact HE.out
    | cons p r =>
      have hK2 : K = p.1 := hK
      clear hK
      have HK2 := Lib.hid hK2
      clear hK2
      by_cases h6 : K = 6
      case neg =>
        have q6 : ((K : Int) == 6) = false := by simp; omega
        have HE : Hid (RRes E (anyS nf l) (2 * l.length) W dp at_ (.returned u3) W2) := Lib.hid (LpI.done (o := o) HO.out HG.out (by omega) (by rw [← hlp]; exact if_neg (by rw [← HK2.out]; exact h6)) HRS.out)
        clear HO HG HRS HLEN hlp
        go_wp2
        go_ret
        exact HE.out
      have q6 : ((K : Int) == 6) = true := by rw [h6]; rfl
      have hlp2 : anyLoop nf (f + 1) o (p :: r) = (match nf r with
        | .bad a => .bad a
        | .ok q l2 => anyLoop nf f (o ++ q ++ [opQ 6]) l2) := if_pos (by rw [← HK2.out]; exact h6)
      rw [hlp2] at hlp
      clear hlp2 h6
      have hpl : (p :: r).length = r.length + 1 := rfl
      have CT := Lib.hid (take_any E W2 (p :: r) dp false at_ HRS.out)
      have HO1 := HO
      have HG1 := HG
      clear HO HG HRS
      go_wp2_with fail
      refine CT.out.mono ?_
      rintro e W3 ⟨v1, rfl, ⟨A'', m'', c'', rfl, hok⟩, hg2, hr2⟩
      have HO := Lib.hid (HO1.out.kept hg2 (fun k hk => by have := HG1.out.size; injection hk with hk; omega))
      have HG := Lib.hid (HG1.out.trans hg2)
      have HRS : Hid (RS E W3 r dp false at_) := Lib.hid hr2
      clear CT HO1 HG1 hg2 hr2 hok
      have HCN := Lib.hid (HN _ r at_ (by omega) HRS.out)
      go_wp2_with fail
      refine HCN.out.mono ?_
      rintro e W5 ⟨v2, o2, rfl, ho2, hol2, hg5, hm⟩
      obtain ⟨A2, c2, rfl, _⟩ := ho2.rd
      have hgW : W.heap.size ≤ W3.heap.size := HG.out.size
      have hgbW := HGBL.out
      have ho5 := HO.out.kept hg5 (fun k hk => by injection hk with hk; omega)
      obtain ⟨A7, c7, w7, r7, o7, g7, _, _⟩ := ho5.append (ho2.mono hgW) (Nat.le_refl _) (Nat.le_trans hgW hg5.size) (by omega) (by omega)
      obtain ⟨A8, c8, w8, r8, o8, g8, _, _⟩ := OwnO.push (opQ 6, (none, 0, 0), (none, 0, 0)) #[.int .i64 6, .slice none 0 0, .slice none 0 0] rfl (OwnOp.nil _ _ _) o7 (Nat.le_trans hgW (Nat.le_trans hg5.size g7.size)) (by rw [List.length_append]; omega)
      have hG8 : W.grownBy w8 (some E.gb) := grown_row (grown_row (HG.out.trans hg5) g7 (fun k hk => (ho5.base k hk).1)) g8 (fun k hk => (o7.base k hk).1)
      have hrow : ∀ {l'' : List Pc} {dq : Int} {wq : Bool} {aq : Nat}, RS E W5 l'' dq wq aq → RS E w8 l'' dq wq aq := fun h => (h.kept g7 (fun k hk => by have := (ho5.base k hk).1; omega)).kept g8 (fun k hk => by have := (o7.base k hk).1; omega)
      have hbd : ∀ W : World, (Instr.build 76 #[(0, .int .i64 6)]).run Tryz.prog W = .ok (.agg #[.int .i64 6, .slice none 0 0, .slice none 0 0]) W := fun W => run_build W 76 _ _ (by kernel_rfl)
      obtain ⟨n9, hn9⟩ : ∃ n9, n9 = o.length + o2.length := ⟨_, rfl⟩
      have hn8 : (o ++ o2).length = n9 := by rw [hn9, List.length_append]
      obtain ⟨n2, hn2⟩ : ∃ n2, n2 = o2.length := ⟨_, rfl⟩
      have HNX := LpI.step he (opQ 6) (b := 2 * l.length) (by omega) (f := f) (lx := r) (by omega) hlp hol2 o8 hG8 hm hrow
      rw [hn8] at r8 HNX
      rw [← hn9] at r8
      rw [← hn9, ← hn2] at r7
      rw [← hn2]
      have HNX2 : Hid (LpI (anyLoop nf) (anyS nf l) E W dp at_ (2 * l.length) w8 (.slice A8 (n9 + 1) c8) ∧ lenAt w8 E.gb < lenAt wr E.gb) := Lib.hid ⟨HNX.1, by have h1 := HNX.2; have h2 := HLEN.out; rw [h2]; omega⟩
      clear HCN ho2 hg5 hm ho5 o7 g7 o8 g8 hG8 hrow hn9 hn2 hn8 HNX hol2
      go_wp2_with (at_builtin; first | (refine wpl_append_run rfl _ _ _ rfl rfl rfl r7 ?_) | (refine wpl_append_run rfl _ _ _ rfl rfl rfl r8 ?_))
      exact ⟨HNX2.out.1, HNX2.out.2⟩
end Go.Proofs.YtkkeodlnejckjaaGreat

/- What comes, and a bracket: the code. -/
namespace Go.Proofs.YtkkeodlnejckjaaGreat
open Go.RowKit Go.Shelf
set_option linter.unusedVariables false
set_option linter.unusedSimpArgs false

theorem brkS_bad {T : Nat} {an : List Pc → PRes} {r : List Pc} {a : Nat} (h : an r = .bad a) : brkS T an r = .bad a := by
  unfold brkS
  rw [h]
theorem brkS_close {T : Nat} {an : List Pc → PRes} {r l : List Pc} {o : List QOp} (h : an r = .ok o l) (hq : (headP T l).1 = 2) : brkS T an r = .ok o l.tail := by
  unfold brkS
  rw [h]
  cases l with
  | nil => cases hq
  | cons q l => exact if_pos hq
theorem brkS_open {T : Nat} {an : List Pc → PRes} {r l : List Pc} {o : List QOp} (h : an r = .ok o l) (hq : ¬ (headP T l).1 = 2) : brkS T an r = .bad (headP T l).2.1 := by
  unfold brkS
  rw [h]
  cases l with
  | nil => rfl
  | cons q l => exact if_neg hq
set_option maxRecDepth 100000 in
set_option maxHeartbeats 2000000 in
theorem bracket_any (E : RE) (nf : List Pc → PRes) (dp : Int) (HN : ∀ (W : World) (l : List Pc) (at_ : Nat), l.length ≤ 1000 → RS E W l dp false at_ → Calls Tryz.prog 31 #[.pointer (some ⟨E.gb, 0, none⟩)] W (RRes E (nf l) (2 * l.length) W dp at_))
    (W : World) (l : List Pc) (at_ : Nat) (hl : l.length ≤ 1000) (h : RS E W l dp false at_) :
    Calls Tryz.prog 97 #[.pointer (some ⟨E.gb, 0, none⟩)] W (RRes E (brkS E.T nf l) (2 * l.length) W dp at_) := by
  have C0 := Lib.hid (HN W l at_ hl h)
  have HGBL := Lib.hid h.gbl
  clear h
  go_enter Tryz.func97, Tryz.ntmps97
  go_wp2_with fail
  refine C0.out.mono ?_
  rintro e w1 ⟨v, o, rfl, ho, hol, hg, hm⟩
  cases hn : nf l with
  | bad a =>
    rw [hn] at hm
    obtain ⟨l', dp', hr⟩ := hm
    have y5 := hr.wrong
    have HE : Hid (RRes E (brkS E.T nf l) (2 * l.length) W dp at_ (.returned (.slice none 0 0)) w1) := Lib.hid (by
      rw [brkS_bad hn]
      exact RRes.bad hg hr)
    clear ho hg hr C0 hn
    go_wp2
    go_ret
    exact HE.out
  | ok o' r =>
    rw [hn] at hm
    obtain ⟨rfl, hr⟩ := hm
    have y5 := hr.wrong
    have CT := Lib.hid (take_any E w1 r dp false at_ hr)
    have HO := Lib.hid ho
    have HG := Lib.hid hg
    have HNR := Lib.hid hn
    have hgbl0 := HGBL.out
    clear ho hg hr C0 hn
    go_wp2_with fail
    refine CT.out.mono ?_
    rintro e W2 ⟨v1, rfl, ⟨A', m', c', rfl, hok⟩, hg2, hr2⟩
    have hgs : W.heap.size ≤ w1.heap.size := HG.out.size
    have HO2 := Lib.hid (HO.out.kept hg2 (fun k hk => by injection hk with hk; omega))
    have HG2 := Lib.hid (HG.out.trans hg2)
    have hgb2 : E.gb < W2.heap.size := hr2.gbl
    obtain ⟨K, hK⟩ : ∃ K, K = (headP E.T r).1 := ⟨_, rfl⟩
    obtain ⟨p, hp⟩ : ∃ p, p = (headP E.T r).2.1 := ⟨_, rfl⟩
    rw [← hK, ← hp]
    obtain ⟨W3, hW3⟩ : ∃ W3, W3 = W2.alloc (.cells #[.int .i64 (K : Nat), .int .i64 (p : Nat), .slice A' m' c'] 66) := ⟨_, rfl⟩
    obtain ⟨g3, hg3⟩ : ∃ g3, g3 = W2.heap.size := ⟨_, rfl⟩
    have hb3 : Below W2.heap.size W2 W3 := by rw [hW3]; exact (Below.refl _ _).alloc (Nat.le_refl _) _
    have hB3 : BoxA W3 g3 66 [.int .i64 (K : Nat), .int .i64 (p : Nat), .slice A' m' c'] := by rw [hW3, hg3]; exact BoxA.new _ _ _
    have hr3 := hr2.bel hb3
    have HO3 := Lib.hid (HO2.out.below hb3)
    have HG3 := Lib.hid (HG2.out.trans (grown_below hb3 (some E.gb)))
    obtain ⟨b0, b1, b2, _⟩ := hB3.three
    have HRS3 := Lib.hid hr3
    have HW3 := Lib.hid hW3
    have HGG := Lib.hid hg3
    have HK := Lib.hid hK
    have HP := Lib.hid hp
    have CF := Lib.hid (fault_any E W3 r.tail dp false at_ hr3 K p A' m' c')
    clear CT HO HG hg2 hr2 hok y5 hW3 hg3 hb3 hB3 hr3 hK hp HO2 HG2
    go_upto_region 5 with fail
    rw [← HW3.out, ← HGG.out]
    by_cases h2 : K = 2
    · have q2 : ((K : Int) == 2) = true := by rw [h2]; rfl
      have HE : Hid (RRes E (brkS E.T nf l) (2 * l.length) W dp at_ (.returned v) W3) := Lib.hid (by
        exact LpI.done (o := o) HO3.out HG3.out hol (brkS_close HNR.out (by rw [← HK.out]; exact h2)) HRS3.out)
      clear CF h2
      go_wp2
      go_ret
      exact HE.out
    · have q2 : ((K : Int) == 2) = false := by simp; omega
      go_wp2_with fail
      refine CF.out.mono ?_
      rintro e W4 ⟨rfl, hg4, hr4⟩
      have HE : Hid (RRes E (brkS E.T nf l) (2 * l.length) W dp at_ (.returned (.slice none 0 0)) W4) := Lib.hid (by
        have e : brkS E.T nf l = .bad p := by rw [HP.out]; exact brkS_open HNR.out (by rw [← HK.out]; exact h2)
        rw [e]
        exact RRes.bad (HG3.out.trans hg4) hr4)
      clear CF hg4 hr4 b0 b1 b2
      go_wp2
      go_ret
      exact HE.out

/-- What is read one deeper. -/
def dpS (deep : Option (List Pc → PRes)) (a : Nat) (l : List Pc) : PRes := match deep with
  | none => .bad a
  | some nf => nf l
def dpB (T : Nat) (deep : Option (List Pc → PRes)) (a : Nat) (l : List Pc) : PRes := match deep with
  | none => .bad a
  | some nf => brkS T (anyS (allS nf)) l
/-- With NOT behind. -/
def nots : PRes → PRes
  | .bad a => .bad a
  | .ok o l2 => .ok (o ++ [opQ 7]) l2
theorem base_7 {cf : Cf} {T : Nat} {deep : Option (List Pc → PRes)} {l : List Pc} (h : (headP T l).1 = 7) : baseS cf T deep l = nots (dpS deep (headP T l).2.1 l.tail) := by
  cases l with
  | nil => cases h
  | cons p r =>
    have h' : p.1 = 7 := h
    rw [baseS_cons, if_pos h']
    cases deep with
    | none => rfl
    | some nf =>
      show _ = nots (nf r)
      simp only
      cases nf r <;> rfl
theorem base_1 {cf : Cf} {T : Nat} {deep : Option (List Pc → PRes)} {l : List Pc} (h : (headP T l).1 = 1) : baseS cf T deep l = dpB T deep (headP T l).2.1 l.tail := by
  cases l with
  | nil => cases h
  | cons p r =>
    have h' : p.1 = 1 := h
    rw [baseS_cons, if_neg (by omega), if_pos h']
    cases deep <;> rfl
theorem base_3 {cf : Cf} {T : Nat} {deep : Option (List Pc → PRes)} {l : List Pc} (h : (headP T l).1 = 3) : baseS cf T deep l = ofO (headP T l).2.1 l.tail (asksG cf (((headP T l).2.2.drop 1).take ((headP T l).2.2.length - 2))) := by
  cases l with
  | nil => cases h
  | cons p r =>
    have h' : p.1 = 3 := h
    rw [baseS_cons, if_neg (by omega), if_neg (by omega), if_pos h']
    rfl
theorem base_8 {cf : Cf} {T : Nat} {deep : Option (List Pc → PRes)} {l : List Pc} (h : (headP T l).1 = 8) : baseS cf T deep l = ofO (headP T l).2.1 l.tail (itemG cf (headP T l).2.2) := by
  cases l with
  | nil => cases h
  | cons p r =>
    have h' : p.1 = 8 := h
    rw [baseS_cons, if_neg (by omega), if_neg (by omega), if_neg (by omega), if_pos h']
    rfl
theorem base_no {cf : Cf} {T : Nat} {deep : Option (List Pc → PRes)} {l : List Pc} (h7 : ¬ (headP T l).1 = 7) (h1 : ¬ (headP T l).1 = 1) (h3 : ¬ (headP T l).1 = 3) (h8 : ¬ (headP T l).1 = 8) : baseS cf T deep l = .bad (headP T l).2.1 := by
  cases l with
  | nil => rfl
  | cons p r =>
    have h7' : ¬ p.1 = 7 := h7
    have h1' : ¬ p.1 = 1 := h1
    have h3' : ¬ p.1 = 3 := h3
    have h8' : ¬ p.1 = 8 := h8
    rw [baseS_cons, if_neg h7', if_neg h1', if_neg h3', if_neg h8']
    rfl
theorem RRes.lift {E : RE} {R : PRes} {b b' : Nat} {W W3 w' : World} {dp : Int} {at_ : Nat} {e : Ending} (h : RRes E R b W3 dp at_ e w') (hg : W.grownBy W3 (some E.gb)) (hb : b ≤ b') : RRes E R b' W dp at_ e w' := by
  obtain ⟨v, o, he, ho, hol, hg2, hm⟩ := h
  exact ⟨v, o, he, ho.mono hg.size, Nat.le_trans hol hb, hg.trans hg2, hm⟩
set_option maxRecDepth 100000 in
set_option maxHeartbeats 2000000 in
theorem not_any (E : RE) (deep : Option (List Pc → PRes)) (dp : Int)
    (H7 : ∀ (W : World) (l : List Pc) (at_ k p : Nat) (A' : Option Addr) (m' c' : Nat), l.length ≤ 1000 → RS E W l dp false at_ → Calls Tryz.prog 96 #[.pointer (some ⟨E.gb, 0, none⟩), .agg #[.int .i64 (k : Nat), .int .i64 (p : Nat), .slice A' m' c'], .func (.func 78) #[.pointer (some ⟨E.gb, 0, none⟩)] #[]] W (RRes E (dpS deep p l) (2 * l.length) W dp at_))
    (H1 : ∀ (W : World) (l : List Pc) (at_ k p : Nat) (A' : Option Addr) (m' c' : Nat), l.length ≤ 1000 → RS E W l dp false at_ → Calls Tryz.prog 96 #[.pointer (some ⟨E.gb, 0, none⟩), .agg #[.int .i64 (k : Nat), .int .i64 (p : Nat), .slice A' m' c'], .func (.func 97) #[.pointer (some ⟨E.gb, 0, none⟩)] #[]] W (RRes E (dpB E.T deep p l) (2 * l.length) W dp at_))
    (W : World) (l : List Pc) (at_ : Nat) (hl : l.length ≤ 1000) (h : RS E W l dp false at_) :
    Calls Tryz.prog 78 #[.pointer (some ⟨E.gb, 0, none⟩)] W (RRes E (baseS E.cf E.T deep l) (2 * l.length) W dp at_) := by
  have HGBL := Lib.hid h.gbl
  have y5 := h.wrong
  have CT := Lib.hid (take_any E W l dp false at_ h)
  have HH : Hid (l = [] ∨ (PcG (headP E.T l) ∧ (headP E.T l).2.2.length ≤ 1000 ∧ l.tail.length + 1 = l.length)) := Lib.hid (by
    obtain ⟨_, _, _, _, h2⟩ := h.box
    cases l with
    | nil => exact .inl rfl
    | cons p r => exact .inr ⟨h2.good p (by simp), h2.sm p (by simp), rfl⟩)
  clear h
  go_enter Tryz.func78, Tryz.ntmps78
  go_wp2_with fail
  refine CT.out.mono ?_
  rintro e W1 ⟨v1, rfl, ⟨A', m', c', rfl, hok⟩, hg1, hr1⟩
  obtain ⟨K, hK⟩ : ∃ K, K = (headP E.T l).1 := ⟨_, rfl⟩
  obtain ⟨p, hp⟩ : ∃ p, p = (headP E.T l).2.1 := ⟨_, rfl⟩
  obtain ⟨bs, hbs⟩ : ∃ bs, bs = (headP E.T l).2.2 := ⟨_, rfl⟩
  rw [← hK, ← hp]
  obtain ⟨W2, hW2⟩ : ∃ W2, W2 = W1.alloc (.cells #[.int .i64 (K : Nat), .int .i64 (p : Nat), .slice A' m' c'] 66) := ⟨_, rfl⟩
  obtain ⟨g3, hg3⟩ : ∃ g3, g3 = W1.heap.size := ⟨_, rfl⟩
  have hb12 : Below W1.heap.size W1 W2 := by rw [hW2]; exact (Below.refl _ _).alloc (Nat.le_refl _) _
  have hB3 : BoxA W2 g3 66 [.int .i64 (K : Nat), .int .i64 (p : Nat), .slice A' m' c'] := by rw [hW2, hg3]; exact BoxA.new _ _ _
  obtain ⟨W3, hW3⟩ : ∃ W3, W3 = W2.alloc (.cells #[.int .i64 0, .slice none 0 0, .slice none 0 0] 76) := ⟨_, rfl⟩
  obtain ⟨g4, hg4⟩ : ∃ g4, g4 = W1.heap.size + 1 := ⟨_, rfl⟩
  have hs2 : g4 = W2.heap.size := by rw [hW2, hg4]; simp
  have hb23 : Below W2.heap.size W2 W3 := by rw [hW3]; exact (Below.refl _ _).alloc (Nat.le_refl _) _
  have HB4 : Hid (BoxA W3 g4 76 [.int .i64 0, .slice none 0 0, .slice none 0 0]) := Lib.hid (by rw [hW3, hs2]; exact BoxA.new _ _ _)
  have HGS : Hid (W3.heap.size = g4 + 1) := Lib.hid (by rw [hW3, hs2]; simp)
  have HRS2 := Lib.hid (hr1.bel hb12)
  have HRS3 := Lib.hid ((hr1.bel hb12).bel hb23)
  have HGW2 := Lib.hid (hg1.trans (grown_below hb12 (some E.gb)))
  have HGW3 := Lib.hid (HGW2.out.trans (grown_below hb23 (some E.gb)))
  have HB3 := Lib.hid hB3
  have HB23 := Lib.hid hb23
  have HW2 := Lib.hid hW2
  have HW3 := Lib.hid hW3
  have HG3 := Lib.hid hg3
  have HGX := Lib.hid hg4
  have HG4 := Lib.hid hs2
  have HOK : Hid (m' ≤ c' ∧ c' ≤ 9223372036854775807 ∧ m' ≤ 1000000 ∧ RdB E.w0 A' m' bs) := Lib.hid (by rw [hbs]; exact hok)
  obtain ⟨b0, b1, b2, _⟩ := (hB3.below hb23).three
  have HK := Lib.hid hK
  have HP := Lib.hid hp
  have HBS := Lib.hid hbs
  have HTL : Hid (l.tail.length ≤ 1000) := Lib.hid (by rw [List.length_tail]; omega)
  clear CT y5 hok hg1 hr1 hK hp hbs hW2 hg3 hb12 hB3 hW3 hg4 hs2 hb23
  go_upto_region 6 with fail
  rw [← HW2.out, ← HW3.out, ← HGX.out, ← HG3.out]
  by_cases h7 : K = 7
  · have q7 : ((K : Int) == 7) = true := by rw [h7]; rfl
    have HBE : Hid (baseS E.cf E.T deep l = nots (dpS deep p l.tail)) := Lib.hid (by rw [HP.out]; exact base_7 (by rw [← HK.out]; exact h7))
    have HL1 : Hid (l.tail.length + 1 = l.length) := Lib.hid (by
      rcases HH.out with h | h
      · have := HK.out; rw [h, h7] at this; cases this
      · exact h.2.2)
    have C7 := Lib.hid (H7 W3 l.tail at_ K p A' m' c' HTL.out HRS3.out)
    clear h7
    go_wp2_with fail
    refine C7.out.mono ?_
    rintro e W4 ⟨v, o, rfl, ho, hol, hg4, hm⟩
    obtain ⟨Av, cv, rfl, _⟩ := ho.rd
    have hgW3 := HGW3.out
    have ho' := ho.mono hgW3.size
    obtain ⟨A8, c8, w8, r8, o8, g8, _, _⟩ := OwnO.push (opQ 7, (none, 0, 0), (none, 0, 0)) #[.int .i64 7, .slice none 0 0, .slice none 0 0] rfl (OwnOp.nil _ _ _) ho' (Nat.le_trans hgW3.size hg4.size) (by have := HTL.out; omega)
    have hbd : ∀ W : World, (Instr.build 76 #[(0, .int .i64 7)]).run Tryz.prog W = .ok (.agg #[.int .i64 7, .slice none 0 0, .slice none 0 0]) W := fun W => run_build W 76 _ _ (by kernel_rfl)
    obtain ⟨n9, hn9⟩ : ∃ n9, n9 = o.length := ⟨_, rfl⟩
    have HE : Hid (RRes E (baseS E.cf E.T deep l) (2 * l.length) W dp at_ (.returned (.slice A8 (o.length + 1) c8)) w8) := Lib.hid (by
      rw [HBE.out]
      have hgg := grown_row (hgW3.trans hg4) g8 (fun k hk => (ho'.base k hk).1)
      have hrow : ∀ {l'' : List Pc} {dq : Int} {wq : Bool} {aq : Nat}, RS E W4 l'' dq wq aq → RS E w8 l'' dq wq aq := fun h => h.kept g8 (fun k hk => by have := (ho'.base k hk).1; have := HGBL.out; omega)
      refine ⟨_, _, rfl, o8, by have := HL1.out; simp; omega, hgg, ?_⟩
      cases hd : dpS deep p l.tail with
      | bad a =>
        rw [hd] at hm
        obtain ⟨l', dp', hr⟩ := hm
        exact ⟨l', dp', hrow hr⟩
      | ok o' r =>
        rw [hd] at hm
        obtain ⟨rfl, hr⟩ := hm
        exact ⟨rfl, hrow hr⟩)
    rw [← hn9] at r8 HE ⊢
    clear C7 ho hol hg4 hm hgW3 ho' o8 g8 hn9 b0 b1 b2
    go_wp2_with (at_builtin; refine wpl_append_run rfl _ _ _ rfl rfl rfl r8 ?_)
    go_ret
    exact HE.out
  have q7 : ((K : Int) == 7) = false := by simp; omega
  by_cases h1 : K = 1
  · have q1 : ((K : Int) == 1) = true := by rw [h1]; rfl
    have HBE : Hid (baseS E.cf E.T deep l = dpB E.T deep p l.tail) := Lib.hid (by rw [HP.out]; exact base_1 (by rw [← HK.out]; exact h1))
    have HL1 : Hid (l.tail.length + 1 = l.length) := Lib.hid (by
      rcases HH.out with h | h
      · have := HK.out; rw [h, h1] at this; cases this
      · exact h.2.2)
    have C7 := Lib.hid (H1 W3 l.tail at_ K p A' m' c' HTL.out HRS3.out)
    clear h1
    go_wp2_with fail
    refine C7.out.mono ?_
    intro e W4 hE4
    have hE5 := hE4
    obtain ⟨v, _, rfl, _⟩ := hE5
    have HE : Hid (RRes E (baseS E.cf E.T deep l) (2 * l.length) W dp at_ (.returned v) W4) := Lib.hid (by
      rw [HBE.out]
      exact hE4.lift HGW3.out (by have := HL1.out; omega))
    clear C7 hE4 b0 b1 b2
    go_wp2
    go_ret
    exact HE.out
  have q1 : ((K : Int) == 1) = false := by simp; omega
  by_cases h3 : K = 3
  · have q3 : ((K : Int) == 3) = true := by rw [h3]; rfl
    have HX : Hid (2 ≤ bs.length ∧ bs.length ≤ 1000 ∧ l.tail.length + 1 = l.length) := Lib.hid (by
      rw [HBS.out]
      rcases HH.out with h | h
      · have := HK.out; rw [h, h3] at this; cases this
      · exact ⟨h.1.2.2 (by rw [← HK.out]; exact h3), h.2.1, h.2.2⟩)
    have HL1 : Hid (l.tail.length + 1 = l.length) := Lib.hid HX.out.2.2
    obtain ⟨hmc, hcc, hm1, hrd⟩ := HOK.out
    have hml := hrd.len
    obtain ⟨h2l, h1k, _⟩ := HX.out
    obtain ⟨mm, rfl⟩ : ∃ mm, m' = mm + 2 := ⟨m' - 2, by omega⟩
    obtain ⟨A9, hA9⟩ : ∃ A9, A9 = cutAt A' c' 1 := ⟨_, rfl⟩
    obtain ⟨c9, hc9⟩ : ∃ c9, c9 = c' - 1 := ⟨_, rfl⟩
    have hcut : ∀ W : World, (Instr.slice 26 (.slice A' (mm + 2) c') (some (.int .i64 1)) (some (.int .i64 ((mm : Int) + 2 - 1))) none).run Tryz.prog W = .ok (.slice A9 mm c9) W := fun W => by
      have := run_cut_lh A' (mm + 2) c' 1 (mm + 1) (by omega) (by omega) W
      rw [hA9, hc9, show (mm : Int) + 2 - 1 = ((mm + 1 : Nat) : Int) by omega]
      exact this
    have hrd9 : RdB E.w0 A9 mm ((bs.drop 1).take (bs.length - 2)) := by
      have h1 := hrd.cut (k := 1) (by omega) hmc
      rw [← hA9] at h1
      have h2 := h1.take mm (by omega)
      rw [hml]
      exact h2
    obtain ⟨G, hG⟩ : ∃ G, G = asksG E.cf ((bs.drop 1).take (bs.length - 2)) := ⟨_, rfl⟩
    have HBE : Hid (baseS E.cf E.T deep l = ofO p l.tail G) := Lib.hid (by rw [HP.out, hG, HBS.out]; exact base_3 (by rw [← HK.out]; exact h3))
    have HCA : Hid (Calls Tryz.prog 98 #[.pointer (some ⟨E.gb, 0, none⟩), .slice A9 mm c9] W3 (OpR G W3)) := Lib.hid (by
      rw [hG]
      obtain ⟨P, np, cp, h1, h2⟩ := HRS3.out.box
      exact asks_any E.A E.n E.c E.B E.m E.d E.cf E.gb P np cp dp false (at_ : Int) A9 mm c9 _ W3 (HRS3.out.ok.rc.below HRS3.out.below) h1 (hrd9.below HRS3.out.below) (by omega) (by omega) HRS3.out.ok.m)
    clear h3 hG hrd9 hrd hA9 hc9 hml
    go_wp2_with fail
    refine HCA.out.mono ?_
    rintro e W4 ⟨ko, A1, n1, c1, A2, n2, c2, ts, os, rfl, hop, hG, hb4⟩
    have hb24 := Below.thn HB23.out hb4
    obtain ⟨hE5, y0, y1, y2⟩ := opR_set (G := G) hb24 HG4.out (HB4.out.below hb4) ko A1 n1 c1 A2 n2 c2 ts os (hop.mono (by have := HGS.out; omega)) G.isSome rfl hG
    obtain ⟨z0, z1, z2, z3, z4, z5⟩ := (HB4.out.below hb4).three
    obtain ⟨W5, hW5⟩ : ∃ W5, W5 = (((W4.setCell ⟨g4, 0, none⟩ (.int .i64 ko)).setCell ⟨g4, 1, none⟩ (.slice A1 n1 c1)).setCell ⟨g4, 2, none⟩ (.slice A2 n2 c2)) := ⟨_, rfl⟩
    rw [← hW5] at hE5 y0 y1 y2
    obtain ⟨ko', A1', n1', c1', A2', n2', c2', ts', os', e5, hop5, hG5, hb25⟩ := hE5
    injection e5 with e5
    injection e5 with e5
    have e6 := congrArg (fun a : Array Value => a[0]!) e5
    simp at e6
    obtain ⟨q1, ⟨q2, q3, q4⟩, q5, q6, q7⟩ := e6
    subst q1 q2 q3 q4 q5 q6 q7
    obtain ⟨b0, b1, b2, _⟩ := (HB3.out.below hb25).three
    have HR5 := Lib.hid (HRS2.out.bel hb25)
    have HG5 := Lib.hid (HGW2.out.trans (grown_below hb25 (some E.gb)))
    have HW5 := Lib.hid hW5
    clear e5 hop hG hb24 hW5 HCA hb4 hb25
    go_upto_region 15 with fail
    rw [← HW5.out]
    clear z0 z1 z2 z3 z4 z5
    cases G with
    | none =>
      have CF := Lib.hid (fault_any E W5 l.tail dp false at_ HR5.out K p A' (mm + 2) c')
      have hq : (none : Option QOp).isSome = false := rfl
      go_wp2_with fail
      refine CF.out.mono ?_
      rintro e W6 ⟨rfl, hg6, hr6⟩
      have HE : Hid (RRes E (baseS E.cf E.T deep l) (2 * l.length) W dp at_ (.returned (.slice none 0 0)) W6) := Lib.hid (by
        rw [HBE.out]
        exact RRes.bad (HG5.out.trans hg6) hr6)
      clear CF hg6 hr6 y0 y1 y2 b0 b1 b2
      go_wp2
      go_ret
      exact HE.out
    | some oo =>
      have hq : (some oo).isSome = true := rfl
      have hoo := hG5 oo rfl
      have HE : Hid (RRes E (baseS E.cf E.T deep l) (2 * l.length) W dp at_ (.returned (.slice (some ⟨W5.heap.size, 0, none⟩) 1 1)) (W5.alloc (.cells #[.int .i64 ko, .slice A1 n1 c1, .slice A2 n2 c2] 76))) := Lib.hid (by
        rw [HBE.out]
        have hb6 : Below W5.heap.size W5 (W5.alloc (.cells #[.int .i64 ko, .slice A1 n1 c1, .slice A2 n2 c2] 76)) := (Below.refl _ _).alloc (Nat.le_refl _) _
        refine ⟨_, [oo], rfl, ?_, by have := HL1.out; simp; omega, HG5.out.trans (grown_below hb6 _), rfl, HR5.out.bel hb6⟩
        rw [← hoo]
        exact OwnO.one ((ko, ts', os'), (A1, n1, c1), (A2, n2, c2)) _ rfl (hop5.mono HGW2.out.size) HG5.out.size)
      clear hop5 hG5 hoo b0 b1 b2
      go_wp2
      go_ret
      exact HE.out
  have q3 : ((K : Int) == 3) = false := by simp; omega
  by_cases h8 : K = 8
  · have q8 : ((K : Int) == 8) = true := by rw [h8]; rfl
    have HX : Hid (1 ≤ bs.length ∧ bs.length ≤ 1000 ∧ l.tail.length + 1 = l.length) := Lib.hid (by
      rw [HBS.out]
      rcases HH.out with h | h
      · have := HK.out; rw [h, h8] at this; cases this
      · exact ⟨h.1.2.1, h.2.1, h.2.2⟩)
    have HL1 : Hid (l.tail.length + 1 = l.length) := Lib.hid HX.out.2.2
    obtain ⟨hmc, hcc, hm1, hrd⟩ := HOK.out
    have hml := hrd.len
    obtain ⟨h2l, h1k, _⟩ := HX.out
    obtain ⟨G, hG⟩ : ∃ G, G = itemG E.cf bs := ⟨_, rfl⟩
    have HBE : Hid (baseS E.cf E.T deep l = ofO p l.tail G) := Lib.hid (by rw [HP.out, hG, HBS.out]; exact base_8 (by rw [← HK.out]; exact h8))
    have HCA : Hid (Calls Tryz.prog 99 #[.pointer (some ⟨E.gb, 0, none⟩), .slice A' m' c'] W3 (OpR G W3)) := Lib.hid (by
      rw [hG]
      obtain ⟨P, np, cp, h1, h2⟩ := HRS3.out.box
      exact item_any E.A E.n E.c E.B E.m E.d E.cf E.gb P np cp dp false (at_ : Int) A' m' c' _ W3 (HRS3.out.ok.rc.below HRS3.out.below) h1 (hrd.below HRS3.out.below) hmc (by omega) HRS3.out.ok.m (by omega))
    clear h8 hG hrd hml
    go_wp2_with fail
    refine HCA.out.mono ?_
    rintro e W4 ⟨ko, A1, n1, c1, A2, n2, c2, ts, os, rfl, hop, hG, hb4⟩
    have hb24 := Below.thn HB23.out hb4
    obtain ⟨hE5, y0, y1, y2⟩ := opR_set (G := G) hb24 HG4.out (HB4.out.below hb4) ko A1 n1 c1 A2 n2 c2 ts os (hop.mono (by have := HGS.out; omega)) G.isSome rfl hG
    obtain ⟨z0, z1, z2, z3, z4, z5⟩ := (HB4.out.below hb4).three
    obtain ⟨W5, hW5⟩ : ∃ W5, W5 = (((W4.setCell ⟨g4, 0, none⟩ (.int .i64 ko)).setCell ⟨g4, 1, none⟩ (.slice A1 n1 c1)).setCell ⟨g4, 2, none⟩ (.slice A2 n2 c2)) := ⟨_, rfl⟩
    rw [← hW5] at hE5 y0 y1 y2
    obtain ⟨ko', A1', n1', c1', A2', n2', c2', ts', os', e5, hop5, hG5, hb25⟩ := hE5
    injection e5 with e5
    injection e5 with e5
    have e6 := congrArg (fun a : Array Value => a[0]!) e5
    simp at e6
    obtain ⟨q1, ⟨q2, q3, q4⟩, q5, q6, q7⟩ := e6
    subst q1 q2 q3 q4 q5 q6 q7
    obtain ⟨b0, b1, b2, _⟩ := (HB3.out.below hb25).three
    have HR5 := Lib.hid (HRS2.out.bel hb25)
    have HG5 := Lib.hid (HGW2.out.trans (grown_below hb25 (some E.gb)))
    have HW5 := Lib.hid hW5
    clear e5 hop hG hb24 hW5 HCA hb4 hb25
    go_upto_region 15 with fail
    rw [← HW5.out]
    clear z0 z1 z2 z3 z4 z5
    cases G with
    | none =>
      have CF := Lib.hid (fault_any E W5 l.tail dp false at_ HR5.out K p A' m' c')
      have hq : (none : Option QOp).isSome = false := rfl
      go_wp2_with fail
      refine CF.out.mono ?_
      rintro e W6 ⟨rfl, hg6, hr6⟩
      have HE : Hid (RRes E (baseS E.cf E.T deep l) (2 * l.length) W dp at_ (.returned (.slice none 0 0)) W6) := Lib.hid (by
        rw [HBE.out]
        exact RRes.bad (HG5.out.trans hg6) hr6)
      clear CF hg6 hr6 y0 y1 y2 b0 b1 b2
      go_wp2
      go_ret
      exact HE.out
    | some oo =>
      have hq : (some oo).isSome = true := rfl
      have hoo := hG5 oo rfl
      have HE : Hid (RRes E (baseS E.cf E.T deep l) (2 * l.length) W dp at_ (.returned (.slice (some ⟨W5.heap.size, 0, none⟩) 1 1)) (W5.alloc (.cells #[.int .i64 ko, .slice A1 n1 c1, .slice A2 n2 c2] 76))) := Lib.hid (by
        rw [HBE.out]
        have hb6 : Below W5.heap.size W5 (W5.alloc (.cells #[.int .i64 ko, .slice A1 n1 c1, .slice A2 n2 c2] 76)) := (Below.refl _ _).alloc (Nat.le_refl _) _
        refine ⟨_, [oo], rfl, ?_, by have := HL1.out; simp; omega, HG5.out.trans (grown_below hb6 _), rfl, HR5.out.bel hb6⟩
        rw [← hoo]
        exact OwnO.one ((ko, ts', os'), (A1, n1, c1), (A2, n2, c2)) _ rfl (hop5.mono HGW2.out.size) HG5.out.size)
      clear hop5 hG5 hoo b0 b1 b2
      go_wp2
      go_ret
      exact HE.out
  have q8 : ((K : Int) == 8) = false := by simp; omega
  have HBE : Hid (baseS E.cf E.T deep l = .bad p) := Lib.hid (by rw [HP.out]; exact base_no (by rw [← HK.out]; exact h7) (by rw [← HK.out]; exact h1) (by rw [← HK.out]; exact h3) (by rw [← HK.out]; exact h8))
  have CF := Lib.hid (fault_any E W3 l.tail dp false at_ HRS3.out K p A' m' c')
  go_wp2_with fail
  refine CF.out.mono ?_
  rintro e W4 ⟨rfl, hg4, hr4⟩
  have HE : Hid (RRes E (baseS E.cf E.T deep l) (2 * l.length) W dp at_ (.returned (.slice none 0 0)) W4) := Lib.hid (by
    rw [HBE.out]
    exact RRes.bad (HGW3.out.trans hg4) hr4)
  clear CF hg4 hr4 b0 b1 b2
  go_wp2
  go_ret
  exact HE.out
end Go.Proofs.YtkkeodlnejckjaaGreat

/- A reader reads: by how deep it may go. -/
namespace Go.Proofs.YtkkeodlnejckjaaGreat
open Go.RowKit Go.Shelf
set_option linter.unusedVariables false
set_option linter.unusedSimpArgs false

theorem callNot (args : Array Value) (W : World) : (callFunc 78 args).run Tryz.prog W = .ok (.enter 78 args) W := by
  have := Tryz.func78
  simp [callFunc, this, Tryz.f78]
theorem callBracket (args : Array Value) (W : World) : (callFunc 97 args).run Tryz.prog W = .ok (.enter 97 args) W := by
  have := Tryz.func97
  simp [callFunc, this, Tryz.f97]
theorem dp_up (k : Nat) : (16 : Int) - ((k + 1 : Nat) : Int) + 1 = 16 - (k : Int) := by omega
theorem notK_0 (cf : Cf) (T : Nat) (l : List Pc) : notK cf T 0 l = baseS cf T none l := rfl
theorem notK_s (cf : Cf) (T k : Nat) (l : List Pc) : notK cf T (k + 1) l = baseS cf T (some (notK cf T k)) l := rfl
theorem reads_any (E : RE) : ∀ (k : Nat), k ≤ 16 → ∀ (W : World) (l : List Pc) (at_ : Nat), l.length ≤ 1000 → RS E W l ((16 : Int) - (k : Int)) false at_ → Calls Tryz.prog 78 #[.pointer (some ⟨E.gb, 0, none⟩)] W (RRes E (notK E.cf E.T k l) (2 * l.length) W ((16 : Int) - (k : Int)) at_)
  | 0, _, W, l, at_, hl, h => by
    rw [notK_0]
    refine not_any E none ((16 : Int) - ((0 : Nat) : Int)) (fun W l at_ k p A' m' c' hl h => ?_) (fun W l at_ k p A' m' c' hl h => ?_) W l at_ hl h
    · exact within_deep E _ _ W l at_ h k p A' m' c'
    · exact within_deep E _ _ W l at_ h k p A' m' c'
  | k + 1, hk, W, l, at_, hl, h => by
    have ih := reads_any E k (by omega)
    rw [notK_s]
    refine not_any E (some (notK E.cf E.T k)) _ (fun W l at_ k' p A' m' c' hl h => ?_) (fun W l at_ k' p A' m' c' hl h => ?_) W l at_ hl h
    · refine rwithin_any E _ callNot (notK E.cf E.T k l) _ W l _ at_ h (by omega) (by omega) k' p A' m' c' fun W1 h1 => ?_
      rw [dp_up] at h1 ⊢
      exact ih W1 l at_ hl h1
    · refine rwithin_any E _ callBracket (brkS E.T (anyS (allS (notK E.cf E.T k))) l) _ W l _ at_ h (by omega) (by omega) k' p A' m' c' fun W1 h1 => ?_
      rw [dp_up] at h1 ⊢
      exact bracket_any E _ _ (fun W l at_ hl h => any_any E _ (allS_eats (notK_eats E.cf E.T k)) _ (fun W l at_ hl h => all_any E _ (notK_eats E.cf E.T k) _ ih W l at_ hl h) W l at_ hl h) W1 l at_ hl h1
/-- The whole. -/
theorem reads_all (E : RE) (W : World) (l : List Pc) (at_ : Nat) (hl : l.length ≤ 1000) (h : RS E W l 0 false at_) :
    Calls Tryz.prog 31 #[.pointer (some ⟨E.gb, 0, none⟩)] W (RRes E (anyK E.cf E.T 16 l) (2 * l.length) W 0 at_) :=
  any_any E _ (allS_eats (notK_eats E.cf E.T 16)) _ (fun W l at_ hl h => all_any E _ (notK_eats E.cf E.T 16) _ (reads_any E 16 (Nat.le_refl _)) W l at_ hl h) W l at_ hl h
end Go.Proofs.YtkkeodlnejckjaaGreat

/- A text is parsed: the code. -/
namespace Go.Proofs.YtkkeodlnejckjaaGreat
open Go.RowKit Go.Shelf
set_option linter.unusedVariables false
set_option linter.unusedSimpArgs false

/-- Pieces that are read. -/
def PcR (w : World) (P : Option Addr) (np cp : Nat) (l : List Nat) : Prop := (∃ L : List PcM, RdK encP 3 w P np L ∧ (∀ x ∈ L, PcOk w x) ∧ L.map (fun x : PcM => x.1) = PcsL l) ∧ np ≤ cp ∧ cp ≤ 9223372036854775807
theorem PcR.below {w w' : World} {P : Option Addr} {np cp : Nat} {l : List Nat} (h : PcR w P np cp l) (hb : Below w.heap.size w w') : PcR w' P np cp l := by
  obtain ⟨⟨L, h1, h2, h3⟩, h4, h5⟩ := h
  exact ⟨⟨L, h1.below hb, fun x hx => (h2 x hx).below hb, h3⟩, h4, h5⟩
/-- A reader at a text's begin. -/
def RdyP (A : Option Addr) (n c : Nat) (B : Option Addr) (m d : Nat) (cf : Cf) (l : List Nat) (gb : Nat) (W : World) : Prop := ∃ w0, RS ⟨A, n, c, B, m, d, cf, gb, l.length, w0⟩ W (piecesL l) 0 false 0
theorem RdyP.below {A : Option Addr} {n c : Nat} {B : Option Addr} {m d : Nat} {cf : Cf} {l : List Nat} {gb : Nat} {W W' : World} (h : RdyP A n c B m d cf l gb W) (hb : Below W.heap.size W W') : RdyP A n c B m d cf l gb W' := by
  obtain ⟨w0, h⟩ := h
  exact ⟨w0, h.bel hb⟩
theorem rdy_new {w : World} {A : Option Addr} {n c : Nat} {B : Option Addr} {m d : Nat} {cf : Cf} {cap : Int} {l : List Nat} {P : Option Addr} {np cp : Nat} (hR : RdC w A n c B m d cf) (hm : m ≤ 1000000 ∧ l.length ≤ 1000) (hcap : cap = cf.cap) (hp : PcR w P np cp l) :
    RdyP A n c B m d cf l w.heap.size (w.alloc (.cells #[.slice A n c, .slice B m d, .int .i64 cap, .slice P np cp, .int .i64 0, .bool false, .int .i64 0] 63)) := by
  subst hcap
  obtain ⟨hL, h4, h5⟩ := hp
  refine ⟨w, ⟨hR, hm.1, Nat.le_refl _⟩, (Below.refl _ _).alloc (Nat.le_refl _) _, P, np, cp, ?_, hL, h4, h5, ?_, ?_⟩
  · exact BoxA.new w 63 [.slice A n c, .slice B m d, .int .i64 cf.cap, .slice P np cp, .int .i64 0, .bool false, .int .i64 0]
  · exact fun p hp => pcs_good _ _ _ p hp
  · exact fun p hp => Nat.le_trans (pcs_small _ _ _ p hp) hm.2
/-- What the reader's end says. -/
def parR : PRes → List QOp × Nat × Int
  | .bad a => ([], a, 200)
  | .ok _ (p :: _) => ([], p.2.1, 200)
  | .ok o [] => (o, 0, 0)
theorem parG_long {cf : Cf} {l : List Nat} (h : mayC cf) (hl : 200 < l.length) : parG cf l = ([], 0, 3) := by
  unfold parG
  rw [if_pos h, if_pos hl]
theorem parG_eq {cf : Cf} {l : List Nat} (h : mayC cf) (hl : ¬ 200 < l.length) : parG cf l = parR (anyK cf l.length 16 (piecesL l)) := by
  unfold parG
  rw [if_pos h, if_neg hl]
  cases anyK cf l.length 16 (piecesL l) with
  | bad a => rfl
  | ok o r => cases r <;> rfl
theorem pcs_len : ∀ (f at_ : Nat) (l : List Nat), (pcs f at_ l).length ≤ l.length
  | 0, _, l => Nat.zero_le _
  | _ + 1, _, [] => Nat.le_refl _
  | f + 1, at_, c :: r => by
    unfold pcs
    split
    · have := pcs_len f (at_ + 1) r
      simp
      omega
    · have h1 := pcs_len f (at_ + (cutK (c :: r)).2) ((c :: r).drop (cutK (c :: r)).2)
      have h2 := cutK_pos c r
      rw [List.length_drop] at h1
      simp at h1 ⊢
      omega
/-- The worlds as the answer is written. -/
structure PeJ (W0 W1 : World) (S : Nat → Prop) (wr : World) : Prop where
  z : ¬ S 5 → wr = W0
  b : S 5 → wr = W1
theorem PeJ.next {W0 W1 : World} {S : Nat → Prop} {wr : World} (h : PeJ W0 W1 S wr) {i : Nat} (hi : i ≠ 5) : PeJ W0 W1 (fun k => k = i ∨ S k) wr :=
  ⟨fun hs => h.z fun h6 => hs (.inr h6), fun hs => h.b (hs.resolve_left (Ne.symm hi))⟩
theorem PeJ.st {W0 W1 : World} {S : Nat → Prop} : PeJ W0 W1 (fun k => k = 5 ∨ S k) W1 :=
  ⟨fun hs => absurd (.inl rfl) hs, fun _ => rfl⟩
def PrF (A : Option Addr) (n c : Nat) (B : Option Addr) (m d : Nat) (cap : Int) (T : Option Addr) (nt ct g2 g4 b0 : Nat) (cf : Cf) (l : List Nat) : Nat → Value → World → Prop
  | 0 => fun v w => v = confV A n c B m d cap
  | 1 => fun v w => v = .slice T nt ct
  | 2 => fun v w => ∃ (P : Option Addr) (np : Nat) (cp : Nat), v = .slice P np cp ∧ PcR w P np cp l
  | 3 => fun v w => ∃ (P : Option Addr) (np : Nat) (cp : Nat), v = .agg #[.slice A n c, .slice B m d, .int .i64 cap, .slice P np cp, .int .i64 0, .bool false, .int .i64 0] ∧ PcR w P np cp l
  | 4 => fun v w => ∃ (gb : Nat), v = .pointer (some ⟨gb, 0, none⟩) ∧ b0 ≤ gb ∧ RdyP A n c B m d cf l gb w
  | 5 => fun v w => ∃ (gb : Nat), v = .pointer (some ⟨gb, 0, none⟩) ∧ b0 ≤ gb ∧ RdyP A n c B m d cf l gb w
  | _ => fun _ _ => True
theorem PrF.below (A : Option Addr) (n c : Nat) (B : Option Addr) (m d : Nat) (cap : Int) (T : Option Addr) (nt ct g2 g4 b0 : Nat) (cf : Cf) (l : List Nat) : ∀ i v w w', Below w.heap.size w w' → PrF A n c B m d cap T nt ct g2 g4 b0 cf l i v w → PrF A n c B m d cap T nt ct g2 g4 b0 cf l i v w'
  | 0, _, _, _, _, h => h
  | 1, _, _, _, _, h => h
  | 2, _, _, _, hb, h => by
    obtain ⟨P, np, cp, e, g⟩ := h
    exact ⟨P, np, cp, e, g.below hb⟩
  | 3, _, _, _, hb, h => by
    obtain ⟨P, np, cp, e, g⟩ := h
    exact ⟨P, np, cp, e, g.below hb⟩
  | 4, _, _, _, hb, h => by
    obtain ⟨gb, e, g⟩ := h
    exact ⟨gb, e, ⟨g.1, g.2.below hb⟩⟩
  | 5, _, _, _, hb, h => by
    obtain ⟨gb, e, g⟩ := h
    exact ⟨gb, e, ⟨g.1, g.2.below hb⟩⟩
  | _ + 6, _, _, _, _, _ => trivial
def PeF (g4 gb pa : Nat) : Nat → Value → World → Prop
  | 0 => fun v w => v = .agg #[.slice none 0 0]
  | 1 => fun v w => v = .pointer (some ⟨gb, 0, none⟩)
  | 2 => fun v w => v = .pointer (some ⟨gb, 0, none⟩)
  | 3 => fun v w => v = .pointer (some ⟨gb, 6, none⟩)
  | 4 => fun v w => v = .int .i64 (pa : Nat)
  | 5 => fun v w => v = undef
  | 6 => fun v w => v = .int .i64 (pa : Nat)
  | 7 => fun v w => v = .int .i64 200
  | _ => fun _ _ => True
theorem PeF.keep (g4 gb pa : Nat) : ∀ i v w w', True → PeF g4 gb pa i v w → PeF g4 gb pa i v w'
  | 0, _, _, _, _, h => h
  | 1, _, _, _, _, h => h
  | 2, _, _, _, _, h => h
  | 3, _, _, _, _, h => h
  | 4, _, _, _, _, h => h
  | 5, _, _, _, _, h => h
  | 6, _, _, _, _, h => h
  | 7, _, _, _, _, h => h
  | _ + 8, _, _, _, _, _ => trivial

/-- What comes of a text. -/
def ParE (G : List QOp × Nat × Int) (w : World) (e : Ending) (w' : World) : Prop := ∃ v, e = .returned (.tuple #[.agg #[v], .int .i64 (G.2.1 : Nat), .int .i64 G.2.2]) ∧ OwnO w' w.heap.size v G.1 ∧ Below w.heap.size w w'
theorem parE_set {G : List QOp × Nat × Int} {w W : World} {g4 : Nat} {x : Value} (HB : Below w.heap.size w W) (hg : w.heap.size ≤ g4) (hbx : BoxA W g4 31 [x]) (v : Value) (o : List QOp) (ho : OwnO W (g4 + 1) v o) (a : Nat) (e : Int) (hG : G = (o, a, e)) :
    ParE G w (.returned (.tuple #[.agg #[v], .int .i64 (a : Nat), .int .i64 e])) (W.setCell ⟨g4, 0, none⟩ v) ∧ (W.setCell ⟨g4, 0, none⟩ v).cell? ⟨g4, 0, none⟩ = some v := by
  have hgr := BoxA.set_grown W g4 0 v
  have h1 := (hbx.set 0 v).cell 0 v rfl
  refine ⟨⟨v, by rw [hG], ?_, HB.grown hgr HB.size (fun k hk => by injection hk with hk; omega)⟩, h1⟩
  rw [hG]
  exact (ho.kept hgr (fun k hk => by injection hk with hk; omega)).mono (by omega)
set_option maxRecDepth 100000 in
set_option maxHeartbeats 2000000 in
theorem Parse_any (A : Option Addr) (n c : Nat) (B : Option Addr) (m d : Nat) (cf : Cf) (T : Option Addr) (nt ct : Nat) (l : List Nat) (w : World) (hR : RdC w A n c B m d cf) (ht : RdB w T nt l) (htc : nt ≤ ct) (hc2 : ct ≤ 9223372036854775807) (hn : nt ≤ 100000) (hm : m ≤ 1000000) :
    Calls Tryz.prog 8 #[confV A n c B m d cf.cap, .slice T nt ct] w (ParE (parG cf l) w) := by
  have hlen := ht.len
  obtain ⟨cap, hcap⟩ : ∃ cap, cap = cf.cap := ⟨_, rfl⟩
  rw [← hcap]
  obtain ⟨G, hG⟩ : ∃ G, G = parG cf l := ⟨_, rfl⟩
  rw [← hG]
  obtain ⟨w1, hw1⟩ : ∃ w1, w1 = w.alloc (.cells #[.slice A n c, .slice B m d, .int .i64 cap] 25) := ⟨_, rfl⟩
  obtain ⟨g2, hg2⟩ : ∃ g2, g2 = w.heap.size := ⟨_, rfl⟩
  have hb1 : Below w.heap.size w w1 := by rw [hw1]; exact (Below.refl _ _).alloc (Nat.le_refl _) _
  have hB2 : BoxA w1 g2 25 [.slice A n c, .slice B m d, .int .i64 cap] := by rw [hw1, hg2]; exact BoxA.new _ _ _
  obtain ⟨w2, hw2⟩ : ∃ w2, w2 = w1.alloc (.cells #[.slice none 0 0] 31) := ⟨_, rfl⟩
  obtain ⟨g4, hg4⟩ : ∃ g4, g4 = w.heap.size + 1 := ⟨_, rfl⟩
  have hs1 : g4 = w1.heap.size := by rw [hw1, hg4]; simp
  have hb12 : Below w1.heap.size w1 w2 := by rw [hw2]; exact (Below.refl _ _).alloc (Nat.le_refl _) _
  have hB4 : BoxA w2 g4 31 [.slice none 0 0] := by rw [hw2, hs1]; exact BoxA.new _ _ _
  have hb2 := Below.thn hb1 hb12
  have HB2 := Lib.hid (hB2.below hb12)
  have HB4 := Lib.hid hB4
  have HB := Lib.hid hb2
  have HW1 := Lib.hid hw1
  have HW2 := Lib.hid hw2
  have HG2 := Lib.hid hg2
  have HG4 := Lib.hid hg4
  have HGE : Hid (w.heap.size ≤ g4) := Lib.hid (by omega)
  have HGS : Hid (w2.heap.size = g4 + 1) := Lib.hid (by rw [hw2, hs1]; simp)
  have HR := Lib.hid hR
  have HT := Lib.hid ht
  have HCAP := Lib.hid hcap
  have HGP := Lib.hid hG
  have C1 := Lib.hid (CheckW_any A n c B m d cf w2 (hR.below hb2))
  rw [← hcap] at C1
  obtain ⟨y0, y1, y2, _⟩ := HB2.out.three
  have hbq : ∀ W : World, (Instr.build 31 #[]).run Tryz.prog W = .ok (.agg #[.slice none 0 0]) W := fun W => run_build W 31 _ _ (by kernel_rfl)
  clear hR ht hcap hG hw1 hg2 hb1 hB2 hw2 hg4 hs1 hb12 hB4 hb2
  go_enter Tryz.func8, Tryz.ntmps8
  go_upto_region 1 with fail
  rw [← HW1.out, ← HW2.out, ← HG4.out, ← HG2.out]
  go_wp2_with fail
  refine C1.out.mono ?_
  rintro e w3 ⟨rfl, hb3⟩
  have HB3 := Lib.hid (Below.thn HB.out hb3)
  have HB23 := Lib.hid (HB2.out.below hb3)
  have HB43 := Lib.hid (HB4.out.below hb3)
  have HGS3 : Hid (g4 < w3.heap.size) := Lib.hid HB43.out.lt
  clear C1 HB hb3 HB2 HB4 HGS y0 y1 y2
  by_cases hmay : mayC cf
  case neg =>
    rw [may_no hmay]
    obtain ⟨hE, y0⟩ := parE_set (G := G) HB3.out HGE.out HB43.out (.slice none 0 0) [] (OwnO.nil _ _) 0 140 (by rw [HGP.out]; exact if_neg hmay)
    have HE := Lib.hid hE
    have z0 := HB43.out.cell 0 _ rfl
    have z1 := HB43.out.frozen 0
    clear hE hmay
    go_wp2
    refine bodyPost_ret (v := .tuple #[.agg #[.slice none 0 0], .int .i64 0, .int .i64 140]) (by simp [results, Tryz.results8, go_sem, y0]) rfl HE.out
  rw [may_yes hmay]
  have HMAY := Lib.hid hmay
  clear hmay
  by_cases hlong : (nt : Int) > 200
  · obtain ⟨hE, y0⟩ := parE_set (G := G) HB3.out HGE.out HB43.out (.slice none 0 0) [] (OwnO.nil _ _) 0 3 (by rw [HGP.out]; exact parG_long HMAY.out (by omega))
    have HE := Lib.hid hE
    have z0 := HB43.out.cell 0 _ rfl
    have z1 := HB43.out.frozen 0
    clear hE
    go_wp2
    refine bodyPost_ret (v := .tuple #[.agg #[.slice none 0 0], .int .i64 0, .int .i64 3]) (by simp [results, Tryz.results8, go_sem, y0]) rfl HE.out
  have hlong2 : nt ≤ 200 := by omega
  have hge : ¬ ((nt : Int) > 200) := hlong
  have HLE : Hid (l.length = nt) := Lib.hid hlen
  have HGP3 : Hid (G = parR (anyK cf l.length 16 (piecesL l))) := Lib.hid (by rw [HGP.out]; exact parG_eq HMAY.out (by omega))
  have HRC := Lib.hid (HR.out.below HB3.out)
  have HM : Hid (m ≤ 1000000 ∧ l.length ≤ 1000) := Lib.hid ⟨hm, by omega⟩
  obtain ⟨b0, hb0⟩ : ∃ b0, b0 = g4 + 1 := ⟨_, rfl⟩
  have HB0 : Hid (b0 ≤ w3.heap.size) := Lib.hid (by rw [hb0]; exact HGS3.out)
  have HBE := Lib.hid hb0
  have C22 : Hid (∀ w9, Below w3.heap.size w3 w9 → Calls Tryz.prog 30 #[.slice T nt ct] w9 (PcsE l w9)) := Lib.hid fun w9 h9 => pieces_any T nt ct l w9 (HT.out.below (Below.thn HB3.out h9)) htc hc2 hn
  have G0 : Hid (w3.cell? ⟨g2, 0, none⟩ = some (.slice A n c)) := Lib.hid (HB23.out.cell 0 _ rfl)
  have G1 : Hid (w3.cell? ⟨g2, 1, none⟩ = some (.slice B m d)) := Lib.hid (HB23.out.cell 1 _ rfl)
  have G2 : Hid (w3.cell? ⟨g2, 2, none⟩ = some (.int .i64 cap)) := Lib.hid (HB23.out.cell 2 _ rfl)
  clear hlong hlen hb0 HMAY HGP
  go_wp2_with fail
  rename_i K1 hK1
  refine wp_region_flow (by kernel_rfl) (PrF A n c B m d cap T nt ct g2 g4 b0 cf l) (PrF.below A n c B m d cap T nt ct g2 g4 b0 cf l) (by kernel_rfl) (by kernel_rfl) ?_ ?_
  case refine_1 =>
    intro i o ho ρ y w2 hb2 hreg hn hf hyb hyn
    have hi := (Array.getElem?_eq_some_iff.1 ho).1
    rcases Nat.lt_or_ge i 6 with hi2 | hi2
    case inr => simp at hi; omega
    obtain rfl | rfl | rfl | rfl | rfl | rfl : i = 0 ∨ i = 1 ∨ i = 2 ∨ i = 3 ∨ i = 4 ∨ i = 5 := by omega
    · cases ho
      rw [if_pos (show Region.wanted _ y = true from rfl)]
      have f2 : ρ (.tmp 2) = .pointer (some ⟨g2, 0, none⟩) := hf 2 (by kernel_rfl)
      have k0 := cell_keep hb2 G0.out
      have k1 := cell_keep hb2 G1.out
      have k2 := cell_keep hb2 G2.out
      exact does_ok (v := confV A n c B m d cap) (w' := w2) (by simp [go_sem, hreg.const, f2, k0, k1, k2]) ⟨rfl, Below.refl _ _⟩
    · cases ho
      rw [if_pos (show Region.wanted _ y = true from rfl)]
      have f1 : ρ (.tmp 1) = .slice T nt ct := hf 1 (by kernel_rfl)
      exact ⟨f1, Below.refl _ _⟩
    · cases ho
      rw [if_pos (show Region.wanted _ y = true from rfl)]
      have f21 : ρ (.tmp 21) = .slice T nt ct := hn 1 _ 21 rfl (by kernel_rfl) rfl
      refine does_enter (f := 30) (args := #[.slice T nt ct]) (w' := w2) (by simp [go_sem, hreg.func, hreg.const, f21]) ?_
      refine (C22.out w2 hb2).mono ?_
      rintro e w' ⟨v, L, rfl, ho, hL, hm, hll, hb⟩
      obtain ⟨P, cp, rfl, h1, h2, h3⟩ := OwnK.rd encP_len ho
      exact ⟨_, rfl, ⟨P, _, cp, rfl, ⟨L, h3, fun x hx => (hL x hx).below hb, hm⟩, h1, h2⟩, hb⟩
    · cases ho
      rw [if_pos (show Region.wanted _ y = true from rfl)]
      have f20 : ρ (.tmp 20) = confV A n c B m d cap := hn 0 _ 20 rfl (by kernel_rfl) rfl
      obtain ⟨P, np, cp, f22, g22⟩ : ∃ (P : Option Addr) (np : Nat) (cp : Nat), ρ (.tmp 22) = .slice P np cp ∧ PcR w2 P np cp l := hn 2 _ 22 rfl (by kernel_rfl) rfl
      have hbr : ∀ W : World, (Instr.build 63 #[(0, confV A n c B m d cap), (1, .slice P np cp)]).run Tryz.prog W = .ok (.agg #[.slice A n c, .slice B m d, .int .i64 cap, .slice P np cp, .int .i64 0, .bool false, .int .i64 0]) W := fun W => run_build W 63 _ _ (by kernel_rfl)
      exact does_ok (v := .agg #[.slice A n c, .slice B m d, .int .i64 cap, .slice P np cp, .int .i64 0, .bool false, .int .i64 0]) (w' := w2) (by simp [go_sem, hreg.const, f20, f22, hbr]) ⟨⟨P, np, cp, rfl, g22⟩, Below.refl _ _⟩
    · cases ho
      rw [if_pos (show Region.wanted _ y = true from rfl)]
      obtain ⟨P, np, cp, f23, g23⟩ : ∃ (P : Option Addr) (np : Nat) (cp : Nat), ρ (.tmp 23) = .agg #[.slice A n c, .slice B m d, .int .i64 cap, .slice P np cp, .int .i64 0, .bool false, .int .i64 0] ∧ PcR w2 P np cp l := hn 3 _ 23 rfl (by kernel_rfl) rfl
      have hsz : b0 ≤ w2.heap.size := Nat.le_trans HB0.out hb2.size
      have hbn : Below w2.heap.size w2 (w2.alloc (.cells #[.slice A n c, .slice B m d, .int .i64 cap, .slice P np cp, .int .i64 0, .bool false, .int .i64 0] 63)) := (Below.refl _ _).alloc (Nat.le_refl _) _
      exact does_ok (v := .pointer (some ⟨w2.heap.size, 0, none⟩)) (w' := w2.alloc (.cells #[.slice A n c, .slice B m d, .int .i64 cap, .slice P np cp, .int .i64 0, .bool false, .int .i64 0] 63)) (by simp [go_sem, hreg.const, f23]) ⟨⟨_, rfl, hsz, rdy_new (HRC.out.below hb2) HM.out HCAP.out g23⟩, hbn⟩
    · cases ho
      rw [if_pos (show Region.wanted _ y = true from rfl)]
      obtain ⟨gb, f24, g24⟩ : ∃ (gb : Nat), ρ (.tmp 24) = .pointer (some ⟨gb, 0, none⟩) ∧ b0 ≤ gb ∧ RdyP A n c B m d cf l gb w2 := hn 4 _ 24 rfl (by kernel_rfl) rfl
      exact ⟨⟨gb, f24, g24⟩, Below.refl _ _⟩
  case refine_2 =>
    intro a w2 hb2 hd hs hfacts hrest
    obtain ⟨gb, q7, g7⟩ : ∃ (gb : Nat), a.tmps.getD 7 undef = .pointer (some ⟨gb, 0, none⟩) ∧ b0 ≤ gb ∧ RdyP A n c B m d cf l gb w2 := hfacts 5 _ 7 rfl rfl
    have ha := frame_of hd hs hrest [7, 20, 21, 22, 23, 24] (by kernel_rfl)
    simp only [q7, List.foldl, List.setIfInBounds_toArray, List.set_cons_succ, List.set_cons_zero] at ha
    clear q7 hd hs hfacts hrest
    generalize a.tmps.getD = gg at ha
    subst ha
    obtain ⟨hgb, w0, hrs⟩ := g7
    have HB4' := Lib.hid (Below.thn HB3.out hb2)
    have HB44 := Lib.hid (HB43.out.below hb2)
    obtain ⟨E, hE⟩ : ∃ E : RE, E = ⟨A, n, c, B, m, d, cf, gb, l.length, w0⟩ := ⟨_, rfl⟩
    have hEg : E.gb = gb := by rw [hE]
    rw [← hE] at hrs
    have hET : E.T = l.length := by rw [hE]
    have hEc : E.cf = cf := by rw [hE]
    have hpl : (piecesL l).length ≤ nt := by
      have := pcs_len (l.length + 1) 0 l
      have := HLE.out
      unfold piecesL
      omega
    have C6 := Lib.hid (reads_all E w2 (piecesL l) 0 (by omega) hrs)
    have HGBL := Lib.hid hrs.gbl
    rw [hEc, hET, hEg] at C6
    rw [hEg] at HGBL
    have HEG := Lib.hid hEg
    have HET := Lib.hid hET
    have HGB : Hid (g4 + 1 ≤ gb) := Lib.hid (by rw [← HBE.out]; exact hgb)
    have HGS4 : Hid (g4 + 1 ≤ w2.heap.size) := Lib.hid (Nat.le_trans HGS3.out hb2.size)
    have HWG : Hid (w.heap.size < gb) := Lib.hid (by have := HGE.out; have := HGB.out; omega)
    obtain ⟨R, hR⟩ : ∃ R, R = anyK cf l.length 16 (piecesL l) := ⟨_, rfl⟩
    have HGP4 : Hid (G = parR R) := Lib.hid (by rw [hR]; exact HGP3.out)
    rw [← hR] at C6
    clear hgb hrs hE hEg hET hEc hb2 hR HGP3 HB3 HB23 HB43 G0 G1 G2 C22 HRC
    go_wp2_with fail
    refine C6.out.mono ?_
    rintro e w5 ⟨v, o, rfl, ho, hol, hg5, hm5⟩
    rw [HEG.out] at hg5
    have hol2 : o.length ≤ 400 := by omega
    obtain ⟨Av, cv, rfl, _⟩ := ho.rd
    obtain ⟨no, hno⟩ : ∃ no, no = o.length := ⟨_, rfl⟩
    rw [← hno] at ho ⊢
    have hbq1 : ∀ W : World, (Instr.build 31 #[(0, .slice Av no cv)]).run Tryz.prog W = .ok (.agg #[.slice Av no cv]) W := fun W => run_build W 31 _ _ (by kernel_rfl)
    have HO5 := Lib.hid ho
    have HB5 := Lib.hid (HB4'.out.grown hg5 HB4'.out.size (fun k hk => by injection hk with hk; have := HWG.out; omega))
    have HB45 := Lib.hid (HB44.out.kept hg5 (fun e => by injection e with e; have := HGB.out; omega))
    clear C6 ho hg5 HB4' HB44 hol hno
    cases R with
    | bad pa =>
      obtain ⟨l5, d5, hr5⟩ := hm5
      have CN := Lib.hid (next_any E w5 l5 d5 true pa hr5)
      rw [HEG.out] at CN
      have y5 := hr5.wrong
      clear hr5
      go_wp2_with fail
      refine CN.out.mono ?_
      rintro e w6 ⟨v1, rfl, ⟨A', m', c', rfl, hok⟩, hg6, hr6⟩
      obtain ⟨K, hK⟩ : ∃ K, K = (headP E.T l5).1 := ⟨_, rfl⟩
      obtain ⟨K2, hK2⟩ : ∃ K2, K2 = (headP E.T l5).2.1 := ⟨_, rfl⟩
      rw [← hK, ← hK2]
      obtain ⟨w7, hw7⟩ : ∃ w7, w7 = w6.alloc (.cells #[.int .i64 (K : Nat), .int .i64 (K2 : Nat), .slice A' m' c'] 66) := ⟨_, rfl⟩
      obtain ⟨g9, hg9⟩ : ∃ g9, g9 = w6.heap.size := ⟨_, rfl⟩
      have hb67 : Below w6.heap.size w6 w7 := by rw [hw7]; exact (Below.refl _ _).alloc (Nat.le_refl _) _
      have hB9 : BoxA w7 g9 66 [.int .i64 (K : Nat), .int .i64 (K2 : Nat), .slice A' m' c'] := by rw [hw7, hg9]; exact BoxA.new _ _ _
      have HRSX := Lib.hid (hr6.bel hb67)
      have HBX := Lib.hid (Below.thn (HB5.out.grown hg6 HB5.out.size (fun k hk => by injection hk with hk; have := HWG.out; omega)) hb67)
      have HBQ := Lib.hid ((HB45.out.kept hg6 (fun e => by injection e with e; have := HGB.out; omega)).below hb67)
      have HO7 := Lib.hid ((HO5.out.kept hg6 (fun k hk => by injection hk with hk; have := HGBL.out; omega)).below hb67)
      have HB9 := Lib.hid hB9
      obtain ⟨b0, b1, b2, _⟩ := hB9.three
      have HW7 := Lib.hid hw7
      have HG9 := Lib.hid hg9
      have HK := Lib.hid hK
      have HK2 := Lib.hid hK2
      clear CN hok hg6 hr6 hw7 hg9 hb67 hB9 hK hK2 y5 HB5 HB45 HO5
      go_upto_region 8 with fail
      rw [← HW7.out, ← HG9.out]
      have y5 := HRSX.out.wrong
      rw [HEG.out] at y5
      go_wp2_with fail
      obtain ⟨W0, hW0⟩ : ∃ W0, W0 = w7.drew := ⟨_, rfl⟩
      have hbd0 : Below w7.heap.size w7 W0 := by rw [hW0]; exact Below.drew (Below.refl _ _)
      have hq0 := HBQ.out.below hbd0
      have hr0 := HRSX.out.bel hbd0
      obtain ⟨P0, np0, cp0, hbx0, _⟩ := hr0.box
      have kW0 : W0.cell? ⟨gb, 6, none⟩ = some (.int .i64 (pa : Nat)) := by rw [← HEG.out]; exact hbx0.cell 6 _ rfl
      have s0 := hq0.cell 0 _ rfl
      have fr0 := hq0.frozen 0
      obtain ⟨W1, hW1⟩ : ∃ W1, W1 = W0.setCell ⟨g4, 0, none⟩ (.slice none 0 0) := ⟨_, rfl⟩
      have kW1 : W1.cell? ⟨gb, 6, none⟩ = some (.int .i64 (pa : Nat)) := by
        rw [← HEG.out, hW1]
        exact (hbx0.kept (BoxA.set_grown W0 g4 0 (.slice none 0 0)) (fun e => by injection e with e; have := HGB.out; rw [HEG.out] at e; omega)).cell 6 _ rfl
      obtain ⟨hE1, y0⟩ := parE_set (G := G) (Below.thn HBX.out hbd0) HGE.out hq0 (.slice none 0 0) [] (OwnO.nil _ _) pa 200 (by rw [HGP4.out]; rfl)
      rw [← hW1] at hE1 y0
      have HE := Lib.hid hE1
      have HW0 := Lib.hid hW0
      clear hW0 hbd0 hq0 hr0 hbx0 hE1
      rename_i K2 hK2
      refine wp_region_flowJ (by kernel_rfl) (PeF g4 gb pa) (fun _ _ => True) (PeJ W0 W1) (PeF.keep g4 gb pa) ?_ (by kernel_rfl) (by kernel_rfl) ?_ ?_
      case refine_1 => exact ⟨fun _ => HW0.out.symm, fun h => h.elim⟩
      case refine_2 =>
        intro i o ho ρ y w2 S hJ hnS hneeds hcl hreg hn hf hyb hyn
        have hi := (Array.getElem?_eq_some_iff.1 ho).1
        rcases Nat.lt_or_ge i 8 with hi2 | hi2
        case inr => simp at hi; omega
        obtain rfl | rfl | rfl | rfl | rfl | rfl | rfl | rfl : i = 0 ∨ i = 1 ∨ i = 2 ∨ i = 3 ∨ i = 4 ∨ i = 5 ∨ i = 6 ∨ i = 7 := by omega
        · cases ho
          rw [if_pos (show Region.wanted _ y = true from rfl)]
          exact does_ok (v := .agg #[.slice none 0 0]) (w' := w2) (by simp [go_sem, hreg.const, hbq]) ⟨rfl, trivial, hJ.next (by decide)⟩
        · cases ho
          rw [if_pos (show Region.wanted _ y = true from rfl)]
          have f7 : ρ (.tmp 7) = .pointer (some ⟨gb, 0, none⟩) := hf 7 (by kernel_rfl)
          exact ⟨f7, trivial, hJ.next (by decide)⟩
        · cases ho
          rw [if_pos (show Region.wanted _ y = true from rfl)]
          have f47 : ρ (.tmp 47) = .pointer (some ⟨gb, 0, none⟩) := hn 1 _ 47 rfl (by kernel_rfl) rfl
          exact does_ok (v := .pointer (some ⟨gb, 0, none⟩)) (w' := w2) (by simp [go_sem, hreg.const, f47]) ⟨rfl, trivial, hJ.next (by decide)⟩
        · cases ho
          rw [if_pos (show Region.wanted _ y = true from rfl)]
          have f48 : ρ (.tmp 48) = .pointer (some ⟨gb, 0, none⟩) := hn 2 _ 48 rfl (by kernel_rfl) rfl
          exact does_ok (v := .pointer (some ⟨gb, 6, none⟩)) (w' := w2) (by simp [go_sem, hreg.const, f48]) ⟨rfl, trivial, hJ.next (by decide)⟩
        · cases ho
          rw [if_pos (show Region.wanted _ y = true from rfl)]
          have f49 : ρ (.tmp 49) = .pointer (some ⟨gb, 6, none⟩) := hn 3 _ 49 rfl (by kernel_rfl) rfl
          have k0 : w2.cell? ⟨gb, 6, none⟩ = some (.int .i64 (pa : Nat)) := by
            by_cases h5 : S 5
            · rw [hJ.b h5]; exact kW1
            · rw [hJ.z h5]; exact kW0
          exact does_ok (v := .int .i64 (pa : Nat)) (w' := w2) (by simp [go_sem, hreg.const, f49, k0]) ⟨rfl, trivial, hJ.next (by decide)⟩
        · cases ho
          rw [if_pos (show Region.wanted _ y = true from rfl)]
          have f4 : ρ (.tmp 4) = .pointer (some ⟨g4, 0, none⟩) := hf 4 (by kernel_rfl)
          have f46 : ρ (.tmp 46) = .agg #[.slice none 0 0] := hn 0 _ 46 rfl (by kernel_rfl) rfl
          obtain rfl := (hJ.z hnS).symm
          exact does_skip (w' := W1) (by rw [hW1]; simp [go_sem, hreg.const, f4, f46, s0, fr0]) ⟨rfl, trivial, PeJ.st⟩
        · cases ho
          rw [if_pos (show Region.wanted _ y = true from rfl)]
          have f50 : ρ (.tmp 50) = .int .i64 (pa : Nat) := hn 4 _ 50 rfl (by kernel_rfl) rfl
          exact ⟨f50, trivial, hJ.next (by decide)⟩
        · cases ho
          rw [if_pos (show Region.wanted _ y = true from rfl)]
          exact does_ok (v := .int .i64 200) (w' := w2) (by simp [go_sem, hreg.const]) ⟨rfl, trivial, hJ.next (by decide)⟩
      case refine_3 =>
        intro a w2 S hJ hall hd hs hfacts hrest
        have q5 : a.tmps.getD 5 undef = .int .i64 (pa : Nat) := hfacts 6 _ 5 rfl rfl
        have q6 : a.tmps.getD 6 undef = .int .i64 200 := hfacts 7 _ 6 rfl rfl
        have ha := frame_of hd hs hrest [5, 6, 46, 47, 48, 49, 50] (by kernel_rfl)
        simp only [q5, q6, List.foldl, List.setIfInBounds_toArray, List.set_cons_succ, List.set_cons_zero] at ha
        clear q5 q6 hd hs hfacts hrest
        generalize a.tmps.getD = gg at ha
        subst ha
        obtain rfl := hJ.b (hall 5 (by decide))
        clear hJ hall s0 fr0 kW0 kW1 hW1
        go_wp2
        refine bodyPost_ret (v := .tuple #[.agg #[.slice none 0 0], .int .i64 (pa : Nat), .int .i64 200]) (by simp [results, Tryz.results8, go_sem, y0]) rfl HE.out
    | ok o' r =>
      obtain ⟨rfl, hr5⟩ := hm5
      have CN := Lib.hid (next_any E w5 r 0 false 0 hr5)
      rw [HEG.out] at CN
      have y5 := hr5.wrong
      clear hr5
      go_wp2_with fail
      refine CN.out.mono ?_
      rintro e w6 ⟨v1, rfl, ⟨A', m', c', rfl, hok⟩, hg6, hr6⟩
      obtain ⟨K, hK⟩ : ∃ K, K = (headP E.T r).1 := ⟨_, rfl⟩
      obtain ⟨K2, hK2⟩ : ∃ K2, K2 = (headP E.T r).2.1 := ⟨_, rfl⟩
      rw [← hK, ← hK2]
      obtain ⟨w7, hw7⟩ : ∃ w7, w7 = w6.alloc (.cells #[.int .i64 (K : Nat), .int .i64 (K2 : Nat), .slice A' m' c'] 66) := ⟨_, rfl⟩
      obtain ⟨g9, hg9⟩ : ∃ g9, g9 = w6.heap.size := ⟨_, rfl⟩
      have hb67 : Below w6.heap.size w6 w7 := by rw [hw7]; exact (Below.refl _ _).alloc (Nat.le_refl _) _
      have hB9 : BoxA w7 g9 66 [.int .i64 (K : Nat), .int .i64 (K2 : Nat), .slice A' m' c'] := by rw [hw7, hg9]; exact BoxA.new _ _ _
      have HRSX := Lib.hid (hr6.bel hb67)
      have HBX := Lib.hid (Below.thn (HB5.out.grown hg6 HB5.out.size (fun k hk => by injection hk with hk; have := HWG.out; omega)) hb67)
      have HBQ := Lib.hid ((HB45.out.kept hg6 (fun e => by injection e with e; have := HGB.out; omega)).below hb67)
      have HO7 := Lib.hid ((HO5.out.kept hg6 (fun k hk => by injection hk with hk; have := HGBL.out; omega)).below hb67)
      have HB9 := Lib.hid hB9
      obtain ⟨b0, b1, b2, _⟩ := hB9.three
      have HW7 := Lib.hid hw7
      have HG9 := Lib.hid hg9
      have HK := Lib.hid hK
      have HK2 := Lib.hid hK2
      clear CN hok hg6 hr6 hw7 hg9 hb67 hB9 hK hK2 y5 HB5 HB45 HO5
      go_upto_region 8 with fail
      rw [← HW7.out, ← HG9.out]
      have y5 := HRSX.out.wrong
      rw [HEG.out] at y5
      cases r with
      | nil =>
        have hk0 : ((K : Int) == 0) = true := by rw [HK.out]; rfl
        obtain ⟨hE1, u0⟩ := parE_set (G := G) HBX.out HGE.out HBQ.out (.slice Av no cv) o (HO7.out.mono (by have := HGS4.out; omega)) 0 0 (by rw [HGP4.out]; rfl)
        have HE := Lib.hid hE1
        have s0 := HBQ.out.cell 0 _ rfl
        have fr0 := HBQ.out.frozen 0
        clear hE1
        go_wp2
        refine bodyPost_ret (v := .tuple #[.agg #[.slice Av no cv], .int .i64 0, .int .i64 0]) (by simp [results, Tryz.results8, go_sem, u0]) rfl HE.out
      | cons p r =>
        have hk0 : ((K : Int) == 0) = false := by
          obtain ⟨_, _, _, _, h2⟩ := HRSX.out.box
          have h3 := (h2.good p (by simp)).1
          have h4 : K = p.1 := HK.out
          simp
          omega
        obtain ⟨pa, hpa⟩ : ∃ pa, pa = p.2.1 := ⟨_, rfl⟩
        have HGP5 : Hid (G = ([], pa, 200)) := Lib.hid (by rw [HGP4.out, hpa]; rfl)
        have hKp : K2 = pa := by rw [HK2.out, hpa]; rfl
        have CF := Lib.hid (fault_any E w7 (p :: r) 0 false 0 HRSX.out K K2 A' m' c')
        rw [HEG.out] at CF
        subst hKp
        clear hpa
        go_wp2_with fail
        refine CF.out.mono ?_
        rintro e w8 ⟨rfl, hg8, hr8⟩
        have HRSX9 : Hid (RS E w8 (p :: r) 0 true K2) := Lib.hid hr8
        have HBX9 := Lib.hid (HBX.out.grown hg8 HBX.out.size (fun k hk => by injection hk with hk; have := HWG.out; omega))
        have HBQ9 := Lib.hid (HBQ.out.kept hg8 (fun e => by injection e with e; have := HGB.out; omega))
        clear CF HRSX HBX HBQ hg8 hr8 y5 b0 b1 b2
        have HRSX := HRSX9
        have HBX := HBX9
        have HBQ := HBQ9
        have y5 := HRSX.out.wrong
        rw [HEG.out] at y5
        obtain ⟨pa, hpa⟩ : ∃ pa, pa = K2 := ⟨_, rfl⟩
        rw [← hpa] at HRSX HGP5
        go_wp2_with fail
        obtain ⟨W0, hW0⟩ : ∃ W0, W0 = w8.drew := ⟨_, rfl⟩
        have hbd0 : Below w8.heap.size w8 W0 := by rw [hW0]; exact Below.drew (Below.refl _ _)
        have hq0 := HBQ.out.below hbd0
        have hr0 := HRSX.out.bel hbd0
        obtain ⟨P0, np0, cp0, hbx0, _⟩ := hr0.box
        have kW0 : W0.cell? ⟨gb, 6, none⟩ = some (.int .i64 (pa : Nat)) := by rw [← HEG.out]; exact hbx0.cell 6 _ rfl
        have s0 := hq0.cell 0 _ rfl
        have fr0 := hq0.frozen 0
        obtain ⟨W1, hW1⟩ : ∃ W1, W1 = W0.setCell ⟨g4, 0, none⟩ (.slice none 0 0) := ⟨_, rfl⟩
        have kW1 : W1.cell? ⟨gb, 6, none⟩ = some (.int .i64 (pa : Nat)) := by
          rw [← HEG.out, hW1]
          exact (hbx0.kept (BoxA.set_grown W0 g4 0 (.slice none 0 0)) (fun e => by injection e with e; have := HGB.out; rw [HEG.out] at e; omega)).cell 6 _ rfl
        obtain ⟨hE1, y0⟩ := parE_set (G := G) (Below.thn HBX.out hbd0) HGE.out hq0 (.slice none 0 0) [] (OwnO.nil _ _) pa 200 HGP5.out
        rw [← hW1] at hE1 y0
        have HE := Lib.hid hE1
        have HW0 := Lib.hid hW0
        clear hW0 hbd0 hq0 hr0 hbx0 hE1
        rename_i K2 hK2
        refine wp_region_flowJ (by kernel_rfl) (PeF g4 gb pa) (fun _ _ => True) (PeJ W0 W1) (PeF.keep g4 gb pa) ?_ (by kernel_rfl) (by kernel_rfl) ?_ ?_
        case refine_1 => exact ⟨fun _ => HW0.out.symm, fun h => h.elim⟩
        case refine_2 =>
          intro i o ho ρ y w2 S hJ hnS hneeds hcl hreg hn hf hyb hyn
          have hi := (Array.getElem?_eq_some_iff.1 ho).1
          rcases Nat.lt_or_ge i 8 with hi2 | hi2
          case inr => simp at hi; omega
          obtain rfl | rfl | rfl | rfl | rfl | rfl | rfl | rfl : i = 0 ∨ i = 1 ∨ i = 2 ∨ i = 3 ∨ i = 4 ∨ i = 5 ∨ i = 6 ∨ i = 7 := by omega
          · cases ho
            rw [if_pos (show Region.wanted _ y = true from rfl)]
            exact does_ok (v := .agg #[.slice none 0 0]) (w' := w2) (by simp [go_sem, hreg.const, hbq]) ⟨rfl, trivial, hJ.next (by decide)⟩
          · cases ho
            rw [if_pos (show Region.wanted _ y = true from rfl)]
            have f7 : ρ (.tmp 7) = .pointer (some ⟨gb, 0, none⟩) := hf 7 (by kernel_rfl)
            exact ⟨f7, trivial, hJ.next (by decide)⟩
          · cases ho
            rw [if_pos (show Region.wanted _ y = true from rfl)]
            have f47 : ρ (.tmp 47) = .pointer (some ⟨gb, 0, none⟩) := hn 1 _ 47 rfl (by kernel_rfl) rfl
            exact does_ok (v := .pointer (some ⟨gb, 0, none⟩)) (w' := w2) (by simp [go_sem, hreg.const, f47]) ⟨rfl, trivial, hJ.next (by decide)⟩
          · cases ho
            rw [if_pos (show Region.wanted _ y = true from rfl)]
            have f48 : ρ (.tmp 48) = .pointer (some ⟨gb, 0, none⟩) := hn 2 _ 48 rfl (by kernel_rfl) rfl
            exact does_ok (v := .pointer (some ⟨gb, 6, none⟩)) (w' := w2) (by simp [go_sem, hreg.const, f48]) ⟨rfl, trivial, hJ.next (by decide)⟩
          · cases ho
            rw [if_pos (show Region.wanted _ y = true from rfl)]
            have f49 : ρ (.tmp 49) = .pointer (some ⟨gb, 6, none⟩) := hn 3 _ 49 rfl (by kernel_rfl) rfl
            have k0 : w2.cell? ⟨gb, 6, none⟩ = some (.int .i64 (pa : Nat)) := by
              by_cases h5 : S 5
              · rw [hJ.b h5]; exact kW1
              · rw [hJ.z h5]; exact kW0
            exact does_ok (v := .int .i64 (pa : Nat)) (w' := w2) (by simp [go_sem, hreg.const, f49, k0]) ⟨rfl, trivial, hJ.next (by decide)⟩
          · cases ho
            rw [if_pos (show Region.wanted _ y = true from rfl)]
            have f4 : ρ (.tmp 4) = .pointer (some ⟨g4, 0, none⟩) := hf 4 (by kernel_rfl)
            have f46 : ρ (.tmp 46) = .agg #[.slice none 0 0] := hn 0 _ 46 rfl (by kernel_rfl) rfl
            obtain rfl := (hJ.z hnS).symm
            exact does_skip (w' := W1) (by rw [hW1]; simp [go_sem, hreg.const, f4, f46, s0, fr0]) ⟨rfl, trivial, PeJ.st⟩
          · cases ho
            rw [if_pos (show Region.wanted _ y = true from rfl)]
            have f50 : ρ (.tmp 50) = .int .i64 (pa : Nat) := hn 4 _ 50 rfl (by kernel_rfl) rfl
            exact ⟨f50, trivial, hJ.next (by decide)⟩
          · cases ho
            rw [if_pos (show Region.wanted _ y = true from rfl)]
            exact does_ok (v := .int .i64 200) (w' := w2) (by simp [go_sem, hreg.const]) ⟨rfl, trivial, hJ.next (by decide)⟩
        case refine_3 =>
          intro a w2 S hJ hall hd hs hfacts hrest
          have q5 : a.tmps.getD 5 undef = .int .i64 (pa : Nat) := hfacts 6 _ 5 rfl rfl
          have q6 : a.tmps.getD 6 undef = .int .i64 200 := hfacts 7 _ 6 rfl rfl
          have ha := frame_of hd hs hrest [5, 6, 46, 47, 48, 49, 50] (by kernel_rfl)
          simp only [q5, q6, List.foldl, List.setIfInBounds_toArray, List.set_cons_succ, List.set_cons_zero] at ha
          clear q5 q6 hd hs hfacts hrest
          generalize a.tmps.getD = gg at ha
          subst ha
          obtain rfl := hJ.b (hall 5 (by decide))
          clear hJ hall s0 fr0 kW0 kW1 hW1
          go_wp2
          refine bodyPost_ret (v := .tuple #[.agg #[.slice none 0 0], .int .i64 (pa : Nat), .int .i64 200]) (by simp [results, Tryz.results8, go_sem, y0]) rfl HE.out
end Go.Proofs.YtkkeodlnejckjaaGreat
