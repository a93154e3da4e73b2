import Derived.Test.YtkkeodlnejckjaaGreatRefAll
import Derived.Test.YtkkeodlnejckjaaGreatPar
import Derived.Test.YtkkeodlnejckjaaGreatReg
import Derived.Test.YtkkeodlnejckjaaGreatRefRdr
import Derived.Deep.LoopGhost
import Derived.WalkSpells

/- The document's reader: what comes. -/
namespace Go.Proofs.YtkkeodlnejckjaaGreat
open Go.RowKit Go.Shelf
set_option linter.unusedVariables false
set_option linter.unusedSimpArgs false

theorem OwnL.apartBox {α : Type} {enc : α → Value} {e t : TypeId} {w : World} {base g : Nat} {v : Value} {l : List α} {C : List Value} (h : OwnL enc e w base v l) (hbx : BoxA w g t C) (hne : e ≠ t) : v.ownBlock = Option.none ∨ v.ownBlock ≠ some g := by
  cases hk : v.ownBlock with
  | none => exact .inl rfl
  | some k =>
    right
    intro e1
    injection e1 with e1
    subst e1
    obtain ⟨C', fr, h2⟩ := own_cell h k hk
    have h3 : w.heap[k]? = _ := hbx
    rw [h3] at h2
    injection h2 with h2
    injection h2 with _ h4 _
    exact hne h4.symm
theorem OwnOp.keptOp {w w' : World} {base g : Nat} {x : OpE} {C : List Value} (h : OwnOp w base x) (hbx : BoxA w g 76 C) (hg : w.grownBy w' (some g)) : OwnOp w' base x :=
  ⟨h.1.kept hg (h.1.apartBox hbx (by decide)), h.2.kept hg (h.2.apartBox hbx (by decide))⟩
structure N20 (w : World) (gb b0 : Nat) (ap : Addr) (np cp k : Nat) (A1 : Option Addr) (m1 c1 : Nat) (G : Option QOp) (S : Nat → Prop) (r : Nat → Value) (W : World) : Prop where
  v0 : S 0 → r 0 = .pointer (some ⟨gb, 0, none⟩)
  v1 : S 1 → r 1 = .pointer (some ⟨gb, 0, none⟩)
  v2 : S 2 → r 2 = .pointer (some ⟨gb, 0, none⟩)
  v3 : S 3 → r 3 = .pointer (some ⟨gb, 3, none⟩)
  v4 : S 4 → r 4 = .slice (some ap) np cp
  v5 : S 5 → r 5 = .pointer (some ⟨gb, 0, none⟩)
  v6 : S 6 → r 6 = .pointer (some ⟨gb, 0, none⟩)
  v7 : S 7 → r 7 = .pointer (some ⟨gb, 4, none⟩)
  v8 : S 8 → r 8 = .int .i64 (k : Nat)
  v9 : S 9 → r 9 = .pointer (some (ap.add (k * 2)))
  v10 : S 10 → r 10 = .pointer (some ⟨(ap.add (k * 2)).block, (ap.add (k * 2)).off + 1, none⟩)
  v11 : S 11 → r 11 = .slice A1 m1 c1
  v15 : S 15 → r 15 = .bool G.isSome
  v18 : S 18 → r 18 = .bool G.isSome
  f_b : Below w.heap.size w W
  p12 : S 12 → ¬ S 17 → ∃ (k9 : Int) (B1 : Option Addr) (n1 d1 : Nat) (B2 : Option Addr) (n2 d2 : Nat) (ts : List ByteArray) (os : List Int), (r 12) = .tuple #[.agg #[.int .i64 k9, .slice B1 n1 d1, .slice B2 n2 d2], .bool G.isSome] ∧ OwnOp W b0 ((k9, ts, os), (B1, n1, d1), (B2, n2, d2)) ∧ (∀ o, G = some o → (k9, ts, os) = o)
  e13 : S 13 → r 13 = r 12
  e14 : S 14 → ∃ x y, r 12 = .tuple #[x, y] ∧ r 14 = x
  p16 : S 16 → ¬ S 17 → ∃ g5, (r 16) = .pointer (some ⟨g5, 0, none⟩) ∧ w.heap.size ≤ g5 ∧ BoxA W g5 76 [.int .i64 0, .slice none 0 0, .slice none 0 0]
  q17 : S 17 → ∃ g5, (r 16) = .pointer (some ⟨g5, 0, none⟩) ∧ w.heap.size ≤ g5 ∧ ∃ (k9 : Int) (B1 : Option Addr) (n1 d1 : Nat) (B2 : Option Addr) (n2 d2 : Nat) (ts : List ByteArray) (os : List Int), BoxA W g5 76 [.int .i64 k9, .slice B1 n1 d1, .slice B2 n2 d2] ∧ OwnOp W b0 ((k9, ts, os), (B1, n1, d1), (B2, n2, d2)) ∧ (∀ o, G = some o → (k9, ts, os) = o)
  e12 : S 12 → ∃ x, r 12 = .tuple #[x, .bool G.isSome]

theorem kind_rng (bs : List Nat) : kindB bs = 1 ∨ kindB bs = 2 ∨ kindB bs = 3 ∨ kindB bs = 4 ∨ kindB bs = 5 ∨ kindB bs = 6 ∨ kindB bs = 7 ∨ kindB bs = 8 := by
  unfold kindB wordK
  repeat' split
  all_goals simp
theorem base_item {cf : Cf} {T : Nat} {deep : Option (List Pc → PRes)} {l : List Pc} (hk : (headP T l).1 = kindB (headP T l).2.2) (h : (headP T l).1 = 3 ∨ (headP T l).1 = 4 ∨ (headP T l).1 = 8) : baseS cf T deep l = ofO (headP T l).2.1 l.tail (refItemG cf (headP T l).2.2) := by
  obtain ⟨bs, hbs⟩ : ∃ bs, bs = (headP T l).2.2 := ⟨_, rfl⟩
  have hn1 : ¬ bs = [40] := fun e => by rw [← hbs, e] at hk; simp [kindB] at hk; omega
  have hn2 : ¬ bs = [41] := fun e => by rw [← hbs, e] at hk; simp [kindB] at hk; omega
  rw [← hbs] at hk ⊢
  by_cases h34 : bs.getD 0 0 = 34
  · have e : (headP T l).1 = if bs.length < 2 ∨ bs.getD (bs.length - 1) 0 ≠ 34 then 4 else 3 := by
      rw [hk]
      unfold kindB
      rw [if_neg hn1, if_neg hn2, if_pos h34]
    by_cases hq : bs.length < 2 ∨ bs.getD (bs.length - 1) 0 ≠ 34
    · rw [if_pos hq] at e
      have hr : refItemG cf bs = none := by
        unfold refItemG
        rw [if_pos h34, if_pos hq]
      rw [hr, base_no (by omega) (by omega) (by omega) (by omega)]
      rfl
    · rw [if_neg hq] at e
      have hr : refItemG cf bs = asksG cf ((bs.drop 1).take (bs.length - 2)) := by
        unfold refItemG
        rw [if_pos h34, if_neg hq]
      rw [hr, base_3 e, ← hbs]
  · have e : (headP T l).1 = wordK bs := by
      rw [hk]
      unfold kindB
      rw [if_neg hn1, if_neg hn2, if_neg h34]
    have e8 : (headP T l).1 = 8 := by
      rcases h with h | h | h
      · exfalso; rw [e] at h; revert h; unfold wordK; repeat' split
        all_goals simp
      · exfalso; rw [e] at h; revert h; unfold wordK; repeat' split
        all_goals simp
      · exact h
    have hr : refItemG cf bs = itemG cf bs := by
      unfold refItemG
      rw [if_neg h34]
    rw [hr, base_8 e8, ← hbs]
theorem QRes.lift {E : RE} {R : PRes} {b b' : Nat} {W W3 w' : World} {dp : Int} {at_ : Nat} {e : Ending} (h : QRes E R b W3 dp at_ e w') (hg : W.grownBy W3 (some E.gb)) (hb : b ≤ b') : QRes E R b' W dp at_ e w' := by
  obtain ⟨v, o, he, ho, hol, hg2, hm⟩ := h
  exact ⟨v, o, he, ho.mono hg.size, Nat.le_trans hol hb, hg.trans hg2, hm⟩
set_option maxRecDepth 100000 in
set_option maxHeartbeats 4000000 in
theorem qnot_any (E : RE) (deep : Option (List Pc → PRes)) (dp : Int)
    (Hd : (deep = none ∧ dp = 16) ∨ ∃ nf, deep = some nf ∧ 0 ≤ dp ∧ dp < 16 ∧ (∀ (W : World) (l : List Pc) (at_ : Nat), l.length ≤ 1000 → QS E W l (dp + 1) false at_ → Calls Tryz.prog 81 #[.pointer (some ⟨E.gb, 0, none⟩)] W (QRes E (nf l) (2 * l.length) W (dp + 1) at_)) ∧
      (∀ (W : World) (l : List Pc) (at_ : Nat), l.length ≤ 1000 → QS E W l (dp + 1) false at_ → Calls Tryz.prog 36 #[.pointer (some ⟨E.gb, 0, none⟩)] W (QRes E (anyS (allS nf) l) (2 * l.length) W (dp + 1) at_)))
    (W : World) (l : List Pc) (at_ : Nat) (hl : l.length ≤ 1000) (h : QS E W l dp false at_) :
    Calls Tryz.prog 81 #[.pointer (some ⟨E.gb, 0, none⟩)] W (QRes E (baseS E.cf E.T deep l) (2 * l.length) W dp at_) := by
  have HGBL := Lib.hid h.gbl
  have y7 := h.bad
  simp only [Bool.false_eq_true, if_false] at y7
  have CN := Lib.hid (qnext_any E W l dp at_ h)
  have HF := Lib.hid h.strF
  have HQS1 := Lib.hid h
  clear h
  go_enter Tryz.func81, Tryz.ntmps81
  go_wp2_with fail
  refine CN.out.mono ?_
  rintro e W2 ⟨s, rfl, hs, hby, hb2⟩
  have HQS := Lib.hid (HQS1.out.bel hb2)
  have HG2 := Lib.hid (grown_below hb2 (some E.gb))
  obtain ⟨e0, e6, e2, e5, e7, e1⟩ := HF.out s hs hby
  have z7 := cell_keep hb2 y7
  obtain ⟨K, hK⟩ : ∃ K, K = (headP E.T l).1 := ⟨_, rfl⟩
  rw [← hK] at e6 e2 e5 e7 e1
  have HK := Lib.hid hK
  clear CN HQS1 hs hby hb2 y7 HF hK
  by_cases hln : l = []
  · rw [decide_eq_true hln] at e0
    clear e6 e2 e5 e7 e1
    have HBE : Hid (baseS E.cf E.T deep l = .bad (headP E.T l).2.1) := Lib.hid (by subst hln; rfl)
    have CF := Lib.hid (qfault_any E W2 l dp at_ HQS.out)
    go_wp2_with fail
    refine CF.out.mono ?_
    rintro e W4 ⟨rfl, hg4, hr4⟩
    have HE : Hid (QRes E (baseS E.cf E.T deep l) (2 * l.length) W dp at_ (.returned (.slice none 0 0)) W4) := Lib.hid (by
      rw [HBE.out]
      exact QRes.bad (HG2.out.trans hg4) hr4)
    clear CF hg4 hr4
    go_wp2
    go_ret
    exact HE.out
  rw [decide_eq_false hln] at e0
  by_cases h5 : K = 5
  · rw [decide_eq_true h5] at e5
    have H5 := Lib.hid h5
    clear e6 e2 e7 e1 h5
    have HBE : Hid (baseS E.cf E.T deep l = .bad (headP E.T l).2.1) := Lib.hid (by exact base_no (by rw [← HK.out, H5.out]; decide) (by rw [← HK.out, H5.out]; decide) (by rw [← HK.out, H5.out]; decide) (by rw [← HK.out, H5.out]; decide))
    have CF := Lib.hid (qfault_any E W2 l dp at_ HQS.out)
    go_wp2_with fail
    refine CF.out.mono ?_
    rintro e W4 ⟨rfl, hg4, hr4⟩
    have HE : Hid (QRes E (baseS E.cf E.T deep l) (2 * l.length) W dp at_ (.returned (.slice none 0 0)) W4) := Lib.hid (by
      rw [HBE.out]
      exact QRes.bad (HG2.out.trans hg4) hr4)
    clear CF hg4 hr4
    go_wp2
    go_ret
    exact HE.out
  rw [decide_eq_false h5] at e5
  by_cases h6 : K = 6
  · rw [decide_eq_true h6] at e6
    have H5 := Lib.hid h6
    clear e2 e7 e1 h6
    have HBE : Hid (baseS E.cf E.T deep l = .bad (headP E.T l).2.1) := Lib.hid (by exact base_no (by rw [← HK.out, H5.out]; decide) (by rw [← HK.out, H5.out]; decide) (by rw [← HK.out, H5.out]; decide) (by rw [← HK.out, H5.out]; decide))
    have CF := Lib.hid (qfault_any E W2 l dp at_ HQS.out)
    go_wp2_with fail
    refine CF.out.mono ?_
    rintro e W4 ⟨rfl, hg4, hr4⟩
    have HE : Hid (QRes E (baseS E.cf E.T deep l) (2 * l.length) W dp at_ (.returned (.slice none 0 0)) W4) := Lib.hid (by
      rw [HBE.out]
      exact QRes.bad (HG2.out.trans hg4) hr4)
    clear CF hg4 hr4
    go_wp2
    go_ret
    exact HE.out
  rw [decide_eq_false h6] at e6
  by_cases h2 : K = 2
  · rw [decide_eq_true h2] at e2
    have H5 := Lib.hid h2
    clear e7 e1 h2
    have HBE : Hid (baseS E.cf E.T deep l = .bad (headP E.T l).2.1) := Lib.hid (by exact base_no (by rw [← HK.out, H5.out]; decide) (by rw [← HK.out, H5.out]; decide) (by rw [← HK.out, H5.out]; decide) (by rw [← HK.out, H5.out]; decide))
    have CF := Lib.hid (qfault_any E W2 l dp at_ HQS.out)
    go_wp2_with fail
    refine CF.out.mono ?_
    rintro e W4 ⟨rfl, hg4, hr4⟩
    have HE : Hid (QRes E (baseS E.cf E.T deep l) (2 * l.length) W dp at_ (.returned (.slice none 0 0)) W4) := Lib.hid (by
      rw [HBE.out]
      exact QRes.bad (HG2.out.trans hg4) hr4)
    clear CF hg4 hr4
    go_wp2
    go_ret
    exact HE.out
  rw [decide_eq_false h2] at e2
  have HNE : Hid (l ≠ []) := Lib.hid hln
  have HPG : Hid (PcG (headP E.T l) ∧ (headP E.T l).1 = kindB (headP E.T l).2.2 ∧ (headP E.T l).2.2.length ≤ 1000 ∧ l.tail.length + 1 = l.length) := Lib.hid (by
    obtain ⟨P, np, cp, i, _, h2⟩ := HQS.out.box
    obtain ⟨k, _, hq⟩ := h2 rfl
    obtain ⟨_, _, _, _, _, _, _, _, _, hg, hk, hb, _, ht⟩ := hq.cons HNE.out
    exact ⟨hg, hk, hb, ht⟩)
  have HTL : Hid (l.tail.length ≤ 1000) := Lib.hid (by have := HPG.out.2.2.2; omega)
  obtain ⟨y6a, y6b⟩ := (HQS.out.deep 0).2.2
  clear hln
  by_cases h7 : K = 7
  · rw [decide_eq_true h7] at e7
    have H7 := Lib.hid h7
    clear e1 h7
    rcases Hd with ⟨rfl, rfl⟩ | ⟨nf, rfl, hd0, hd1, HN, HY⟩
    · have hge : (16 : Int) ≥ 16 := by decide
      have HBE : Hid (baseS E.cf E.T none l = .bad (headP E.T l).2.1) := Lib.hid (by rw [base_7 (by rw [← HK.out, H7.out])]; rfl)
      have CF := Lib.hid (qfault_any E W2 l 16 at_ HQS.out)
      go_wp2_with fail
      refine CF.out.mono ?_
      rintro e W4 ⟨rfl, hg4, hr4⟩
      have HE : Hid (QRes E (baseS E.cf E.T none l) (2 * l.length) W 16 at_ (.returned (.slice none 0 0)) W4) := Lib.hid (by
        rw [HBE.out]
        exact QRes.bad (HG2.out.trans hg4) hr4)
      clear CF hg4 hr4
      go_wp2
      go_ret
      exact HE.out
    · have hge : ¬ (dp ≥ 16) := by omega
      have HBE : Hid (baseS E.cf E.T (some nf) l = nots (nf l.tail)) := Lib.hid (by rw [base_7 (by rw [← HK.out, H7.out])]; rfl)
      obtain ⟨ix, hix, x4, x4f, hadv, hga⟩ := HQS.out.adv HNE.out
      have hwx : wrap64 ((ix : Int) + 1) = (ix : Int) + 1 := by unfold wrap64; omega
      obtain ⟨W3, hW3⟩ : ∃ W3, W3 = W2.setCell ⟨E.gb, 4, none⟩ (.int .i64 ((ix : Int) + 1)) := ⟨_, rfl⟩
      rw [← hW3] at hadv hga
      obtain ⟨hdeep, hgd, x6, x6f⟩ := hadv.deep (dp + 1)
      have hwd : wrap64 (dp + 1) = dp + 1 := by unfold wrap64; omega
      obtain ⟨W4, hW4⟩ : ∃ W4, W4 = W3.setCell ⟨E.gb, 6, none⟩ (.int .i64 (dp + 1)) := ⟨_, rfl⟩
      rw [← hW4] at hdeep hgd
      have HQS4 := Lib.hid hdeep
      have HG4 := Lib.hid ((HG2.out.trans hga).trans hgd)
      have HW3 := Lib.hid hW3
      have HW4 := Lib.hid hW4
      clear hadv hga hdeep hgd hW3 hW4
      go_upto_region 10 with fail
      rw [← HW3.out]
      go_upto_region 11 with fail
      rw [← HW4.out]
      clear x4 x4f x6 x6f
      have HCN := Lib.hid (HN W4 l.tail at_ HTL.out HQS4.out)
      go_wp2_with fail
      refine HCN.out.mono ?_
      rintro e W5 ⟨v2, o, rfl, ho2, hol, hg5, hm⟩
      obtain ⟨A2, c2, rfl, _⟩ := ho2.rd
      have hgW := HG4.out
      have hgbW := HGBL.out
      have ho' := ho2.mono hgW.size
      obtain ⟨A8, c8, w8, r8, o8, g8, _, _⟩ := OwnO.push (opQ 7, (none, 0, 0), (none, 0, 0)) #[.int .i64 7, .slice none 0 0, .slice none 0 0] rfl (OwnOp.nil _ _ _) ho' (Nat.le_trans hgW.size hg5.size) (by have := HTL.out; omega)
      have hG8 : W.grownBy w8 (some E.gb) := grown_row (hgW.trans hg5) g8 (fun k hk => (ho'.base k hk).1)
      have hrow : ∀ {l'' : List Pc} {dq : Int} {wq : Bool} {aq : Nat}, QS E W5 l'' dq wq aq → QS E w8 l'' dq wq aq := fun h => h.kept g8 (fun k hk => by have := (ho'.base k hk).1; omega)
      have hbd : ∀ W : World, (Instr.build 76 #[(0, .int .i64 7)]).run Tryz.prog W = .ok (.agg #[.int .i64 7, .slice none 0 0, .slice none 0 0]) W := fun W => run_build W 76 _ _ (by kernel_rfl)
      obtain ⟨n9, hn9⟩ : ∃ n9, n9 = o.length := ⟨_, rfl⟩
      have HX : Hid (∃ d5, w8.cell? ⟨E.gb, 6, none⟩ = some (.int .i64 d5) ∧ w8.frozen? ⟨E.gb, 6, none⟩ = false ∧ QRes E (baseS E.cf E.T (some nf) l) (2 * l.length) W dp at_ (.returned (.slice A8 (o.length + 1) c8)) (w8.setCell ⟨E.gb, 6, none⟩ (.int .i64 (wrap64 (d5 - 1))))) := Lib.hid (by
        have key : ∀ (dx : Int), OwnO (w8.setCell ⟨E.gb, 6, none⟩ (.int .i64 dx)) W.heap.size (.slice A8 (o.length + 1) c8) (o ++ [opQ 7]) ∧ W.grownBy (w8.setCell ⟨E.gb, 6, none⟩ (.int .i64 dx)) (some E.gb) := fun dx => by
          have hg6 := BoxA.set_grown w8 E.gb 6 (.int .i64 dx)
          exact ⟨o8.kept hg6 (fun k hk => by have := HGBL.out; injection hk with hk; omega), hG8.trans hg6⟩
        cases hR : nf l.tail with
        | ok o' r =>
          rw [hR] at hm
          obtain ⟨rfl, hr⟩ := hm
          have hw : wrap64 (dp + 1 - 1) = dp := by rw [show dp + 1 - 1 = dp by omega]; unfold wrap64; omega
          obtain ⟨h1, _, h3, h4⟩ := (hrow hr).deep (wrap64 (dp + 1 - 1))
          refine ⟨_, h3, h4, _, _, rfl, (key _).1, by have := HPG.out.2.2.2; simp; omega, (key _).2, ?_⟩
          rw [HBE.out, hR, hw] at *
          exact ⟨rfl, h1⟩
        | bad a =>
          rw [hR] at hm
          obtain ⟨l', dp', hr⟩ := hm
          obtain ⟨h1, _, h3, h4⟩ := (hrow hr).deep (wrap64 (dp' - 1))
          refine ⟨_, h3, h4, _, _, rfl, (key _).1, by have := HPG.out.2.2.2; simp; omega, (key _).2, ?_⟩
          rw [HBE.out, hR]
          exact ⟨l', _, h1⟩)
      clear HCN ho2 hg5 hm ho' g8 o8 hG8 hrow
      obtain ⟨d5, u6, u6f, hfin⟩ := HX.out
      have HF9 := Lib.hid hfin
      clear HX hfin
      rw [← hn9] at r8 HF9 ⊢
      clear hn9 hol hgW
      go_wp2_with (at_builtin; refine wpl_append_run rfl _ _ _ rfl rfl rfl r8 ?_)
      go_ret
      exact HF9.out
  rw [decide_eq_false h7] at e7
  by_cases h1 : K = 1
  · rw [decide_eq_true h1] at e1
    have H7 := Lib.hid h1
    clear h1
    rcases Hd with ⟨rfl, rfl⟩ | ⟨nf, rfl, hd0, hd1, HN, HY⟩
    · have hge : (16 : Int) ≥ 16 := by decide
      have HBE : Hid (baseS E.cf E.T none l = .bad (headP E.T l).2.1) := Lib.hid (by rw [base_1 (by rw [← HK.out, H7.out])]; rfl)
      have CF := Lib.hid (qfault_any E W2 l 16 at_ HQS.out)
      go_wp2_with fail
      refine CF.out.mono ?_
      rintro e W4 ⟨rfl, hg4, hr4⟩
      have HE : Hid (QRes E (baseS E.cf E.T none l) (2 * l.length) W 16 at_ (.returned (.slice none 0 0)) W4) := Lib.hid (by
        rw [HBE.out]
        exact QRes.bad (HG2.out.trans hg4) hr4)
      clear CF hg4 hr4
      go_wp2
      go_ret
      exact HE.out
    · have hge : ¬ (dp ≥ 16) := by omega
      have HBE : Hid (baseS E.cf E.T (some nf) l = brkS E.T (anyS (allS nf)) l.tail) := Lib.hid (by rw [base_1 (by rw [← HK.out, H7.out])]; rfl)
      obtain ⟨ix, hix, x4, x4f, hadv, hga⟩ := HQS.out.adv HNE.out
      have hwx : wrap64 ((ix : Int) + 1) = (ix : Int) + 1 := by unfold wrap64; omega
      obtain ⟨W3, hW3⟩ : ∃ W3, W3 = W2.setCell ⟨E.gb, 4, none⟩ (.int .i64 ((ix : Int) + 1)) := ⟨_, rfl⟩
      rw [← hW3] at hadv hga
      obtain ⟨hdeep, hgd, x6, x6f⟩ := hadv.deep (dp + 1)
      have hwd : wrap64 (dp + 1) = dp + 1 := by unfold wrap64; omega
      obtain ⟨W4, hW4⟩ : ∃ W4, W4 = W3.setCell ⟨E.gb, 6, none⟩ (.int .i64 (dp + 1)) := ⟨_, rfl⟩
      rw [← hW4] at hdeep hgd
      have HQS4 := Lib.hid hdeep
      have HG4 := Lib.hid ((HG2.out.trans hga).trans hgd)
      have HW3 := Lib.hid hW3
      have HW4 := Lib.hid hW4
      clear hadv hga hdeep hgd hW3 hW4
      go_upto_region 10 with fail
      rw [← HW3.out]
      go_upto_region 11 with fail
      rw [← HW4.out]
      clear x4 x4f x6 x6f
      have HCN := Lib.hid (HY W4 l.tail at_ HTL.out HQS4.out)
      go_wp2_with fail
      refine HCN.out.mono ?_
      rintro e W5 ⟨v2, o, rfl, ho2, hol, hg5, hm⟩
      have ho' := Lib.hid (ho2.mono HG4.out.size)
      have hG5 := Lib.hid (HG4.out.trans hg5)
      cases hR : anyS (allS nf) l.tail with
      | bad a =>
        rw [hR] at hm
        obtain ⟨l', dp', hr⟩ := hm
        have y9 := hr.bad
        simp only [if_true] at y9
        have hlt : ¬ ((a : Int) < 0) := by omega
        obtain ⟨ix, x4, x4f, hadv⟩ := hr.advBad
        obtain ⟨W6, hW6⟩ : ∃ W6, W6 = W5.setCell ⟨E.gb, 4, none⟩ (.int .i64 (wrap64 (ix + 1))) := ⟨_, rfl⟩
        obtain ⟨ha1, ha2⟩ := hadv (wrap64 (ix + 1))
        rw [← hW6] at ha1 ha2
        have HW6 := Lib.hid hW6
        have ho6 := ho'.out.kept ha2 (fun k hk => by have := HGBL.out; injection hk with hk; omega)
        have hG6 := hG5.out.trans ha2
        have HRB : Hid (baseS E.cf E.T (some nf) l = .bad a) := Lib.hid (by rw [HBE.out, brkS_bad hR])
        clear HCN ho2 hg5 hR hr hadv hW6
        go_upto_region 18 with fail
        rw [← HW6.out]
        clear x4 x4f y9
        have HX : Hid (∃ d5, W6.cell? ⟨E.gb, 6, none⟩ = some (.int .i64 d5) ∧ W6.frozen? ⟨E.gb, 6, none⟩ = false ∧ QRes E (baseS E.cf E.T (some nf) l) (2 * l.length) W dp at_ (.returned v2) (W6.setCell ⟨E.gb, 6, none⟩ (.int .i64 (wrap64 (d5 - 1))))) := Lib.hid (by
          have key : ∀ (dx : Int), OwnO (W6.setCell ⟨E.gb, 6, none⟩ (.int .i64 dx)) W.heap.size v2 o ∧ W.grownBy (W6.setCell ⟨E.gb, 6, none⟩ (.int .i64 dx)) (some E.gb) := fun dx => by
            have hg6 := BoxA.set_grown W6 E.gb 6 (.int .i64 dx)
            exact ⟨ho6.kept hg6 (fun k hk => by have := HGBL.out; injection hk with hk; omega), hG6.trans hg6⟩
          obtain ⟨h1, _, h3, h4⟩ := ha1.deep (wrap64 (dp' - 1))
          refine ⟨_, h3, h4, _, _, rfl, (key _).1, by have := HPG.out.2.2.2; omega, (key _).2, ?_⟩
          rw [HRB.out]
          exact ⟨l', _, h1⟩)
        clear ho6 hG6 ha1 ha2
        obtain ⟨d5, u6, u6f, hfin⟩ := HX.out
        have HF9 := Lib.hid hfin
        clear HX hfin
        go_wp2
        go_ret
        exact HF9.out
      | ok o' r =>
        rw [hR] at hm
        obtain ⟨rfl, hr⟩ := hm
        have y9 := hr.bad
        simp only [Bool.false_eq_true, if_false] at y9
        have CX := Lib.hid (qnext_any E W5 r (dp + 1) at_ hr)
        have HF5 := Lib.hid hr.strF
        have HR5 := Lib.hid hr
        have HRR := Lib.hid hR
        clear HCN ho2 hg5 hR hr
        go_wp2_with fail
        refine CX.out.mono ?_
        rintro e W6 ⟨s2, rfl, hs2, hby2, hb6⟩
        obtain ⟨_, _, k2, _, _, _⟩ := HF5.out s2 hs2 hby2
        have HR6 := Lib.hid (HR5.out.bel hb6)
        have HO6 := Lib.hid (ho'.out.below hb6)
        have HG6 := Lib.hid (hG5.out.trans (grown_below hb6 (some E.gb)))
        clear CX HF5 HR5 hs2 hby2 hb6 y9 ho' hG5
        by_cases hk2 : (headP E.T r).1 = 2
        · rw [decide_eq_true hk2] at k2
          have HRB : Hid (baseS E.cf E.T (some nf) l = .ok o r.tail) := Lib.hid (by rw [HBE.out]; exact brkS_close HRR.out hk2)
          obtain ⟨ix, hix, x4, x4f, hadv, hga⟩ := HR6.out.adv (fun e => by rw [e] at hk2; cases hk2)
          have hwx : wrap64 ((ix : Int) + 1) = (ix : Int) + 1 := by unfold wrap64; omega
          obtain ⟨W7, hW7⟩ : ∃ W7, W7 = W6.setCell ⟨E.gb, 4, none⟩ (.int .i64 ((ix : Int) + 1)) := ⟨_, rfl⟩
          rw [← hW7] at hadv hga
          have HW7 := Lib.hid hW7
          have ho7 := HO6.out.kept hga (fun k hk => by have := HGBL.out; injection hk with hk; omega)
          have hG7 := HG6.out.trans hga
          clear hW7 hk2
          go_upto_region 18 with fail
          rw [← HW7.out]
          clear x4 x4f
          have HX : Hid (∃ d5, W7.cell? ⟨E.gb, 6, none⟩ = some (.int .i64 d5) ∧ W7.frozen? ⟨E.gb, 6, none⟩ = false ∧ QRes E (baseS E.cf E.T (some nf) l) (2 * l.length) W dp at_ (.returned v2) (W7.setCell ⟨E.gb, 6, none⟩ (.int .i64 (wrap64 (d5 - 1))))) := Lib.hid (by
            have key : ∀ (dx : Int), OwnO (W7.setCell ⟨E.gb, 6, none⟩ (.int .i64 dx)) W.heap.size v2 o ∧ W.grownBy (W7.setCell ⟨E.gb, 6, none⟩ (.int .i64 dx)) (some E.gb) := fun dx => by
              have hg6 := BoxA.set_grown W7 E.gb 6 (.int .i64 dx)
              exact ⟨ho7.kept hg6 (fun k hk => by have := HGBL.out; injection hk with hk; omega), hG7.trans hg6⟩
            have hw : wrap64 (dp + 1 - 1) = dp := by rw [show dp + 1 - 1 = dp by omega]; unfold wrap64; omega
            obtain ⟨h1, _, h3, h4⟩ := hadv.deep (wrap64 (dp + 1 - 1))
            refine ⟨_, h3, h4, _, _, rfl, (key _).1, by have := HPG.out.2.2.2; omega, (key _).2, ?_⟩
            rw [HRB.out, hw] at *
            exact ⟨rfl, h1⟩)
          clear ho7 hG7 hadv hga
          obtain ⟨d5, u6, u6f, hfin⟩ := HX.out
          have HF9 := Lib.hid hfin
          clear HX hfin
          go_wp2
          go_ret
          exact HF9.out
        · rw [decide_eq_false hk2] at k2
          have HRB : Hid (baseS E.cf E.T (some nf) l = .bad (headP E.T r).2.1) := Lib.hid (by rw [HBE.out]; exact brkS_open HRR.out hk2)
          have CF := Lib.hid (qfault_any E W6 r (dp + 1) at_ HR6.out)
          go_wp2_with fail
          refine CF.out.mono ?_
          rintro e W7 ⟨rfl, hg7, hr7⟩
          have HE : Hid (QRes E (baseS E.cf E.T (some nf) l) (2 * l.length) W dp at_ (.returned (.slice none 0 0)) W7) := Lib.hid (by
            rw [HRB.out]
            exact QRes.bad (HG6.out.trans hg7) hr7)
          clear CF hg7 hr7
          go_wp2
          go_ret
          exact HE.out
  rw [decide_eq_false h1] at e1
  have hK348 : K = 3 ∨ K = 4 ∨ K = 8 := by
    have h9 := kind_rng (headP E.T l).2.2
    rw [← HPG.out.2.1, ← HK.out] at h9
    omega
  obtain ⟨p0, hp0⟩ : ∃ p0, p0 = (headP E.T l).2.1 := ⟨_, rfl⟩
  obtain ⟨G, hG⟩ : ∃ G, G = refItemG E.cf (headP E.T l).2.2 := ⟨_, rfl⟩
  have HBE : Hid (baseS E.cf E.T deep l = ofO p0 l.tail G) := Lib.hid (by rw [hp0, hG]; exact base_item HPG.out.2.1 (by rw [← HK.out]; exact hK348))
  have HP0 := Lib.hid hp0
  clear hp0 hK348 Hd
  obtain ⟨P, np, cp, i, hbx, hq9⟩ := HQS.out.box
  obtain ⟨k, rfl, hq⟩ := hq9 rfl
  obtain ⟨ap, A1, m1, c1, rfl, hkn, _, cs, hok, _⟩ := hq.cons HNE.out
  obtain ⟨gb, hgb⟩ : ∃ gb, gb = E.gb := ⟨_, rfl⟩
  have HGB := Lib.hid hgb
  have G3 : Hid (W2.cell? ⟨gb, 3, none⟩ = some (.slice (some ap) np cp)) := Lib.hid (by rw [hgb]; exact hbx.cell 3 _ rfl)
  have G4 : Hid (W2.cell? ⟨gb, 4, none⟩ = some (.int .i64 (k : Nat))) := Lib.hid (by rw [hgb]; exact hbx.cell 4 _ rfl)
  have G5 : Hid (W2.cell? ⟨(ap.add (k * 2)).block, (ap.add (k * 2)).off + 1, none⟩ = some (.slice A1 m1 c1)) := Lib.hid (cell_keep HQS.out.below cs)
  have C20 : Hid (∀ w9, Below W2.heap.size W2 w9 → Calls Tryz.prog 101 #[.pointer (some ⟨gb, 0, none⟩), .slice A1 m1 c1] w9 (OpR G w9)) := Lib.hid fun w9 h9 => by
    rw [hG, hgb]
    have hb9 := HQS.out.below.trans (h9.mono HQS.out.below.size)
    have hrd := hok.2.2.2.below hb9
    have hln9 : (headP E.T l).2.2.length = m1 := hrd.len
    have h1 := HPG.out.1.2.1
    have h2 := HPG.out.2.2.1
    exact refItem_any E.A E.n E.c E.B E.m E.d E.cf E.gb (some ap) np cp _ _ _ _ A1 m1 c1 _ w9 (HQS.out.ok.rc.below hb9) (hbx.below h9) hrd hok.1 hok.2.1 (by omega) HQS.out.ok.m (by omega)
  obtain ⟨w, hw⟩ : ∃ w, w = W2 := ⟨_, rfl⟩
  obtain ⟨b0, hb0⟩ : ∃ b0, b0 = W2.heap.size := ⟨_, rfl⟩
  have HB0 : Hid (b0 ≤ W2.heap.size) := Lib.hid (by omega)
  have HBB := Lib.hid hb0
  clear hG hbx hq9 hq cs hok hgb hb0 y6a y6b hw
  go_wp2_with fail
  rw [← HGB.out]
  clear z7 e0 e1 e2 e5 e6 e7
  rename_i K1 hK1
  refine wp_region_flowG (by kernel_rfl) (N20 W2 gb b0 ap np cp k A1 m1 c1 G) (fun r => ⟨fun h => h.elim, fun h => h.elim, fun h => h.elim, fun h => h.elim, fun h => h.elim, fun h => h.elim, fun h => h.elim, fun h => h.elim, fun h => h.elim, fun h => h.elim, fun h => h.elim, fun h => h.elim, fun h => h.elim, fun h => h.elim, Below.drew (Below.refl _ _), fun h => h.elim, fun h => h.elim, fun h => h.elim, fun h => h.elim, fun h => h.elim, fun h => h.elim⟩) (by kernel_rfl) (by kernel_rfl) ?_ ?_
  case refine_1 =>
    intro i o ho ρ y w2 S r hJ hnS hneeds hcl hreg hn hf hyb hyn
    have hi := (Array.getElem?_eq_some_iff.1 ho).1
    rcases Nat.lt_or_ge i 19 with hi2 | hi2
    case inr => simp at hi; omega
    obtain rfl | rfl | rfl | rfl | rfl | rfl | rfl | rfl | rfl | rfl | rfl | rfl | rfl | rfl | rfl | rfl | rfl | rfl | rfl : i = 0 ∨ i = 1 ∨ i = 2 ∨ i = 3 ∨ i = 4 ∨ i = 5 ∨ i = 6 ∨ i = 7 ∨ i = 8 ∨ i = 9 ∨ i = 10 ∨ i = 11 ∨ i = 12 ∨ i = 13 ∨ i = 14 ∨ i = 15 ∨ i = 16 ∨ i = 17 ∨ i = 18 := by omega
    · cases ho
      rw [if_pos (show Region.wanted _ y = true from rfl)]
      have f0 : ρ (.tmp 0) = .pointer (some ⟨gb, 0, none⟩) := hf 0 (by kernel_rfl)
      refine does_move ?_
      rw [f0]
      exact ⟨fun _ => rfl, fun x => hJ.v1 (x.resolve_left (by decide)), fun x => hJ.v2 (x.resolve_left (by decide)), fun x => hJ.v3 (x.resolve_left (by decide)), fun x => hJ.v4 (x.resolve_left (by decide)), fun x => hJ.v5 (x.resolve_left (by decide)), fun x => hJ.v6 (x.resolve_left (by decide)), fun x => hJ.v7 (x.resolve_left (by decide)), fun x => hJ.v8 (x.resolve_left (by decide)), fun x => hJ.v9 (x.resolve_left (by decide)), fun x => hJ.v10 (x.resolve_left (by decide)), fun x => hJ.v11 (x.resolve_left (by decide)), fun x => hJ.v15 (x.resolve_left (by decide)), fun x => hJ.v18 (x.resolve_left (by decide)), hJ.f_b , fun x12 n17 => absurd (hcl 12 _ rfl (x12.resolve_left (by decide)) 0 (by kernel_rfl)) hnS, fun x13 => absurd (hcl 12 _ rfl (hcl 13 _ rfl (x13.resolve_left (by decide)) 12 (by kernel_rfl)) 0 (by kernel_rfl)) hnS, fun x14 => absurd (hcl 12 _ rfl (hcl 13 _ rfl (hcl 14 _ rfl (x14.resolve_left (by decide)) 13 (by kernel_rfl)) 12 (by kernel_rfl)) 0 (by kernel_rfl)) hnS, fun x16 n17 => hJ.p16 (x16.resolve_left (by decide)) (fun x => n17 (.inr x)), fun x17 => absurd (hcl 17 _ rfl (x17.resolve_left (by decide)) 0 (by kernel_rfl)) hnS, fun x12 => absurd (hcl 12 _ rfl (x12.resolve_left (by decide)) 0 (by kernel_rfl)) hnS⟩
    · cases ho
      rw [if_pos (show Region.wanted _ y = true from rfl)]
      have f0 : ρ (.tmp 0) = .pointer (some ⟨gb, 0, none⟩) := hf 0 (by kernel_rfl)
      refine does_move ?_
      rw [f0]
      exact ⟨fun x => hJ.v0 (x.resolve_left (by decide)), fun _ => rfl, fun x => hJ.v2 (x.resolve_left (by decide)), fun x => hJ.v3 (x.resolve_left (by decide)), fun x => hJ.v4 (x.resolve_left (by decide)), fun x => hJ.v5 (x.resolve_left (by decide)), fun x => hJ.v6 (x.resolve_left (by decide)), fun x => hJ.v7 (x.resolve_left (by decide)), fun x => hJ.v8 (x.resolve_left (by decide)), fun x => hJ.v9 (x.resolve_left (by decide)), fun x => hJ.v10 (x.resolve_left (by decide)), fun x => hJ.v11 (x.resolve_left (by decide)), fun x => hJ.v15 (x.resolve_left (by decide)), fun x => hJ.v18 (x.resolve_left (by decide)), hJ.f_b , fun x12 n17 => absurd (hcl 2 _ rfl (hcl 3 _ rfl (hcl 4 _ rfl (hcl 9 _ rfl (hcl 10 _ rfl (hcl 11 _ rfl (hcl 12 _ rfl (x12.resolve_left (by decide)) 11 (by kernel_rfl)) 10 (by kernel_rfl)) 9 (by kernel_rfl)) 4 (by kernel_rfl)) 3 (by kernel_rfl)) 2 (by kernel_rfl)) 1 (by kernel_rfl)) hnS, fun x13 => absurd (hcl 2 _ rfl (hcl 3 _ rfl (hcl 4 _ rfl (hcl 9 _ rfl (hcl 10 _ rfl (hcl 11 _ rfl (hcl 12 _ rfl (hcl 13 _ rfl (x13.resolve_left (by decide)) 12 (by kernel_rfl)) 11 (by kernel_rfl)) 10 (by kernel_rfl)) 9 (by kernel_rfl)) 4 (by kernel_rfl)) 3 (by kernel_rfl)) 2 (by kernel_rfl)) 1 (by kernel_rfl)) hnS, fun x14 => absurd (hcl 2 _ rfl (hcl 3 _ rfl (hcl 4 _ rfl (hcl 9 _ rfl (hcl 10 _ rfl (hcl 11 _ rfl (hcl 12 _ rfl (hcl 13 _ rfl (hcl 14 _ rfl (x14.resolve_left (by decide)) 13 (by kernel_rfl)) 12 (by kernel_rfl)) 11 (by kernel_rfl)) 10 (by kernel_rfl)) 9 (by kernel_rfl)) 4 (by kernel_rfl)) 3 (by kernel_rfl)) 2 (by kernel_rfl)) 1 (by kernel_rfl)) hnS, fun x16 n17 => hJ.p16 (x16.resolve_left (by decide)) (fun x => n17 (.inr x)), fun x17 => absurd (hcl 17 _ rfl (x17.resolve_left (by decide)) 1 (by kernel_rfl)) hnS, fun x12 => absurd (hcl 2 _ rfl (hcl 3 _ rfl (hcl 4 _ rfl (hcl 9 _ rfl (hcl 10 _ rfl (hcl 11 _ rfl (hcl 12 _ rfl (x12.resolve_left (by decide)) 11 (by kernel_rfl)) 10 (by kernel_rfl)) 9 (by kernel_rfl)) 4 (by kernel_rfl)) 3 (by kernel_rfl)) 2 (by kernel_rfl)) 1 (by kernel_rfl)) hnS⟩
    · cases ho
      rw [if_pos (show Region.wanted _ y = true from rfl)]
      have f98 : ρ (.tmp 98) = .pointer (some ⟨gb, 0, none⟩) := (hn 1 _ 98 rfl (by kernel_rfl) rfl).trans (hJ.v1 (hneeds 1 (by kernel_rfl)))
      exact does_ok (v := .pointer (some ⟨gb, 0, none⟩)) (w' := w2) (by simp [go_sem, hreg.const, f98]) ⟨fun x => hJ.v0 (x.resolve_left (by decide)), fun x => hJ.v1 (x.resolve_left (by decide)), fun _ => rfl, fun x => hJ.v3 (x.resolve_left (by decide)), fun x => hJ.v4 (x.resolve_left (by decide)), fun x => hJ.v5 (x.resolve_left (by decide)), fun x => hJ.v6 (x.resolve_left (by decide)), fun x => hJ.v7 (x.resolve_left (by decide)), fun x => hJ.v8 (x.resolve_left (by decide)), fun x => hJ.v9 (x.resolve_left (by decide)), fun x => hJ.v10 (x.resolve_left (by decide)), fun x => hJ.v11 (x.resolve_left (by decide)), fun x => hJ.v15 (x.resolve_left (by decide)), fun x => hJ.v18 (x.resolve_left (by decide)), hJ.f_b , fun x12 n17 => absurd (hcl 3 _ rfl (hcl 4 _ rfl (hcl 9 _ rfl (hcl 10 _ rfl (hcl 11 _ rfl (hcl 12 _ rfl (x12.resolve_left (by decide)) 11 (by kernel_rfl)) 10 (by kernel_rfl)) 9 (by kernel_rfl)) 4 (by kernel_rfl)) 3 (by kernel_rfl)) 2 (by kernel_rfl)) hnS, fun x13 => absurd (hcl 3 _ rfl (hcl 4 _ rfl (hcl 9 _ rfl (hcl 10 _ rfl (hcl 11 _ rfl (hcl 12 _ rfl (hcl 13 _ rfl (x13.resolve_left (by decide)) 12 (by kernel_rfl)) 11 (by kernel_rfl)) 10 (by kernel_rfl)) 9 (by kernel_rfl)) 4 (by kernel_rfl)) 3 (by kernel_rfl)) 2 (by kernel_rfl)) hnS, fun x14 => absurd (hcl 3 _ rfl (hcl 4 _ rfl (hcl 9 _ rfl (hcl 10 _ rfl (hcl 11 _ rfl (hcl 12 _ rfl (hcl 13 _ rfl (hcl 14 _ rfl (x14.resolve_left (by decide)) 13 (by kernel_rfl)) 12 (by kernel_rfl)) 11 (by kernel_rfl)) 10 (by kernel_rfl)) 9 (by kernel_rfl)) 4 (by kernel_rfl)) 3 (by kernel_rfl)) 2 (by kernel_rfl)) hnS, fun x16 n17 => hJ.p16 (x16.resolve_left (by decide)) (fun x => n17 (.inr x)), fun x17 => absurd (hcl 17 _ rfl (x17.resolve_left (by decide)) 2 (by kernel_rfl)) hnS, fun x12 => absurd (hcl 3 _ rfl (hcl 4 _ rfl (hcl 9 _ rfl (hcl 10 _ rfl (hcl 11 _ rfl (hcl 12 _ rfl (x12.resolve_left (by decide)) 11 (by kernel_rfl)) 10 (by kernel_rfl)) 9 (by kernel_rfl)) 4 (by kernel_rfl)) 3 (by kernel_rfl)) 2 (by kernel_rfl)) hnS⟩
    · cases ho
      rw [if_pos (show Region.wanted _ y = true from rfl)]
      have f99 : ρ (.tmp 99) = .pointer (some ⟨gb, 0, none⟩) := (hn 2 _ 99 rfl (by kernel_rfl) rfl).trans (hJ.v2 (hneeds 2 (by kernel_rfl)))
      exact does_ok (v := .pointer (some ⟨gb, 3, none⟩)) (w' := w2) (by simp [go_sem, hreg.const, f99]) ⟨fun x => hJ.v0 (x.resolve_left (by decide)), fun x => hJ.v1 (x.resolve_left (by decide)), fun x => hJ.v2 (x.resolve_left (by decide)), fun _ => rfl, fun x => hJ.v4 (x.resolve_left (by decide)), fun x => hJ.v5 (x.resolve_left (by decide)), fun x => hJ.v6 (x.resolve_left (by decide)), fun x => hJ.v7 (x.resolve_left (by decide)), fun x => hJ.v8 (x.resolve_left (by decide)), fun x => hJ.v9 (x.resolve_left (by decide)), fun x => hJ.v10 (x.resolve_left (by decide)), fun x => hJ.v11 (x.resolve_left (by decide)), fun x => hJ.v15 (x.resolve_left (by decide)), fun x => hJ.v18 (x.resolve_left (by decide)), hJ.f_b , fun x12 n17 => absurd (hcl 4 _ rfl (hcl 9 _ rfl (hcl 10 _ rfl (hcl 11 _ rfl (hcl 12 _ rfl (x12.resolve_left (by decide)) 11 (by kernel_rfl)) 10 (by kernel_rfl)) 9 (by kernel_rfl)) 4 (by kernel_rfl)) 3 (by kernel_rfl)) hnS, fun x13 => absurd (hcl 4 _ rfl (hcl 9 _ rfl (hcl 10 _ rfl (hcl 11 _ rfl (hcl 12 _ rfl (hcl 13 _ rfl (x13.resolve_left (by decide)) 12 (by kernel_rfl)) 11 (by kernel_rfl)) 10 (by kernel_rfl)) 9 (by kernel_rfl)) 4 (by kernel_rfl)) 3 (by kernel_rfl)) hnS, fun x14 => absurd (hcl 4 _ rfl (hcl 9 _ rfl (hcl 10 _ rfl (hcl 11 _ rfl (hcl 12 _ rfl (hcl 13 _ rfl (hcl 14 _ rfl (x14.resolve_left (by decide)) 13 (by kernel_rfl)) 12 (by kernel_rfl)) 11 (by kernel_rfl)) 10 (by kernel_rfl)) 9 (by kernel_rfl)) 4 (by kernel_rfl)) 3 (by kernel_rfl)) hnS, fun x16 n17 => hJ.p16 (x16.resolve_left (by decide)) (fun x => n17 (.inr x)), fun x17 => absurd (hcl 17 _ rfl (x17.resolve_left (by decide)) 3 (by kernel_rfl)) hnS, fun x12 => absurd (hcl 4 _ rfl (hcl 9 _ rfl (hcl 10 _ rfl (hcl 11 _ rfl (hcl 12 _ rfl (x12.resolve_left (by decide)) 11 (by kernel_rfl)) 10 (by kernel_rfl)) 9 (by kernel_rfl)) 4 (by kernel_rfl)) 3 (by kernel_rfl)) hnS⟩
    · cases ho
      rw [if_pos (show Region.wanted _ y = true from rfl)]
      have f100 : ρ (.tmp 100) = .pointer (some ⟨gb, 3, none⟩) := (hn 3 _ 100 rfl (by kernel_rfl) rfl).trans (hJ.v3 (hneeds 3 (by kernel_rfl)))
      have k0 := cell_keep hJ.f_b G3.out
      exact does_ok (v := .slice (some ap) np cp) (w' := w2) (by simp [go_sem, hreg.const, f100, k0]) ⟨fun x => hJ.v0 (x.resolve_left (by decide)), fun x => hJ.v1 (x.resolve_left (by decide)), fun x => hJ.v2 (x.resolve_left (by decide)), fun x => hJ.v3 (x.resolve_left (by decide)), fun _ => rfl, fun x => hJ.v5 (x.resolve_left (by decide)), fun x => hJ.v6 (x.resolve_left (by decide)), fun x => hJ.v7 (x.resolve_left (by decide)), fun x => hJ.v8 (x.resolve_left (by decide)), fun x => hJ.v9 (x.resolve_left (by decide)), fun x => hJ.v10 (x.resolve_left (by decide)), fun x => hJ.v11 (x.resolve_left (by decide)), fun x => hJ.v15 (x.resolve_left (by decide)), fun x => hJ.v18 (x.resolve_left (by decide)), hJ.f_b , fun x12 n17 => absurd (hcl 9 _ rfl (hcl 10 _ rfl (hcl 11 _ rfl (hcl 12 _ rfl (x12.resolve_left (by decide)) 11 (by kernel_rfl)) 10 (by kernel_rfl)) 9 (by kernel_rfl)) 4 (by kernel_rfl)) hnS, fun x13 => absurd (hcl 9 _ rfl (hcl 10 _ rfl (hcl 11 _ rfl (hcl 12 _ rfl (hcl 13 _ rfl (x13.resolve_left (by decide)) 12 (by kernel_rfl)) 11 (by kernel_rfl)) 10 (by kernel_rfl)) 9 (by kernel_rfl)) 4 (by kernel_rfl)) hnS, fun x14 => absurd (hcl 9 _ rfl (hcl 10 _ rfl (hcl 11 _ rfl (hcl 12 _ rfl (hcl 13 _ rfl (hcl 14 _ rfl (x14.resolve_left (by decide)) 13 (by kernel_rfl)) 12 (by kernel_rfl)) 11 (by kernel_rfl)) 10 (by kernel_rfl)) 9 (by kernel_rfl)) 4 (by kernel_rfl)) hnS, fun x16 n17 => hJ.p16 (x16.resolve_left (by decide)) (fun x => n17 (.inr x)), fun x17 => absurd (hcl 17 _ rfl (x17.resolve_left (by decide)) 4 (by kernel_rfl)) hnS, fun x12 => absurd (hcl 9 _ rfl (hcl 10 _ rfl (hcl 11 _ rfl (hcl 12 _ rfl (x12.resolve_left (by decide)) 11 (by kernel_rfl)) 10 (by kernel_rfl)) 9 (by kernel_rfl)) 4 (by kernel_rfl)) hnS⟩
    · cases ho
      rw [if_pos (show Region.wanted _ y = true from rfl)]
      have f0 : ρ (.tmp 0) = .pointer (some ⟨gb, 0, none⟩) := hf 0 (by kernel_rfl)
      refine does_move ?_
      rw [f0]
      exact ⟨fun x => hJ.v0 (x.resolve_left (by decide)), fun x => hJ.v1 (x.resolve_left (by decide)), fun x => hJ.v2 (x.resolve_left (by decide)), fun x => hJ.v3 (x.resolve_left (by decide)), fun x => hJ.v4 (x.resolve_left (by decide)), fun _ => rfl, fun x => hJ.v6 (x.resolve_left (by decide)), fun x => hJ.v7 (x.resolve_left (by decide)), fun x => hJ.v8 (x.resolve_left (by decide)), fun x => hJ.v9 (x.resolve_left (by decide)), fun x => hJ.v10 (x.resolve_left (by decide)), fun x => hJ.v11 (x.resolve_left (by decide)), fun x => hJ.v15 (x.resolve_left (by decide)), fun x => hJ.v18 (x.resolve_left (by decide)), hJ.f_b , fun x12 n17 => absurd (hcl 6 _ rfl (hcl 7 _ rfl (hcl 8 _ rfl (hcl 9 _ rfl (hcl 10 _ rfl (hcl 11 _ rfl (hcl 12 _ rfl (x12.resolve_left (by decide)) 11 (by kernel_rfl)) 10 (by kernel_rfl)) 9 (by kernel_rfl)) 8 (by kernel_rfl)) 7 (by kernel_rfl)) 6 (by kernel_rfl)) 5 (by kernel_rfl)) hnS, fun x13 => absurd (hcl 6 _ rfl (hcl 7 _ rfl (hcl 8 _ rfl (hcl 9 _ rfl (hcl 10 _ rfl (hcl 11 _ rfl (hcl 12 _ rfl (hcl 13 _ rfl (x13.resolve_left (by decide)) 12 (by kernel_rfl)) 11 (by kernel_rfl)) 10 (by kernel_rfl)) 9 (by kernel_rfl)) 8 (by kernel_rfl)) 7 (by kernel_rfl)) 6 (by kernel_rfl)) 5 (by kernel_rfl)) hnS, fun x14 => absurd (hcl 6 _ rfl (hcl 7 _ rfl (hcl 8 _ rfl (hcl 9 _ rfl (hcl 10 _ rfl (hcl 11 _ rfl (hcl 12 _ rfl (hcl 13 _ rfl (hcl 14 _ rfl (x14.resolve_left (by decide)) 13 (by kernel_rfl)) 12 (by kernel_rfl)) 11 (by kernel_rfl)) 10 (by kernel_rfl)) 9 (by kernel_rfl)) 8 (by kernel_rfl)) 7 (by kernel_rfl)) 6 (by kernel_rfl)) 5 (by kernel_rfl)) hnS, fun x16 n17 => hJ.p16 (x16.resolve_left (by decide)) (fun x => n17 (.inr x)), fun x17 => absurd (hcl 17 _ rfl (x17.resolve_left (by decide)) 5 (by kernel_rfl)) hnS, fun x12 => absurd (hcl 6 _ rfl (hcl 7 _ rfl (hcl 8 _ rfl (hcl 9 _ rfl (hcl 10 _ rfl (hcl 11 _ rfl (hcl 12 _ rfl (x12.resolve_left (by decide)) 11 (by kernel_rfl)) 10 (by kernel_rfl)) 9 (by kernel_rfl)) 8 (by kernel_rfl)) 7 (by kernel_rfl)) 6 (by kernel_rfl)) 5 (by kernel_rfl)) hnS⟩
    · cases ho
      rw [if_pos (show Region.wanted _ y = true from rfl)]
      have f102 : ρ (.tmp 102) = .pointer (some ⟨gb, 0, none⟩) := (hn 5 _ 102 rfl (by kernel_rfl) rfl).trans (hJ.v5 (hneeds 5 (by kernel_rfl)))
      exact does_ok (v := .pointer (some ⟨gb, 0, none⟩)) (w' := w2) (by simp [go_sem, hreg.const, f102]) ⟨fun x => hJ.v0 (x.resolve_left (by decide)), fun x => hJ.v1 (x.resolve_left (by decide)), fun x => hJ.v2 (x.resolve_left (by decide)), fun x => hJ.v3 (x.resolve_left (by decide)), fun x => hJ.v4 (x.resolve_left (by decide)), fun x => hJ.v5 (x.resolve_left (by decide)), fun _ => rfl, fun x => hJ.v7 (x.resolve_left (by decide)), fun x => hJ.v8 (x.resolve_left (by decide)), fun x => hJ.v9 (x.resolve_left (by decide)), fun x => hJ.v10 (x.resolve_left (by decide)), fun x => hJ.v11 (x.resolve_left (by decide)), fun x => hJ.v15 (x.resolve_left (by decide)), fun x => hJ.v18 (x.resolve_left (by decide)), hJ.f_b , fun x12 n17 => absurd (hcl 7 _ rfl (hcl 8 _ rfl (hcl 9 _ rfl (hcl 10 _ rfl (hcl 11 _ rfl (hcl 12 _ rfl (x12.resolve_left (by decide)) 11 (by kernel_rfl)) 10 (by kernel_rfl)) 9 (by kernel_rfl)) 8 (by kernel_rfl)) 7 (by kernel_rfl)) 6 (by kernel_rfl)) hnS, fun x13 => absurd (hcl 7 _ rfl (hcl 8 _ rfl (hcl 9 _ rfl (hcl 10 _ rfl (hcl 11 _ rfl (hcl 12 _ rfl (hcl 13 _ rfl (x13.resolve_left (by decide)) 12 (by kernel_rfl)) 11 (by kernel_rfl)) 10 (by kernel_rfl)) 9 (by kernel_rfl)) 8 (by kernel_rfl)) 7 (by kernel_rfl)) 6 (by kernel_rfl)) hnS, fun x14 => absurd (hcl 7 _ rfl (hcl 8 _ rfl (hcl 9 _ rfl (hcl 10 _ rfl (hcl 11 _ rfl (hcl 12 _ rfl (hcl 13 _ rfl (hcl 14 _ rfl (x14.resolve_left (by decide)) 13 (by kernel_rfl)) 12 (by kernel_rfl)) 11 (by kernel_rfl)) 10 (by kernel_rfl)) 9 (by kernel_rfl)) 8 (by kernel_rfl)) 7 (by kernel_rfl)) 6 (by kernel_rfl)) hnS, fun x16 n17 => hJ.p16 (x16.resolve_left (by decide)) (fun x => n17 (.inr x)), fun x17 => absurd (hcl 17 _ rfl (x17.resolve_left (by decide)) 6 (by kernel_rfl)) hnS, fun x12 => absurd (hcl 7 _ rfl (hcl 8 _ rfl (hcl 9 _ rfl (hcl 10 _ rfl (hcl 11 _ rfl (hcl 12 _ rfl (x12.resolve_left (by decide)) 11 (by kernel_rfl)) 10 (by kernel_rfl)) 9 (by kernel_rfl)) 8 (by kernel_rfl)) 7 (by kernel_rfl)) 6 (by kernel_rfl)) hnS⟩
    · cases ho
      rw [if_pos (show Region.wanted _ y = true from rfl)]
      have f103 : ρ (.tmp 103) = .pointer (some ⟨gb, 0, none⟩) := (hn 6 _ 103 rfl (by kernel_rfl) rfl).trans (hJ.v6 (hneeds 6 (by kernel_rfl)))
      exact does_ok (v := .pointer (some ⟨gb, 4, none⟩)) (w' := w2) (by simp [go_sem, hreg.const, f103]) ⟨fun x => hJ.v0 (x.resolve_left (by decide)), fun x => hJ.v1 (x.resolve_left (by decide)), fun x => hJ.v2 (x.resolve_left (by decide)), fun x => hJ.v3 (x.resolve_left (by decide)), fun x => hJ.v4 (x.resolve_left (by decide)), fun x => hJ.v5 (x.resolve_left (by decide)), fun x => hJ.v6 (x.resolve_left (by decide)), fun _ => rfl, fun x => hJ.v8 (x.resolve_left (by decide)), fun x => hJ.v9 (x.resolve_left (by decide)), fun x => hJ.v10 (x.resolve_left (by decide)), fun x => hJ.v11 (x.resolve_left (by decide)), fun x => hJ.v15 (x.resolve_left (by decide)), fun x => hJ.v18 (x.resolve_left (by decide)), hJ.f_b , fun x12 n17 => absurd (hcl 8 _ rfl (hcl 9 _ rfl (hcl 10 _ rfl (hcl 11 _ rfl (hcl 12 _ rfl (x12.resolve_left (by decide)) 11 (by kernel_rfl)) 10 (by kernel_rfl)) 9 (by kernel_rfl)) 8 (by kernel_rfl)) 7 (by kernel_rfl)) hnS, fun x13 => absurd (hcl 8 _ rfl (hcl 9 _ rfl (hcl 10 _ rfl (hcl 11 _ rfl (hcl 12 _ rfl (hcl 13 _ rfl (x13.resolve_left (by decide)) 12 (by kernel_rfl)) 11 (by kernel_rfl)) 10 (by kernel_rfl)) 9 (by kernel_rfl)) 8 (by kernel_rfl)) 7 (by kernel_rfl)) hnS, fun x14 => absurd (hcl 8 _ rfl (hcl 9 _ rfl (hcl 10 _ rfl (hcl 11 _ rfl (hcl 12 _ rfl (hcl 13 _ rfl (hcl 14 _ rfl (x14.resolve_left (by decide)) 13 (by kernel_rfl)) 12 (by kernel_rfl)) 11 (by kernel_rfl)) 10 (by kernel_rfl)) 9 (by kernel_rfl)) 8 (by kernel_rfl)) 7 (by kernel_rfl)) hnS, fun x16 n17 => hJ.p16 (x16.resolve_left (by decide)) (fun x => n17 (.inr x)), fun x17 => absurd (hcl 17 _ rfl (x17.resolve_left (by decide)) 7 (by kernel_rfl)) hnS, fun x12 => absurd (hcl 8 _ rfl (hcl 9 _ rfl (hcl 10 _ rfl (hcl 11 _ rfl (hcl 12 _ rfl (x12.resolve_left (by decide)) 11 (by kernel_rfl)) 10 (by kernel_rfl)) 9 (by kernel_rfl)) 8 (by kernel_rfl)) 7 (by kernel_rfl)) hnS⟩
    · cases ho
      rw [if_pos (show Region.wanted _ y = true from rfl)]
      have f104 : ρ (.tmp 104) = .pointer (some ⟨gb, 4, none⟩) := (hn 7 _ 104 rfl (by kernel_rfl) rfl).trans (hJ.v7 (hneeds 7 (by kernel_rfl)))
      have k0 := cell_keep hJ.f_b G4.out
      exact does_ok (v := .int .i64 (k : Nat)) (w' := w2) (by simp [go_sem, hreg.const, f104, k0]) ⟨fun x => hJ.v0 (x.resolve_left (by decide)), fun x => hJ.v1 (x.resolve_left (by decide)), fun x => hJ.v2 (x.resolve_left (by decide)), fun x => hJ.v3 (x.resolve_left (by decide)), fun x => hJ.v4 (x.resolve_left (by decide)), fun x => hJ.v5 (x.resolve_left (by decide)), fun x => hJ.v6 (x.resolve_left (by decide)), fun x => hJ.v7 (x.resolve_left (by decide)), fun _ => rfl, fun x => hJ.v9 (x.resolve_left (by decide)), fun x => hJ.v10 (x.resolve_left (by decide)), fun x => hJ.v11 (x.resolve_left (by decide)), fun x => hJ.v15 (x.resolve_left (by decide)), fun x => hJ.v18 (x.resolve_left (by decide)), hJ.f_b , fun x12 n17 => absurd (hcl 9 _ rfl (hcl 10 _ rfl (hcl 11 _ rfl (hcl 12 _ rfl (x12.resolve_left (by decide)) 11 (by kernel_rfl)) 10 (by kernel_rfl)) 9 (by kernel_rfl)) 8 (by kernel_rfl)) hnS, fun x13 => absurd (hcl 9 _ rfl (hcl 10 _ rfl (hcl 11 _ rfl (hcl 12 _ rfl (hcl 13 _ rfl (x13.resolve_left (by decide)) 12 (by kernel_rfl)) 11 (by kernel_rfl)) 10 (by kernel_rfl)) 9 (by kernel_rfl)) 8 (by kernel_rfl)) hnS, fun x14 => absurd (hcl 9 _ rfl (hcl 10 _ rfl (hcl 11 _ rfl (hcl 12 _ rfl (hcl 13 _ rfl (hcl 14 _ rfl (x14.resolve_left (by decide)) 13 (by kernel_rfl)) 12 (by kernel_rfl)) 11 (by kernel_rfl)) 10 (by kernel_rfl)) 9 (by kernel_rfl)) 8 (by kernel_rfl)) hnS, fun x16 n17 => hJ.p16 (x16.resolve_left (by decide)) (fun x => n17 (.inr x)), fun x17 => absurd (hcl 17 _ rfl (x17.resolve_left (by decide)) 8 (by kernel_rfl)) hnS, fun x12 => absurd (hcl 9 _ rfl (hcl 10 _ rfl (hcl 11 _ rfl (hcl 12 _ rfl (x12.resolve_left (by decide)) 11 (by kernel_rfl)) 10 (by kernel_rfl)) 9 (by kernel_rfl)) 8 (by kernel_rfl)) hnS⟩
    · cases ho
      rw [if_pos (show Region.wanted _ y = true from rfl)]
      have f101 : ρ (.tmp 101) = .slice (some ap) np cp := (hn 4 _ 101 rfl (by kernel_rfl) rfl).trans (hJ.v4 (hneeds 4 (by kernel_rfl)))
      have f105 : ρ (.tmp 105) = .int .i64 (k : Nat) := (hn 8 _ 105 rfl (by kernel_rfl) rfl).trans (hJ.v8 (hneeds 8 (by kernel_rfl)))
      exact does_ok (v := .pointer (some (ap.add (k * 2)))) (w' := w2) (by simp [go_sem, hreg.const, f101, f105, hkn]) ⟨fun x => hJ.v0 (x.resolve_left (by decide)), fun x => hJ.v1 (x.resolve_left (by decide)), fun x => hJ.v2 (x.resolve_left (by decide)), fun x => hJ.v3 (x.resolve_left (by decide)), fun x => hJ.v4 (x.resolve_left (by decide)), fun x => hJ.v5 (x.resolve_left (by decide)), fun x => hJ.v6 (x.resolve_left (by decide)), fun x => hJ.v7 (x.resolve_left (by decide)), fun x => hJ.v8 (x.resolve_left (by decide)), fun _ => rfl, fun x => hJ.v10 (x.resolve_left (by decide)), fun x => hJ.v11 (x.resolve_left (by decide)), fun x => hJ.v15 (x.resolve_left (by decide)), fun x => hJ.v18 (x.resolve_left (by decide)), hJ.f_b , fun x12 n17 => absurd (hcl 10 _ rfl (hcl 11 _ rfl (hcl 12 _ rfl (x12.resolve_left (by decide)) 11 (by kernel_rfl)) 10 (by kernel_rfl)) 9 (by kernel_rfl)) hnS, fun x13 => absurd (hcl 10 _ rfl (hcl 11 _ rfl (hcl 12 _ rfl (hcl 13 _ rfl (x13.resolve_left (by decide)) 12 (by kernel_rfl)) 11 (by kernel_rfl)) 10 (by kernel_rfl)) 9 (by kernel_rfl)) hnS, fun x14 => absurd (hcl 10 _ rfl (hcl 11 _ rfl (hcl 12 _ rfl (hcl 13 _ rfl (hcl 14 _ rfl (x14.resolve_left (by decide)) 13 (by kernel_rfl)) 12 (by kernel_rfl)) 11 (by kernel_rfl)) 10 (by kernel_rfl)) 9 (by kernel_rfl)) hnS, fun x16 n17 => hJ.p16 (x16.resolve_left (by decide)) (fun x => n17 (.inr x)), fun x17 => absurd (hcl 17 _ rfl (x17.resolve_left (by decide)) 9 (by kernel_rfl)) hnS, fun x12 => absurd (hcl 10 _ rfl (hcl 11 _ rfl (hcl 12 _ rfl (x12.resolve_left (by decide)) 11 (by kernel_rfl)) 10 (by kernel_rfl)) 9 (by kernel_rfl)) hnS⟩
    · cases ho
      rw [if_pos (show Region.wanted _ y = true from rfl)]
      have f106 : ρ (.tmp 106) = .pointer (some (ap.add (k * 2))) := (hn 9 _ 106 rfl (by kernel_rfl) rfl).trans (hJ.v9 (hneeds 9 (by kernel_rfl)))
      exact does_ok (v := .pointer (some ⟨(ap.add (k * 2)).block, (ap.add (k * 2)).off + 1, none⟩)) (w' := w2) (by simp [go_sem, hreg.const, f106]) ⟨fun x => hJ.v0 (x.resolve_left (by decide)), fun x => hJ.v1 (x.resolve_left (by decide)), fun x => hJ.v2 (x.resolve_left (by decide)), fun x => hJ.v3 (x.resolve_left (by decide)), fun x => hJ.v4 (x.resolve_left (by decide)), fun x => hJ.v5 (x.resolve_left (by decide)), fun x => hJ.v6 (x.resolve_left (by decide)), fun x => hJ.v7 (x.resolve_left (by decide)), fun x => hJ.v8 (x.resolve_left (by decide)), fun x => hJ.v9 (x.resolve_left (by decide)), fun _ => rfl, fun x => hJ.v11 (x.resolve_left (by decide)), fun x => hJ.v15 (x.resolve_left (by decide)), fun x => hJ.v18 (x.resolve_left (by decide)), hJ.f_b , fun x12 n17 => absurd (hcl 11 _ rfl (hcl 12 _ rfl (x12.resolve_left (by decide)) 11 (by kernel_rfl)) 10 (by kernel_rfl)) hnS, fun x13 => absurd (hcl 11 _ rfl (hcl 12 _ rfl (hcl 13 _ rfl (x13.resolve_left (by decide)) 12 (by kernel_rfl)) 11 (by kernel_rfl)) 10 (by kernel_rfl)) hnS, fun x14 => absurd (hcl 11 _ rfl (hcl 12 _ rfl (hcl 13 _ rfl (hcl 14 _ rfl (x14.resolve_left (by decide)) 13 (by kernel_rfl)) 12 (by kernel_rfl)) 11 (by kernel_rfl)) 10 (by kernel_rfl)) hnS, fun x16 n17 => hJ.p16 (x16.resolve_left (by decide)) (fun x => n17 (.inr x)), fun x17 => absurd (hcl 17 _ rfl (x17.resolve_left (by decide)) 10 (by kernel_rfl)) hnS, fun x12 => absurd (hcl 11 _ rfl (hcl 12 _ rfl (x12.resolve_left (by decide)) 11 (by kernel_rfl)) 10 (by kernel_rfl)) hnS⟩
    · cases ho
      rw [if_pos (show Region.wanted _ y = true from rfl)]
      have f107 : ρ (.tmp 107) = .pointer (some ⟨(ap.add (k * 2)).block, (ap.add (k * 2)).off + 1, none⟩) := (hn 10 _ 107 rfl (by kernel_rfl) rfl).trans (hJ.v10 (hneeds 10 (by kernel_rfl)))
      have k0 := cell_keep hJ.f_b G5.out
      exact does_ok (v := .slice A1 m1 c1) (w' := w2) (by simp [go_sem, hreg.const, f107, k0]) ⟨fun x => hJ.v0 (x.resolve_left (by decide)), fun x => hJ.v1 (x.resolve_left (by decide)), fun x => hJ.v2 (x.resolve_left (by decide)), fun x => hJ.v3 (x.resolve_left (by decide)), fun x => hJ.v4 (x.resolve_left (by decide)), fun x => hJ.v5 (x.resolve_left (by decide)), fun x => hJ.v6 (x.resolve_left (by decide)), fun x => hJ.v7 (x.resolve_left (by decide)), fun x => hJ.v8 (x.resolve_left (by decide)), fun x => hJ.v9 (x.resolve_left (by decide)), fun x => hJ.v10 (x.resolve_left (by decide)), fun _ => rfl, fun x => hJ.v15 (x.resolve_left (by decide)), fun x => hJ.v18 (x.resolve_left (by decide)), hJ.f_b , fun x12 n17 => absurd (hcl 12 _ rfl (x12.resolve_left (by decide)) 11 (by kernel_rfl)) hnS, fun x13 => absurd (hcl 12 _ rfl (hcl 13 _ rfl (x13.resolve_left (by decide)) 12 (by kernel_rfl)) 11 (by kernel_rfl)) hnS, fun x14 => absurd (hcl 12 _ rfl (hcl 13 _ rfl (hcl 14 _ rfl (x14.resolve_left (by decide)) 13 (by kernel_rfl)) 12 (by kernel_rfl)) 11 (by kernel_rfl)) hnS, fun x16 n17 => hJ.p16 (x16.resolve_left (by decide)) (fun x => n17 (.inr x)), fun x17 => absurd (hcl 17 _ rfl (x17.resolve_left (by decide)) 11 (by kernel_rfl)) hnS, fun x12 => absurd (hcl 12 _ rfl (x12.resolve_left (by decide)) 11 (by kernel_rfl)) hnS⟩
    · cases ho
      rw [if_pos (show Region.wanted _ y = true from rfl)]
      have f97 : ρ (.tmp 97) = .pointer (some ⟨gb, 0, none⟩) := (hn 0 _ 97 rfl (by kernel_rfl) rfl).trans (hJ.v0 (hneeds 0 (by kernel_rfl)))
      have f108 : ρ (.tmp 108) = .slice A1 m1 c1 := (hn 11 _ 108 rfl (by kernel_rfl) rfl).trans (hJ.v11 (hneeds 11 (by kernel_rfl)))
      refine does_enter (f := 101) (args := #[.pointer (some ⟨gb, 0, none⟩), .slice A1 m1 c1]) (w' := w2) (by simp [go_sem, hreg.func, hreg.const, f97, f108]) ?_
      refine (C20.out w2 hJ.f_b).mono ?_
      rintro e w' ⟨k9, B1, n1, d1, B2, n2, d2, ts, os, rfl, hop, hG, hb⟩
      exact ⟨_, rfl, ⟨fun x => hJ.v0 (x.resolve_left (by decide)), fun x => hJ.v1 (x.resolve_left (by decide)), fun x => hJ.v2 (x.resolve_left (by decide)), fun x => hJ.v3 (x.resolve_left (by decide)), fun x => hJ.v4 (x.resolve_left (by decide)), fun x => hJ.v5 (x.resolve_left (by decide)), fun x => hJ.v6 (x.resolve_left (by decide)), fun x => hJ.v7 (x.resolve_left (by decide)), fun x => hJ.v8 (x.resolve_left (by decide)), fun x => hJ.v9 (x.resolve_left (by decide)), fun x => hJ.v10 (x.resolve_left (by decide)), fun x => hJ.v11 (x.resolve_left (by decide)), fun x => hJ.v15 (x.resolve_left (by decide)), fun x => hJ.v18 (x.resolve_left (by decide)), Below.thn hJ.f_b hb, fun x12 n17 => (fun _ m17 => ⟨k9, B1, n1, d1, B2, n2, d2, ts, os, rfl, hop.mono (Nat.le_trans HB0.out hJ.f_b.size), hG⟩) () (fun x => n17 (.inr x)), fun x13 => absurd (hcl 13 _ rfl (x13.resolve_left (by decide)) 12 (by kernel_rfl)) hnS, fun x14 => absurd (hcl 13 _ rfl (hcl 14 _ rfl (x14.resolve_left (by decide)) 13 (by kernel_rfl)) 12 (by kernel_rfl)) hnS, fun x16 n17 => (fun s16 m17 => (by obtain ⟨g5, e5, h5, hx⟩ := hJ.p16 s16 m17; exact ⟨g5, e5, h5, hx.below hb⟩)) (x16.resolve_left (by decide)) (fun x => n17 (.inr x)), fun x17 => absurd (hcl 17 _ rfl (x17.resolve_left (by decide)) 12 (by kernel_rfl)) hnS, fun x12 => (fun _ => ⟨_, rfl⟩) ()⟩⟩
    · cases ho
      rw [if_pos (show Region.wanted _ y = true from rfl)]
      have f109 : ρ (.tmp 109) = r 12 := hn 12 _ 109 rfl (by kernel_rfl) rfl
      refine does_move ?_
      rw [f109]
      exact ⟨fun x => hJ.v0 (x.resolve_left (by decide)), fun x => hJ.v1 (x.resolve_left (by decide)), fun x => hJ.v2 (x.resolve_left (by decide)), fun x => hJ.v3 (x.resolve_left (by decide)), fun x => hJ.v4 (x.resolve_left (by decide)), fun x => hJ.v5 (x.resolve_left (by decide)), fun x => hJ.v6 (x.resolve_left (by decide)), fun x => hJ.v7 (x.resolve_left (by decide)), fun x => hJ.v8 (x.resolve_left (by decide)), fun x => hJ.v9 (x.resolve_left (by decide)), fun x => hJ.v10 (x.resolve_left (by decide)), fun x => hJ.v11 (x.resolve_left (by decide)), fun x => hJ.v15 (x.resolve_left (by decide)), fun x => hJ.v18 (x.resolve_left (by decide)), hJ.f_b , fun x12 n17 => hJ.p12 (x12.resolve_left (by decide)) (fun x => n17 (.inr x)), fun x13 => (fun _ => rfl) (), fun x14 => absurd (hcl 14 _ rfl (x14.resolve_left (by decide)) 13 (by kernel_rfl)) hnS, fun x16 n17 => hJ.p16 (x16.resolve_left (by decide)) (fun x => n17 (.inr x)), fun x17 => absurd (hcl 17 _ rfl (x17.resolve_left (by decide)) 13 (by kernel_rfl)) hnS, fun x12 => hJ.e12 (x12.resolve_left (by decide))⟩
    · cases ho
      rw [if_pos (show Region.wanted _ y = true from rfl)]
      have f96 : ρ (.tmp 96) = r 13 := hn 13 _ 96 rfl (by kernel_rfl) rfl
      have h13 : S 13 := hneeds 13 (by kernel_rfl)
      have h12 : S 12 := hcl 13 _ rfl h13 12 (by kernel_rfl)
      have hn17 : ¬ S 17 := fun h => hnS (hcl 17 _ rfl h 14 (by kernel_rfl))
      have e13 := hJ.e13 h13
      obtain ⟨k9, B1, n1, d1, B2, n2, d2, ts, os, e12, hop, hG⟩ := hJ.p12 h12 hn17
      exact does_ok (v := .agg #[.int .i64 k9, .slice B1 n1 d1, .slice B2 n2 d2]) (w' := w2) (by simp [go_sem, hreg.const, f96, e13, e12]) ⟨fun x => hJ.v0 (x.resolve_left (by decide)), fun x => hJ.v1 (x.resolve_left (by decide)), fun x => hJ.v2 (x.resolve_left (by decide)), fun x => hJ.v3 (x.resolve_left (by decide)), fun x => hJ.v4 (x.resolve_left (by decide)), fun x => hJ.v5 (x.resolve_left (by decide)), fun x => hJ.v6 (x.resolve_left (by decide)), fun x => hJ.v7 (x.resolve_left (by decide)), fun x => hJ.v8 (x.resolve_left (by decide)), fun x => hJ.v9 (x.resolve_left (by decide)), fun x => hJ.v10 (x.resolve_left (by decide)), fun x => hJ.v11 (x.resolve_left (by decide)), fun x => hJ.v15 (x.resolve_left (by decide)), fun x => hJ.v18 (x.resolve_left (by decide)), hJ.f_b , fun x12 n17 => hJ.p12 (x12.resolve_left (by decide)) (fun x => n17 (.inr x)), fun x13 => hJ.e13 (x13.resolve_left (by decide)), fun x14 => (fun _ => ⟨_, _, e12, rfl⟩) (), fun x16 n17 => hJ.p16 (x16.resolve_left (by decide)) (fun x => n17 (.inr x)), fun x17 => absurd (hcl 17 _ rfl (x17.resolve_left (by decide)) 14 (by kernel_rfl)) hnS, fun x12 => hJ.e12 (x12.resolve_left (by decide))⟩
    · cases ho
      rw [if_pos (show Region.wanted _ y = true from rfl)]
      have f96 : ρ (.tmp 96) = r 13 := hn 13 _ 96 rfl (by kernel_rfl) rfl
      have h13 : S 13 := hneeds 13 (by kernel_rfl)
      have e13 := hJ.e13 h13
      have h12 : S 12 := hcl 13 _ rfl h13 12 (by kernel_rfl)
      have h12' := hJ.e12 h12
      obtain ⟨x, e12⟩ := h12'
      exact does_ok (v := .bool G.isSome) (w' := w2) (by simp [go_sem, hreg.const, f96, e13, e12]) ⟨fun x => hJ.v0 (x.resolve_left (by decide)), fun x => hJ.v1 (x.resolve_left (by decide)), fun x => hJ.v2 (x.resolve_left (by decide)), fun x => hJ.v3 (x.resolve_left (by decide)), fun x => hJ.v4 (x.resolve_left (by decide)), fun x => hJ.v5 (x.resolve_left (by decide)), fun x => hJ.v6 (x.resolve_left (by decide)), fun x => hJ.v7 (x.resolve_left (by decide)), fun x => hJ.v8 (x.resolve_left (by decide)), fun x => hJ.v9 (x.resolve_left (by decide)), fun x => hJ.v10 (x.resolve_left (by decide)), fun x => hJ.v11 (x.resolve_left (by decide)), fun _ => rfl, fun x => hJ.v18 (x.resolve_left (by decide)), hJ.f_b , fun x12 n17 => hJ.p12 (x12.resolve_left (by decide)) (fun x => n17 (.inr x)), fun x13 => hJ.e13 (x13.resolve_left (by decide)), fun x14 => hJ.e14 (x14.resolve_left (by decide)), fun x16 n17 => hJ.p16 (x16.resolve_left (by decide)) (fun x => n17 (.inr x)), fun x17 => hJ.q17 (x17.resolve_left (by decide)), fun x12 => hJ.e12 (x12.resolve_left (by decide))⟩
    · cases ho
      rw [if_pos (show Region.wanted _ y = true from rfl)]
      have hbw : Below w2.heap.size w2 (w2.alloc (.cells #[.int .i64 0, .slice none 0 0, .slice none 0 0] 76)) := (Below.refl _ _).alloc (Nat.le_refl _) _
      exact does_ok (v := .pointer (some ⟨w2.heap.size, 0, none⟩)) (w' := w2.alloc (.cells #[.int .i64 0, .slice none 0 0, .slice none 0 0] 76)) (by simp [go_sem, hreg.const]) ⟨fun x => hJ.v0 (x.resolve_left (by decide)), fun x => hJ.v1 (x.resolve_left (by decide)), fun x => hJ.v2 (x.resolve_left (by decide)), fun x => hJ.v3 (x.resolve_left (by decide)), fun x => hJ.v4 (x.resolve_left (by decide)), fun x => hJ.v5 (x.resolve_left (by decide)), fun x => hJ.v6 (x.resolve_left (by decide)), fun x => hJ.v7 (x.resolve_left (by decide)), fun x => hJ.v8 (x.resolve_left (by decide)), fun x => hJ.v9 (x.resolve_left (by decide)), fun x => hJ.v10 (x.resolve_left (by decide)), fun x => hJ.v11 (x.resolve_left (by decide)), fun x => hJ.v15 (x.resolve_left (by decide)), fun x => hJ.v18 (x.resolve_left (by decide)), Below.thn hJ.f_b hbw, fun x12 n17 => (fun s12 m17 => (by obtain ⟨k9, B1, n1, d1, B2, n2, d2, ts, os, e12, hop, hG⟩ := hJ.p12 s12 m17; exact ⟨k9, B1, n1, d1, B2, n2, d2, ts, os, e12, hop.below hbw, hG⟩)) (x12.resolve_left (by decide)) (fun x => n17 (.inr x)), fun x13 => hJ.e13 (x13.resolve_left (by decide)), fun x14 => hJ.e14 (x14.resolve_left (by decide)), fun x16 n17 => (fun _ m17 => ⟨_, rfl, hJ.f_b.size, BoxA.new w2 _ _⟩) () (fun x => n17 (.inr x)), fun x17 => absurd (hcl 17 _ rfl (x17.resolve_left (by decide)) 16 (by kernel_rfl)) hnS, fun x12 => hJ.e12 (x12.resolve_left (by decide))⟩
    · cases ho
      rw [if_pos (show Region.wanted _ y = true from rfl)]
      have f5 : ρ (.tmp 5) = r 16 := hn 16 _ 5 rfl (by kernel_rfl) rfl
      have f110 : ρ (.tmp 110) = r 14 := hn 14 _ 110 rfl (by kernel_rfl) rfl
      have h14 : S 14 := hneeds 14 (by kernel_rfl)
      have h16 : S 16 := hneeds 16 (by kernel_rfl)
      have h12 : S 12 := hneeds 12 (by kernel_rfl)
      obtain ⟨k9, B1, n1, d1, B2, n2, d2, ts, os, e12, hop, hG⟩ := hJ.p12 h12 hnS
      obtain ⟨x, y9, e12', e14⟩ := hJ.e14 h14
      rw [e12] at e12'
      injection e12' with e12'
      have e15 := congrArg (fun a : Array Value => a[0]!) e12'
      simp at e15
      subst e15
      obtain ⟨g5, e5, h5, hx⟩ := hJ.p16 h16 hnS
      obtain ⟨z0, z1, z2, z3, z4, z5⟩ := hx.three
      obtain ⟨hz, hzg⟩ := hx.set3 (.int .i64 k9) (.slice B1 n1 d1) (.slice B2 n2 d2)
      exact does_skip (w' := ((w2.setCell ⟨g5, 0, none⟩ (.int .i64 k9)).setCell ⟨g5, 1, none⟩ (.slice B1 n1 d1)).setCell ⟨g5, 2, none⟩ (.slice B2 n2 d2)) (by simp [go_sem, hreg.const, f5, f110, e5, e14, z0, z1, z2, z3, z4, z5]) ⟨fun x => hJ.v0 (x.resolve_left (by decide)), fun x => hJ.v1 (x.resolve_left (by decide)), fun x => hJ.v2 (x.resolve_left (by decide)), fun x => hJ.v3 (x.resolve_left (by decide)), fun x => hJ.v4 (x.resolve_left (by decide)), fun x => hJ.v5 (x.resolve_left (by decide)), fun x => hJ.v6 (x.resolve_left (by decide)), fun x => hJ.v7 (x.resolve_left (by decide)), fun x => hJ.v8 (x.resolve_left (by decide)), fun x => hJ.v9 (x.resolve_left (by decide)), fun x => hJ.v10 (x.resolve_left (by decide)), fun x => hJ.v11 (x.resolve_left (by decide)), fun x => hJ.v15 (x.resolve_left (by decide)), fun x => hJ.v18 (x.resolve_left (by decide)), hJ.f_b.grown hzg hJ.f_b.size (fun k hk => by injection hk with hk; omega), fun x12 n17 => absurd (.inl rfl) n17, fun x13 => hJ.e13 (x13.resolve_left (by decide)), fun x14 => hJ.e14 (x14.resolve_left (by decide)), fun x16 n17 => absurd (.inl rfl) n17, fun x17 => (fun _ => ⟨g5, e5, h5, k9, B1, n1, d1, B2, n2, d2, ts, os, hz, hop.keptOp hx hzg, hG⟩) (), fun x12 => hJ.e12 (x12.resolve_left (by decide))⟩
    · cases ho
      rw [if_pos (show Region.wanted _ y = true from rfl)]
      have f111 : ρ (.tmp 111) = .bool G.isSome := (hn 15 _ 111 rfl (by kernel_rfl) rfl).trans (hJ.v15 (hneeds 15 (by kernel_rfl)))
      refine does_assign ?_
      rw [f111]
      exact ⟨fun x => hJ.v0 (x.resolve_left (by decide)), fun x => hJ.v1 (x.resolve_left (by decide)), fun x => hJ.v2 (x.resolve_left (by decide)), fun x => hJ.v3 (x.resolve_left (by decide)), fun x => hJ.v4 (x.resolve_left (by decide)), fun x => hJ.v5 (x.resolve_left (by decide)), fun x => hJ.v6 (x.resolve_left (by decide)), fun x => hJ.v7 (x.resolve_left (by decide)), fun x => hJ.v8 (x.resolve_left (by decide)), fun x => hJ.v9 (x.resolve_left (by decide)), fun x => hJ.v10 (x.resolve_left (by decide)), fun x => hJ.v11 (x.resolve_left (by decide)), fun x => hJ.v15 (x.resolve_left (by decide)), fun _ => rfl, hJ.f_b , fun x12 n17 => absurd (.inr (hneeds 17 (by kernel_rfl))) n17, fun x13 => hJ.e13 (x13.resolve_left (by decide)), fun x14 => hJ.e14 (x14.resolve_left (by decide)), fun x16 n17 => absurd (.inr (hneeds 17 (by kernel_rfl))) n17, fun x17 => hJ.q17 (x17.resolve_left (by decide)), fun x12 => hJ.e12 (x12.resolve_left (by decide))⟩
  case refine_2 =>
    intro a w5 S r hJ hall hd hs hfacts hrest
    obtain ⟨g5, k5, hg5, k9, B1, n1, d1, B2, n2, d2, ts, os, hbx5, hop5, hG5⟩ := hJ.q17 (hall 17 (by decide))
    have HB5 := Lib.hid hJ.f_b
    have q5 : a.tmps.getD 5 undef = .pointer (some ⟨g5, 0, none⟩) := (hfacts 16 _ 5 rfl rfl).trans k5
    have q6 : a.tmps.getD 6 undef = .bool G.isSome := (hfacts 18 _ 6 rfl rfl).trans (hJ.v18 (hall 18 (by decide)))
    have ha := frame_of hd hs hrest [5, 6, 96, 97, 98, 99, 100, 101, 102, 103, 104, 105, 106, 107, 108, 109, 110, 111] (by kernel_rfl)
    simp only [q5, q6, List.foldl, List.setIfInBounds_toArray, List.set_cons_succ, List.set_cons_zero] at ha
    clear q5 q6 hd hs hfacts hrest
    generalize a.tmps.getD = gg at ha
    subst ha
    have HQS5 := Lib.hid (HQS.out.bel HB5.out)
    have HG5 := Lib.hid (HG2.out.trans (grown_below HB5.out (some E.gb)))
    have hgl := HGBL.out
    have HWB : Hid (W.heap.size ≤ b0) := Lib.hid (by rw [HBB.out]; exact HG2.out.size)
    clear hJ hall k5 G3 G4 G5 C20
    cases G with
    | none =>
      have CF := Lib.hid (qfault_any E w5 l dp at_ HQS5.out)
      rw [← HGB.out, ← HP0.out] at CF
      have hq : (none : Option QOp).isSome = false := rfl
      go_wp2_with fail
      refine CF.out.mono ?_
      rintro e W4 ⟨rfl, hg4, hr4⟩
      rw [HGB.out] at hg4
      have HE : Hid (QRes E (baseS E.cf E.T deep l) (2 * l.length) W dp at_ (.returned (.slice none 0 0)) W4) := Lib.hid (by
        rw [HBE.out]
        exact QRes.bad (HG5.out.trans hg4) hr4)
      clear CF hg4 hr4
      go_wp2
      go_ret
      exact HE.out
    | some oo =>
      have hq : (some oo).isSome = true := rfl
      have hoo := hG5 oo rfl
      obtain ⟨ix, hix, x4, x4f, hadv, hga⟩ := HQS5.out.adv HNE.out
      have hwx : wrap64 ((ix : Int) + 1) = (ix : Int) + 1 := by unfold wrap64; omega
      obtain ⟨W6, hW6⟩ : ∃ W6, W6 = w5.setCell ⟨gb, 4, none⟩ (.int .i64 ((ix : Int) + 1)) := ⟨_, rfl⟩
      rw [← HGB.out] at x4 x4f
      have hW6' := hW6
      rw [HGB.out] at hW6'
      rw [← hW6'] at hadv hga
      have hbl : E.gb < g5 := by have := HG2.out.size; omega
      have hb6 := hbx5.kept hga (fun e => by injection e with e; omega)
      have ho6 := (hop5.mono HWB.out).kept hga (fun k hk => by injection hk with hk; omega)
      obtain ⟨z0, z1, z2, _⟩ := hb6.three
      have hG6 := HG5.out.trans hga
      have hb67 : Below W6.heap.size W6 (W6.alloc (.cells #[.int .i64 k9, .slice B1 n1 d1, .slice B2 n2 d2] 76)) := (Below.refl _ _).alloc (Nat.le_refl _) _
      have HE : Hid (QRes E (baseS E.cf E.T deep l) (2 * l.length) W dp at_ (.returned (.slice (some ⟨W6.heap.size, 0, none⟩) 1 1)) (W6.alloc (.cells #[.int .i64 k9, .slice B1 n1 d1, .slice B2 n2 d2] 76))) := Lib.hid (by
        rw [HBE.out]
        refine ⟨_, [oo], rfl, ?_, by have := HPG.out.2.2.2; simp; omega, hG6.trans (grown_below hb67 _), rfl, hadv.bel hb67⟩
        rw [← hoo]
        exact OwnO.one ((k9, ts, os), (B1, n1, d1), (B2, n2, d2)) _ rfl ho6 hG6.size)
      have HW6 := Lib.hid hW6
      clear hop5 hG5 hoo hW6 hW6' hadv hga hb6 ho6 hG6 hb67 hbx5
      clear hgl hbl hg5 hix
      go_upto_region 24 with fail
      rw [← HW6.out]
      clear x4 x4f
      go_wp2
      go_ret
      exact HE.out
end Go.Proofs.YtkkeodlnejckjaaGreat

/- The document's pieces of a text. -/
namespace Go.Proofs.YtkkeodlnejckjaaGreat
open Go.RowKit Go.Shelf
set_option linter.unusedVariables false
set_option linter.unusedSimpArgs false

set_option maxRecDepth 100000 in
set_option maxHeartbeats 1000000 in
theorem rblank_any (c : Nat) (w : World) : Calls Tryz.prog 60 #[.int .u8 (c : Nat)] w fun e w' => e = .returned (.bool (blankB c)) ∧ w' = w := by
  obtain ⟨b1, h1⟩ : ∃ b, b = ((c : Int) == 32) := ⟨_, rfl⟩
  obtain ⟨b2, h2⟩ : ∃ b, b = ((c : Int) == 9) := ⟨_, rfl⟩
  obtain ⟨b3, h3⟩ : ∃ b, b = ((c : Int) == 10) := ⟨_, rfl⟩
  obtain ⟨b4, h4⟩ : ∃ b, b = ((c : Int) == 13) := ⟨_, rfl⟩
  have HB : Hid (blankB c = (b1 || (b2 || (b3 || b4)))) := Lib.hid (by
    have e1 := byte_eq c 32
    have e2 := byte_eq c 9
    have e3 := byte_eq c 10
    have e4 := byte_eq c 13
    unfold blankB
    rw [h1, h2, h3, h4, ← e1, ← e2, ← e3, ← e4]
    rfl)
  replace h1 := h1.symm
  replace h2 := h2.symm
  replace h3 := h3.symm
  replace h4 := h4.symm
  go_enter Tryz.func60, Tryz.ntmps60
  cases b1
  · cases b2
    · cases b3
      · cases b4
        · go_wp2
          go_ret
          exact ⟨by rw [HB.out]; rfl, rfl⟩
        · go_wp2
          go_ret
          exact ⟨by rw [HB.out]; rfl, rfl⟩
      · go_wp2
        go_ret
        exact ⟨by rw [HB.out]; rfl, rfl⟩
    · go_wp2
      go_ret
      exact ⟨by rw [HB.out]; rfl, rfl⟩
  · go_wp2
    go_ret
    exact ⟨by rw [HB.out]; rfl, rfl⟩
/-- Where a quoted piece ends. -/
def qend (ix tz n : Nat) : Option Nat → Nat × Nat
  | some k => (3, (tz - ix) + k + 1)
  | none => (4, n - ix)
theorem quote_at {l : List Nat} {j c : Nat} (h : ∃ hl : j < l.length, l[j] = c) : quoteN (l.drop j) = if c = 34 then some 0 else (quoteN (l.drop (j + 1))).map (· + 1) := by
  obtain ⟨hl, rfl⟩ := h
  conv => lhs; rw [List.drop_eq_getElem_cons hl, quoteN]
theorem qend_step {ix tz n : Nat} (h : ix < tz) (q : Option Nat) : qend ix tz n (q.map (· + 1)) = qend ix (tz + 1) n q := by
  cases q with
  | none => rfl
  | some k =>
    show (3, (tz - ix) + (k + 1) + 1) = (3, (tz + 1 - ix) + k + 1)
    congr 1
    omega
theorem item_at2 {l : List Nat} {j c : Nat} (h : ∃ hl : j < l.length, l[j] = c) : itemN (l.drop j) = if endsB c = true then 0 else itemN (l.drop (j + 1)) + 1 := by
  obtain ⟨hl, rfl⟩ := h
  conv => lhs; rw [List.drop_eq_getElem_cons hl, itemN]
def RPcsE (l : List Nat) (w : World) (e : Ending) (w' : World) : Prop := ∃ v L, e = .returned v ∧ OwnK encQ 2 104 w' w.heap.size v L ∧ (∀ x ∈ L, PcOk w x) ∧ L.map (fun x : PcM => x.1) = piecesL l ∧ L.length ≤ l.length ∧ Below w.heap.size w w'
set_option maxRecDepth 100000 in
set_option maxHeartbeats 8000000 in
theorem rpieces_any (A : Option Addr) (n c : Nat) (l : List Nat) (w : World) (h : RdB w A n l) (hc : n ≤ c) (hc2 : c ≤ 9223372036854775807) (hn : n ≤ 100000) :
    Calls Tryz.prog 35 #[.slice A n c] w (RPcsE l w) := by
  have HR := Lib.hid h
  have HLn := Lib.hid h.len
  clear h
  go_enter Tryz.func35, Tryz.ntmps35
  go_wp2_with fail
  go_loopw [3, 4] (fun v x wr => ∃ (ix : Nat) (L : List PcM), x = .int .i64 (ix : Nat) ∧ ix ≤ n ∧ L.length ≤ ix ∧ Hid (OwnK encQ 2 104 wr w.heap.size v L) ∧ Hid (∀ x ∈ L, PcOk w x) ∧ Hid (L.map (fun x : PcM => x.1) ++ pcs (l.length + 1) ix (l.drop ix) = piecesL l) ∧ Hid (Below w.heap.size w wr)) (fun _ x _ => n - (intOf x).toNat)
  case atStart => exact ⟨0, [], rfl, Nat.zero_le _, Nat.le_refl _, Lib.hid (OwnK.nil _ _ _ _ _), Lib.hid (fun x hx => by cases hx), Lib.hid rfl, Lib.hid (Below.refl _ _)⟩
  case round =>
    obtain ⟨ix, L, rfl, hix, hLx, HO, HP, HS, HB⟩ := hrel
    by_cases hlt : (ix : Int) < (n : Int)
    · obtain ⟨ad, ch, rfl, HX, hc256, x0⟩ := (HR.out.below HB.out).at (k := ix) (by omega)
      have CB := Lib.hid (rblank_any ch wr)
      obtain ⟨bb, hbb⟩ : ∃ bb, bb = blankB ch := ⟨_, rfl⟩
      rw [← hbb] at CB
      have HBB := Lib.hid hbb
      have HXX : Hid (∃ hl : ix < l.length, l[ix] = ch) := Lib.hid (by
        have hl : ix < l.length := by rw [HLn.out]; omega
        have h1 := HX.out
        rw [List.getD_eq_getElem?_getD, List.getElem?_eq_getElem hl] at h1
        exact ⟨hl, h1.symm⟩)
      have hixn : ix < n := by omega
      clear hbb
      go_wp2_with fail
      refine CB.out.mono ?_
      rintro e w2 ⟨rfl, rfl⟩
      clear CB
      cases bb
      · have HST := Lib.hid (pcs_cut HXX.out HBB.out.symm)
        have HCU : Hid (cutK (l.drop ix) = cutK (ch :: l.drop (ix + 1))) := Lib.hid (by
          obtain ⟨hl, rfl⟩ := HXX.out
          rw [List.drop_eq_getElem_cons hl])
        by_cases h40 : ch = 40
        · have q40 : ((ch : Int) == 40) = true := by rw [h40]; rfl
          have H40 := Lib.hid h40
          clear h40
          obtain ⟨mm, hmm⟩ : ∃ mm, mm = (ix + 1) - ix := ⟨_, rfl⟩
          obtain ⟨A9, hA9⟩ : ∃ A9, A9 = cutAt (some ad) c ix := ⟨_, rfl⟩
          obtain ⟨c9, hc9⟩ : ∃ c9, c9 = c - ix := ⟨_, rfl⟩
          have hto : (ix + 1) ≤ n := by omega
          have hcut : ∀ W : World, (Instr.slice 26 (.slice (some ad) n c) (some (.int .i64 (ix : Nat))) (some (.int .i64 ((ix : Int) + 1))) none).run Tryz.prog W = .ok (.slice A9 mm c9) W := fun W => by
            have := run_cut_lh (some ad) n c ix ((ix + 1)) (by omega) (by omega) W
            rw [hA9, hc9, hmm]
            exact this
          have hrd9 : RdB w A9 mm ((l.drop ix).take mm) := by
            have h1 := HR.out.cut (k := ix) (by omega) hc
            rw [← hA9] at h1
            exact h1.take mm (by omega)
          have hm2 : (cutK (l.drop ix)).2 = mm := by rw [hmm]; exact by rw [HCU.out, cutK_cons, if_pos H40.out]; show 1 = _; omega
          obtain ⟨kk, hkk⟩ : ∃ kk, kk = (cutK (l.drop ix)).1 := ⟨_, rfl⟩
          have ho4 := HO.out
          obtain ⟨A6, c6, w6, r6, o6, h61, h62, g6⟩ := push_K (P := Tryz.prog) w.heap.size 70 104 _ 32 Tryz.underlying70 infoQ rfl (by decide) (by decide) (by decide) encQ_len encQ_one ((kk, ix, (l.drop ix).take mm), A9, mm, c9) #[.int .i64 (ix : Nat), .slice A9 mm c9] rfl ho4 HB.out.size (by omega)
          have hB6 : Below w.heap.size w w6 := HB.out.grown g6 HB.out.size (fun k hk => (ho4.base k hk).1)
          have hbd : ∀ W : World, (Instr.build 104 #[(0, .int .i64 (ix : Nat)), (1, .slice A9 mm c9)]).run Tryz.prog W = .ok (.agg #[.int .i64 (ix : Nat), .slice A9 mm c9]) W := fun W => run_build W 104 _ _ (by kernel_rfl)
          have HP6 : Hid (∀ x ∈ L ++ [((kk, ix, (l.drop ix).take mm), A9, mm, c9)], PcOk w x) := Lib.hid (fun x hx => by
            rcases List.mem_append.1 hx with h | h
            · exact HP.out x h
            · simp only [List.mem_singleton] at h
              subst h
              exact ⟨by show mm ≤ c9; omega, by show c9 ≤ _; omega, by show mm ≤ 1000000; omega, hrd9⟩)
          have HS6 : Hid ((L ++ [((kk, ix, (l.drop ix).take mm), A9, mm, c9)]).map (fun x : PcM => x.1) ++ pcs (l.length + 1) ((ix + 1)) (l.drop ((ix + 1))) = piecesL l) := Lib.hid (by
            have h1 := HS.out
            rw [HST.out, hm2, ← hkk, show ix + mm = (ix + 1) by omega] at h1
            rw [List.map_append, List.append_assoc]
            exact h1)
          have HO6 := Lib.hid o6
          have HBB6 := Lib.hid hB6
          clear hmm hA9 hc9 hrd9 hm2 hkk ho4 o6 hB6 g6
          go_wp2_with (at_builtin; refine wpl_append_run rfl _ _ _ rfl rfl rfl r6 ?_)
          exact ⟨⟨(ix + 1), _, by simp, hto, by simp; omega, HO6, HP6, HS6, HBB6⟩, by simp [intOf]; omega⟩
        have q40 : ((ch : Int) == 40) = false := by simp; omega
        by_cases h41 : ch = 41
        · have q41 : ((ch : Int) == 41) = true := by rw [h41]; rfl
          have H41 := Lib.hid h41
          have H40 := Lib.hid h40
          clear h41 h40
          obtain ⟨mm, hmm⟩ : ∃ mm, mm = (ix + 1) - ix := ⟨_, rfl⟩
          obtain ⟨A9, hA9⟩ : ∃ A9, A9 = cutAt (some ad) c ix := ⟨_, rfl⟩
          obtain ⟨c9, hc9⟩ : ∃ c9, c9 = c - ix := ⟨_, rfl⟩
          have hto : (ix + 1) ≤ n := by omega
          have hcut : ∀ W : World, (Instr.slice 26 (.slice (some ad) n c) (some (.int .i64 (ix : Nat))) (some (.int .i64 ((ix : Int) + 1))) none).run Tryz.prog W = .ok (.slice A9 mm c9) W := fun W => by
            have := run_cut_lh (some ad) n c ix ((ix + 1)) (by omega) (by omega) W
            rw [hA9, hc9, hmm]
            exact this
          have hrd9 : RdB w A9 mm ((l.drop ix).take mm) := by
            have h1 := HR.out.cut (k := ix) (by omega) hc
            rw [← hA9] at h1
            exact h1.take mm (by omega)
          have hm2 : (cutK (l.drop ix)).2 = mm := by rw [hmm]; exact by rw [HCU.out, cutK_cons, if_neg H40.out, if_pos H41.out]; show 1 = _; omega
          obtain ⟨kk, hkk⟩ : ∃ kk, kk = (cutK (l.drop ix)).1 := ⟨_, rfl⟩
          have ho4 := HO.out
          obtain ⟨A6, c6, w6, r6, o6, h61, h62, g6⟩ := push_K (P := Tryz.prog) w.heap.size 70 104 _ 32 Tryz.underlying70 infoQ rfl (by decide) (by decide) (by decide) encQ_len encQ_one ((kk, ix, (l.drop ix).take mm), A9, mm, c9) #[.int .i64 (ix : Nat), .slice A9 mm c9] rfl ho4 HB.out.size (by omega)
          have hB6 : Below w.heap.size w w6 := HB.out.grown g6 HB.out.size (fun k hk => (ho4.base k hk).1)
          have hbd : ∀ W : World, (Instr.build 104 #[(0, .int .i64 (ix : Nat)), (1, .slice A9 mm c9)]).run Tryz.prog W = .ok (.agg #[.int .i64 (ix : Nat), .slice A9 mm c9]) W := fun W => run_build W 104 _ _ (by kernel_rfl)
          have HP6 : Hid (∀ x ∈ L ++ [((kk, ix, (l.drop ix).take mm), A9, mm, c9)], PcOk w x) := Lib.hid (fun x hx => by
            rcases List.mem_append.1 hx with h | h
            · exact HP.out x h
            · simp only [List.mem_singleton] at h
              subst h
              exact ⟨by show mm ≤ c9; omega, by show c9 ≤ _; omega, by show mm ≤ 1000000; omega, hrd9⟩)
          have HS6 : Hid ((L ++ [((kk, ix, (l.drop ix).take mm), A9, mm, c9)]).map (fun x : PcM => x.1) ++ pcs (l.length + 1) ((ix + 1)) (l.drop ((ix + 1))) = piecesL l) := Lib.hid (by
            have h1 := HS.out
            rw [HST.out, hm2, ← hkk, show ix + mm = (ix + 1) by omega] at h1
            rw [List.map_append, List.append_assoc]
            exact h1)
          have HO6 := Lib.hid o6
          have HBB6 := Lib.hid hB6
          clear hmm hA9 hc9 hrd9 hm2 hkk ho4 o6 hB6 g6
          go_wp2_with (at_builtin; refine wpl_append_run rfl _ _ _ rfl rfl rfl r6 ?_)
          exact ⟨⟨(ix + 1), _, by simp, hto, by simp; omega, HO6, HP6, HS6, HBB6⟩, by simp [intOf]; omega⟩
        have q41 : ((ch : Int) == 41) = false := by simp; omega
        by_cases h34 : ch = 34
        · have q34 : ((ch : Int) == 34) = true := by rw [h34]; rfl
          have HQ : Hid (cutK (l.drop ix) = qend ix (ix + 1) n (quoteN (l.drop (ix + 1)))) := Lib.hid (by
            rw [HCU.out, cutK_cons, if_neg h40, if_neg h41, if_pos h34]
            cases quoteN (l.drop (ix + 1)) with
            | none => 
              show (4, _) = (4, _)
              rw [List.length_drop, HLn.out]
              congr 1
              omega
            | some k => 
              show (3, _) = (3, _)
              congr 1
              omega)
          clear h34 h40 h41
          go_wp2_with fail
          clear x0
          go_loopw [5] (fun x wr9 => ∃ tz : Nat, x = .int .i64 (tz : Nat) ∧ ix + 1 ≤ tz ∧ tz ≤ n ∧ Hid (cutK (l.drop ix) = qend ix tz n (quoteN (l.drop tz))) ∧ wr9 = w2) (fun x _ => n - (intOf x).toNat)
          case atStart => exact ⟨ix + 1, by simp, Nat.le_refl _, by omega, HQ, rfl⟩
          case round =>
            obtain ⟨tz, rfl, hto1, hto2, HI, rfl⟩ := hrel
            by_cases hlt2 : (tz : Int) < (n : Int)
            · obtain ⟨ad', c2, hA2, HX2, hc22, x2⟩ := (HR.out.below HB.out).at (k := tz) (by omega)
              cases hA2
              have HXX2 : Hid (∃ hl : tz < l.length, l[tz] = c2) := Lib.hid (by
                have hl : tz < l.length := by rw [HLn.out]; omega
                have h1 := HX2.out
                rw [List.getD_eq_getElem?_getD, List.getElem?_eq_getElem hl] at h1
                exact ⟨hl, h1.symm⟩)
              by_cases hq : c2 = 34
              · have q2 : ((c2 : Int) == 34) = true := by rw [hq]; rfl
                have HM : Hid ((cutK (l.drop ix)).2 = (tz + 1) - ix) := Lib.hid (by
                  rw [HI.out, quote_at HXX2.out, if_pos hq]
                  show tz - ix + 0 + 1 = _
                  omega)
                clear hq
                obtain ⟨mm, hmm⟩ : ∃ mm, mm = (tz + 1) - ix := ⟨_, rfl⟩
                obtain ⟨A9, hA9⟩ : ∃ A9, A9 = cutAt (some ad) c ix := ⟨_, rfl⟩
                obtain ⟨c9, hc9⟩ : ∃ c9, c9 = c - ix := ⟨_, rfl⟩
                have hto : (tz + 1) ≤ n := by omega
                have hcut : ∀ W : World, (Instr.slice 26 (.slice (some ad) n c) (some (.int .i64 (ix : Nat))) (some (.int .i64 ((tz : Int) + 1))) none).run Tryz.prog W = .ok (.slice A9 mm c9) W := fun W => by
                  have := run_cut_lh (some ad) n c ix ((tz + 1)) (by omega) (by omega) W
                  rw [hA9, hc9, hmm]
                  exact this
                have hrd9 : RdB w A9 mm ((l.drop ix).take mm) := by
                  have h1 := HR.out.cut (k := ix) (by omega) hc
                  rw [← hA9] at h1
                  exact h1.take mm (by omega)
                have hm2 : (cutK (l.drop ix)).2 = mm := by rw [hmm]; exact HM.out
                obtain ⟨kk, hkk⟩ : ∃ kk, kk = (cutK (l.drop ix)).1 := ⟨_, rfl⟩
                have ho4 := HO.out
                obtain ⟨A6, c6, w6, r6, o6, h61, h62, g6⟩ := push_K (P := Tryz.prog) w.heap.size 70 104 _ 32 Tryz.underlying70 infoQ rfl (by decide) (by decide) (by decide) encQ_len encQ_one ((kk, ix, (l.drop ix).take mm), A9, mm, c9) #[.int .i64 (ix : Nat), .slice A9 mm c9] rfl ho4 HB.out.size (by omega)
                have hB6 : Below w.heap.size w w6 := HB.out.grown g6 HB.out.size (fun k hk => (ho4.base k hk).1)
                have hbd : ∀ W : World, (Instr.build 104 #[(0, .int .i64 (ix : Nat)), (1, .slice A9 mm c9)]).run Tryz.prog W = .ok (.agg #[.int .i64 (ix : Nat), .slice A9 mm c9]) W := fun W => run_build W 104 _ _ (by kernel_rfl)
                have HP6 : Hid (∀ x ∈ L ++ [((kk, ix, (l.drop ix).take mm), A9, mm, c9)], PcOk w x) := Lib.hid (fun x hx => by
                  rcases List.mem_append.1 hx with h | h
                  · exact HP.out x h
                  · simp only [List.mem_singleton] at h
                    subst h
                    exact ⟨by show mm ≤ c9; omega, by show c9 ≤ _; omega, by show mm ≤ 1000000; omega, hrd9⟩)
                have HS6 : Hid ((L ++ [((kk, ix, (l.drop ix).take mm), A9, mm, c9)]).map (fun x : PcM => x.1) ++ pcs (l.length + 1) ((tz + 1)) (l.drop ((tz + 1))) = piecesL l) := Lib.hid (by
                  have h1 := HS.out
                  rw [HST.out, hm2, ← hkk, show ix + mm = (tz + 1) by omega] at h1
                  rw [List.map_append, List.append_assoc]
                  exact h1)
                have HO6 := Lib.hid o6
                have HBB6 := Lib.hid hB6
                clear hmm hA9 hc9 hrd9 hm2 hkk ho4 o6 hB6 g6
                go_wp2_with (at_builtin; refine wpl_append_run rfl _ _ _ rfl rfl rfl r6 ?_)
                exact ⟨⟨(tz + 1), _, by simp, hto, by simp; omega, HO6, HP6, HS6, HBB6⟩, by simp [intOf]; omega⟩
              · have q2 : ((c2 : Int) == 34) = false := by simp; omega
                have HI2 : Hid (cutK (l.drop ix) = qend ix (tz + 1) n (quoteN (l.drop (tz + 1)))) := Lib.hid (by
                  rw [HI.out, quote_at HXX2.out, if_neg hq, qend_step (by omega)])
                clear hq
                go_wp2
                exact ⟨⟨tz + 1, by simp, by omega, by omega, HI2, trivial⟩, by simp [intOf]; omega⟩
            · have hE : tz = n := by omega
              subst hE
              have HM : Hid ((cutK (l.drop ix)).2 = tz - ix) := Lib.hid (by
                rw [HI.out, List.drop_of_length_le (l := l) (i := tz) (by rw [HLn.out]; exact Nat.le_refl _)]
                rfl)
              obtain ⟨mm, hmm⟩ : ∃ mm, mm = tz - ix := ⟨_, rfl⟩
              obtain ⟨A9, hA9⟩ : ∃ A9, A9 = cutAt (some ad) c ix := ⟨_, rfl⟩
              obtain ⟨c9, hc9⟩ : ∃ c9, c9 = c - ix := ⟨_, rfl⟩
              have hto : tz ≤ tz := by omega
              have hcut : ∀ W : World, (Instr.slice 26 (.slice (some ad) tz c) (some (.int .i64 (ix : Nat))) (some (.int .i64 (tz : Nat))) none).run Tryz.prog W = .ok (.slice A9 mm c9) W := fun W => by
                have := run_cut_lh (some ad) tz c ix (tz) (by omega) (by omega) W
                rw [hA9, hc9, hmm]
                exact this
              have hrd9 : RdB w A9 mm ((l.drop ix).take mm) := by
                have h1 := HR.out.cut (k := ix) (by omega) hc
                rw [← hA9] at h1
                exact h1.take mm (by omega)
              have hm2 : (cutK (l.drop ix)).2 = mm := by rw [hmm]; exact HM.out
              obtain ⟨kk, hkk⟩ : ∃ kk, kk = (cutK (l.drop ix)).1 := ⟨_, rfl⟩
              have ho4 := HO.out
              obtain ⟨A6, c6, w6, r6, o6, h61, h62, g6⟩ := push_K (P := Tryz.prog) w.heap.size 70 104 _ 32 Tryz.underlying70 infoQ rfl (by decide) (by decide) (by decide) encQ_len encQ_one ((kk, ix, (l.drop ix).take mm), A9, mm, c9) #[.int .i64 (ix : Nat), .slice A9 mm c9] rfl ho4 HB.out.size (by omega)
              have hB6 : Below w.heap.size w w6 := HB.out.grown g6 HB.out.size (fun k hk => (ho4.base k hk).1)
              have hbd : ∀ W : World, (Instr.build 104 #[(0, .int .i64 (ix : Nat)), (1, .slice A9 mm c9)]).run Tryz.prog W = .ok (.agg #[.int .i64 (ix : Nat), .slice A9 mm c9]) W := fun W => run_build W 104 _ _ (by kernel_rfl)
              have HP6 : Hid (∀ x ∈ L ++ [((kk, ix, (l.drop ix).take mm), A9, mm, c9)], PcOk w x) := Lib.hid (fun x hx => by
                rcases List.mem_append.1 hx with h | h
                · exact HP.out x h
                · simp only [List.mem_singleton] at h
                  subst h
                  exact ⟨by show mm ≤ c9; omega, by show c9 ≤ _; omega, by show mm ≤ 1000000; omega, hrd9⟩)
              have HS6 : Hid ((L ++ [((kk, ix, (l.drop ix).take mm), A9, mm, c9)]).map (fun x : PcM => x.1) ++ pcs (l.length + 1) (tz) (l.drop (tz)) = piecesL l) := Lib.hid (by
                have h1 := HS.out
                rw [HST.out, hm2, ← hkk, show ix + mm = tz by omega] at h1
                rw [List.map_append, List.append_assoc]
                exact h1)
              have HO6 := Lib.hid o6
              have HBB6 := Lib.hid hB6
              clear hmm hA9 hc9 hrd9 hm2 hkk ho4 o6 hB6 g6
              go_wp2_with (at_builtin; refine wpl_append_run rfl _ _ _ rfl rfl rfl r6 ?_)
              exact ⟨⟨tz, _, by simp, hto, by simp; omega, HO6, HP6, HS6, HBB6⟩, by simp [intOf]; omega⟩
        have q34 : ((ch : Int) == 34) = false := by simp; omega
        have HQ : Hid ((cutK (l.drop ix)).2 = 1 + itemN (l.drop (ix + 1))) := Lib.hid (by
          rw [HCU.out, cutK_cons, if_neg h40, if_neg h41, if_neg h34]
          show itemN _ + 1 = _
          omega)
        clear h34 h40 h41
        go_wp2_with fail
        clear x0
        go_loopw [5] (fun x wr9 => ∃ tz : Nat, x = .int .i64 (tz : Nat) ∧ ix + 1 ≤ tz ∧ tz ≤ n ∧ Hid ((cutK (l.drop ix)).2 = (tz - ix) + itemN (l.drop tz)) ∧ wr9 = w2) (fun x _ => n - (intOf x).toNat)
        case atStart => exact ⟨ix + 1, by simp, Nat.le_refl _, by omega, Lib.hid (by rw [HQ.out]; omega), rfl⟩
        case round =>
          obtain ⟨tz, rfl, hto1, hto2, HI, rfl⟩ := hrel
          by_cases hlt2 : (tz : Int) < (n : Int)
          · obtain ⟨ad', c2, hA2, HX2, hc22, x2⟩ := (HR.out.below HB.out).at (k := tz) (by omega)
            cases hA2
            have HXX2 : Hid (∃ hl : tz < l.length, l[tz] = c2) := Lib.hid (by
              have hl : tz < l.length := by rw [HLn.out]; omega
              have h1 := HX2.out
              rw [List.getD_eq_getElem?_getD, List.getElem?_eq_getElem hl] at h1
              exact ⟨hl, h1.symm⟩)
            have CB2 := Lib.hid (rblank_any c2 wr)
            obtain ⟨b2, hb2⟩ : ∃ b2, b2 = blankB c2 := ⟨_, rfl⟩
            rw [← hb2] at CB2
            have HB2 := Lib.hid hb2
            clear hb2
            go_wp2_with fail
            refine CB2.out.mono ?_
            rintro e w9 ⟨rfl, rfl⟩
            clear CB2
            have HSTOP : Hid (endsB c2 = true → (cutK (l.drop ix)).2 = tz - ix) := Lib.hid fun he => by
              rw [HI.out, item_at2 HXX2.out, if_pos he]
              omega
            have HGO : Hid (endsB c2 = false → (cutK (l.drop ix)).2 = (tz + 1 - ix) + itemN (l.drop (tz + 1))) := Lib.hid fun he => by
              rw [HI.out, item_at2 HXX2.out, he, if_neg (by decide)]
              omega
            cases b2
            case true =>
              have HM : Hid ((cutK (l.drop ix)).2 = tz - ix) := Lib.hid (HSTOP.out (by unfold endsB; rw [← HB2.out]; rfl))
              obtain ⟨mm, hmm⟩ : ∃ mm, mm = tz - ix := ⟨_, rfl⟩
              obtain ⟨A9, hA9⟩ : ∃ A9, A9 = cutAt (some ad) c ix := ⟨_, rfl⟩
              obtain ⟨c9, hc9⟩ : ∃ c9, c9 = c - ix := ⟨_, rfl⟩
              have hto : tz ≤ n := by omega
              have hcut : ∀ W : World, (Instr.slice 26 (.slice (some ad) n c) (some (.int .i64 (ix : Nat))) (some (.int .i64 (tz : Nat))) none).run Tryz.prog W = .ok (.slice A9 mm c9) W := fun W => by
                have := run_cut_lh (some ad) n c ix (tz) (by omega) (by omega) W
                rw [hA9, hc9, hmm]
                exact this
              have hrd9 : RdB w A9 mm ((l.drop ix).take mm) := by
                have h1 := HR.out.cut (k := ix) (by omega) hc
                rw [← hA9] at h1
                exact h1.take mm (by omega)
              have hm2 : (cutK (l.drop ix)).2 = mm := by rw [hmm]; exact HM.out
              obtain ⟨kk, hkk⟩ : ∃ kk, kk = (cutK (l.drop ix)).1 := ⟨_, rfl⟩
              have ho4 := HO.out
              obtain ⟨A6, c6, w6, r6, o6, h61, h62, g6⟩ := push_K (P := Tryz.prog) w.heap.size 70 104 _ 32 Tryz.underlying70 infoQ rfl (by decide) (by decide) (by decide) encQ_len encQ_one ((kk, ix, (l.drop ix).take mm), A9, mm, c9) #[.int .i64 (ix : Nat), .slice A9 mm c9] rfl ho4 HB.out.size (by omega)
              have hB6 : Below w.heap.size w w6 := HB.out.grown g6 HB.out.size (fun k hk => (ho4.base k hk).1)
              have hbd : ∀ W : World, (Instr.build 104 #[(0, .int .i64 (ix : Nat)), (1, .slice A9 mm c9)]).run Tryz.prog W = .ok (.agg #[.int .i64 (ix : Nat), .slice A9 mm c9]) W := fun W => run_build W 104 _ _ (by kernel_rfl)
              have HP6 : Hid (∀ x ∈ L ++ [((kk, ix, (l.drop ix).take mm), A9, mm, c9)], PcOk w x) := Lib.hid (fun x hx => by
                rcases List.mem_append.1 hx with h | h
                · exact HP.out x h
                · simp only [List.mem_singleton] at h
                  subst h
                  exact ⟨by show mm ≤ c9; omega, by show c9 ≤ _; omega, by show mm ≤ 1000000; omega, hrd9⟩)
              have HS6 : Hid ((L ++ [((kk, ix, (l.drop ix).take mm), A9, mm, c9)]).map (fun x : PcM => x.1) ++ pcs (l.length + 1) (tz) (l.drop (tz)) = piecesL l) := Lib.hid (by
                have h1 := HS.out
                rw [HST.out, hm2, ← hkk, show ix + mm = tz by omega] at h1
                rw [List.map_append, List.append_assoc]
                exact h1)
              have HO6 := Lib.hid o6
              have HBB6 := Lib.hid hB6
              clear hmm hA9 hc9 hrd9 hm2 hkk ho4 o6 hB6 g6
              go_wp2_with (at_builtin; refine wpl_append_run rfl _ _ _ rfl rfl rfl r6 ?_)
              exact ⟨⟨tz, _, by simp, hto, by simp; omega, HO6, HP6, HS6, HBB6⟩, by simp [intOf]; omega⟩
            by_cases h40 : c2 = 40
            · have HM : Hid ((cutK (l.drop ix)).2 = tz - ix) := Lib.hid (HSTOP.out (by rw [h40]; rfl))
              subst h40
              clear HB2
              obtain ⟨mm, hmm⟩ : ∃ mm, mm = tz - ix := ⟨_, rfl⟩
              obtain ⟨A9, hA9⟩ : ∃ A9, A9 = cutAt (some ad) c ix := ⟨_, rfl⟩
              obtain ⟨c9, hc9⟩ : ∃ c9, c9 = c - ix := ⟨_, rfl⟩
              have hto : tz ≤ n := by omega
              have hcut : ∀ W : World, (Instr.slice 26 (.slice (some ad) n c) (some (.int .i64 (ix : Nat))) (some (.int .i64 (tz : Nat))) none).run Tryz.prog W = .ok (.slice A9 mm c9) W := fun W => by
                have := run_cut_lh (some ad) n c ix (tz) (by omega) (by omega) W
                rw [hA9, hc9, hmm]
                exact this
              have hrd9 : RdB w A9 mm ((l.drop ix).take mm) := by
                have h1 := HR.out.cut (k := ix) (by omega) hc
                rw [← hA9] at h1
                exact h1.take mm (by omega)
              have hm2 : (cutK (l.drop ix)).2 = mm := by rw [hmm]; exact HM.out
              obtain ⟨kk, hkk⟩ : ∃ kk, kk = (cutK (l.drop ix)).1 := ⟨_, rfl⟩
              have ho4 := HO.out
              obtain ⟨A6, c6, w6, r6, o6, h61, h62, g6⟩ := push_K (P := Tryz.prog) w.heap.size 70 104 _ 32 Tryz.underlying70 infoQ rfl (by decide) (by decide) (by decide) encQ_len encQ_one ((kk, ix, (l.drop ix).take mm), A9, mm, c9) #[.int .i64 (ix : Nat), .slice A9 mm c9] rfl ho4 HB.out.size (by omega)
              have hB6 : Below w.heap.size w w6 := HB.out.grown g6 HB.out.size (fun k hk => (ho4.base k hk).1)
              have hbd : ∀ W : World, (Instr.build 104 #[(0, .int .i64 (ix : Nat)), (1, .slice A9 mm c9)]).run Tryz.prog W = .ok (.agg #[.int .i64 (ix : Nat), .slice A9 mm c9]) W := fun W => run_build W 104 _ _ (by kernel_rfl)
              have HP6 : Hid (∀ x ∈ L ++ [((kk, ix, (l.drop ix).take mm), A9, mm, c9)], PcOk w x) := Lib.hid (fun x hx => by
                rcases List.mem_append.1 hx with h | h
                · exact HP.out x h
                · simp only [List.mem_singleton] at h
                  subst h
                  exact ⟨by show mm ≤ c9; omega, by show c9 ≤ _; omega, by show mm ≤ 1000000; omega, hrd9⟩)
              have HS6 : Hid ((L ++ [((kk, ix, (l.drop ix).take mm), A9, mm, c9)]).map (fun x : PcM => x.1) ++ pcs (l.length + 1) (tz) (l.drop (tz)) = piecesL l) := Lib.hid (by
                have h1 := HS.out
                rw [HST.out, hm2, ← hkk, show ix + mm = tz by omega] at h1
                rw [List.map_append, List.append_assoc]
                exact h1)
              have HO6 := Lib.hid o6
              have HBB6 := Lib.hid hB6
              clear hmm hA9 hc9 hrd9 hm2 hkk ho4 o6 hB6 g6
              go_wp2_with (at_builtin; refine wpl_append_run rfl _ _ _ rfl rfl rfl r6 ?_)
              exact ⟨⟨tz, _, by simp, hto, by simp; omega, HO6, HP6, HS6, HBB6⟩, by simp [intOf]; omega⟩
            have q40a : ((c2 : Int) == 40) = false := by simp; omega
            have q40b : ((c2 : Int) != 40) = true := by simp; omega
            have q40c : ¬ (c2 : Int) = 40 := by omega
            by_cases h41 : c2 = 41
            · have HM : Hid ((cutK (l.drop ix)).2 = tz - ix) := Lib.hid (HSTOP.out (by rw [h41]; rfl))
              subst h41
              clear HB2
              obtain ⟨mm, hmm⟩ : ∃ mm, mm = tz - ix := ⟨_, rfl⟩
              obtain ⟨A9, hA9⟩ : ∃ A9, A9 = cutAt (some ad) c ix := ⟨_, rfl⟩
              obtain ⟨c9, hc9⟩ : ∃ c9, c9 = c - ix := ⟨_, rfl⟩
              have hto : tz ≤ n := by omega
              have hcut : ∀ W : World, (Instr.slice 26 (.slice (some ad) n c) (some (.int .i64 (ix : Nat))) (some (.int .i64 (tz : Nat))) none).run Tryz.prog W = .ok (.slice A9 mm c9) W := fun W => by
                have := run_cut_lh (some ad) n c ix (tz) (by omega) (by omega) W
                rw [hA9, hc9, hmm]
                exact this
              have hrd9 : RdB w A9 mm ((l.drop ix).take mm) := by
                have h1 := HR.out.cut (k := ix) (by omega) hc
                rw [← hA9] at h1
                exact h1.take mm (by omega)
              have hm2 : (cutK (l.drop ix)).2 = mm := by rw [hmm]; exact HM.out
              obtain ⟨kk, hkk⟩ : ∃ kk, kk = (cutK (l.drop ix)).1 := ⟨_, rfl⟩
              have ho4 := HO.out
              obtain ⟨A6, c6, w6, r6, o6, h61, h62, g6⟩ := push_K (P := Tryz.prog) w.heap.size 70 104 _ 32 Tryz.underlying70 infoQ rfl (by decide) (by decide) (by decide) encQ_len encQ_one ((kk, ix, (l.drop ix).take mm), A9, mm, c9) #[.int .i64 (ix : Nat), .slice A9 mm c9] rfl ho4 HB.out.size (by omega)
              have hB6 : Below w.heap.size w w6 := HB.out.grown g6 HB.out.size (fun k hk => (ho4.base k hk).1)
              have hbd : ∀ W : World, (Instr.build 104 #[(0, .int .i64 (ix : Nat)), (1, .slice A9 mm c9)]).run Tryz.prog W = .ok (.agg #[.int .i64 (ix : Nat), .slice A9 mm c9]) W := fun W => run_build W 104 _ _ (by kernel_rfl)
              have HP6 : Hid (∀ x ∈ L ++ [((kk, ix, (l.drop ix).take mm), A9, mm, c9)], PcOk w x) := Lib.hid (fun x hx => by
                rcases List.mem_append.1 hx with h | h
                · exact HP.out x h
                · simp only [List.mem_singleton] at h
                  subst h
                  exact ⟨by show mm ≤ c9; omega, by show c9 ≤ _; omega, by show mm ≤ 1000000; omega, hrd9⟩)
              have HS6 : Hid ((L ++ [((kk, ix, (l.drop ix).take mm), A9, mm, c9)]).map (fun x : PcM => x.1) ++ pcs (l.length + 1) (tz) (l.drop (tz)) = piecesL l) := Lib.hid (by
                have h1 := HS.out
                rw [HST.out, hm2, ← hkk, show ix + mm = tz by omega] at h1
                rw [List.map_append, List.append_assoc]
                exact h1)
              have HO6 := Lib.hid o6
              have HBB6 := Lib.hid hB6
              clear hmm hA9 hc9 hrd9 hm2 hkk ho4 o6 hB6 g6
              go_wp2_with (at_builtin; refine wpl_append_run rfl _ _ _ rfl rfl rfl r6 ?_)
              exact ⟨⟨tz, _, by simp, hto, by simp; omega, HO6, HP6, HS6, HBB6⟩, by simp [intOf]; omega⟩
            have q41a : ((c2 : Int) == 41) = false := by simp; omega
            have q41b : ((c2 : Int) != 41) = true := by simp; omega
            have q41c : ¬ (c2 : Int) = 41 := by omega
            by_cases h34 : c2 = 34
            · have HM : Hid ((cutK (l.drop ix)).2 = tz - ix) := Lib.hid (HSTOP.out (by rw [h34]; rfl))
              subst h34
              clear HB2
              obtain ⟨mm, hmm⟩ : ∃ mm, mm = tz - ix := ⟨_, rfl⟩
              obtain ⟨A9, hA9⟩ : ∃ A9, A9 = cutAt (some ad) c ix := ⟨_, rfl⟩
              obtain ⟨c9, hc9⟩ : ∃ c9, c9 = c - ix := ⟨_, rfl⟩
              have hto : tz ≤ n := by omega
              have hcut : ∀ W : World, (Instr.slice 26 (.slice (some ad) n c) (some (.int .i64 (ix : Nat))) (some (.int .i64 (tz : Nat))) none).run Tryz.prog W = .ok (.slice A9 mm c9) W := fun W => by
                have := run_cut_lh (some ad) n c ix (tz) (by omega) (by omega) W
                rw [hA9, hc9, hmm]
                exact this
              have hrd9 : RdB w A9 mm ((l.drop ix).take mm) := by
                have h1 := HR.out.cut (k := ix) (by omega) hc
                rw [← hA9] at h1
                exact h1.take mm (by omega)
              have hm2 : (cutK (l.drop ix)).2 = mm := by rw [hmm]; exact HM.out
              obtain ⟨kk, hkk⟩ : ∃ kk, kk = (cutK (l.drop ix)).1 := ⟨_, rfl⟩
              have ho4 := HO.out
              obtain ⟨A6, c6, w6, r6, o6, h61, h62, g6⟩ := push_K (P := Tryz.prog) w.heap.size 70 104 _ 32 Tryz.underlying70 infoQ rfl (by decide) (by decide) (by decide) encQ_len encQ_one ((kk, ix, (l.drop ix).take mm), A9, mm, c9) #[.int .i64 (ix : Nat), .slice A9 mm c9] rfl ho4 HB.out.size (by omega)
              have hB6 : Below w.heap.size w w6 := HB.out.grown g6 HB.out.size (fun k hk => (ho4.base k hk).1)
              have hbd : ∀ W : World, (Instr.build 104 #[(0, .int .i64 (ix : Nat)), (1, .slice A9 mm c9)]).run Tryz.prog W = .ok (.agg #[.int .i64 (ix : Nat), .slice A9 mm c9]) W := fun W => run_build W 104 _ _ (by kernel_rfl)
              have HP6 : Hid (∀ x ∈ L ++ [((kk, ix, (l.drop ix).take mm), A9, mm, c9)], PcOk w x) := Lib.hid (fun x hx => by
                rcases List.mem_append.1 hx with h | h
                · exact HP.out x h
                · simp only [List.mem_singleton] at h
                  subst h
                  exact ⟨by show mm ≤ c9; omega, by show c9 ≤ _; omega, by show mm ≤ 1000000; omega, hrd9⟩)
              have HS6 : Hid ((L ++ [((kk, ix, (l.drop ix).take mm), A9, mm, c9)]).map (fun x : PcM => x.1) ++ pcs (l.length + 1) (tz) (l.drop (tz)) = piecesL l) := Lib.hid (by
                have h1 := HS.out
                rw [HST.out, hm2, ← hkk, show ix + mm = tz by omega] at h1
                rw [List.map_append, List.append_assoc]
                exact h1)
              have HO6 := Lib.hid o6
              have HBB6 := Lib.hid hB6
              clear hmm hA9 hc9 hrd9 hm2 hkk ho4 o6 hB6 g6
              go_wp2_with (at_builtin; refine wpl_append_run rfl _ _ _ rfl rfl rfl r6 ?_)
              exact ⟨⟨tz, _, by simp, hto, by simp; omega, HO6, HP6, HS6, HBB6⟩, by simp [intOf]; omega⟩
            have q34a : ((c2 : Int) == 34) = false := by simp; omega
            have q34b : ((c2 : Int) != 34) = true := by simp; omega
            have q34c : ¬ (c2 : Int) = 34 := by omega
            have HI2 : Hid ((cutK (l.drop ix)).2 = (tz + 1 - ix) + itemN (l.drop (tz + 1))) := Lib.hid (HGO.out (by
              unfold endsB
              rw [← HB2.out]
              simp [h40, h41, h34]))
            clear h40 h41 h34
            go_wp2
            exact ⟨⟨tz + 1, by simp, by omega, by omega, HI2, trivial⟩, by simp [intOf]; omega⟩
          · have hE : tz = n := by omega
            subst hE
            have HM : Hid ((cutK (l.drop ix)).2 = tz - ix) := Lib.hid (by
              rw [HI.out, List.drop_of_length_le (l := l) (i := tz) (by rw [HLn.out]; exact Nat.le_refl _)]
              simp [itemN])
            obtain ⟨mm, hmm⟩ : ∃ mm, mm = tz - ix := ⟨_, rfl⟩
            obtain ⟨A9, hA9⟩ : ∃ A9, A9 = cutAt (some ad) c ix := ⟨_, rfl⟩
            obtain ⟨c9, hc9⟩ : ∃ c9, c9 = c - ix := ⟨_, rfl⟩
            have hto : tz ≤ tz := by omega
            have hcut : ∀ W : World, (Instr.slice 26 (.slice (some ad) tz c) (some (.int .i64 (ix : Nat))) (some (.int .i64 (tz : Nat))) none).run Tryz.prog W = .ok (.slice A9 mm c9) W := fun W => by
              have := run_cut_lh (some ad) tz c ix (tz) (by omega) (by omega) W
              rw [hA9, hc9, hmm]
              exact this
            have hrd9 : RdB w A9 mm ((l.drop ix).take mm) := by
              have h1 := HR.out.cut (k := ix) (by omega) hc
              rw [← hA9] at h1
              exact h1.take mm (by omega)
            have hm2 : (cutK (l.drop ix)).2 = mm := by rw [hmm]; exact HM.out
            obtain ⟨kk, hkk⟩ : ∃ kk, kk = (cutK (l.drop ix)).1 := ⟨_, rfl⟩
            have ho4 := HO.out
            obtain ⟨A6, c6, w6, r6, o6, h61, h62, g6⟩ := push_K (P := Tryz.prog) w.heap.size 70 104 _ 32 Tryz.underlying70 infoQ rfl (by decide) (by decide) (by decide) encQ_len encQ_one ((kk, ix, (l.drop ix).take mm), A9, mm, c9) #[.int .i64 (ix : Nat), .slice A9 mm c9] rfl ho4 HB.out.size (by omega)
            have hB6 : Below w.heap.size w w6 := HB.out.grown g6 HB.out.size (fun k hk => (ho4.base k hk).1)
            have hbd : ∀ W : World, (Instr.build 104 #[(0, .int .i64 (ix : Nat)), (1, .slice A9 mm c9)]).run Tryz.prog W = .ok (.agg #[.int .i64 (ix : Nat), .slice A9 mm c9]) W := fun W => run_build W 104 _ _ (by kernel_rfl)
            have HP6 : Hid (∀ x ∈ L ++ [((kk, ix, (l.drop ix).take mm), A9, mm, c9)], PcOk w x) := Lib.hid (fun x hx => by
              rcases List.mem_append.1 hx with h | h
              · exact HP.out x h
              · simp only [List.mem_singleton] at h
                subst h
                exact ⟨by show mm ≤ c9; omega, by show c9 ≤ _; omega, by show mm ≤ 1000000; omega, hrd9⟩)
            have HS6 : Hid ((L ++ [((kk, ix, (l.drop ix).take mm), A9, mm, c9)]).map (fun x : PcM => x.1) ++ pcs (l.length + 1) (tz) (l.drop (tz)) = piecesL l) := Lib.hid (by
              have h1 := HS.out
              rw [HST.out, hm2, ← hkk, show ix + mm = tz by omega] at h1
              rw [List.map_append, List.append_assoc]
              exact h1)
            have HO6 := Lib.hid o6
            have HBB6 := Lib.hid hB6
            clear hmm hA9 hc9 hrd9 hm2 hkk ho4 o6 hB6 g6
            go_wp2_with (at_builtin; refine wpl_append_run rfl _ _ _ rfl rfl rfl r6 ?_)
            exact ⟨⟨tz, _, by simp, hto, by simp; omega, HO6, HP6, HS6, HBB6⟩, by simp [intOf]; omega⟩
      · have HN : Hid (L.map (fun x : PcM => x.1) ++ pcs (l.length + 1) (ix + 1) (l.drop (ix + 1)) = piecesL l) := Lib.hid (by rw [← pcs_blank HXX.out HBB.out.symm]; exact HS.out)
        go_wp2
        exact ⟨⟨ix + 1, L, by simp, by omega, by omega, HO, HP, HN, HB⟩, by simp [intOf]; omega⟩
    · have hE : ix = n := by omega
      subst hE
      have HE : Hid (RPcsE l w (.returned u3) wr) := Lib.hid ⟨u3, L, rfl, HO.out, HP.out, by
        have h1 := HS.out
        rw [List.drop_of_length_le (by rw [HLn.out]; exact Nat.le_refl _), pcs_end, List.append_nil] at h1
        exact h1, by rw [HLn.out]; exact hLx, HB.out⟩
      clear HO
      go_wp2
      go_ret
      exact HE.out
end Go.Proofs.YtkkeodlnejckjaaGreat

/- A text is parsed, by the document. -/
namespace Go.Proofs.YtkkeodlnejckjaaGreat
open Go.RowKit Go.Shelf
set_option linter.unusedVariables false
set_option linter.unusedSimpArgs false

theorem qreads_any (E : RE) : ∀ (k : Nat), k ≤ 16 → ∀ (W : World) (l : List Pc) (at_ : Nat), l.length ≤ 1000 → QS E W l ((16 : Int) - (k : Int)) false at_ → Calls Tryz.prog 81 #[.pointer (some ⟨E.gb, 0, none⟩)] W (QRes E (notK E.cf E.T k l) (2 * l.length) W ((16 : Int) - (k : Int)) at_)
  | 0, _, W, l, at_, hl, h => by
    rw [notK_0]
    exact qnot_any E none ((16 : Int) - ((0 : Nat) : Int)) (.inl ⟨rfl, rfl⟩) W l at_ hl h
  | k + 1, hk, W, l, at_, hl, h => by
    have ih := qreads_any E k (by omega)
    rw [notK_s]
    refine qnot_any E (some (notK E.cf E.T k)) _ (.inr ⟨_, rfl, by omega, by omega, fun W l at_ hl h => ?_, fun W l at_ hl h => ?_⟩) W l at_ hl h
    · rw [dp_up] at h ⊢
      exact ih W l at_ hl h
    · rw [dp_up] at h ⊢
      exact qany_any E _ (allS_eats (notK_eats E.cf E.T k)) _ (fun W l at_ hl h => qall_any E _ (notK_eats E.cf E.T k) _ ih W l at_ hl h) W l at_ hl h
theorem qreads_all (E : RE) (W : World) (l : List Pc) (at_ : Nat) (hl : l.length ≤ 1000) (h : QS E W l 0 false at_) :
    Calls Tryz.prog 36 #[.pointer (some ⟨E.gb, 0, none⟩)] W (QRes E (anyK E.cf E.T 16 l) (2 * l.length) W 0 at_) :=
  qany_any E _ (allS_eats (notK_eats E.cf E.T 16)) _ (fun W l at_ hl h => qall_any E _ (notK_eats E.cf E.T 16) _ (qreads_any E 16 (Nat.le_refl _)) W l at_ hl h) W l at_ hl h
/-- Pieces that are read. -/
def PcQ (w : World) (P : Option Addr) (np cp : Nat) (l : List Nat) : Prop := (∃ L : List PcM, RdK encQ 2 w P np L ∧ (∀ x ∈ L, PcOk w x) ∧ L.map (fun x : PcM => x.1) = piecesL l) ∧ np ≤ cp ∧ cp ≤ 9223372036854775807
theorem PcQ.below {w w' : World} {P : Option Addr} {np cp : Nat} {l : List Nat} (h : PcQ w P np cp l) (hb : Below w.heap.size w w') : PcQ w' P np cp l := by
  obtain ⟨⟨L, h1, h2, h3⟩, h4, h5⟩ := h
  exact ⟨⟨L, h1.below hb, fun x hx => (h2 x hx).below hb, h3⟩, h4, h5⟩
/-- The document's reader at a text's begin. -/
def RdyQ (A : Option Addr) (n c : Nat) (B : Option Addr) (m d : Nat) (cf : Cf) (l : List Nat) (gb : Nat) (W : World) : Prop := ∃ w0, QS ⟨A, n, c, B, m, d, cf, gb, l.length, w0⟩ W (piecesL l) 0 false 0
theorem RdyQ.below {A : Option Addr} {n c : Nat} {B : Option Addr} {m d : Nat} {cf : Cf} {l : List Nat} {gb : Nat} {W W' : World} (h : RdyQ A n c B m d cf l gb W) (hb : Below W.heap.size W W') : RdyQ A n c B m d cf l gb W' := by
  obtain ⟨w0, h⟩ := h
  exact ⟨w0, h.bel hb⟩
theorem rdyQ_new {w : World} {A : Option Addr} {n c : Nat} {B : Option Addr} {m d : Nat} {cf : Cf} {cap : Int} {l : List Nat} {P : Option Addr} {np cp nt : Nat} (hR : RdC w A n c B m d cf) (hm : m ≤ 1000000 ∧ l.length ≤ 1000) (hnt : l.length = nt) (hcap : cap = cf.cap) (hp : PcQ w P np cp l) :
    RdyQ A n c B m d cf l w.heap.size (w.alloc (.cells #[.slice A n c, .slice B m d, .int .i64 cap, .slice P np cp, .int .i64 0, .int .i64 (nt : Nat), .int .i64 0, .int .i64 (-1)] 73)) := by
  subst hcap
  subst hnt
  obtain ⟨⟨L, h1, h2, h3⟩, h4, h5⟩ := hp
  have hnp : np ≤ 1000 := by
    have e := congrArg List.length h3
    rw [List.length_map, h1.len] at e
    have := pcs_len (l.length + 1) 0 l
    unfold piecesL at e
    omega
  refine ⟨w, ⟨hR, hm.1, Nat.le_refl _⟩, (Below.refl _ _).alloc (Nat.le_refl _) _, P, np, cp, 0, ?_, fun _ => ⟨0, rfl, Nat.zero_le _, hnp, h4, h5, L, h1, h2, h3.symm, fun x hx => ?_⟩⟩
  · exact BoxA.new w 73 [.slice A n c, .slice B m d, .int .i64 cf.cap, .slice P np cp, .int .i64 0, .int .i64 (l.length : Nat), .int .i64 0, .int .i64 (-1)]
  · have hmem : x.1 ∈ piecesL l := by rw [← h3]; exact List.mem_map_of_mem hx
    exact ⟨pcs_good _ _ _ _ hmem, pcs_kind _ _ _ _ hmem, Nat.le_trans (pcs_small _ _ _ _ hmem) hm.2⟩
def QrF (A : Option Addr) (n c : Nat) (B : Option Addr) (m d : Nat) (cap : Int) (T : Option Addr) (nt ct g2 g4 b0 : Nat) (cf : Cf) (l : List Nat) : Nat → Value → World → Prop
  | 0 => fun v w => v = confV A n c B m d cap
  | 1 => fun v w => v = .slice T nt ct
  | 2 => fun v w => ∃ (P : Option Addr) (np : Nat) (cp : Nat), v = .slice P np cp ∧ PcQ w P np cp l
  | 3 => fun v w => v = .slice T nt ct
  | 4 => fun v w => v = .int .i64 (nt : Nat)
  | 5 => fun v w => ∃ (P : Option Addr) (np : Nat) (cp : Nat), v = .agg #[.slice A n c, .slice B m d, .int .i64 cap, .slice P np cp, .int .i64 0, .int .i64 (nt : Nat), .int .i64 0, .int .i64 (-1)] ∧ PcQ w P np cp l
  | 6 => fun v w => ∃ (gb : Nat), v = .pointer (some ⟨gb, 0, none⟩) ∧ b0 ≤ gb ∧ RdyQ A n c B m d cf l gb w
  | 7 => fun v w => ∃ (gb : Nat), v = .pointer (some ⟨gb, 0, none⟩) ∧ b0 ≤ gb ∧ RdyQ A n c B m d cf l gb w
  | _ => fun _ _ => True
theorem QrF.below (A : Option Addr) (n c : Nat) (B : Option Addr) (m d : Nat) (cap : Int) (T : Option Addr) (nt ct g2 g4 b0 : Nat) (cf : Cf) (l : List Nat) : ∀ i v w w', Below w.heap.size w w' → QrF A n c B m d cap T nt ct g2 g4 b0 cf l i v w → QrF A n c B m d cap T nt ct g2 g4 b0 cf l i v w'
  | 0, _, _, _, _, h => h
  | 1, _, _, _, _, h => h
  | 2, _, _, _, hb, h => by
    obtain ⟨P, np, cp, e, g⟩ := h
    exact ⟨P, np, cp, e, g.below hb⟩
  | 3, _, _, _, _, h => h
  | 4, _, _, _, _, h => h
  | 5, _, _, _, hb, h => by
    obtain ⟨P, np, cp, e, g⟩ := h
    exact ⟨P, np, cp, e, g.below hb⟩
  | 6, _, _, _, hb, h => by
    obtain ⟨gb, e, g⟩ := h
    exact ⟨gb, e, ⟨g.1, g.2.below hb⟩⟩
  | 7, _, _, _, hb, h => by
    obtain ⟨gb, e, g⟩ := h
    exact ⟨gb, e, ⟨g.1, g.2.below hb⟩⟩
  | _ + 8, _, _, _, _, _ => trivial
def QeF (g4 gb pa : Nat) : Nat → Value → World → Prop
  | 0 => fun v w => v = .agg #[.slice none 0 0]
  | 1 => fun v w => v = .pointer (some ⟨gb, 0, none⟩)
  | 2 => fun v w => v = .pointer (some ⟨gb, 0, none⟩)
  | 3 => fun v w => v = .pointer (some ⟨gb, 7, none⟩)
  | 4 => fun v w => v = .int .i64 (pa : Nat)
  | 5 => fun v w => v = undef
  | 6 => fun v w => v = .int .i64 (pa : Nat)
  | 7 => fun v w => v = .int .i64 200
  | _ => fun _ _ => True
theorem QeF.keep (g4 gb pa : Nat) : ∀ i v w w', True → QeF g4 gb pa i v w → QeF g4 gb pa i v w'
  | 0, _, _, _, _, h => h
  | 1, _, _, _, _, h => h
  | 2, _, _, _, _, h => h
  | 3, _, _, _, _, h => h
  | 4, _, _, _, _, h => h
  | 5, _, _, _, _, h => h
  | 6, _, _, _, _, h => h
  | 7, _, _, _, _, h => h
  | _ + 8, _, _, _, _, _ => trivial

set_option maxRecDepth 100000 in
set_option maxHeartbeats 4000000 in
theorem refParse_any (A : Option Addr) (n c : Nat) (B : Option Addr) (m d : Nat) (cf : Cf) (T : Option Addr) (nt ct : Nat) (l : List Nat) (w : World) (hR : RdC w A n c B m d cf) (ht : RdB w T nt l) (htc : nt ≤ ct) (hc2 : ct ≤ 9223372036854775807) (hn : nt ≤ 100000) (hm : m ≤ 1000000) :
    Calls Tryz.prog 9 #[confV A n c B m d cf.cap, .slice T nt ct] w (ParE (parG cf l) w) := by
  have hlen := ht.len
  obtain ⟨cap, hcap⟩ : ∃ cap, cap = cf.cap := ⟨_, rfl⟩
  rw [← hcap]
  obtain ⟨G, hG⟩ : ∃ G, G = parG cf l := ⟨_, rfl⟩
  rw [← hG]
  obtain ⟨w1, hw1⟩ : ∃ w1, w1 = w.alloc (.cells #[.slice A n c, .slice B m d, .int .i64 cap] 25) := ⟨_, rfl⟩
  obtain ⟨g2, hg2⟩ : ∃ g2, g2 = w.heap.size := ⟨_, rfl⟩
  have hb1 : Below w.heap.size w w1 := by rw [hw1]; exact (Below.refl _ _).alloc (Nat.le_refl _) _
  have hB2 : BoxA w1 g2 25 [.slice A n c, .slice B m d, .int .i64 cap] := by rw [hw1, hg2]; exact BoxA.new _ _ _
  obtain ⟨w2, hw2⟩ : ∃ w2, w2 = w1.alloc (.cells #[.slice none 0 0] 31) := ⟨_, rfl⟩
  obtain ⟨g4, hg4⟩ : ∃ g4, g4 = w.heap.size + 1 := ⟨_, rfl⟩
  have hs1 : g4 = w1.heap.size := by rw [hw1, hg4]; simp
  have hb12 : Below w1.heap.size w1 w2 := by rw [hw2]; exact (Below.refl _ _).alloc (Nat.le_refl _) _
  have hB4 : BoxA w2 g4 31 [.slice none 0 0] := by rw [hw2, hs1]; exact BoxA.new _ _ _
  have hb2 := Below.thn hb1 hb12
  have HB2 := Lib.hid (hB2.below hb12)
  have HB4 := Lib.hid hB4
  have HB := Lib.hid hb2
  have HW1 := Lib.hid hw1
  have HW2 := Lib.hid hw2
  have HG2 := Lib.hid hg2
  have HG4 := Lib.hid hg4
  have HGE : Hid (w.heap.size ≤ g4) := Lib.hid (by omega)
  have HGS : Hid (w2.heap.size = g4 + 1) := Lib.hid (by rw [hw2, hs1]; simp)
  have HR := Lib.hid hR
  have HT := Lib.hid ht
  have HCAP := Lib.hid hcap
  have HGP := Lib.hid hG
  have C1 := Lib.hid (refCkW_any A n c B m d cf w2 (hR.below hb2))
  rw [← hcap] at C1
  obtain ⟨y0, y1, y2, _⟩ := HB2.out.three
  have hbq : ∀ W : World, (Instr.build 31 #[]).run Tryz.prog W = .ok (.agg #[.slice none 0 0]) W := fun W => run_build W 31 _ _ (by kernel_rfl)
  clear hR ht hcap hG hw1 hg2 hb1 hB2 hw2 hg4 hs1 hb12 hB4 hb2
  go_enter Tryz.func9, Tryz.ntmps9
  go_upto_region 1 with fail
  rw [← HW1.out, ← HW2.out, ← HG4.out, ← HG2.out]
  go_wp2_with fail
  refine C1.out.mono ?_
  rintro e w3 ⟨rfl, hb3⟩
  have HB3 := Lib.hid (Below.thn HB.out hb3)
  have HB23 := Lib.hid (HB2.out.below hb3)
  have HB43 := Lib.hid (HB4.out.below hb3)
  have HGS3 : Hid (g4 < w3.heap.size) := Lib.hid HB43.out.lt
  clear C1 HB hb3 HB2 HB4 HGS y0 y1 y2
  by_cases hmay : mayC cf
  case neg =>
    rw [may_no hmay]
    obtain ⟨hE, y0⟩ := parE_set (G := G) HB3.out HGE.out HB43.out (.slice none 0 0) [] (OwnO.nil _ _) 0 140 (by rw [HGP.out]; exact if_neg hmay)
    have HE := Lib.hid hE
    have z0 := HB43.out.cell 0 _ rfl
    have z1 := HB43.out.frozen 0
    clear hE hmay
    go_wp2
    refine bodyPost_ret (v := .tuple #[.agg #[.slice none 0 0], .int .i64 0, .int .i64 140]) (by simp [results, Tryz.results9, go_sem, y0]) rfl HE.out
  rw [may_yes hmay]
  have HMAY := Lib.hid hmay
  clear hmay
  by_cases hlong : (nt : Int) > 200
  · obtain ⟨hE, y0⟩ := parE_set (G := G) HB3.out HGE.out HB43.out (.slice none 0 0) [] (OwnO.nil _ _) 0 3 (by rw [HGP.out]; exact parG_long HMAY.out (by omega))
    have HE := Lib.hid hE
    have z0 := HB43.out.cell 0 _ rfl
    have z1 := HB43.out.frozen 0
    clear hE
    go_wp2
    refine bodyPost_ret (v := .tuple #[.agg #[.slice none 0 0], .int .i64 0, .int .i64 3]) (by simp [results, Tryz.results9, go_sem, y0]) rfl HE.out
  have hlong2 : nt ≤ 200 := by omega
  have hge : ¬ ((nt : Int) > 200) := hlong
  have HLE : Hid (l.length = nt) := Lib.hid hlen
  have HGP3 : Hid (G = parR (anyK cf l.length 16 (piecesL l))) := Lib.hid (by rw [HGP.out]; exact parG_eq HMAY.out (by omega))
  have HRC := Lib.hid (HR.out.below HB3.out)
  have HM : Hid (m ≤ 1000000 ∧ l.length ≤ 1000) := Lib.hid ⟨hm, by omega⟩
  obtain ⟨b0, hb0⟩ : ∃ b0, b0 = g4 + 1 := ⟨_, rfl⟩
  have HB0 : Hid (b0 ≤ w3.heap.size) := Lib.hid (by rw [hb0]; exact HGS3.out)
  have HBE := Lib.hid hb0
  have C22 : Hid (∀ w9, Below w3.heap.size w3 w9 → Calls Tryz.prog 35 #[.slice T nt ct] w9 (RPcsE l w9)) := Lib.hid fun w9 h9 => rpieces_any T nt ct l w9 (HT.out.below (Below.thn HB3.out h9)) htc hc2 hn
  have G0 : Hid (w3.cell? ⟨g2, 0, none⟩ = some (.slice A n c)) := Lib.hid (HB23.out.cell 0 _ rfl)
  have G1 : Hid (w3.cell? ⟨g2, 1, none⟩ = some (.slice B m d)) := Lib.hid (HB23.out.cell 1 _ rfl)
  have G2 : Hid (w3.cell? ⟨g2, 2, none⟩ = some (.int .i64 cap)) := Lib.hid (HB23.out.cell 2 _ rfl)
  clear hlong hlen hb0 HMAY HGP
  go_wp2_with fail
  rename_i K1 hK1
  refine wp_region_flow (by kernel_rfl) (QrF A n c B m d cap T nt ct g2 g4 b0 cf l) (QrF.below A n c B m d cap T nt ct g2 g4 b0 cf l) (by kernel_rfl) (by kernel_rfl) ?_ ?_
  case refine_1 =>
    intro i o ho ρ y w2 hb2 hreg hn hf hyb hyn
    have hi := (Array.getElem?_eq_some_iff.1 ho).1
    rcases Nat.lt_or_ge i 8 with hi2 | hi2
    case inr => simp at hi; omega
    obtain rfl | rfl | rfl | rfl | rfl | rfl | rfl | rfl : i = 0 ∨ i = 1 ∨ i = 2 ∨ i = 3 ∨ i = 4 ∨ i = 5 ∨ i = 6 ∨ i = 7 := by omega
    · cases ho
      rw [if_pos (show Region.wanted _ y = true from rfl)]
      have f2 : ρ (.tmp 2) = .pointer (some ⟨g2, 0, none⟩) := hf 2 (by kernel_rfl)
      have k0 := cell_keep hb2 G0.out
      have k1 := cell_keep hb2 G1.out
      have k2 := cell_keep hb2 G2.out
      exact does_ok (v := confV A n c B m d cap) (w' := w2) (by simp [go_sem, hreg.const, f2, k0, k1, k2]) ⟨rfl, Below.refl _ _⟩
    · cases ho
      rw [if_pos (show Region.wanted _ y = true from rfl)]
      have f1 : ρ (.tmp 1) = .slice T nt ct := hf 1 (by kernel_rfl)
      exact ⟨f1, Below.refl _ _⟩
    · cases ho
      rw [if_pos (show Region.wanted _ y = true from rfl)]
      have f21 : ρ (.tmp 21) = .slice T nt ct := hn 1 _ 21 rfl (by kernel_rfl) rfl
      refine does_enter (f := 35) (args := #[.slice T nt ct]) (w' := w2) (by simp [go_sem, hreg.func, hreg.const, f21]) ?_
      refine (C22.out w2 hb2).mono ?_
      rintro e w' ⟨v, L, rfl, ho, hL, hm, hll, hb⟩
      obtain ⟨P, cp, rfl, h1, h2, h3⟩ := OwnK.rd encQ_len ho
      exact ⟨_, rfl, ⟨P, _, cp, rfl, ⟨L, h3, fun x hx => (hL x hx).below hb, hm⟩, h1, h2⟩, hb⟩
    · cases ho
      rw [if_pos (show Region.wanted _ y = true from rfl)]
      have f1 : ρ (.tmp 1) = .slice T nt ct := hf 1 (by kernel_rfl)
      exact ⟨f1, Below.refl _ _⟩
    · cases ho
      rw [if_pos (show Region.wanted _ y = true from rfl)]
      have f23 : ρ (.tmp 23) = .slice T nt ct := hn 3 _ 23 rfl (by kernel_rfl) rfl
      exact does_ok (v := .int .i64 (nt : Nat)) (w' := w2) (by simp [go_sem, hreg.const, f23]) ⟨rfl, Below.refl _ _⟩
    · cases ho
      rw [if_pos (show Region.wanted _ y = true from rfl)]
      have f20 : ρ (.tmp 20) = confV A n c B m d cap := hn 0 _ 20 rfl (by kernel_rfl) rfl
      obtain ⟨P, np, cp, f22, g22⟩ : ∃ (P : Option Addr) (np : Nat) (cp : Nat), ρ (.tmp 22) = .slice P np cp ∧ PcQ w2 P np cp l := hn 2 _ 22 rfl (by kernel_rfl) rfl
      have f24 : ρ (.tmp 24) = .int .i64 (nt : Nat) := hn 4 _ 24 rfl (by kernel_rfl) rfl
      have hbr : ∀ W : World, (Instr.build 73 #[(0, confV A n c B m d cap), (1, .slice P np cp), (3, .int .i64 (nt : Nat)), (5, .int .i64 (-1))]).run Tryz.prog W = .ok (.agg #[.slice A n c, .slice B m d, .int .i64 cap, .slice P np cp, .int .i64 0, .int .i64 (nt : Nat), .int .i64 0, .int .i64 (-1)]) W := fun W => run_build W 73 _ _ (by kernel_rfl)
      exact does_ok (v := .agg #[.slice A n c, .slice B m d, .int .i64 cap, .slice P np cp, .int .i64 0, .int .i64 (nt : Nat), .int .i64 0, .int .i64 (-1)]) (w' := w2) (by simp [go_sem, hreg.const, f20, f22, f24, hbr]) ⟨⟨P, np, cp, rfl, g22⟩, Below.refl _ _⟩
    · cases ho
      rw [if_pos (show Region.wanted _ y = true from rfl)]
      obtain ⟨P, np, cp, f25, g25⟩ : ∃ (P : Option Addr) (np : Nat) (cp : Nat), ρ (.tmp 25) = .agg #[.slice A n c, .slice B m d, .int .i64 cap, .slice P np cp, .int .i64 0, .int .i64 (nt : Nat), .int .i64 0, .int .i64 (-1)] ∧ PcQ w2 P np cp l := hn 5 _ 25 rfl (by kernel_rfl) rfl
      have hsz : b0 ≤ w2.heap.size := Nat.le_trans HB0.out hb2.size
      have hbn : Below w2.heap.size w2 (w2.alloc (.cells #[.slice A n c, .slice B m d, .int .i64 cap, .slice P np cp, .int .i64 0, .int .i64 (nt : Nat), .int .i64 0, .int .i64 (-1)] 73)) := (Below.refl _ _).alloc (Nat.le_refl _) _
      exact does_ok (v := .pointer (some ⟨w2.heap.size, 0, none⟩)) (w' := w2.alloc (.cells #[.slice A n c, .slice B m d, .int .i64 cap, .slice P np cp, .int .i64 0, .int .i64 (nt : Nat), .int .i64 0, .int .i64 (-1)] 73)) (by simp [go_sem, hreg.const, f25]) ⟨⟨_, rfl, hsz, rdyQ_new (HRC.out.below hb2) HM.out HLE.out HCAP.out g25⟩, hbn⟩
    · cases ho
      rw [if_pos (show Region.wanted _ y = true from rfl)]
      obtain ⟨gb, f26, g26⟩ : ∃ (gb : Nat), ρ (.tmp 26) = .pointer (some ⟨gb, 0, none⟩) ∧ b0 ≤ gb ∧ RdyQ A n c B m d cf l gb w2 := hn 6 _ 26 rfl (by kernel_rfl) rfl
      exact ⟨⟨gb, f26, g26⟩, Below.refl _ _⟩
  case refine_2 =>
    intro a w2 hb2 hd hs hfacts hrest
    obtain ⟨gb, q8, g8⟩ : ∃ (gb : Nat), a.tmps.getD 8 undef = .pointer (some ⟨gb, 0, none⟩) ∧ b0 ≤ gb ∧ RdyQ A n c B m d cf l gb w2 := hfacts 7 _ 8 rfl rfl
    have ha := frame_of hd hs hrest [8, 20, 21, 22, 23, 24, 25, 26] (by kernel_rfl)
    simp only [q8, List.foldl, List.setIfInBounds_toArray, List.set_cons_succ, List.set_cons_zero] at ha
    clear q8 hd hs hfacts hrest
    generalize a.tmps.getD = gg at ha
    subst ha
    obtain ⟨hgb, w0, hrs⟩ := g8
    have HB4' := Lib.hid (Below.thn HB3.out hb2)
    have HB44 := Lib.hid (HB43.out.below hb2)
    obtain ⟨E, hE⟩ : ∃ E : RE, E = ⟨A, n, c, B, m, d, cf, gb, l.length, w0⟩ := ⟨_, rfl⟩
    have hEg : E.gb = gb := by rw [hE]
    rw [← hE] at hrs
    have hET : E.T = l.length := by rw [hE]
    have hEc : E.cf = cf := by rw [hE]
    have hpl : (piecesL l).length ≤ nt := by
      have := pcs_len (l.length + 1) 0 l
      have := HLE.out
      unfold piecesL
      omega
    have C6 := Lib.hid (qreads_all E w2 (piecesL l) 0 (by omega) hrs)
    have HGBL := Lib.hid hrs.gbl
    rw [hEc, hET, hEg] at C6
    rw [hEg] at HGBL
    have HEG := Lib.hid hEg
    have HET := Lib.hid hET
    have HGB : Hid (g4 + 1 ≤ gb) := Lib.hid (by rw [← HBE.out]; exact hgb)
    have HGS4 : Hid (g4 + 1 ≤ w2.heap.size) := Lib.hid (Nat.le_trans HGS3.out hb2.size)
    have HWG : Hid (w.heap.size < gb) := Lib.hid (by have := HGE.out; have := HGB.out; omega)
    obtain ⟨R, hR⟩ : ∃ R, R = anyK cf l.length 16 (piecesL l) := ⟨_, rfl⟩
    have HGP4 : Hid (G = parR R) := Lib.hid (by rw [hR]; exact HGP3.out)
    rw [← hR] at C6
    clear hgb hrs hE hEg hET hEc hb2 hR HGP3 HB3 HB23 HB43 G0 G1 G2 C22 HRC
    go_wp2_with fail
    refine C6.out.mono ?_
    rintro e w5 ⟨v, o, rfl, ho, hol, hg5, hm5⟩
    rw [HEG.out] at hg5
    have hol2 : o.length ≤ 400 := by omega
    obtain ⟨Av, cv, rfl, _⟩ := ho.rd
    obtain ⟨no, hno⟩ : ∃ no, no = o.length := ⟨_, rfl⟩
    rw [← hno] at ho ⊢
    have hbq1 : ∀ W : World, (Instr.build 31 #[(0, .slice Av no cv)]).run Tryz.prog W = .ok (.agg #[.slice Av no cv]) W := fun W => run_build W 31 _ _ (by kernel_rfl)
    have HO5 := Lib.hid ho
    have HB5 := Lib.hid (HB4'.out.grown hg5 HB4'.out.size (fun k hk => by injection hk with hk; have := HWG.out; omega))
    have HB45 := Lib.hid (HB44.out.kept hg5 (fun e => by injection e with e; have := HGB.out; omega))
    clear C6 ho hg5 HB4' HB44 hol hno
    obtain ⟨w6, hw6⟩ : ∃ w6, w6 = w5.alloc (.cells #[.slice Av no cv] 31) := ⟨_, rfl⟩
    obtain ⟨g9, hg9⟩ : ∃ g9, g9 = w5.heap.size := ⟨_, rfl⟩
    have hb56 : Below w5.heap.size w5 w6 := by rw [hw6]; exact (Below.refl _ _).alloc (Nat.le_refl _) _
    have HB9 := Lib.hid (show BoxA w6 g9 31 [.slice Av no cv] by rw [hw6, hg9]; exact BoxA.new _ _ _)
    have HBX := Lib.hid (Below.thn HB5.out hb56)
    have HBQ := Lib.hid (HB45.out.below hb56)
    have HO7 := Lib.hid (HO5.out.below hb56)
    have HW6 := Lib.hid hw6
    have HG9 := Lib.hid hg9
    have HB56 := Lib.hid hb56
    clear hw6 hg9 hb56 HB5 HB45 HO5
    go_upto_region 8 with fail
    rw [← HW6.out, ← HG9.out]
    cases R with
    | bad pa =>
      obtain ⟨l5, d5, hr5⟩ := hm5
      have HRSX0 := Lib.hid (hr5.bel HB56.out)
      have y7 := HRSX0.out.bad
      rw [HEG.out] at y7
      simp only [if_true] at y7
      have hlt : ¬ ((pa : Int) < 0) := by omega
      clear hr5
      go_quiet (fail)
      obtain ⟨w7, hw7⟩ : ∃ w7, w7 = w6.drewN nq := ⟨_, rfl⟩
      have hb67 : Below w6.heap.size w6 w7 := by rw [hw7]; exact Below.drewN w6 _
      rw [← hw7]
      have HRSX := Lib.hid (HRSX0.out.bel hb67)
      have HBX := Lib.hid (Below.thn HBX.out hb67)
      have HBQ := Lib.hid (HBQ.out.below hb67)
      have y7 := HRSX.out.bad
      rw [HEG.out] at y7
      simp only [if_true] at y7
      clear hw7 hb67
      go_wp2_with fail
      obtain ⟨W0, hW0⟩ : ∃ W0, W0 = w7.drew := ⟨_, rfl⟩
      have hbd0 : Below w7.heap.size w7 W0 := by rw [hW0]; exact Below.drew (Below.refl _ _)
      have hq0 := HBQ.out.below hbd0
      have hr0 := HRSX.out.bel hbd0
      obtain ⟨P0, np0, cp0, i0, hbx0, _⟩ := hr0.box
      have kW0 : W0.cell? ⟨gb, 7, none⟩ = some (.int .i64 (pa : Nat)) := by rw [← HEG.out]; exact hbx0.cell 7 _ rfl
      have s0 := hq0.cell 0 _ rfl
      have fr0 := hq0.frozen 0
      obtain ⟨W1, hW1⟩ : ∃ W1, W1 = W0.setCell ⟨g4, 0, none⟩ (.slice none 0 0) := ⟨_, rfl⟩
      have kW1 : W1.cell? ⟨gb, 7, none⟩ = some (.int .i64 (pa : Nat)) := by
        rw [← HEG.out, hW1]
        exact (hbx0.kept (BoxA.set_grown W0 g4 0 (.slice none 0 0)) (fun e => by injection e with e; have := HGB.out; rw [HEG.out] at e; omega)).cell 7 _ rfl
      obtain ⟨hE1, y0⟩ := parE_set (G := G) (Below.thn HBX.out hbd0) HGE.out hq0 (.slice none 0 0) [] (OwnO.nil _ _) pa 200 (by rw [HGP4.out]; rfl)
      rw [← hW1] at hE1 y0
      have HE := Lib.hid hE1
      have HW0 := Lib.hid hW0
      clear hW0 hbd0 hq0 hr0 hbx0 hE1
      rename_i K2 hK2
      refine wp_region_flowJ (by kernel_rfl) (QeF g4 gb pa) (fun _ _ => True) (PeJ W0 W1) (QeF.keep g4 gb pa) ?_ (by kernel_rfl) (by kernel_rfl) ?_ ?_
      case refine_1 => exact ⟨fun _ => HW0.out.symm, fun h => h.elim⟩
      case refine_2 =>
        intro i o ho ρ y w2 S hJ hnS hneeds hcl hreg hn hf hyb hyn
        have hi := (Array.getElem?_eq_some_iff.1 ho).1
        rcases Nat.lt_or_ge i 8 with hi2 | hi2
        case inr => simp at hi; omega
        obtain rfl | rfl | rfl | rfl | rfl | rfl | rfl | rfl : i = 0 ∨ i = 1 ∨ i = 2 ∨ i = 3 ∨ i = 4 ∨ i = 5 ∨ i = 6 ∨ i = 7 := by omega
        · cases ho
          rw [if_pos (show Region.wanted _ y = true from rfl)]
          exact does_ok (v := .agg #[.slice none 0 0]) (w' := w2) (by simp [go_sem, hreg.const, hbq]) ⟨rfl, trivial, hJ.next (by decide)⟩
        · cases ho
          rw [if_pos (show Region.wanted _ y = true from rfl)]
          have f8 : ρ (.tmp 8) = .pointer (some ⟨gb, 0, none⟩) := hf 8 (by kernel_rfl)
          exact ⟨f8, trivial, hJ.next (by decide)⟩
        · cases ho
          rw [if_pos (show Region.wanted _ y = true from rfl)]
          have f55 : ρ (.tmp 55) = .pointer (some ⟨gb, 0, none⟩) := hn 1 _ 55 rfl (by kernel_rfl) rfl
          exact does_ok (v := .pointer (some ⟨gb, 0, none⟩)) (w' := w2) (by simp [go_sem, hreg.const, f55]) ⟨rfl, trivial, hJ.next (by decide)⟩
        · cases ho
          rw [if_pos (show Region.wanted _ y = true from rfl)]
          have f56 : ρ (.tmp 56) = .pointer (some ⟨gb, 0, none⟩) := hn 2 _ 56 rfl (by kernel_rfl) rfl
          exact does_ok (v := .pointer (some ⟨gb, 7, none⟩)) (w' := w2) (by simp [go_sem, hreg.const, f56]) ⟨rfl, trivial, hJ.next (by decide)⟩
        · cases ho
          rw [if_pos (show Region.wanted _ y = true from rfl)]
          have f57 : ρ (.tmp 57) = .pointer (some ⟨gb, 7, none⟩) := hn 3 _ 57 rfl (by kernel_rfl) rfl
          have k0 : w2.cell? ⟨gb, 7, none⟩ = some (.int .i64 (pa : Nat)) := by
            by_cases h5 : S 5
            · rw [hJ.b h5]; exact kW1
            · rw [hJ.z h5]; exact kW0
          exact does_ok (v := .int .i64 (pa : Nat)) (w' := w2) (by simp [go_sem, hreg.const, f57, k0]) ⟨rfl, trivial, hJ.next (by decide)⟩
        · cases ho
          rw [if_pos (show Region.wanted _ y = true from rfl)]
          have f4 : ρ (.tmp 4) = .pointer (some ⟨g4, 0, none⟩) := hf 4 (by kernel_rfl)
          have f54 : ρ (.tmp 54) = .agg #[.slice none 0 0] := hn 0 _ 54 rfl (by kernel_rfl) rfl
          obtain rfl := (hJ.z hnS).symm
          exact does_skip (w' := W1) (by rw [hW1]; simp [go_sem, hreg.const, f4, f54, s0, fr0]) ⟨rfl, trivial, PeJ.st⟩
        · cases ho
          rw [if_pos (show Region.wanted _ y = true from rfl)]
          have f58 : ρ (.tmp 58) = .int .i64 (pa : Nat) := hn 4 _ 58 rfl (by kernel_rfl) rfl
          exact ⟨f58, trivial, hJ.next (by decide)⟩
        · cases ho
          rw [if_pos (show Region.wanted _ y = true from rfl)]
          exact does_ok (v := .int .i64 200) (w' := w2) (by simp [go_sem, hreg.const]) ⟨rfl, trivial, hJ.next (by decide)⟩
      case refine_3 =>
        intro a w2 S hJ hall hd hs hfacts hrest
        have q5 : a.tmps.getD 5 undef = .int .i64 (pa : Nat) := hfacts 6 _ 5 rfl rfl
        have q6 : a.tmps.getD 6 undef = .int .i64 200 := hfacts 7 _ 6 rfl rfl
        have ha := frame_of hd hs hrest [5, 6, 54, 55, 56, 57, 58] (by kernel_rfl)
        simp only [q5, q6, List.foldl, List.setIfInBounds_toArray, List.set_cons_succ, List.set_cons_zero] at ha
        clear q5 q6 hd hs hfacts hrest
        generalize a.tmps.getD = gg at ha
        subst ha
        obtain rfl := hJ.b (hall 5 (by decide))
        clear hJ hall s0 fr0 kW0 kW1 hW1
        go_wp2
        refine bodyPost_ret (v := .tuple #[.agg #[.slice none 0 0], .int .i64 (pa : Nat), .int .i64 200]) (by simp [results, Tryz.results9, go_sem, y0]) rfl HE.out
    | ok o' r =>
      obtain ⟨rfl, hr5⟩ := hm5
      have HRSX0 := Lib.hid (hr5.bel HB56.out)
      obtain ⟨P1, np1, cp1, i1, hbx1, hq1⟩ := HRSX0.out.box
      obtain ⟨k1, rfl, hq⟩ := hq1 rfl
      have y7 := hbx1.cell 7 _ rfl
      have y3 := hbx1.cell 3 _ rfl
      have y4 := hbx1.cell 4 _ rfl
      rw [HEG.out] at y7 y3 y4
      simp only [Bool.false_eq_true, if_false] at y7
      cases r with
      | nil =>
        have hk1 := hq.nil rfl
        subst hk1
        clear hr5 hbx1 hq hq1
        go_quiet (fail)
        obtain ⟨w7, hw7⟩ : ∃ w7, w7 = w6.drewN nq := ⟨_, rfl⟩
        have hb67 : Below w6.heap.size w6 w7 := by rw [hw7]; exact Below.drewN w6 _
        rw [← hw7]
        have HRSX := Lib.hid (HRSX0.out.bel hb67)
        have hbq7 := HBQ.out.below hb67
        obtain ⟨hE1, u0⟩ := parE_set (G := G) (Below.thn HBX.out hb67) HGE.out hbq7 (.slice Av no cv) o ((HO7.out.below hb67).mono (by have := HGS4.out; omega)) 0 0 (by rw [HGP4.out]; rfl)
        have HE := Lib.hid hE1
        have s0 := hbq7.cell 0 _ rfl
        have fr0 := hbq7.frozen 0
        have s9 := (HB9.out.below hb67).cell 0 _ rfl
        have y7 := HRSX.out.bad
        rw [HEG.out] at y7
        simp only [Bool.false_eq_true, if_false] at y7
        clear hE1 hw7 hb67 hbq7 y3 y4
        go_wp2
        refine bodyPost_ret (v := .tuple #[.agg #[.slice Av no cv], .int .i64 0, .int .i64 0]) (by simp [results, Tryz.results9, go_sem, u0]) rfl HE.out
      | cons p r =>
        obtain ⟨_, _, _, _, _, hkn, _⟩ := hq.cons (by simp)
        have hlt : (k1 : Int) < (np1 : Int) := by omega
        obtain ⟨pa, hpa⟩ : ∃ pa, pa = p.2.1 := ⟨_, rfl⟩
        have HGP5 : Hid (G = ([], pa, 200)) := Lib.hid (by rw [HGP4.out, hpa]; rfl)
        clear hr5 hbx1 hq hq1
        go_quiet (fail)
        obtain ⟨w7, hw7⟩ : ∃ w7, w7 = w6.drewN nq := ⟨_, rfl⟩
        have hb67 : Below w6.heap.size w6 w7 := by rw [hw7]; exact Below.drewN w6 _
        rw [← hw7]
        have CF := Lib.hid (qfault_any E w7 (p :: r) 0 0 (HRSX0.out.bel hb67))
        rw [HEG.out] at CF
        have HBX7 := Lib.hid (Below.thn HBX.out hb67)
        have HBQ7 := Lib.hid (HBQ.out.below hb67)
        clear hw7 hb67 y3 y4 y7
        go_wp2_with fail
        refine CF.out.mono ?_
        rintro e w8 ⟨rfl, hg8, hr8⟩
        have HRSX : Hid (QS E w8 (p :: r) 0 true pa) := Lib.hid (by rw [hpa]; exact hr8)
        have HBX := Lib.hid (HBX7.out.grown hg8 HBX7.out.size (fun k hk => by injection hk with hk; have := HWG.out; omega))
        have HBQ := Lib.hid (HBQ7.out.kept hg8 (fun e => by injection e with e; have := HGB.out; omega))
        have y7 := HRSX.out.bad
        rw [HEG.out] at y7
        simp only [if_true] at y7
        have hge : (pa : Int) ≥ 0 := by omega
        clear CF hg8 hr8 hpa
        go_wp2_with fail
        obtain ⟨W0, hW0⟩ : ∃ W0, W0 = w8.drew := ⟨_, rfl⟩
        have hbd0 : Below w8.heap.size w8 W0 := by rw [hW0]; exact Below.drew (Below.refl _ _)
        have hq0 := HBQ.out.below hbd0
        have hr0 := HRSX.out.bel hbd0
        obtain ⟨P0, np0, cp0, i0, hbx0, _⟩ := hr0.box
        have kW0 : W0.cell? ⟨gb, 7, none⟩ = some (.int .i64 (pa : Nat)) := by rw [← HEG.out]; exact hbx0.cell 7 _ rfl
        have s0 := hq0.cell 0 _ rfl
        have fr0 := hq0.frozen 0
        obtain ⟨W1, hW1⟩ : ∃ W1, W1 = W0.setCell ⟨g4, 0, none⟩ (.slice none 0 0) := ⟨_, rfl⟩
        have kW1 : W1.cell? ⟨gb, 7, none⟩ = some (.int .i64 (pa : Nat)) := by
          rw [← HEG.out, hW1]
          exact (hbx0.kept (BoxA.set_grown W0 g4 0 (.slice none 0 0)) (fun e => by injection e with e; have := HGB.out; rw [HEG.out] at e; omega)).cell 7 _ rfl
        obtain ⟨hE1, y0⟩ := parE_set (G := G) (Below.thn HBX.out hbd0) HGE.out hq0 (.slice none 0 0) [] (OwnO.nil _ _) pa 200 HGP5.out
        rw [← hW1] at hE1 y0
        have HE := Lib.hid hE1
        have HW0 := Lib.hid hW0
        clear hW0 hbd0 hq0 hr0 hbx0 hE1
        rename_i K2 hK2
        refine wp_region_flowJ (by kernel_rfl) (QeF g4 gb pa) (fun _ _ => True) (PeJ W0 W1) (QeF.keep g4 gb pa) ?_ (by kernel_rfl) (by kernel_rfl) ?_ ?_
        case refine_1 => exact ⟨fun _ => HW0.out.symm, fun h => h.elim⟩
        case refine_2 =>
          intro i o ho ρ y w2 S hJ hnS hneeds hcl hreg hn hf hyb hyn
          have hi := (Array.getElem?_eq_some_iff.1 ho).1
          rcases Nat.lt_or_ge i 8 with hi2 | hi2
          case inr => simp at hi; omega
          obtain rfl | rfl | rfl | rfl | rfl | rfl | rfl | rfl : i = 0 ∨ i = 1 ∨ i = 2 ∨ i = 3 ∨ i = 4 ∨ i = 5 ∨ i = 6 ∨ i = 7 := by omega
          · cases ho
            rw [if_pos (show Region.wanted _ y = true from rfl)]
            exact does_ok (v := .agg #[.slice none 0 0]) (w' := w2) (by simp [go_sem, hreg.const, hbq]) ⟨rfl, trivial, hJ.next (by decide)⟩
          · cases ho
            rw [if_pos (show Region.wanted _ y = true from rfl)]
            have f8 : ρ (.tmp 8) = .pointer (some ⟨gb, 0, none⟩) := hf 8 (by kernel_rfl)
            exact ⟨f8, trivial, hJ.next (by decide)⟩
          · cases ho
            rw [if_pos (show Region.wanted _ y = true from rfl)]
            have f55 : ρ (.tmp 55) = .pointer (some ⟨gb, 0, none⟩) := hn 1 _ 55 rfl (by kernel_rfl) rfl
            exact does_ok (v := .pointer (some ⟨gb, 0, none⟩)) (w' := w2) (by simp [go_sem, hreg.const, f55]) ⟨rfl, trivial, hJ.next (by decide)⟩
          · cases ho
            rw [if_pos (show Region.wanted _ y = true from rfl)]
            have f56 : ρ (.tmp 56) = .pointer (some ⟨gb, 0, none⟩) := hn 2 _ 56 rfl (by kernel_rfl) rfl
            exact does_ok (v := .pointer (some ⟨gb, 7, none⟩)) (w' := w2) (by simp [go_sem, hreg.const, f56]) ⟨rfl, trivial, hJ.next (by decide)⟩
          · cases ho
            rw [if_pos (show Region.wanted _ y = true from rfl)]
            have f57 : ρ (.tmp 57) = .pointer (some ⟨gb, 7, none⟩) := hn 3 _ 57 rfl (by kernel_rfl) rfl
            have k0 : w2.cell? ⟨gb, 7, none⟩ = some (.int .i64 (pa : Nat)) := by
              by_cases h5 : S 5
              · rw [hJ.b h5]; exact kW1
              · rw [hJ.z h5]; exact kW0
            exact does_ok (v := .int .i64 (pa : Nat)) (w' := w2) (by simp [go_sem, hreg.const, f57, k0]) ⟨rfl, trivial, hJ.next (by decide)⟩
          · cases ho
            rw [if_pos (show Region.wanted _ y = true from rfl)]
            have f4 : ρ (.tmp 4) = .pointer (some ⟨g4, 0, none⟩) := hf 4 (by kernel_rfl)
            have f54 : ρ (.tmp 54) = .agg #[.slice none 0 0] := hn 0 _ 54 rfl (by kernel_rfl) rfl
            obtain rfl := (hJ.z hnS).symm
            exact does_skip (w' := W1) (by rw [hW1]; simp [go_sem, hreg.const, f4, f54, s0, fr0]) ⟨rfl, trivial, PeJ.st⟩
          · cases ho
            rw [if_pos (show Region.wanted _ y = true from rfl)]
            have f58 : ρ (.tmp 58) = .int .i64 (pa : Nat) := hn 4 _ 58 rfl (by kernel_rfl) rfl
            exact ⟨f58, trivial, hJ.next (by decide)⟩
          · cases ho
            rw [if_pos (show Region.wanted _ y = true from rfl)]
            exact does_ok (v := .int .i64 200) (w' := w2) (by simp [go_sem, hreg.const]) ⟨rfl, trivial, hJ.next (by decide)⟩
        case refine_3 =>
          intro a w2 S hJ hall hd hs hfacts hrest
          have q5 : a.tmps.getD 5 undef = .int .i64 (pa : Nat) := hfacts 6 _ 5 rfl rfl
          have q6 : a.tmps.getD 6 undef = .int .i64 200 := hfacts 7 _ 6 rfl rfl
          have ha := frame_of hd hs hrest [5, 6, 54, 55, 56, 57, 58] (by kernel_rfl)
          simp only [q5, q6, List.foldl, List.setIfInBounds_toArray, List.set_cons_succ, List.set_cons_zero] at ha
          clear q5 q6 hd hs hfacts hrest
          generalize a.tmps.getD = gg at ha
          subst ha
          obtain rfl := hJ.b (hall 5 (by decide))
          clear hJ hall s0 fr0 kW0 kW1 hW1
          go_wp2
          refine bodyPost_ret (v := .tuple #[.agg #[.slice none 0 0], .int .i64 (pa : Nat), .int .i64 200]) (by simp [results, Tryz.results9, go_sem, y0]) rfl HE.out
end Go.Proofs.YtkkeodlnejckjaaGreat
