/- Which tables may be, and what a rune is folded to: the document's. -/
import Derived.Test.YtkkeodlnejckjaaGreatTwiceMath
import Derived.Test.YtkkeodlnejckjaaGreatForm
import Derived.Test.YtkkeodlnejckjaaGreatOpenF
import Derived.IntWalk
namespace Go.Proofs.YtkkeodlnejckjaaGreat
open Go.RowKit
set_option linter.unusedVariables false
set_option linter.unusedSimpArgs false

def idxV (l : List Fo) (r : Int) (v : Int) : Prop := (v = -1 ∧ fnd l r = none) ∨ ∃ (i : Nat) (h : i < l.length), v = i ∧ fnd l r = some l[i]
def allGd (l : List Fo) : Prop := ∀ (i : Nat) (h : i < l.length), gd l[i]
theorem hit_no {x : Fo} {r : Int} (hg : gd x) (h1 : -2147483648 ≤ r) (h2 : r ≤ 2147483647) (h : ¬ (x.1 ≤ r ∧ r - x.1 < x.2.2)) : hit r x = false := by
  rw [Bool.eq_false_iff]
  exact fun e => h ((hit_iff hg h1 h2).1 e)
set_option maxRecDepth 100000 in
set_option maxHeartbeats 1000000 in
theorem refFolds_any (A : Option Addr) (n c : Nat) (l : List Fo) (r : Int) (w : World) (hl : RdT w A n l) (hg : allGd l) (h1 : -2147483648 ≤ r) (h2 : r ≤ 2147483647) :
    Calls Tryz.prog 79 #[.slice A n c, .int .i32 r] w fun e w' => ∃ v, e = .returned (.int .i64 v) ∧ idxV l r v ∧ Below w.heap.size w w' := by
  have HL := Lib.hid hl
  have HG := Lib.hid hg
  have hn := hl.max
  have H12 := Lib.hid (And.intro h1 h2)
  have wr0 : IntKind.i64.wrap r = r := IntWalk.i64_in _ (by omega)
  clear hl hg h1 h2
  go_enter Tryz.func79, Tryz.ntmps79
  go_wp2_with fail
  go_loopw [5] (fun x wr => ∃ k : Nat, k ≤ n ∧ x = .int .i64 k ∧ Hid ((∀ j (hj : j < l.length), j < k → hit r l[j] = false) ∧ Below w.heap.size w wr)) (fun x _ => n - (intOf x).toNat)
  case atStart => exact ⟨0, by omega, rfl, Lib.hid ⟨fun j hj h => absurd h (Nat.not_lt_zero _), Below.refl _ _⟩⟩
  case round =>
    obtain ⟨k, hk, rfl, HI⟩ := hrel
    by_cases hlt : (k : Int) < (n : Int)
    · obtain ⟨ad, rfl, p, q, m, HP, e0, e1, e2⟩ := (HL.out.below HI.out.2).at (k := k) (by omega)
      have HGp : Hid (gd (p, q, m)) := Lib.hid (by obtain ⟨ha, hb⟩ := HP.out; rw [← hb]; exact HG.out k ha)
      obtain ⟨r1, r2, _, _⟩ := gd_rng HGp.out
      simp only at r1 r2
      have r3 := H12.out
      have wp0 : IntKind.i64.wrap p = p := IntWalk.i64_in _ (by omega)
      have ws0 : IntKind.i64.wrap (r - p) = r - p := IntWalk.i64_in _ (by omega)
      clear r3
      by_cases g : p ≤ r
      · have g1 : decide (p ≤ r) = true := decide_eq_true g
        by_cases g' : r - p < m
        · have HIT : Hid (hit r (p, q, m) = true) := Lib.hid ((hit_iff HGp.out H12.out.1 H12.out.2).2 ⟨g, g'⟩)
          have g2 : decide (r - p < m) = true := decide_eq_true g'
          go_upto_region 4 with fail
          go_quiet (fail)
          clear g1 g2 wp0 ws0 e0 e1 e2
          go_wp2
          go_ret
          obtain ⟨hlk, hx⟩ := HP.out
          exact ⟨_, rfl, .inr ⟨k, hlk, rfl, fnd_some hlk HI.out.1 (by rw [hx]; exact HIT.out)⟩, below_drewN HI.out.2 nq⟩
        · have HIT : Hid (hit r (p, q, m) = false) := Lib.hid (hit_no HGp.out H12.out.1 H12.out.2 (fun h => g' h.2))
          have g2 : decide (r - p < m) = false := decide_eq_false g'
          go_upto_region 4 with fail
          go_quiet (fail)
          clear g1 g2 wp0 ws0 e0 e1 e2
          go_wp2
          refine ⟨⟨k + 1, by omega, by go_num, Lib.hid ⟨fun j hj hjk => ?_, below_drewN HI.out.2 nq⟩⟩, by simp [intOf]; omega⟩
          rcases Nat.lt_succ_iff_lt_or_eq.1 hjk with h | rfl
          · exact HI.out.1 j hj h
          · obtain ⟨_, hx⟩ := HP.out
            rw [hx]; exact HIT.out
      · have HIT : Hid (hit r (p, q, m) = false) := Lib.hid (hit_no HGp.out H12.out.1 H12.out.2 (fun h => g h.1))
        have g1 : decide (p ≤ r) = false := decide_eq_false g
        go_upto_region 4 with fail
        go_quiet (fail)
        clear g1 wp0 ws0 e0 e1 e2
        go_wp2
        refine ⟨⟨k + 1, by omega, by go_num, Lib.hid ⟨fun j hj hjk => ?_, below_drewN HI.out.2 nq⟩⟩, by simp [intOf]; omega⟩
        rcases Nat.lt_succ_iff_lt_or_eq.1 hjk with h | rfl
        · exact HI.out.1 j hj h
        · obtain ⟨_, hx⟩ := HP.out
          rw [hx]; exact HIT.out
    · have hkn : k = n := by omega
      subst hkn
      go_wp2
      go_ret
      exact ⟨_, rfl, .inl ⟨rfl, fnd_none fun j hj => HI.out.1 j hj (by have := HL.out.len; omega)⟩, HI.out.2⟩

def lastOf (l : List Fo) (i : Nat) : Int := if i = 0 then -1 else (l.getD (i - 1) (0, 0, 0)).1 + (l.getD (i - 1) (0, 0, 0)).2.2 - 1
theorem lastOf_step {l : List Fo} {i : Nat} {p q m : Int} (h : ∃ hl : i < l.length, l[i] = (p, q, m)) : lastOf l (i + 1) = p + m - 1 := by
  unfold lastOf
  rw [if_neg (by omega), Nat.add_sub_cancel, getD_of h]
theorem gd_of {p q m : Int} (h1 : 1 ≤ m) (h2 : m ≤ 256) (h : ∀ k : Nat, (k : Int) < m → letB (p + k) = true ∧ letB (q + k) = true) : gd (p, q, m) := by
  have h0 := h 0 (by omega)
  simp at h0
  exact ⟨h1, h2, fun k hk => ⟨h0.1, h0.2, (h k hk).1, (h k hk).2⟩⟩
theorem asc_last {l : List Fo} {i : Nat} {p q m : Int} (hx : ∃ hl : i < l.length, l[i] = (p, q, m)) (h : lastOf l i < p) : asc l i := by
  intro h0
  unfold lastOf at h
  rw [if_neg (by omega)] at h
  rw [getD_of hx]
  exact h
/-- A table that may be not: its element i stands not above the one ahead of it. -/
theorem no_last {l : List Fo} {i : Nat} {p q m : Int} (hx : ∃ hl : i < l.length, l[i] = (p, q, m)) (h : p ≤ lastOf l i) : ¬ okTb l := by
  by_cases h0 : i = 0
  · subst h0
    refine no_gd hx fun hg => ?_
    have := gd_rng hg
    simp [lastOf] at h this
    omega
  · refine no_asc (k := i) hx.1 fun ha => ?_
    have := ha (by omega)
    rw [getD_of hx] at this
    unfold lastOf at h
    rw [if_neg h0] at h
    simp only at this
    omega
/-- What the document's Check answers. -/
def ChkE (l : List Fo) (w : World) (e : Ending) (w' : World) : Prop := e = .returned (.int .i64 (chkE l)) ∧ Below w.heap.size w w'
theorem chkE_no {l : List Fo} {w w' : World} (h : ¬ okTb l) (hb : Below w.heap.size w w') : ChkE l w (.returned (.int .i64 130)) w' := ⟨by rw [chk_no h], hb⟩
theorem chkE_yes {l : List Fo} {w w' : World} (h : okTb l) (hb : Below w.heap.size w w') : ChkE l w (.returned (.int .i64 0)) w' := ⟨by rw [chk_yes h], hb⟩
set_option maxRecDepth 100000 in
set_option maxHeartbeats 4000000 in
theorem refCheck_any (A : Option Addr) (n c : Nat) (l : List Fo) (w : World) (hl : RdT w A n l) (hwf : wfT l) :
    Calls Tryz.prog 56 #[.slice A n c] w (ChkE l w) := by
  have HL := Lib.hid hl
  have hn := hl.max
  have HW := Lib.hid hwf
  clear hl hwf
  by_cases h8 : (8 : Int) < (n : Int)
  · have H8 := Lib.hid h8
    go_enter Tryz.func56, Tryz.ntmps56
    go_wp2
    go_ret
    exact chkE_no (fun h => by have := h.1; have := HL.out.len; have := H8.out; omega) (Below.refl _ _)
  have H8 := Lib.hid h8
  go_enter Tryz.func56, Tryz.ntmps56
  go_wp2_with fail
  go_loopw [3, 4] (fun x3 x wr => ∃ k : Nat, k ≤ n ∧ x = .int .i64 k ∧ ∃ z : Int, x3 = .int .i64 z ∧ Hid (z = lastOf l k ∧ (∀ j (hj : j < l.length), j < k → gd l[j] ∧ asc l j) ∧ Below w.heap.size w wr)) (fun _ x _ => n - (intOf x).toNat)
  case atStart => exact ⟨0, by omega, rfl, -1, rfl, Lib.hid ⟨rfl, fun j hj h => absurd h (Nat.not_lt_zero _), Below.refl _ _⟩⟩
  case round =>
    obtain ⟨k, hk, rfl, z, rfl, HI⟩ := hrel
    by_cases hlt : (k : Int) < (n : Int)
    · obtain ⟨ad, rfl, p, q, m, HP, e0, e1, e2⟩ := (HL.out.below HI.out.2.2).at (k := k) (by omega)
      obtain ⟨⟨v1, v2⟩, ⟨v3, v4⟩, _⟩ : (-2147483648 ≤ p ∧ p ≤ 2147483647) ∧ (-2147483648 ≤ q ∧ q ≤ 2147483647) ∧ True := by
        obtain ⟨ha, hb⟩ := HP.out
        have := HW.out _ (List.getElem_mem ha)
        rw [hb] at this
        exact ⟨this.1, this.2.1, trivial⟩
      by_cases g0 : m < 1
      · have g := g0
        have HN : Hid (¬ okTb l) := Lib.hid (no_gd HP.out fun h => by have := h.1; simp at this; omega)
        clear g
        go_wp2
        go_ret
        exact chkE_no HN.out HI.out.2.2
      by_cases g1 : 256 < m
      · have g := g1
        have HN : Hid (¬ okTb l) := Lib.hid (no_gd HP.out fun h => by have := h.2.1; simp at this; omega)
        clear g
        go_wp2
        go_ret
        exact chkE_no HN.out HI.out.2.2
      by_cases g2 : p ≤ z
      · have g := g2
        have HN : Hid (¬ okTb l) := Lib.hid (no_last HP.out (by rw [← HI.out.1]; exact g))
        clear g
        go_wp2
        go_ret
        exact chkE_no HN.out HI.out.2.2
      by_cases g3 : p < 0
      · have g := g3
        have HN : Hid (¬ okTb l) := Lib.hid (no_gd HP.out fun h => by have := gd_rng h; simp at this; omega)
        clear g
        go_wp2
        go_ret
        exact chkE_no HN.out HI.out.2.2
      by_cases g4 : 1279 < p
      · have g := g4
        have HN : Hid (¬ okTb l) := Lib.hid (no_gd HP.out fun h => by have := gd_rng h; simp at this; omega)
        clear g
        go_wp2
        go_ret
        exact chkE_no HN.out HI.out.2.2
      by_cases g5 : q < 0
      · have g := g5
        have HN : Hid (¬ okTb l) := Lib.hid (no_gd HP.out fun h => by have := gd_rng h; simp at this; omega)
        clear g
        go_wp2
        go_ret
        exact chkE_no HN.out HI.out.2.2
      by_cases g6 : 1279 < q
      · have g := g6
        have HN : Hid (¬ okTb l) := Lib.hid (no_gd HP.out fun h => by have := gd_rng h; simp at this; omega)
        clear g
        go_wp2
        go_ret
        exact chkE_no HN.out HI.out.2.2
      have HCl := Lib.hid (And.intro e0 (And.intro e1 e2))
      have HAs : Hid (asc l k) := Lib.hid (asc_last HP.out (by rw [← HI.out.1]; omega))
      go_wp2_with fail
      clear e0 e1 e2
      obtain ⟨wB, hwB⟩ : ∃ wB, wB = wr := ⟨_, rfl⟩
      rw [← hwB] at HCl HI ⊢
      clear hwB
      go_loopw [5] (fun x wy => ∃ j : Nat, (j : Int) ≤ m ∧ x = .int .i64 j ∧ wB = wy ∧ Hid (∀ i : Nat, i < j → letB (p + i) = true ∧ letB (q + i) = true)) (fun x _ => (m - intOf x).toNat)
      case atStart => exact ⟨0, by omega, rfl, rfl, Lib.hid fun i h => absurd h (Nat.not_lt_zero _)⟩
      case round =>
        obtain ⟨j, hj, rfl, rfl, HJ⟩ := hrel
        obtain ⟨e0, e1, e2⟩ := HCl.out
        by_cases hjm : (j : Int) < m
        · cases g7 : letB (p + (j : Int))
          case false =>
            have HN : Hid (¬ okTb l) := Lib.hid (no_ltr HP.out j hjm fun h => by have := h.2.2.1; rw [g7] at this; cases this)
            go_wp2_with fail
            refine (refLetter_any (p + (j : Int)) _).mono ?_
            rintro e w1 ⟨rfl, rfl⟩
            rw [g7]
            go_wp2
            go_ret
            exact chkE_no HN.out HI.out.2.2
          cases g8 : letB (q + (j : Int))
          case false =>
            have HN : Hid (¬ okTb l) := Lib.hid (no_ltr HP.out j hjm fun h => by have := h.2.2.2; rw [g8] at this; cases this)
            go_wp2_with fail
            refine (refLetter_any (p + (j : Int)) _).mono ?_
            rintro e w1 ⟨rfl, rfl⟩
            rw [g7]
            go_wp2_with fail
            refine (refLetter_any (q + (j : Int)) _).mono ?_
            rintro e w1 ⟨rfl, rfl⟩
            rw [g8]
            go_wp2
            go_ret
            exact chkE_no HN.out HI.out.2.2
          have HJ2 : Hid (∀ i : Nat, i < j + 1 → letB (p + i) = true ∧ letB (q + i) = true) := Lib.hid fun i hi => by
            rcases Nat.lt_succ_iff_lt_or_eq.1 hi with h | rfl
            · exact HJ.out i h
            · exact ⟨g7, g8⟩
          go_wp2_with fail
          refine (refLetter_any (p + (j : Int)) _).mono ?_
          rintro e w1 ⟨rfl, rfl⟩
          rw [g7]
          go_wp2_with fail
          refine (refLetter_any (q + (j : Int)) _).mono ?_
          rintro e w1 ⟨rfl, rfl⟩
          rw [g8]
          go_wp2
          refine ⟨⟨j + 1, by omega, by go_num, trivial, HJ2⟩, by simp [intOf]; omega⟩
        · have HGd : Hid (gd (p, q, m)) := Lib.hid (gd_of (by omega) (by omega) fun i hi => HJ.out i (by omega))
          have HLs : Hid (lastOf l (k + 1) = p + m - 1) := Lib.hid (lastOf_step HP.out)
          have wp0 : IntKind.i64.wrap p = p := IntWalk.i64_in _ (by omega)
          have wp1 : IntKind.i64.wrap (p + m) = p + m := IntWalk.i64_in _ (by omega)
          have wp2 : IntKind.i64.wrap (p + m - 1) = p + m - 1 := IntWalk.i64_in _ (by omega)
          go_upto_region 14 with fail
          go_quiet (fail)
          clear wp0 wp1 wp2 e0 e1 e2
          go_wp2
          refine ⟨⟨k + 1, by omega, by go_num, _, rfl, Lib.hid ⟨HLs.out.symm, fun i hi h => ?_, below_drewN HI.out.2.2 nq⟩⟩, by simp [intOf]; omega⟩
          rcases Nat.lt_succ_iff_lt_or_eq.1 h with h | rfl
          · exact HI.out.2.1 i hi h
          · obtain ⟨_, hx⟩ := HP.out
            exact ⟨by rw [hx]; exact HGd.out, HAs.out⟩
    · have hkn : k = n := by omega
      have H1 : Hid (chk1 l) := Lib.hid fun i hi => HI.out.2.1 i hi (by have := HL.out.len; omega)
      have HB1 := Lib.hid HI.out.2.2
      subst hkn
      clear HI
      go_wp2_with fail
      go_loopw [6] (fun x wx => ∃ i : Nat, i ≤ k ∧ x = .int .i64 i ∧ Hid ((∀ (j : Nat) (hj : j < l.length), j < i → ∀ y : Nat, (y : Int) < l[j].2.2 → fnd l (l[j].2.1 + (y : Int)) = none) ∧ Below w.heap.size w wx)) (fun x _ => k - (intOf x).toNat)
      case atStart => exact ⟨0, by omega, rfl, Lib.hid ⟨fun j hj h => absurd h (Nat.not_lt_zero _), HB1.out⟩⟩
      case round =>
        obtain ⟨i, hi, rfl, HI⟩ := hrel
        by_cases hlt : (i : Int) < (k : Int)
        · obtain ⟨ad, rfl, p, q, m, HP, e0, e1, e2⟩ := (HL.out.below HI.out.2).at (k := i) (by omega)
          have HGd : Hid (gd (p, q, m)) := Lib.hid <| by
            obtain ⟨h1, h2⟩ := HP.out
            have := (H1.out i h1).1
            rwa [h2] at this
          have HAll : Hid (allGd l) := Lib.hid fun j hj => (H1.out j hj).1
          obtain ⟨_, _, r1, r2⟩ := gd_rng HGd.out
          have r3 := HGd.out.1
          have r4 := HGd.out.2.1
          simp only at r1 r2 r3 r4
          have HCl := Lib.hid (And.intro e1 e2)
          clear e0 e1 e2
          go_wp2_with fail
          obtain ⟨wB, hwB⟩ : ∃ wB, wB = wr := ⟨_, rfl⟩
          rw [← hwB] at HCl HI ⊢
          clear hwB
          go_loopw [7] (fun x wy => ∃ j : Nat, (j : Int) ≤ m ∧ x = .int .i64 j ∧ Hid ((∀ y : Nat, y < j → fnd l (q + (y : Int)) = none) ∧ Below wB.heap.size wB wy)) (fun x _ => (m - intOf x).toNat)
          case atStart => exact ⟨0, by omega, rfl, Lib.hid ⟨fun i h => absurd h (Nat.not_lt_zero _), Below.refl _ _⟩⟩
          case round =>
            obtain ⟨j, hj, rfl, HJ⟩ := hrel
            have HBy := Lib.hid (HI.out.2.trans (HJ.out.2.mono HI.out.2.size))
            have e1 := cell_keep HJ.out.2 HCl.out.1
            have e2 := cell_keep HJ.out.2 HCl.out.2
            by_cases hjm : (j : Int) < m
            · have C := Lib.hid (refFolds_any (some ad) k c l (q + (j : Int)) _ (HL.out.below HBy.out) HAll.out (by omega) (by omega))
              go_wp2_with fail
              refine C.out.mono ?_
              rintro e w1 ⟨V, rfl, hf, hb⟩
              have HB2 := Lib.hid (And.intro (Below.thn HBy.out hb) (Below.thn HJ.out.2 hb))
              clear hb e1 e2
              rcases hf with ⟨rfl, h0⟩ | ⟨i', hi', rfl, h0⟩
              · have HJ2 : Hid (∀ y : Nat, y < j + 1 → fnd l (q + (y : Int)) = none) := Lib.hid fun y hy => by
                  rcases Nat.lt_succ_iff_lt_or_eq.1 hy with h | rfl
                  · exact HJ.out.1 y h
                  · exact h0
                clear h0
                go_wp2
                refine ⟨⟨j + 1, by omega, by go_num, Lib.hid ⟨HJ2.out, HB2.out.2⟩⟩, by simp [intOf]; omega⟩
              · have HN : Hid (¬ okTb l) := Lib.hid (no_fnd HP.out j hjm (by rw [h0]; exact Option.some_ne_none _))
                clear h0
                have g0 : (0 : Int) ≤ (i' : Int) := by omega
                go_wp2
                go_ret
                exact chkE_no HN.out HB2.out.1
            · have HF : Hid (∀ (j : Nat) (hj : j < l.length), j < i + 1 → ∀ y : Nat, (y : Int) < l[j].2.2 → fnd l (l[j].2.1 + (y : Int)) = none) := Lib.hid fun j' hj' hji y hy => by
                rcases Nat.lt_succ_iff_lt_or_eq.1 hji with h | rfl
                · exact HI.out.1 j' hj' h y hy
                · obtain ⟨_, hx⟩ := HP.out
                  rw [hx] at hy ⊢
                  exact HJ.out.1 y (by simp at hy; omega)
              go_wp2
              refine ⟨⟨i + 1, by omega, by go_num, Lib.hid ⟨HF.out, HBy.out⟩⟩, by simp [intOf]; omega⟩
        · have HOk : Hid (okTb l) := Lib.hid ⟨by have := HL.out.len; have := H8.out; omega, H1.out, fun j hj => HI.out.1 j hj (by have := HL.out.len; omega)⟩
          go_wp2
          go_ret
          exact chkE_yes HOk.out HI.out.2
end Go.Proofs.YtkkeodlnejckjaaGreat
