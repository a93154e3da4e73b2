/- A text is taken. -/
import Derived.Test.YtljnfciolalbdaaTake
namespace Go.Proofs.Ytljnfciolalbdaa
open Go.RowKit
set_option linter.unusedVariables false
set_option linter.unusedSimpArgs false

/-- A text is taken: its bytes, what is left, the error. -/
def txtL (most : Int) (l : List Nat) (e : Int) : List Nat × List Nat × Int :=
  if e = 0 then (if most < 0 then ([], l, 1) else if l.length = 0 then ([], l, 10) else if most < (l.getD 0 0 : Nat) then ([], l, 3) else if l.length ≤ l.getD 0 0 then ([], l, 10) else ((l.take (1 + l.getD 0 0)).drop 1, l.drop (1 + l.getD 0 0), 0)) else ([], l, e)

set_option maxRecDepth 100000 in
set_option maxHeartbeats 2000000 in
theorem RText_any {w : World} {g : Nat} {l : List Nat} {e : Int} {lo hi : Nat} (k : Int) (hk : k ≤ 9223372036854775807) (h : Rdr w g l e lo hi) :
    Calls Try.prog 42 #[.pointer (some ⟨g, 0, none⟩), .int .i64 k] w fun e' w' => ∃ r, e' = .returned r ∧ BSin w' r (txtL k l e).1 lo hi ∧ Rdr w' g (txtL k l e).2.1 (txtL k l e).2.2 lo hi ∧ w.grownBy w' (some g) := by
  have C0 := Lib.hid (none_any h)
  have HH := Lib.hid h
  by_cases h0 : e = 0
  · subst h0
    rw [show decide ((0 : Int) ≠ 0) = false by decide] at C0
    obtain ⟨A, n, c, k0, hnc, hc, k3, k4⟩ := h.b
    have hlen := k3.len
    have hn := k3.max
    have HR := Lib.hid k3
    have HJ : Hid (∀ j, Rdr (w.drewN j) g l 0 lo hi ∧ w.grownBy (w.drewN j) (some g)) := Lib.hid (fun j => ⟨h.below (Below.drewN w j), grown_below (Below.drewN w j) _⟩)
    clear h k3 k4
    by_cases hk0 : k < 0
    · skip
      have HV : Hid (txtL k l 0 = ([], l, 1)) := Lib.hid (by unfold txtL; rw [if_pos rfl, if_pos hk0])
      have HCF : Hid (∀ j, Calls Try.prog 51 #[.pointer (some ⟨g, 0, none⟩), .int .i64 1] (w.drewN j) fun e' w' => e' = .returned (.tuple #[]) ∧ w' = (w.drewN j).setCell ⟨g, 1, none⟩ (.int .i64 1)) := Lib.hid (fun j => fails_any (HJ.out j).1 1)
      have HF := Lib.hid (fun j => (HJ.out j).1.fail 1)
      clear hlen
      go_enter Try.func42, Try.ntmps42
      go_wp2_with fail
      refine C0.out.mono ?_
      rintro e w1 ⟨rfl, rfl⟩
      go_wp2_with fail
      refine (HCF.out 0).mono ?_
      rintro e w2 ⟨rfl, rfl⟩
      go_wp2
      go_ret
      rw [HV.out]
      exact ⟨_, rfl, BSin.nil _ _ _, (HF.out 0).1, (HJ.out 0).2.trans (HF.out 0).2⟩
    · skip
      have r0 := Lib.hid hk0
      by_cases hn0 : n = 0
      · skip
        have b1 : ((n : Int) == 0) = true := by simp [hn0]
        have HV : Hid (txtL k l 0 = ([], l, 10)) := Lib.hid (by unfold txtL; rw [if_pos rfl, if_neg hk0, if_pos (by omega)])
        have HCF : Hid (∀ j, Calls Try.prog 51 #[.pointer (some ⟨g, 0, none⟩), .int .i64 10] (w.drewN j) fun e' w' => e' = .returned (.tuple #[]) ∧ w' = (w.drewN j).setCell ⟨g, 1, none⟩ (.int .i64 10)) := Lib.hid (fun j => fails_any (HJ.out j).1 10)
        have HF := Lib.hid (fun j => (HJ.out j).1.fail 10)
        clear hlen hn0
        go_enter Try.func42, Try.ntmps42
        go_wp2_with fail
        refine C0.out.mono ?_
        rintro e w1 ⟨rfl, rfl⟩
        go_wp2_with fail
        refine (HCF.out 0).mono ?_
        rintro e w2 ⟨rfl, rfl⟩
        go_wp2
        go_ret
        rw [HV.out]
        exact ⟨_, rfl, BSin.nil _ _ _, (HF.out 0).1, (HJ.out 0).2.trans (HF.out 0).2⟩
      · skip
        have b1 : ((n : Int) == 0) = false := by simp; omega
        obtain ⟨ad, x, rfl, HX, hxb, hcell⟩ := HR.out.at (k := 0) (by omega)
        have hcell0 : w.cell? ad = some (.int .u8 (x : Int)) := by simpa [Addr.add] using hcell
        have q0 : 0 < n := by omega
        have q00 : (0 : Int) < (n : Int) := by omega
        clear hcell
        have HL0 := Lib.hid (show l.length ≠ 0 by omega)
        by_cases hxm : k < (x : Int)
        · skip
          have HV : Hid (txtL k l 0 = ([], l, 3)) := Lib.hid (by unfold txtL; rw [if_pos rfl, if_neg r0.out, if_neg HL0.out, if_pos (by rw [← HX.out]; exact hxm)])
          have HCF : Hid (∀ j, Calls Try.prog 51 #[.pointer (some ⟨g, 0, none⟩), .int .i64 3] (w.drewN j) fun e' w' => e' = .returned (.tuple #[]) ∧ w' = (w.drewN j).setCell ⟨g, 1, none⟩ (.int .i64 3)) := Lib.hid (fun j => fails_any (HJ.out j).1 3)
          have HF := Lib.hid (fun j => (HJ.out j).1.fail 3)
          clear hlen hn0
          go_enter Try.func42, Try.ntmps42
          go_wp2_with fail
          refine C0.out.mono ?_
          rintro e w1 ⟨rfl, rfl⟩
          go_wp2_with fail
          refine (HCF.out 0).mono ?_
          rintro e w2 ⟨rfl, rfl⟩
          go_wp2
          go_ret
          rw [HV.out]
          exact ⟨_, rfl, BSin.nil _ _ _, (HF.out 0).1, (HJ.out 0).2.trans (HF.out 0).2⟩
        · skip
          have r1 := Lib.hid hxm
          by_cases hxn : n ≤ x
          · skip
            have q2 : (n : Int) ≤ (x : Int) := by omega
            have b2 : decide ((n : Int) ≤ (x : Int)) = true := decide_eq_true q2
            have HV : Hid (txtL k l 0 = ([], l, 10)) := Lib.hid (by unfold txtL; rw [if_pos rfl, if_neg r0.out, if_neg HL0.out, if_neg (by rw [← HX.out]; exact r1.out), if_pos (by rw [← HX.out]; omega)])
            have HCF : Hid (∀ j, Calls Try.prog 51 #[.pointer (some ⟨g, 0, none⟩), .int .i64 10] (w.drewN j) fun e' w' => e' = .returned (.tuple #[]) ∧ w' = (w.drewN j).setCell ⟨g, 1, none⟩ (.int .i64 10)) := Lib.hid (fun j => fails_any (HJ.out j).1 10)
            have HF := Lib.hid (fun j => (HJ.out j).1.fail 10)
            clear hlen hn0 hxn
            go_enter Try.func42, Try.ntmps42
            go_wp2_with fail
            refine C0.out.mono ?_
            rintro e w1 ⟨rfl, rfl⟩
            go_upto_region 10 with fail
            go_quiet (fail)
            go_wp2_with fail
            refine (HCF.out nq).mono ?_
            rintro e w2 ⟨rfl, rfl⟩
            go_wp2
            go_ret
            rw [HV.out]
            exact ⟨_, rfl, BSin.nil _ _ _, (HF.out nq).1, (HJ.out nq).2.trans (HF.out nq).2⟩
          · skip
            have q2 : ¬ (n : Int) ≤ (x : Int) := by omega
            have b2 : decide ((n : Int) ≤ (x : Int)) = false := decide_eq_false q2
            obtain ⟨m, hm⟩ : ∃ m, m = 1 + x := ⟨_, rfl⟩
            have HV : Hid (txtL k l 0 = ((l.take m).drop 1, l.drop m, 0)) := Lib.hid (by unfold txtL; rw [if_pos rfl, if_neg r0.out, if_neg HL0.out, if_neg (by rw [← HX.out]; exact r1.out), if_neg (by rw [← HX.out]; omega), ← HX.out, hm])
            have HC := Lib.hid (fun j => next_any m (by omega) (HJ.out j).1)
            rw [rawL_ok (k := m) (l := l) (by omega)] at HC
            have e1 : (1 : Int) + (x : Int) = (m : Int) := by omega
            have HM : Hid ((l.take m).length = m) := Lib.hid (by rw [List.length_take]; omega)
            have hm1 : 1 ≤ m := by omega
            clear hlen hn0 hxn hm
            go_enter Try.func42, Try.ntmps42
            go_wp2_with fail
            refine C0.out.mono ?_
            rintro e w1 ⟨rfl, rfl⟩
            go_upto_region 10 with fail
            go_quiet (fail)
            go_wp2_with fail
            refine (HC.out _).mono ?_
            rintro e w2 ⟨r, rfl, hbs, hrd, hgr⟩
            obtain ⟨A', n', c', rfl, hnc', hc', hrb, hin⟩ := hbs
            have hn' : n' = m := by rw [← hrb.len]; exact HM.out
            subst hn'
            have hcu : Hid (BSin w2 (.slice (cutAt A' c' 1) (n' - 1) (c' - 1)) ((l.take n').drop 1) lo hi) := Lib.hid ⟨_, _, _, rfl, by omega, by omega, hrb.cut (c := c') hm1 hnc', cutAt_in hin⟩
            have HX2 := Lib.hid (And.intro hrd ((HJ.out _).2.trans hgr))
            clear hrb hrd hgr
            go_wp2
            all_goals
              go_ret
              rw [HV.out]
              have hc2 := hcu.out
              unfold cutAt at hc2
              first
                | (have hcase : ¬ c' = 1 := by assumption
                   rw [if_neg hcase] at hc2
                   exact ⟨_, rfl, hc2, HX2.out⟩)
                | (have hcase : c' = 1 := by assumption
                   rw [if_pos hcase, show c' - 1 = 0 from by omega] at hc2
                   exact ⟨_, rfl, hc2, HX2.out⟩)
  · have HV := Lib.hid (show txtL k l e = ([], l, e) from if_neg h0)
    rw [decide_eq_true h0] at C0
    clear h h0
    go_enter Try.func42, Try.ntmps42
    go_wp2_with fail
    refine C0.out.mono ?_
    rintro e w1 ⟨rfl, rfl⟩
    go_wp2
    go_ret
    rw [HV.out]
    exact ⟨_, rfl, BSin.nil _ _ _, HH.out, World.grownBy.refl w _⟩
end Go.Proofs.Ytljnfciolalbdaa
