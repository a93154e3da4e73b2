/- The document's reader: a text. -/
import Derived.Test.YtljnfciolalbdaaRefVar
namespace Go.Proofs.Ytljnfciolalbdaa
open Go.RowKit
set_option linter.unusedVariables false
set_option linter.unusedSimpArgs false

set_option maxRecDepth 100000 in
set_option maxHeartbeats 4000000 in
theorem rText_any {w : World} {g : Nat} {l : List Nat} {e : Int} {z : Nat} (k : Int) (hk : k ≤ 9223372036854775807) (h : Rf w g l e z) (hz : z < w.heap.size) (hl : l.length ≤ 70368744177600) :
    Calls Try.prog 48 #[.pointer (some ⟨g, 0, none⟩), .int .i64 k] w fun e' w' => ∃ r, e' = .returned r ∧ BSne w' r (txtL k l e).1 g z ∧ Rf w' g (txtL k l e).2.1 (txtL k l e).2.2 z ∧ w.grownBy w' (some g) := by
  have HH := Lib.hid h
  have k1 := h.err
  by_cases h0 : e = 0
  · subst h0
    obtain ⟨A, n, c, k0, hnc, hc, k3, _⟩ := h.b
    have kf := h.f0
    have hlen := k3.len
    have hn := k3.max
    have HR := Lib.hid k3
    have HL : Hid (l.length ≤ 70368744177600 ∧ z < w.heap.size ∧ g < w.heap.size) := ⟨hl, hz, h.lt⟩
    clear k3 hl hz
    by_cases hk0 : k < 0
    · skip
      have HV : Hid (txtL k l 0 = ([], l, 1)) := Lib.hid (by unfold txtL; rw [if_pos rfl, if_pos hk0])
      have HCF := Lib.hid (rfail_any h 1)
      have HF := Lib.hid (h.fail 1)
      clear h hlen
      go_enter Try.func48, Try.ntmps48
      go_wp2_with fail
      refine HCF.out.mono ?_
      rintro e w2 ⟨rfl, rfl⟩
      go_wp2
      go_ret
      rw [HV.out]
      exact ⟨_, rfl, BSne.nil _ _ _, HF.out.1, HF.out.2⟩
    · skip
      have r0 := Lib.hid hk0
      by_cases hn0 : n = 0
      · skip
        have b1 : ((n : Int) == 0) = true := by simp [hn0]
        have HV : Hid (txtL k l 0 = ([], l, 10)) := Lib.hid (by unfold txtL; rw [if_pos rfl, if_neg hk0, if_pos (by omega)])
        have HCF := Lib.hid (rfail_any h 10)
        have HF := Lib.hid (h.fail 10)
        clear h hlen hn0
        go_enter Try.func48, Try.ntmps48
        go_wp2_with fail
        refine HCF.out.mono ?_
        rintro e w2 ⟨rfl, rfl⟩
        go_wp2
        go_ret
        rw [HV.out]
        exact ⟨_, rfl, BSne.nil _ _ _, HF.out.1, HF.out.2⟩
      · skip
        have b1 : ((n : Int) == 0) = false := by simp; omega
        obtain ⟨ad, x, rfl, HX, hxb, hcell⟩ := HR.out.at (k := 0) (by omega)
        have hcell0 : w.cell? ad = some (.int .u8 (x : Int)) := by simpa [Addr.add] using hcell
        have q0 : 0 < n := by omega
        have q00 : (0 : Int) < (n : Int) := by omega
        clear hcell
        have HL0 := Lib.hid (show l.length ≠ 0 by omega)
        by_cases hxm : k < (x : Int)
        · skip
          have HV : Hid (txtL k l 0 = ([], l, 3)) := Lib.hid (by unfold txtL; rw [if_pos rfl, if_neg r0.out, if_neg HL0.out, if_pos (by rw [← HX.out]; exact hxm)])
          have HCF := Lib.hid (rfail_any h 3)
          have HF := Lib.hid (h.fail 3)
          clear h hlen hn0
          go_enter Try.func48, Try.ntmps48
          go_wp2_with fail
          refine HCF.out.mono ?_
          rintro e w2 ⟨rfl, rfl⟩
          go_wp2
          go_ret
          rw [HV.out]
          exact ⟨_, rfl, BSne.nil _ _ _, HF.out.1, HF.out.2⟩
        · skip
          have r1 := Lib.hid hxm
          by_cases hxn : n ≤ x
          · skip
            have q2 : (n : Int) - 1 < (x : Int) := by omega
            have HV : Hid (txtL k l 0 = ([], l, 10)) := Lib.hid (by unfold txtL; rw [if_pos rfl, if_neg r0.out, if_neg HL0.out, if_neg (by rw [← HX.out]; exact r1.out), if_pos (by rw [← HX.out]; omega)])
            have HCF := Lib.hid (rfail_any h 10)
            have HF := Lib.hid (h.fail 10)
            clear h hlen hn0 hxn
            go_enter Try.func48, Try.ntmps48
            go_wp2_with fail
            refine HCF.out.mono ?_
            rintro e w2 ⟨rfl, rfl⟩
            go_wp2
            go_ret
            rw [HV.out]
            exact ⟨_, rfl, BSne.nil _ _ _, HF.out.1, HF.out.2⟩
          · skip
            have q2 : ¬ (n : Int) - 1 < (x : Int) := by omega
            have HV : Hid (txtL k l 0 = ((l.drop 1).take x, (l.drop 1).drop x, 0)) := Lib.hid (by
              unfold txtL
              rw [if_pos rfl, if_neg r0.out, if_neg HL0.out, if_neg (by rw [← HX.out]; exact r1.out), if_neg (by rw [← HX.out]; omega), ← HX.out, List.drop_drop, List.drop_take]
              simp [Nat.add_comm])
            have HBS2 : Hid (BS w (.slice (cutAt (some ad) c 1) (n - 1) (c - 1)) (l.drop 1)) := Lib.hid ((HR.out.cut (c := c) (k := 1) (by omega) hnc).bs (by omega) (by omega))
            have HLD : Hid ((l.drop 1).length ≤ 70368744177600 ∧ x ≤ (l.drop 1).length) := Lib.hid (by have := HL.out.1; rw [List.length_drop]; omega)
            obtain ⟨l1, hl1⟩ : ∃ l1, l1 = l.drop 1 := ⟨_, rfl⟩
            rw [← hl1] at HV HBS2 HLD
            clear h hlen hn0 hxn hl1
            go_enter Try.func48, Try.ntmps48
            go_wp2_with fail
            all_goals
              have hbs2 := HBS2.out
              unfold cutAt at hbs2
              first
                | (have hcase : ¬ c = 1 := by assumption
                   rw [if_neg hcase] at hbs2
                   simp [Addr.add] at hbs2)
                | (have hcase : c = 1 := by assumption
                   rw [if_pos hcase, show c - 1 = 0 from by omega] at hbs2)
              refine (Join_bs w (BS.nil w) hbs2 (by have := HLD.out.1; simp only [List.length_nil]; omega)).mono ?_
              rintro e w2 ⟨r2, rfl, ho2, hb2⟩
              rw [List.nil_append] at ho2
              obtain ⟨A2, n2, c2', rfl⟩ := ho2.sh
              have hF2 := HH.out.below hb2
              have c1 := (hb2.cell (cell_lt' k0)).trans k0
              have c2 := hF2.f0
              have hp := hF2.put ho2 ⟨HL.out.2.2, HL.out.2.1⟩
              have hsz := hp.2.size
              have hsz2 := hb2.size
              have HC := Lib.hid (rRaw_any (x : Int) (by omega) hp.1 (by have := HL.out.2.1; omega) HLD.out.1)
              rw [rawI_nat, rawL_ok HLD.out.2] at HC
              have HG := Lib.hid ((grown_below hb2 (some g)).trans hp.2)
              clear ho2 hb2 hF2 hp hsz hsz2 k0 hbs2
              go_wp2_with fail
              refine HC.out.mono ?_
              rintro e w3 ⟨r, rfl, hbs, hrf, hgr⟩
              have HX3 := Lib.hid (And.intro hbs (And.intro hrf (HG.out.trans hgr)))
              clear hbs hrf hgr
              go_wp2
              go_ret
              rw [HV.out]
              exact ⟨_, rfl, HX3.out⟩
  · have HV := Lib.hid (show txtL k l e = ([], l, e) from if_neg h0)
    have hb : (e == 0) = false := by simp [h0]
    have hb2 : (e != 0) = true := by simp [h0]
    clear h h0
    go_enter Try.func48, Try.ntmps48
    go_wp2
    go_ret
    rw [HV.out]
    exact ⟨_, rfl, BSne.nil _ _ _, HH.out, World.grownBy.refl w _⟩
end Go.Proofs.Ytljnfciolalbdaa
