/- What a rune, and a text, is folded to: the document's. Tables copied and compared. -/
import Derived.Test.YtkkeodlnejckjaaGreatRefTab
import Derived.Test.YtkkeodlnejckjaaGreatMS
namespace Go.Proofs.YtkkeodlnejckjaaGreat
open Go.RowKit Go.Shelf
set_option linter.unusedVariables false
set_option linter.unusedSimpArgs false

set_option maxRecDepth 100000 in
set_option maxHeartbeats 1000000 in
theorem refRune_any (A : Option Addr) (n c : Nat) (tb : List Fo) (r : Int) (w : World) (ht : RdT w A n tb) (hwf : wfT tb) (h1 : -2147483648 ≤ r) (h2 : r ≤ 2147483647) :
    Calls Tryz.prog 59 #[.slice A n c, .int .i32 r] w fun e w' => e = .returned (.int .i32 (oneR (eff tb) r)) ∧ Below w.heap.size w w' := by
  have HT := Lib.hid ht
  have C := Lib.hid (refCheck_any A n c tb w ht hwf)
  have H12 := Lib.hid (And.intro h1 h2)
  obtain ⟨R, hR⟩ : ∃ R, R = oneR (eff tb) r := ⟨_, rfl⟩
  rw [← hR]
  have HR := Lib.hid hR
  clear ht hR h1 h2
  by_cases hok : okTb tb
  · have HE : Hid (oneR tb r = R) := Lib.hid (by rw [HR.out, eff_yes hok])
    have HG : Hid (allGd tb) := Lib.hid fun i hi => (hok.2.1 i hi).1
    have HCh := Lib.hid (chk_yes hok)
    clear hok
    go_enter Tryz.func59, Tryz.ntmps59
    go_wp2_with fail
    refine C.out.mono ?_
    rintro e w1 ⟨rfl, hb⟩
    rw [HCh.out]
    have HB := Lib.hid hb
    have HT1 := Lib.hid (HT.out.below hb)
    clear hb C
    go_wp2_with fail
    refine (refFolds_any A n c tb r _ HT1.out HG.out H12.out.1 H12.out.2).mono ?_
    rintro e w2 ⟨V, rfl, hf, hb⟩
    have HB2 := Lib.hid (Below.thn HB.out hb)
    have HT2 := Lib.hid (HT1.out.below hb)
    clear hb
    rcases hf with ⟨rfl, h0⟩ | ⟨i, hi, rfl, h0⟩
    · have HF : Hid (r = R) := Lib.hid (by rw [← HE.out]; unfold oneR; rw [h0])
      clear h0
      go_wp2
      go_ret
      exact ⟨by rw [← HF.out]; rfl, HB2.out⟩
    · have hin : (i : Int) < (n : Int) := by have := HT.out.len; omega
      obtain ⟨ad, rfl, p, q, m, HP, e0, e1, e2⟩ := HT2.out.at (k := i) (by omega)
      have HGp : Hid (gd (p, q, m)) := Lib.hid (by obtain ⟨ha, hb⟩ := HP.out; rw [← hb]; exact HG.out i ha)
      have hh := List.find?_some (show tb.find? (hit r) = some tb[i] from h0)
      obtain ⟨_, hx⟩ := HP.out
      rw [hx, hit_iff HGp.out H12.out.1 H12.out.2] at hh
      obtain ⟨r1, r2, r3, r4⟩ := gd_rng HGp.out
      have r5 := HGp.out.2.1
      simp only at r1 r2 r3 r4 r5 hh
      obtain ⟨r6, r7⟩ := hh
      have HF : Hid (q + r - p = R) := Lib.hid (by
        rw [← HE.out]
        unfold oneR
        rw [h0, hx]
        unfold wrap32
        simp only
        omega)
      have wq : IntKind.i32.wrap (q + r) = q + r := by rw [IntKind.wrap_i32]; omega
      have wp : IntKind.i32.wrap (q + r - p) = q + r - p := by rw [IntKind.wrap_i32]; omega
      have hi0 : (0 : Int) ≤ (i : Int) := by omega
      clear h0 hx r6 r7 hi e2
      go_upto_region 6 with fail
      go_quiet (fail)
      clear wq wp e0 e1
      go_wp2
      go_ret
      exact ⟨by rw [← HF.out]; rfl, below_drewN HB2.out nq⟩
  · have HE : Hid (r = R) := Lib.hid (by rw [HR.out, eff_no hok, oneR_nil])
    have HCh := Lib.hid (chk_no hok)
    clear hok
    go_enter Tryz.func59, Tryz.ntmps59
    go_wp2_with fail
    refine C.out.mono ?_
    rintro e w1 ⟨rfl, hb⟩
    rw [HCh.out]
    have HB := Lib.hid hb
    clear hb C
    go_wp2
    go_ret
    exact ⟨by rw [← HE.out]; rfl, HB.out⟩

theorem OwnK.rdM {w : World} {base : Nat} {A : Option Addr} {n c : Nat} {L : List (Nat × Nat)} (h : OwnM w base (.slice A n c) L) : RdM w A n L := by
  obtain ⟨A', c', e, _, _, h3⟩ := OwnK.rd encMk_len h
  cases e
  exact h3
theorem formL_enc {r : Int} (h : okRune r) : formL r = encL r := by
  obtain ⟨n, rfl⟩ : ∃ n : Nat, r = n := ⟨r.toNat, by unfold okRune at h; omega⟩
  rw [encL_form h]
  unfold okRune at h
  exact formL_yes (by omega) (by omega)
theorem encs_len (rs : List Int) : (encsL rs).length ≤ 4 * rs.length := by
  induction rs with
  | nil => simp [encsL]
  | cons r rs ih =>
    have := encL_len r
    unfold encsL at *
    simp only [List.flatMap_cons, List.length_append, List.length_cons]
    omega
theorem encsL_append (rs : List Int) (r : Int) : encsL (rs ++ [r]) = encsL rs ++ encL r := by simp [encsL]
theorem text_marks (tb : List Fo) (l : List Nat) : textL tb l = encsL ((marksL l).map fun x => oneR (eff tb) (x.2 : Int)) := by
  unfold textL rnsL
  rw [List.map_map]
  rfl
end Go.Proofs.YtkkeodlnejckjaaGreat
