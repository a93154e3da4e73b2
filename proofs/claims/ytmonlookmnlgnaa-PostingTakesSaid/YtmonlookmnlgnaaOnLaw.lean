/- Postings behind others: the law. -/
import Derived.Test.YtmonlookmnlgnaaLive
namespace Go.Proofs.Ytmonlookmnlgnaa
open Go.RowKit
set_option linter.unusedVariables false
set_option linter.unusedSimpArgs false

theorem prevOf_take (ls : List Po) (k i : Nat) (h : i ≤ k) : prevOf (ls.take k) i = prevOf ls i := by
  unfold prevOf
  by_cases h0 : i = 0
  · rw [if_pos h0, if_pos h0]
  · rw [if_neg h0, if_neg h0]
    simp only [List.getD_eq_getElem?_getD]
    rw [List.getElem?_take_of_lt (by omega)]
theorem getD_take (ls : List Po) (k i : Nat) (h : i < k) : (ls.take k).getD i (0, []) = ls.getD i (0, []) := by
  simp only [List.getD_eq_getElem?_getD]
  rw [List.getElem?_take_of_lt h]
theorem bytesLs_take (ls : List Po) (k : Nat) : ∀ i, i ≤ k → bytesLs (ls.take k) i = bytesLs ls i
  | 0, _ => rfl
  | i + 1, h => by
    unfold bytesLs
    rw [bytesLs_take ls k i (by omega), prevOf_take ls k i (by omega), getD_take ls k i (by omega)]
theorem okLs_take {ls : List Po} {k : Nat} (h : okLs ls ls.length) (hk : k ≤ ls.length) : okLs (ls.take k) (ls.take k).length := fun i hi => by
  rw [List.length_take] at hi
  rw [prevOf_take ls k i (by omega), getD_take ls k i (by omega)]
  exact h i (by omega)
theorem ls_take {ls : List Po} {k : Nat} (h : okLs ls ls.length) (hk : k ≤ ls.length) : lsE (ls.take k) = 0 ∧ lsB (ls.take k) = bytesLs ls k := by
  obtain ⟨h1, h2⟩ := lsE_yes (okLs_take h hk)
  refine ⟨h1, ?_⟩
  rw [h2, List.length_take, Nat.min_eq_left hk, bytesLs_take _ _ _ (Nat.le_refl _)]
theorem lsE_ok {ls : List Po} (h : lsE ls = 0) : okLs ls ls.length := by
  unfold lsE at h
  split at h
  · assumption
  · cases h
set_option maxRecDepth 100000 in
set_option maxHeartbeats 4000000 in
theorem On_any (A : Option Addr) (n c : Nat) (ls : List Po) (cut : Nat) (w : World) (h : RdPo w A n ls) (hnc : n ≤ c) (hc : c ≤ 9223372036854775807) (hcut : cut < 256) :
    Calls Try.prog 3 #[.slice A n c, .int .u8 (cut : Nat)] w fun e w' => e = .returned (.bool true) ∧ Below w.heap.size w w' := by
  have HR := Lib.hid h
  have HLn := Lib.hid h.len
  have C := Lib.hid (List_po A n c ls w h)
  unfold ListE at C
  clear h
  obtain ⟨E, hE⟩ : ∃ E, E = lsE ls := ⟨_, rfl⟩
  rw [← hE] at C
  have HE := Lib.hid hE
  clear hE
  go_enter Try.func3, Try.ntmps3
  go_wp2_with fail
  refine C.out.mono ?_
  rintro e w1 ⟨r, rfl, hbs, hb⟩
  obtain ⟨A1, n1, c1, rfl, hn1, hc1, hbs⟩ := hbs
  have HS1 := Lib.hid hbs
  have HB1 := Lib.hid hb
  have HR1 := Lib.hid (HR.out.below hb)
  clear hbs hb C
  go_wp2_with fail
  refine (live_any w1).mono ?_
  rintro e w2 ⟨rfl, hb⟩
  have HS2 := Lib.hid (HS1.out.below hb)
  have HB2 := Lib.hid (Below.thn HB1.out hb)
  have HR2 := Lib.hid (HR1.out.below hb)
  clear hb HS1 HB1 HR1
  go_wp2_with fail
  refine (few_any A n c ls w2 HR2.out).mono ?_
  rintro e w3 ⟨rfl, hb⟩
  have HS3 := Lib.hid (HS2.out.below hb)
  have HB3 := Lib.hid (Below.thn HB2.out hb)
  have HR3 := Lib.hid (HR2.out.below hb)
  clear hb HS2 HB2 HR2
  by_cases hf : fewL ls = true
  · have HF := Lib.hid (fewL_out hf)
    rw [hf]
    clear hf
    by_cases he : E = 0
    · subst he
      have HOk := Lib.hid (lsE_ok HE.out.symm)
      have hn60 : n ≤ 60 := by rw [← HLn.out]; exact HF.out.1
      obtain ⟨k, hkm, hk⟩ : ∃ k : Nat, (cut : Int) % ((n : Int) + 1) = (k : Int) ∧ k ≤ n := by
        have h1 := Int.emod_nonneg (cut : Int) (b := (n : Int) + 1) (by omega)
        have h2 := Int.emod_lt_of_pos (cut : Int) (b := (n : Int) + 1) (by omega)
        exact ⟨((cut : Int) % ((n : Int) + 1)).toNat, by omega, by omega⟩
      have hkc : k ≤ c := by omega
      have C := Lib.hid (List_po A k c (ls.take k) w3 (HR3.out.take k hk))
      unfold ListE at C
      obtain ⟨e1, e2⟩ := ls_take HOk.out (k := k) (by rw [HLn.out]; exact hk)
      rw [e1, e2] at C
      clear e1 e2
      go_wp2_with fail
      refine C.out.mono ?_
      rintro e w4 ⟨r, rfl, hbs, hb⟩
      have HS4 := Lib.hid (HS3.out.below hb)
      have HB4 := Lib.hid (Below.thn HB3.out hb)
      have HR4 := Lib.hid (HR3.out.below hb)
      have HX4 := Lib.hid hbs
      clear hb hbs HS3 HB3 HR3 C
      go_wp2_with fail
      go_loopw [9, 48] (fun x9 x48 wr => ∃ i : Nat, i ≤ k ∧ x48 = .int .i64 i ∧ ∃ pv : Nat, x9 = .int .u32 pv ∧ pv ≤ 4294967295 ∧ Hid (pv = prevOf ls i ∧ Below w4.heap.size w4 wr)) (fun _ x48 _ => k - (intOf x48).toNat)
      case atStart => exact ⟨0, by omega, rfl, 0, rfl, by omega, Lib.hid ⟨rfl, Below.refl _ _⟩⟩
      case round =>
        obtain ⟨i, hi, rfl, pv, rfl, hpv, HI⟩ := hrel
        by_cases hlt : (i : Int) < (k : Int)
        · obtain ⟨ad, B, m, c', d, l, rfl, HX, e0, e1, hm1, hm2, HPo, hd⟩ := (HR4.out.below HI.out.2).at (k := i) (by omega)
          have HBx := Lib.hid (HI.out.2.alloc HI.out.2.size (.cells #[.int .u32 (d : Nat), .slice B m c'] 32))
          have c0 := (box2 wr 32 (.int .u32 (d : Nat)) (.slice B m c')).1
          go_wp2
          refine ⟨⟨i + 1, by omega, by go_num, d, rfl, hd, Lib.hid ⟨?_, HBx.out⟩⟩, by simp [intOf]; omega⟩
          rw [prevOf_succ, getD_po HX.out]
        · obtain rfl : i = k := by omega
          have HX5 := Lib.hid (HX4.out.below HI.out.2)
          have HS5 := Lib.hid (HS4.out.below HI.out.2)
          have HB5 := Lib.hid (Below.thn HB4.out HI.out.2)
          have HR5 := Lib.hid (HR4.out.below HI.out.2)
          have HPv := Lib.hid HI.out.1
          clear HX4 HS4 HB4 HR4 HI hlt
          have HD0 := RdPo.drop HR5.out c i hk hnc
          obtain ⟨J, hJ⟩ : ∃ J, J = n - i := ⟨_, rfl⟩
          have hJn : i + J = n := by omega
          by_cases hci : c = i
          · rw [if_pos hci] at HD0
            have HD := Lib.hid HD0
            clear HD0
            go_wp2_with fail
            clear hci
            rw [← hJ] at HD
            rw [← hJ]
            obtain ⟨w5, hw5⟩ : ∃ w5, w5 = wr := ⟨_, rfl⟩
            rw [← hw5] at HX5 HS5 HB5 HR5 HD ⊢
            clear hw5 hJ
            go_loopw [6, 8, 9, 59] (fun x6 x8 x9 x59 wr => ∃ j : Nat, j ≤ J ∧ x59 = .int .i64 j ∧ x6 = .int .i64 0 ∧ ∃ pv : Nat, x9 = .int .u32 pv ∧ pv ≤ 4294967295 ∧ Hid (pv = prevOf ls (i + j) ∧ BS wr x8 (bytesLs ls (i + j)) ∧ Below w5.heap.size w5 wr)) (fun _ _ _ x59 _ => J - (intOf x59).toNat)
            case atStart => exact ⟨0, by omega, rfl, rfl, pv, rfl, hpv, Lib.hid ⟨HPv.out, HX5.out, Below.refl _ _⟩⟩
            case round =>
              obtain ⟨j, hj, rfl, rfl, pw, rfl, hpw, HI⟩ := hrel
              by_cases hlt : (j : Int) < (J : Int)
              · obtain ⟨ad, B, m, c', d, l, rfl, HX, e0, e1, hm1, hm2, HPo, hd⟩ := (HD.out.below HI.out.2.2).at (k := j) (by omega)
                have HX2 : Hid (ls.getD (i + j) (0, []) = (d, l)) := Lib.hid (by
                  obtain ⟨hl, e⟩ := HX.out
                  rw [List.getElem_drop] at e
                  exact getD_po ⟨_, e⟩)
                have HOp : Hid (okP pw (d, l)) := Lib.hid (by
                  have := HOk.out (i + j) (by rw [HLn.out]; omega)
                  rw [HX2.out, ← HI.out.1] at this
                  exact this)
                have HBx := Lib.hid (HI.out.2.2.alloc HI.out.2.2.size (.cells #[.int .u32 (d : Nat), .slice B m c'] 32))
                have HBw := Lib.hid ((Below.refl wr.heap.size wr).alloc (Nat.le_refl _) (.cells #[.int .u32 (d : Nat), .slice B m c'] 32))
                have C := Lib.hid (Put_pv u8 (bytesLs ls (i + j)) pw (d, l) _ _ (HI.out.2.1.below HBw.out) (RdPo.pv (HPo.out.below HBw.out) hm1 hm2 hd) (by omega) (by
                  have h1 := bytesLs_len (ls := ls) (k := i + j) (fun t ht => HOk.out t (by rw [HLn.out]; omega))
                  omega))
                unfold PutE at C
                have c0 := (box2 wr 32 (.int .u32 (d : Nat)) (.slice B m c')).1
                have c1 := (box2 wr 32 (.int .u32 (d : Nat)) (.slice B m c')).2
                rw [chkP_yes HOp.out] at C
                go_wp2_with fail
                refine C.out.mono ?_
                rintro e w7 ⟨r7, rfl, hbs, hb⟩
                have c0 := cell_keep hb c0
                have HN : Hid (d = prevOf ls (i + (j + 1)) ∧ BS w7 r7 (bytesLs ls (i + (j + 1))) ∧ Below w5.heap.size w5 w7) := Lib.hid ⟨by
                    rw [← Nat.add_assoc, prevOf_succ, HX2.out], by
                    rw [putL_yes HOp.out] at hbs
                    rw [← Nat.add_assoc, bytesLs, HX2.out, ← HI.out.1]
                    exact hbs, Below.thn HBx.out hb⟩
                clear hbs hb C c1 e0 e1
                go_wp2
                exact ⟨⟨j + 1, by omega, by go_num, rfl, d, rfl, hd, HN⟩, by simp [intOf]; omega⟩
              · obtain rfl : j = J := by omega
                have HBf := Lib.hid (Below.thn HB5.out HI.out.2.2)
                have C := Lib.hid (Same_bs wr HI.out.2.1 ((HS5.out.below HI.out.2.2).bs hn1 hc1))
                have hcm : cmpL (bytesLs ls (i + j)) (lsB ls) = 0 := by
                  rw [(lsE_yes HOk.out).2, HLn.out, hJn]
                  exact cmpL_self _
                rw [hcm] at C
                clear hcm
                go_wp2_with fail
                refine C.out.mono ?_
                rintro e w8 ⟨rfl, hb⟩
                have HB8 := Lib.hid (Below.thn HBf.out hb)
                clear C hb
                go_wp2
                go_ret
                exact ⟨rfl, HB8.out⟩
          · rw [if_neg hci] at HD0
            have HD := Lib.hid HD0
            clear HD0
            go_wp2_with fail
            clear hci
            generalize Option.map (fun x : Addr => x.add (i * 2)) A = X at HD ⊢
            rw [← hJ] at HD
            rw [← hJ]
            obtain ⟨w5, hw5⟩ : ∃ w5, w5 = wr := ⟨_, rfl⟩
            rw [← hw5] at HX5 HS5 HB5 HR5 HD ⊢
            clear hw5 hJ
            go_loopw [6, 8, 9, 59] (fun x6 x8 x9 x59 wr => ∃ j : Nat, j ≤ J ∧ x59 = .int .i64 j ∧ x6 = .int .i64 0 ∧ ∃ pv : Nat, x9 = .int .u32 pv ∧ pv ≤ 4294967295 ∧ Hid (pv = prevOf ls (i + j) ∧ BS wr x8 (bytesLs ls (i + j)) ∧ Below w5.heap.size w5 wr)) (fun _ _ _ x59 _ => J - (intOf x59).toNat)
            case atStart => exact ⟨0, by omega, rfl, rfl, pv, rfl, hpv, Lib.hid ⟨HPv.out, HX5.out, Below.refl _ _⟩⟩
            case round =>
              obtain ⟨j, hj, rfl, rfl, pw, rfl, hpw, HI⟩ := hrel
              by_cases hlt : (j : Int) < (J : Int)
              · obtain ⟨ad, B, m, c', d, l, rfl, HX, e0, e1, hm1, hm2, HPo, hd⟩ := (HD.out.below HI.out.2.2).at (k := j) (by omega)
                have HX2 : Hid (ls.getD (i + j) (0, []) = (d, l)) := Lib.hid (by
                  obtain ⟨hl, e⟩ := HX.out
                  rw [List.getElem_drop] at e
                  exact getD_po ⟨_, e⟩)
                have HOp : Hid (okP pw (d, l)) := Lib.hid (by
                  have := HOk.out (i + j) (by rw [HLn.out]; omega)
                  rw [HX2.out, ← HI.out.1] at this
                  exact this)
                have HBx := Lib.hid (HI.out.2.2.alloc HI.out.2.2.size (.cells #[.int .u32 (d : Nat), .slice B m c'] 32))
                have HBw := Lib.hid ((Below.refl wr.heap.size wr).alloc (Nat.le_refl _) (.cells #[.int .u32 (d : Nat), .slice B m c'] 32))
                have C := Lib.hid (Put_pv u8 (bytesLs ls (i + j)) pw (d, l) _ _ (HI.out.2.1.below HBw.out) (RdPo.pv (HPo.out.below HBw.out) hm1 hm2 hd) (by omega) (by
                  have h1 := bytesLs_len (ls := ls) (k := i + j) (fun t ht => HOk.out t (by rw [HLn.out]; omega))
                  omega))
                unfold PutE at C
                have c0 := (box2 wr 32 (.int .u32 (d : Nat)) (.slice B m c')).1
                have c1 := (box2 wr 32 (.int .u32 (d : Nat)) (.slice B m c')).2
                rw [chkP_yes HOp.out] at C
                go_wp2_with fail
                refine C.out.mono ?_
                rintro e w7 ⟨r7, rfl, hbs, hb⟩
                have c0 := cell_keep hb c0
                have HN : Hid (d = prevOf ls (i + (j + 1)) ∧ BS w7 r7 (bytesLs ls (i + (j + 1))) ∧ Below w5.heap.size w5 w7) := Lib.hid ⟨by
                    rw [← Nat.add_assoc, prevOf_succ, HX2.out], by
                    rw [putL_yes HOp.out] at hbs
                    rw [← Nat.add_assoc, bytesLs, HX2.out, ← HI.out.1]
                    exact hbs, Below.thn HBx.out hb⟩
                clear hbs hb C c1 e0 e1
                go_wp2
                exact ⟨⟨j + 1, by omega, by go_num, rfl, d, rfl, hd, HN⟩, by simp [intOf]; omega⟩
              · obtain rfl : j = J := by omega
                have HBf := Lib.hid (Below.thn HB5.out HI.out.2.2)
                have C := Lib.hid (Same_bs wr HI.out.2.1 ((HS5.out.below HI.out.2.2).bs hn1 hc1))
                have hcm : cmpL (bytesLs ls (i + j)) (lsB ls) = 0 := by
                  rw [(lsE_yes HOk.out).2, HLn.out, hJn]
                  exact cmpL_self _
                rw [hcm] at C
                clear hcm
                go_wp2_with fail
                refine C.out.mono ?_
                rintro e w8 ⟨rfl, hb⟩
                have HB8 := Lib.hid (Below.thn HBf.out hb)
                clear C hb
                go_wp2
                go_ret
                exact ⟨rfl, HB8.out⟩
    · have q1 : (E == 0) = false := by simp [he]
      have q2 : (E != 0) = true := by simp [he]
      go_wp2_with fail
      refine (live_any w3).mono ?_
      rintro e w4 ⟨rfl, hb⟩
      have HB4 := Lib.hid (Below.thn HB3.out hb)
      clear hb
      go_wp2
      go_ret
      exact ⟨rfl, HB4.out⟩
  · have hf' : fewL ls = false := by simpa using hf
    rw [hf']
    go_wp2_with fail
    refine (live_any w3).mono ?_
    rintro e w4 ⟨rfl, hb⟩
    have HB4 := Lib.hid (Below.thn HB3.out hb)
    clear hb
    go_wp2
    go_ret
    exact ⟨rfl, HB4.out⟩
end Go.Proofs.Ytmonlookmnlgnaa
