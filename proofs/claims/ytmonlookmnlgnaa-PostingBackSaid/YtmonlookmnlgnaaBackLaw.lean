/- What was written is read; what is read has just those bytes: the law. -/
import Derived.Test.YtmonlookmnlgnaaBackMath
import Derived.Test.YtmonlookmnlgnaaSameAll
import Derived.Test.YtmonlookmnlgnaaLive
namespace Go.Proofs.Ytmonlookmnlgnaa
open Go.RowKit
set_option linter.unusedVariables false
set_option linter.unusedSimpArgs false

set_option maxRecDepth 100000 in
set_option maxHeartbeats 4000000 in
theorem Back_any (A : Option Addr) (n c : Nat) (ls : List Po) (A1 : Option Addr) (n1 c1 : Nat) (b : List Nat) (w : World) (h : RdPo w A n ls) (hnc : n ≤ c) (hc : c ≤ 9223372036854775807) (h1 : RdB w A1 n1 b) (hn1 : n1 ≤ c1) (hc1 : c1 ≤ 9223372036854775807) :
    Calls Try.prog 4 #[.slice A n c, .slice A1 n1 c1] w fun e w' => e = .returned (.bool true) ∧ Below w.heap.size w w' := by
  have HR := Lib.hid h
  have HLn := Lib.hid h.len
  have HS := Lib.hid h1
  clear h h1
  go_enter Try.func4, Try.ntmps4
  go_wp2_with fail
  refine (live_any w).mono ?_
  rintro e w2 ⟨rfl, hb⟩
  have HB2 := Lib.hid hb
  have HR2 := Lib.hid (HR.out.below hb)
  have HS2 := Lib.hid (HS.out.below hb)
  clear hb
  go_wp2_with fail
  refine (few_any A n c ls w2 HR2.out).mono ?_
  rintro e w3 ⟨rfl, hb⟩
  have HB3 := Lib.hid (Below.thn HB2.out hb)
  have HR3 := Lib.hid (HR2.out.below hb)
  have HS3 := Lib.hid (HS2.out.below hb)
  clear hb HB2 HR2 HS2
  by_cases hf : fewL ls = true
  · have HF := Lib.hid (fewL_out hf)
    rw [hf]
    clear hf
    by_cases hbig : (3000 : Int) < (n1 : Int)
    · skip
      go_wp2_with fail
      refine (live_any _).mono ?_
      rintro e w9 ⟨rfl, hb⟩
      have HB9 := Lib.hid (Below.thn HB3.out hb)
      clear hb
      go_wp2
      go_ret
      exact ⟨rfl, HB9.out⟩
    · have C := Lib.hid (List_po A n c ls w3 HR3.out)
      unfold ListE at C
      have hn60 : n ≤ 60 := by rw [← HLn.out]; exact HF.out.1
      go_wp2_with fail
      refine C.out.mono ?_
      rintro e w4 ⟨r, rfl, hbs, hb⟩
      have HB4 := Lib.hid (Below.thn HB3.out hb)
      have HR4 := Lib.hid (HR3.out.below hb)
      have HS4 := Lib.hid (HS3.out.below hb)
      obtain ⟨A4, n4, c4, rfl, hn4, hc4, hs4⟩ := hbs
      have HX4 := Lib.hid hs4
      obtain ⟨E, hE⟩ : ∃ E, E = lsE ls := ⟨_, rfl⟩
      rw [← hE]
      have HE := Lib.hid hE
      clear hb hs4 C HB3 HR3 HS3 hE
      by_cases he : E = 0
      · subst he
        have hok := lsE_ok HE.out.symm
        have hX : lsB ls = bytesLs ls ls.length := (lsE_yes hok).2
        have hlen : n4 ≤ 1000000000 := by
          have h1 := HX4.out.len
          rw [hX] at h1
          have h2 := bytesLs_len hok
          have h3 := HLn.out
          omega
        have C := Lib.hid (Parse_any A4 n4 c4 (lsB ls) w4 HX4.out hn4 hc4 hlen)
        unfold ParseE at C
        rw [hX, prs_put hok] at C
        clear hok hX
        go_wp2_with fail
        refine C.out.mono ?_
        rintro e w5 ⟨v, rfl, hv, hb⟩
        obtain ⟨A5, n5, c5, rfl, hn5, hc5, hr5⟩ := hv
        have C2 := Lib.hid (SameAll_any A5 A n5 n c5 c ls ls w5 hr5 (HR4.out.below hb))
        rw [decide_eq_true rfl] at C2
        have HB5 := Lib.hid (Below.thn HB4.out hb)
        have HS5 := Lib.hid (HS4.out.below hb)
        clear hb hr5 C HB4 HS4 HR4
        go_wp2_with fail
        refine C2.out.mono ?_
        rintro e wP ⟨rfl, hb⟩
        have HBP := Lib.hid (Below.thn HB5.out hb)
        have HSP := Lib.hid (HS5.out.below hb)
        clear hb C2 HB5 HS5
        have C := Lib.hid (Parse_any A1 n1 c1 b wP HSP.out hn1 hc1 (by omega))
        unfold ParseE at C
        go_wp2_with fail
        refine C.out.mono ?_
        rintro e w6 ⟨v, rfl, hv, hb⟩
        have HB6 := Lib.hid (Below.thn HBP.out hb)
        have HS6 := Lib.hid (HSP.out.below hb)
        obtain ⟨A6, n6, c6, rfl, hn6, hc6, hr6⟩ := hv
        have HR6 := Lib.hid hr6
        clear hb hr6 C HBP HSP
        obtain ⟨er, her⟩ : ∃ er, er = (prsR b).2 := ⟨_, rfl⟩
        have HEr := Lib.hid her
        rw [← her]
        clear her
        by_cases h0 : er = 0
        · subst h0
          obtain ⟨hok, hbt⟩ := prs_taken HS6.out.byt HEr.out.symm
          have HOk := Lib.hid (lsE_yes hok)
          have HBt := Lib.hid hbt
          have C := Lib.hid (List_po A6 n6 c6 (prsR b).1 w6 HR6.out)
          unfold ListE at C
          rw [HOk.out.1, HOk.out.2, HBt.out] at C
          clear hok hbt
          go_wp2_with fail
          refine C.out.mono ?_
          rintro e w7 ⟨r7, rfl, hbs, hb⟩
          have HB7 := Lib.hid (Below.thn HB6.out hb)
          have C2 := Lib.hid (Same_bs w7 hbs ((HS6.out.below hb).bs hn1 hc1))
          rw [cmpL_self] at C2
          clear hb hbs C
          go_wp2_with fail
          refine C2.out.mono ?_
          rintro e w8 ⟨rfl, hb⟩
          have HB8 := Lib.hid (Below.thn HB7.out hb)
          clear hb C2
          go_wp2
          go_ret
          exact ⟨rfl, HB8.out⟩
        · have HN := Lib.hid (prs_none (b := b) (by rw [← HEr.out]; exact h0))
          obtain rfl : n6 = 0 := by
            have := HR6.out.len
            rw [HN.out] at this
            exact this.symm
          have q1 : (er == 0) = false := by simp [h0]
          have q2 : (er != 0) = true := by simp [h0]
          go_wp2
          go_ret
          exact ⟨rfl, HB6.out⟩
      · have q1 : (E == 0) = false := by simp [he]
        have q2 : (E != 0) = true := by simp [he]
        obtain ⟨wP, hwP⟩ : ∃ wP, wP = w4 := ⟨_, rfl⟩
        have HBP := HB4
        have HSP := HS4
        rw [← hwP] at HBP HSP ⊢
        clear hwP HB4 HS4
        have C := Lib.hid (Parse_any A1 n1 c1 b wP HSP.out hn1 hc1 (by omega))
        unfold ParseE at C
        go_wp2_with fail
        refine C.out.mono ?_
        rintro e w6 ⟨v, rfl, hv, hb⟩
        have HB6 := Lib.hid (Below.thn HBP.out hb)
        have HS6 := Lib.hid (HSP.out.below hb)
        obtain ⟨A6, n6, c6, rfl, hn6, hc6, hr6⟩ := hv
        have HR6 := Lib.hid hr6
        clear hb hr6 C HBP HSP
        obtain ⟨er, her⟩ : ∃ er, er = (prsR b).2 := ⟨_, rfl⟩
        have HEr := Lib.hid her
        rw [← her]
        clear her
        by_cases h0 : er = 0
        · subst h0
          obtain ⟨hok, hbt⟩ := prs_taken HS6.out.byt HEr.out.symm
          have HOk := Lib.hid (lsE_yes hok)
          have HBt := Lib.hid hbt
          have C := Lib.hid (List_po A6 n6 c6 (prsR b).1 w6 HR6.out)
          unfold ListE at C
          rw [HOk.out.1, HOk.out.2, HBt.out] at C
          clear hok hbt
          go_wp2_with fail
          refine C.out.mono ?_
          rintro e w7 ⟨r7, rfl, hbs, hb⟩
          have HB7 := Lib.hid (Below.thn HB6.out hb)
          have C2 := Lib.hid (Same_bs w7 hbs ((HS6.out.below hb).bs hn1 hc1))
          rw [cmpL_self] at C2
          clear hb hbs C
          go_wp2_with fail
          refine C2.out.mono ?_
          rintro e w8 ⟨rfl, hb⟩
          have HB8 := Lib.hid (Below.thn HB7.out hb)
          clear hb C2
          go_wp2
          go_ret
          exact ⟨rfl, HB8.out⟩
        · have HN := Lib.hid (prs_none (b := b) (by rw [← HEr.out]; exact h0))
          obtain rfl : n6 = 0 := by
            have := HR6.out.len
            rw [HN.out] at this
            exact this.symm
          have q1 : (er == 0) = false := by simp [h0]
          have q2 : (er != 0) = true := by simp [h0]
          go_wp2
          go_ret
          exact ⟨rfl, HB6.out⟩
  · have hf' : fewL ls = false := by simpa using hf
    rw [hf']
    go_wp2_with fail
    refine (live_any _).mono ?_
    rintro e w9 ⟨rfl, hb⟩
    have HB9 := Lib.hid (Below.thn HB3.out hb)
    clear hb
    go_wp2
    go_ret
    exact ⟨rfl, HB9.out⟩
end Go.Proofs.Ytmonlookmnlgnaa
