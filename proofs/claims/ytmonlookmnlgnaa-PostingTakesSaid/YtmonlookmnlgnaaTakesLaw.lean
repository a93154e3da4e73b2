/- Which postings any bytes have: the law. -/
import Derived.Test.YtmonlookmnlgnaaRefFind
import Derived.Test.YtmonlookmnlgnaaSameAll
import Derived.Test.YtmonlookmnlgnaaRisesMath
import Derived.Test.YtmonlookmnlgnaaLive
namespace Go.Proofs.Ytmonlookmnlgnaa
open Go.RowKit
set_option linter.unusedVariables false
set_option linter.unusedSimpArgs false

theorem tkR_doc (b : List Nat) (at_ : Int) (prev : Nat) : (tkR b at_ prev).1.1 ≤ 4294967295 := by
  unfold tkR
  split
  · exact Nat.zero_le _
  · cases h : takeP (b.drop at_.toNat) prev with
    | none => exact Nat.zero_le _
    | some x =>
      have := (takeP_some h).2.2.1
      simp only
      omega
theorem fndP_doc : ∀ (l : List (Nat × Po)) (d : Nat), (fndP l d).1.1 ≤ d
  | [], _ => Nat.zero_le _
  | x :: r, d => by
    unfold fndP
    split
    · split
      · rename_i h; simp only; omega
      · exact Nat.zero_le _
    · exact fndP_doc r d
set_option maxRecDepth 100000 in
set_option maxHeartbeats 8000000 in
theorem Takes_any (A : Option Addr) (n c : Nat) (b : List Nat) (at_ : Int) (prev : Nat) (w : World) (h : RdB w A n b) (hnc : n ≤ c) (hc : c ≤ 9223372036854775807) (ha1 : -9223372036854775808 ≤ at_) (ha2 : at_ ≤ 9223372036854775807) (hp : prev < 4294967296) :
    Calls Try.prog 7 #[.slice A n c, .int .i64 at_, .int .u32 (prev : Nat)] w fun e w' => e = .returned (.bool true) ∧ Below w.heap.size w w' := by
  have HS := Lib.hid h
  have HLn := Lib.hid h.len
  clear h
  go_enter Try.func7, Try.ntmps7
  go_wp2_with fail
  refine (live_any w).mono ?_
  rintro e w2 ⟨rfl, hb⟩
  have KB := Lib.hid hb
  have KS := Lib.hid (HS.out.below hb)
  clear hb
  by_cases hbig : (3000 : Int) < (n : Int)
  · go_wp2_with fail
    refine (live_any _).mono ?_
    rintro e w9 ⟨rfl, hb⟩
    have HB9 := Lib.hid (Below.thn KB.out hb)
    clear hb
    go_wp2
    go_ret
    exact ⟨rfl, HB9.out⟩
  · skip
    obtain ⟨T, hT⟩ : ∃ T, T = tkR b at_ prev := ⟨_, rfl⟩
    obtain ⟨⟨d1, xs1⟩, en, er⟩ := T
    have hd1 : d1 ≤ 4294967295 := by have := tkR_doc b at_ prev; rw [← hT] at this; exact this
    have C := Lib.hid (Take_bs (.slice A n c) b at_ prev w2 (KS.out.bs hnc hc) hp (by rw [HLn.out]; omega))
    unfold TakeE at C
    rw [← hT] at C
    simp only at C
    go_wp2_with fail
    refine C.out.mono ?_
    rintro e w3 ⟨u, rfl, ho, hb⟩
    have KB_ := Lib.hid (Below.thn KB.out hb)
    have KS_ := Lib.hid (KS.out.below hb)
    clear KB KS
    have KB := KB_
    clear KB_
    have KS := KS_
    clear KS_
    clear C
    obtain ⟨A7, c7, hu, q71, q72, q73⟩ := ho.rd
    subst hu
    obtain ⟨n7, hn7⟩ : ∃ n7, n7 = xs1.length := ⟨_, rfl⟩
    rw [← hn7] at ho q71 q73 ⊢
    have I7 := Lib.hid q73
    clear ho q73 hn7
    have hba := (Below.refl w3.heap.size w3).alloc (Nat.le_refl _) (.cells #[.int .u32 (d1 : Nat), .slice A7 n7 c7] 32)
    have hbx := Box2.new w3 32 (.int .u32 (d1 : Nat)) (.slice A7 n7 c7)
    obtain ⟨g7, hg7⟩ : ∃ g, g = w3.heap.size := ⟨_, rfl⟩
    obtain ⟨x7, hx7⟩ : ∃ x, x = w3.alloc (.cells #[.int .u32 (d1 : Nat), .slice A7 n7 c7] 32) := ⟨_, rfl⟩
    rw [← hx7] at hba hbx
    rw [← hg7] at hbx
    have KB_ := Lib.hid (Below.thn KB.out hba)
    have KS_ := Lib.hid (KS.out.below hba)
    have I7_ := Lib.hid (I7.out.below hba)
    clear KB KS I7
    have KB := KB_
    clear KB_
    have KS := KS_
    clear KS_
    have I7 := I7_
    clear I7_
    have BX7 := Lib.hid hbx
    have HX7 := Lib.hid hx7
    have HG7 := Lib.hid hg7
    clear hba hbx hx7 hg7 hb
    have C := Lib.hid (refTake_bs (.slice A n c) b at_ prev x7 (KS.out.bs hnc hc) hp (by rw [HLn.out]; omega))
    unfold TakeE at C
    rw [← hT] at C
    simp only at C
    go_wp2_with fail
    rw [← HX7.out, ← HG7.out]
    refine C.out.mono ?_
    rintro e w4 ⟨u, rfl, ho, hb⟩
    have KB_ := Lib.hid (Below.thn KB.out hb)
    have KS_ := Lib.hid (KS.out.below hb)
    have I7_ := Lib.hid (I7.out.below hb)
    have BX7_ := Lib.hid (BX7.out.below hb)
    clear KB KS I7 BX7
    have KB := KB_
    clear KB_
    have KS := KS_
    clear KS_
    have I7 := I7_
    clear I7_
    have BX7 := BX7_
    clear BX7_
    clear C
    obtain ⟨A10, c10, hu, p101, p102, p103⟩ := ho.rd
    subst hu
    obtain ⟨n10, hn10⟩ : ∃ n10, n10 = (xs1).length := ⟨_, rfl⟩
    rw [← hn10] at ho p101 p103 ⊢
    have I10 := Lib.hid p103
    clear ho p103 hn10
    have hba := (Below.refl w4.heap.size w4).alloc (Nat.le_refl _) (.cells #[.int .u32 (d1 : Nat), .slice A10 n10 c10] 32)
    have hbx := Box2.new w4 32 (.int .u32 (d1 : Nat)) (.slice A10 n10 c10)
    obtain ⟨g10, hg10⟩ : ∃ g, g = w4.heap.size := ⟨_, rfl⟩
    obtain ⟨x10, hx10⟩ : ∃ x, x = w4.alloc (.cells #[.int .u32 (d1 : Nat), .slice A10 n10 c10] 32) := ⟨_, rfl⟩
    rw [← hx10] at hba hbx
    rw [← hg10] at hbx
    have KB_ := Lib.hid (Below.thn KB.out hba)
    have KS_ := Lib.hid (KS.out.below hba)
    have I7_ := Lib.hid (I7.out.below hba)
    have BX7_ := Lib.hid (BX7.out.below hba)
    have I10_ := Lib.hid (I10.out.below hba)
    clear KB KS I7 BX7 I10
    have KB := KB_
    clear KB_
    have KS := KS_
    clear KS_
    have I7 := I7_
    clear I7_
    have BX7 := BX7_
    clear BX7_
    have I10 := I10_
    clear I10_
    have BX10 := Lib.hid hbx
    have HX10 := Lib.hid hx10
    have HG10 := Lib.hid hg10
    clear hba hbx hx10 hg10 hb
    obtain ⟨⟨pl, pe⟩, hpr⟩ : ∃ x, x = prsR b := ⟨_, rfl⟩
    have C := Lib.hid (Parse_any A n c b x10 KS.out hnc hc (by omega))
    unfold ParseE at C
    rw [← hpr] at C
    simp only at C
    go_wp2_with fail
    rw [← HX10.out, ← HG10.out]
    refine C.out.mono ?_
    rintro e w5 ⟨v, rfl, hv, hb⟩
    have KB_ := Lib.hid (Below.thn KB.out hb)
    have KS_ := Lib.hid (KS.out.below hb)
    have I7_ := Lib.hid (I7.out.below hb)
    have BX7_ := Lib.hid (BX7.out.below hb)
    have I10_ := Lib.hid (I10.out.below hb)
    have BX10_ := Lib.hid (BX10.out.below hb)
    clear KB KS I7 BX7 I10 BX10
    have KB := KB_
    clear KB_
    have KS := KS_
    clear KS_
    have I7 := I7_
    clear I7_
    have BX7 := BX7_
    clear BX7_
    have I10 := I10_
    clear I10_
    have BX10 := BX10_
    clear BX10_
    clear C
    obtain ⟨A13, n13, c13, rfl, p131, p132, p133⟩ := hv
    have I13 := Lib.hid p133
    clear p133 hb
    have C := Lib.hid (refParse_any A n c b w5 KS.out hnc hc (by omega))
    unfold ParseE at C
    rw [← hpr] at C
    simp only at C
    go_wp2_with fail
    refine C.out.mono ?_
    rintro e w6 ⟨v, rfl, hv, hb⟩
    have KB_ := Lib.hid (Below.thn KB.out hb)
    have KS_ := Lib.hid (KS.out.below hb)
    have I7_ := Lib.hid (I7.out.below hb)
    have BX7_ := Lib.hid (BX7.out.below hb)
    have I10_ := Lib.hid (I10.out.below hb)
    have BX10_ := Lib.hid (BX10.out.below hb)
    have I13_ := Lib.hid (I13.out.below hb)
    clear KB KS I7 BX7 I10 BX10 I13
    have KB := KB_
    clear KB_
    have KS := KS_
    clear KS_
    have I7 := I7_
    clear I7_
    have BX7 := BX7_
    clear BX7_
    have I10 := I10_
    clear I10_
    have BX10 := BX10_
    clear BX10_
    have I13 := I13_
    clear I13_
    clear C
    obtain ⟨A15, n15, c15, rfl, p151, p152, p153⟩ := hv
    have I15 := Lib.hid p153
    clear p153 hb
    obtain ⟨⟨⟨d2, xs2⟩, is⟩, hfn⟩ : ∃ x, x = fndP (allL b 0) prev := ⟨_, rfl⟩
    have hd2 : d2 ≤ 4294967295 := by have := fndP_doc (allL b 0) prev; rw [← hfn] at this; simp only at this; omega
    have C := Lib.hid (Find_any A n c b prev w6 KS.out hnc hc (by omega) (by omega))
    unfold FindE at C
    rw [← hfn] at C
    simp only at C
    go_wp2_with fail
    refine C.out.mono ?_
    rintro e w7 ⟨u, rfl, ho, hb⟩
    have KB_ := Lib.hid (Below.thn KB.out hb)
    have KS_ := Lib.hid (KS.out.below hb)
    have I7_ := Lib.hid (I7.out.below hb)
    have BX7_ := Lib.hid (BX7.out.below hb)
    have I10_ := Lib.hid (I10.out.below hb)
    have BX10_ := Lib.hid (BX10.out.below hb)
    have I13_ := Lib.hid (I13.out.below hb)
    have I15_ := Lib.hid (I15.out.below hb)
    clear KB KS I7 BX7 I10 BX10 I13 I15
    have KB := KB_
    clear KB_
    have KS := KS_
    clear KS_
    have I7 := I7_
    clear I7_
    have BX7 := BX7_
    clear BX7_
    have I10 := I10_
    clear I10_
    have BX10 := BX10_
    clear BX10_
    have I13 := I13_
    clear I13_
    have I15 := I15_
    clear I15_
    clear C
    obtain ⟨A17, c17, hu, p171, p172, p173⟩ := ho.rd
    subst hu
    obtain ⟨n17, hn17⟩ : ∃ n17, n17 = (xs2).length := ⟨_, rfl⟩
    rw [← hn17] at ho p171 p173 ⊢
    have I17 := Lib.hid p173
    clear ho p173 hn17
    have hba := (Below.refl w7.heap.size w7).alloc (Nat.le_refl _) (.cells #[.int .u32 (d2 : Nat), .slice A17 n17 c17] 32)
    have hbx := Box2.new w7 32 (.int .u32 (d2 : Nat)) (.slice A17 n17 c17)
    obtain ⟨g17, hg17⟩ : ∃ g, g = w7.heap.size := ⟨_, rfl⟩
    obtain ⟨x17, hx17⟩ : ∃ x, x = w7.alloc (.cells #[.int .u32 (d2 : Nat), .slice A17 n17 c17] 32) := ⟨_, rfl⟩
    rw [← hx17] at hba hbx
    rw [← hg17] at hbx
    have KB_ := Lib.hid (Below.thn KB.out hba)
    have KS_ := Lib.hid (KS.out.below hba)
    have I7_ := Lib.hid (I7.out.below hba)
    have BX7_ := Lib.hid (BX7.out.below hba)
    have I10_ := Lib.hid (I10.out.below hba)
    have BX10_ := Lib.hid (BX10.out.below hba)
    have I13_ := Lib.hid (I13.out.below hba)
    have I15_ := Lib.hid (I15.out.below hba)
    have I17_ := Lib.hid (I17.out.below hba)
    clear KB KS I7 BX7 I10 BX10 I13 I15 I17
    have KB := KB_
    clear KB_
    have KS := KS_
    clear KS_
    have I7 := I7_
    clear I7_
    have BX7 := BX7_
    clear BX7_
    have I10 := I10_
    clear I10_
    have BX10 := BX10_
    clear BX10_
    have I13 := I13_
    clear I13_
    have I15 := I15_
    clear I15_
    have I17 := I17_
    clear I17_
    have BX17 := Lib.hid hbx
    have HX17 := Lib.hid hx17
    have HG17 := Lib.hid hg17
    clear hba hbx hx17 hg17 hb
    have C := Lib.hid (refFind_any A n c b prev x17 KS.out hnc hc (by omega) (by omega))
    unfold FindR at C
    rw [← hfn] at C
    simp only at C
    go_wp2_with fail
    rw [← HX17.out, ← HG17.out]
    refine C.out.mono ?_
    rintro e w8 ⟨u, rfl, ⟨A19, n19, c19, rfl, p191, p192, p193⟩, hb⟩
    have KB_ := Lib.hid (Below.thn KB.out hb)
    have KS_ := Lib.hid (KS.out.below hb)
    have I7_ := Lib.hid (I7.out.below hb)
    have BX7_ := Lib.hid (BX7.out.below hb)
    have I10_ := Lib.hid (I10.out.below hb)
    have BX10_ := Lib.hid (BX10.out.below hb)
    have I13_ := Lib.hid (I13.out.below hb)
    have I15_ := Lib.hid (I15.out.below hb)
    have I17_ := Lib.hid (I17.out.below hb)
    have BX17_ := Lib.hid (BX17.out.below hb)
    clear KB KS I7 BX7 I10 BX10 I13 I15 I17 BX17
    have KB := KB_
    clear KB_
    have KS := KS_
    clear KS_
    have I7 := I7_
    clear I7_
    have BX7 := BX7_
    clear BX7_
    have I10 := I10_
    clear I10_
    have BX10 := BX10_
    clear BX10_
    have I13 := I13_
    clear I13_
    have I15 := I15_
    clear I15_
    have I17 := I17_
    clear I17_
    have BX17 := BX17_
    clear BX17_
    clear C
    have I19 := Lib.hid p193
    clear p193
    have hba := (Below.refl w8.heap.size w8).alloc (Nat.le_refl _) (.cells #[.int .u32 (d2 : Nat), .slice A19 n19 c19] 32)
    have hbx := Box2.new w8 32 (.int .u32 (d2 : Nat)) (.slice A19 n19 c19)
    obtain ⟨g19, hg19⟩ : ∃ g, g = w8.heap.size := ⟨_, rfl⟩
    obtain ⟨x19, hx19⟩ : ∃ x, x = w8.alloc (.cells #[.int .u32 (d2 : Nat), .slice A19 n19 c19] 32) := ⟨_, rfl⟩
    rw [← hx19] at hba hbx
    rw [← hg19] at hbx
    have KB_ := Lib.hid (Below.thn KB.out hba)
    have KS_ := Lib.hid (KS.out.below hba)
    have I7_ := Lib.hid (I7.out.below hba)
    have BX7_ := Lib.hid (BX7.out.below hba)
    have I10_ := Lib.hid (I10.out.below hba)
    have BX10_ := Lib.hid (BX10.out.below hba)
    have I13_ := Lib.hid (I13.out.below hba)
    have I15_ := Lib.hid (I15.out.below hba)
    have I17_ := Lib.hid (I17.out.below hba)
    have BX17_ := Lib.hid (BX17.out.below hba)
    have I19_ := Lib.hid (I19.out.below hba)
    clear KB KS I7 BX7 I10 BX10 I13 I15 I17 BX17 I19
    have KB := KB_
    clear KB_
    have KS := KS_
    clear KS_
    have I7 := I7_
    clear I7_
    have BX7 := BX7_
    clear BX7_
    have I10 := I10_
    clear I10_
    have BX10 := BX10_
    clear BX10_
    have I13 := I13_
    clear I13_
    have I15 := I15_
    clear I15_
    have I17 := I17_
    clear I17_
    have BX17 := BX17_
    clear BX17_
    have I19 := I19_
    clear I19_
    have BX19 := Lib.hid hbx
    have HX19 := Lib.hid hx19
    have HG19 := Lib.hid hg19
    clear hba hbx hx19 hg19 hb
    obtain ⟨L, hL⟩ : ∃ L, L = allL b prev := ⟨_, rfl⟩
    have C := Lib.hid (refAll_any A n c b prev x19 KS.out hnc hc (by omega) hp)
    unfold ToldE at C
    rw [← hL] at C
    go_wp2_with fail
    rw [← HX19.out, ← HG19.out]
    refine C.out.mono ?_
    rintro e w9 ⟨v, u, rfl, hv, hu, hb⟩
    have KB_ := Lib.hid (Below.thn KB.out hb)
    have KS_ := Lib.hid (KS.out.below hb)
    have I7_ := Lib.hid (I7.out.below hb)
    have BX7_ := Lib.hid (BX7.out.below hb)
    have I10_ := Lib.hid (I10.out.below hb)
    have BX10_ := Lib.hid (BX10.out.below hb)
    have I13_ := Lib.hid (I13.out.below hb)
    have I15_ := Lib.hid (I15.out.below hb)
    have I17_ := Lib.hid (I17.out.below hb)
    have BX17_ := Lib.hid (BX17.out.below hb)
    have I19_ := Lib.hid (I19.out.below hb)
    have BX19_ := Lib.hid (BX19.out.below hb)
    clear KB KS I7 BX7 I10 BX10 I13 I15 I17 BX17 I19 BX19
    have KB := KB_
    clear KB_
    have KS := KS_
    clear KS_
    have I7 := I7_
    clear I7_
    have BX7 := BX7_
    clear BX7_
    have I10 := I10_
    clear I10_
    have BX10 := BX10_
    clear BX10_
    have I13 := I13_
    clear I13_
    have I15 := I15_
    clear I15_
    have I17 := I17_
    clear I17_
    have BX17 := BX17_
    clear BX17_
    have I19 := I19_
    clear I19_
    have BX19 := BX19_
    clear BX19_
    clear C
    obtain ⟨A21, n21, c21, rfl, p211, p212, p213⟩ := hv
    have I21 := Lib.hid p213
    clear p213
    obtain ⟨A22, n22, c22, rfl, p221, p222, p223⟩ := hu
    have I22 := Lib.hid p223
    clear p223 hb
    go_wp2_with fail
    refine (All_any A n c (prev : Nat) w9).mono ?_
    rintro e w10 ⟨rfl, hWa⟩
    have h5 := Boxed.new w9 23 (.slice A n c)
    have h6 := Boxed.new (w9.alloc (.cells #[.slice A n c] 23)) 29 (.int .u32 (prev : Nat))
    have h5' := h5.alloc (.cells #[.int .u32 (prev : Nat)] 29)
    rw [← hWa] at h5' h6
    have hb : Below w9.heap.size w9 w10 := by rw [hWa]; exact ((Below.refl _ _).alloc (Nat.le_refl _) _).alloc (by simp) _
    simp only [World.size_alloc] at h6
    have KB_ := Lib.hid (Below.thn KB.out hb)
    have KS_ := Lib.hid (KS.out.below hb)
    have I7_ := Lib.hid (I7.out.below hb)
    have BX7_ := Lib.hid (BX7.out.below hb)
    have I10_ := Lib.hid (I10.out.below hb)
    have BX10_ := Lib.hid (BX10.out.below hb)
    have I13_ := Lib.hid (I13.out.below hb)
    have I15_ := Lib.hid (I15.out.below hb)
    have I17_ := Lib.hid (I17.out.below hb)
    have BX17_ := Lib.hid (BX17.out.below hb)
    have I19_ := Lib.hid (I19.out.below hb)
    have BX19_ := Lib.hid (BX19.out.below hb)
    have I21_ := Lib.hid (I21.out.below hb)
    have I22_ := Lib.hid (I22.out.below hb)
    clear KB KS I7 BX7 I10 BX10 I13 I15 I17 BX17 I19 BX19 I21 I22
    have KB := KB_
    clear KB_
    have KS := KS_
    clear KS_
    have I7 := I7_
    clear I7_
    have BX7 := BX7_
    clear BX7_
    have I10 := I10_
    clear I10_
    have BX10 := BX10_
    clear BX10_
    have I13 := I13_
    clear I13_
    have I15 := I15_
    clear I15_
    have I17 := I17_
    clear I17_
    have BX17 := BX17_
    clear BX17_
    have I19 := I19_
    clear I19_
    have BX19 := BX19_
    clear BX19_
    have I21 := I21_
    clear I21_
    have I22 := I22_
    clear I22_
    have h6c := h6.cell
    clear hWa h5 hb h6
    have C := Lib.hid (told_any (w9.heap.size + 1) w9.heap.size A n c b prev 1048576 w10 KS.out hnc hc (by omega) hp (by decide) h6c h5')
    unfold ToldE at C
    rw [all_take (by rw [HLn.out]; omega) prev, ← hL] at C
    clear h6c h5'
    go_wp2_with fail
    refine C.out.mono ?_
    rintro e w11 ⟨v, u, rfl, hv, hu, hb⟩
    have KB_ := Lib.hid (Below.thn KB.out hb)
    have KS_ := Lib.hid (KS.out.below hb)
    have I7_ := Lib.hid (I7.out.below hb)
    have BX7_ := Lib.hid (BX7.out.below hb)
    have I10_ := Lib.hid (I10.out.below hb)
    have BX10_ := Lib.hid (BX10.out.below hb)
    have I13_ := Lib.hid (I13.out.below hb)
    have I15_ := Lib.hid (I15.out.below hb)
    have I17_ := Lib.hid (I17.out.below hb)
    have BX17_ := Lib.hid (BX17.out.below hb)
    have I19_ := Lib.hid (I19.out.below hb)
    have BX19_ := Lib.hid (BX19.out.below hb)
    have I21_ := Lib.hid (I21.out.below hb)
    have I22_ := Lib.hid (I22.out.below hb)
    clear KB KS I7 BX7 I10 BX10 I13 I15 I17 BX17 I19 BX19 I21 I22
    have KB := KB_
    clear KB_
    have KS := KS_
    clear KS_
    have I7 := I7_
    clear I7_
    have BX7 := BX7_
    clear BX7_
    have I10 := I10_
    clear I10_
    have BX10 := BX10_
    clear BX10_
    have I13 := I13_
    clear I13_
    have I15 := I15_
    clear I15_
    have I17 := I17_
    clear I17_
    have BX17 := BX17_
    clear BX17_
    have I19 := I19_
    clear I19_
    have BX19 := BX19_
    clear BX19_
    have I21 := I21_
    clear I21_
    have I22 := I22_
    clear I22_
    clear C
    obtain ⟨A23, n23, c23, rfl, p231, p232, p233⟩ := hv
    have I23 := Lib.hid p233
    clear p233
    obtain ⟨A24, n24, c24, rfl, p241, p242, p243⟩ := hu
    have I24 := Lib.hid p243
    clear p243 hb
    go_wp2_with fail
    refine (All_any A n c (prev : Nat) w11).mono ?_
    rintro e w12 ⟨rfl, hWa⟩
    have h5 := Boxed.new w11 23 (.slice A n c)
    have h6 := Boxed.new (w11.alloc (.cells #[.slice A n c] 23)) 29 (.int .u32 (prev : Nat))
    have h5' := h5.alloc (.cells #[.int .u32 (prev : Nat)] 29)
    rw [← hWa] at h5' h6
    have hb : Below w11.heap.size w11 w12 := by rw [hWa]; exact ((Below.refl _ _).alloc (Nat.le_refl _) _).alloc (by simp) _
    simp only [World.size_alloc] at h6
    have KB_ := Lib.hid (Below.thn KB.out hb)
    have KS_ := Lib.hid (KS.out.below hb)
    have I7_ := Lib.hid (I7.out.below hb)
    have BX7_ := Lib.hid (BX7.out.below hb)
    have I10_ := Lib.hid (I10.out.below hb)
    have BX10_ := Lib.hid (BX10.out.below hb)
    have I13_ := Lib.hid (I13.out.below hb)
    have I15_ := Lib.hid (I15.out.below hb)
    have I17_ := Lib.hid (I17.out.below hb)
    have BX17_ := Lib.hid (BX17.out.below hb)
    have I19_ := Lib.hid (I19.out.below hb)
    have BX19_ := Lib.hid (BX19.out.below hb)
    have I21_ := Lib.hid (I21.out.below hb)
    have I22_ := Lib.hid (I22.out.below hb)
    have I23_ := Lib.hid (I23.out.below hb)
    have I24_ := Lib.hid (I24.out.below hb)
    clear KB KS I7 BX7 I10 BX10 I13 I15 I17 BX17 I19 BX19 I21 I22 I23 I24
    have KB := KB_
    clear KB_
    have KS := KS_
    clear KS_
    have I7 := I7_
    clear I7_
    have BX7 := BX7_
    clear BX7_
    have I10 := I10_
    clear I10_
    have BX10 := BX10_
    clear BX10_
    have I13 := I13_
    clear I13_
    have I15 := I15_
    clear I15_
    have I17 := I17_
    clear I17_
    have BX17 := BX17_
    clear BX17_
    have I19 := I19_
    clear I19_
    have BX19 := BX19_
    clear BX19_
    have I21 := I21_
    clear I21_
    have I22 := I22_
    clear I22_
    have I23 := I23_
    clear I23_
    have I24 := I24_
    clear I24_
    have h6c := h6.cell
    clear hWa h5 hb h6
    have C := Lib.hid (told_any (w11.heap.size + 1) w11.heap.size A n c b prev 2 w12 KS.out hnc hc (by omega) hp (by decide) h6c h5')
    unfold ToldE at C
    rw [← hL] at C
    clear h6c h5'
    go_wp2_with fail
    refine C.out.mono ?_
    rintro e w13 ⟨v, u, rfl, hv, hu, hb⟩
    have KB_ := Lib.hid (Below.thn KB.out hb)
    have KS_ := Lib.hid (KS.out.below hb)
    have I7_ := Lib.hid (I7.out.below hb)
    have BX7_ := Lib.hid (BX7.out.below hb)
    have I10_ := Lib.hid (I10.out.below hb)
    have BX10_ := Lib.hid (BX10.out.below hb)
    have I13_ := Lib.hid (I13.out.below hb)
    have I15_ := Lib.hid (I15.out.below hb)
    have I17_ := Lib.hid (I17.out.below hb)
    have BX17_ := Lib.hid (BX17.out.below hb)
    have I19_ := Lib.hid (I19.out.below hb)
    have BX19_ := Lib.hid (BX19.out.below hb)
    have I21_ := Lib.hid (I21.out.below hb)
    have I22_ := Lib.hid (I22.out.below hb)
    have I23_ := Lib.hid (I23.out.below hb)
    have I24_ := Lib.hid (I24.out.below hb)
    clear KB KS I7 BX7 I10 BX10 I13 I15 I17 BX17 I19 BX19 I21 I22 I23 I24
    have KB := KB_
    clear KB_
    have KS := KS_
    clear KS_
    have I7 := I7_
    clear I7_
    have BX7 := BX7_
    clear BX7_
    have I10 := I10_
    clear I10_
    have BX10 := BX10_
    clear BX10_
    have I13 := I13_
    clear I13_
    have I15 := I15_
    clear I15_
    have I17 := I17_
    clear I17_
    have BX17 := BX17_
    clear BX17_
    have I19 := I19_
    clear I19_
    have BX19 := BX19_
    clear BX19_
    have I21 := I21_
    clear I21_
    have I22 := I22_
    clear I22_
    have I23 := I23_
    clear I23_
    have I24 := I24_
    clear I24_
    clear C
    obtain ⟨A25, n25, c25, rfl, p251, p252, p253⟩ := hv
    have I25 := Lib.hid p253
    clear p253
    obtain ⟨A26, n26, c26, rfl, p261, p262, p263⟩ := hu
    have I26 := Lib.hid p263
    clear p263 hb
    obtain ⟨c0, c1, _, _⟩ := BX7.out.facts
    obtain ⟨e0, e1, _, _⟩ := BX10.out.facts
    have C := Lib.hid (refSame_pv (.agg #[.int .u32 (d1 : Nat), .slice A7 n7 c7]) (.agg #[.int .u32 (d1 : Nat), .slice A10 n10 c10]) (d1, xs1) (d1, xs1) w13 (RdPo.pv I7.out q71 q72 hd1) (RdPo.pv I10.out p101 p102 hd1))
    rw [decide_eq_true rfl] at C
    go_wp2_with fail
    refine C.out.mono ?_
    rintro e w14 ⟨rfl, hb⟩
    have KB_ := Lib.hid (Below.thn KB.out hb)
    have KS_ := Lib.hid (KS.out.below hb)
    have I7_ := Lib.hid (I7.out.below hb)
    have BX7_ := Lib.hid (BX7.out.below hb)
    have I10_ := Lib.hid (I10.out.below hb)
    have BX10_ := Lib.hid (BX10.out.below hb)
    have I13_ := Lib.hid (I13.out.below hb)
    have I15_ := Lib.hid (I15.out.below hb)
    have I17_ := Lib.hid (I17.out.below hb)
    have BX17_ := Lib.hid (BX17.out.below hb)
    have I19_ := Lib.hid (I19.out.below hb)
    have BX19_ := Lib.hid (BX19.out.below hb)
    have I21_ := Lib.hid (I21.out.below hb)
    have I22_ := Lib.hid (I22.out.below hb)
    have I23_ := Lib.hid (I23.out.below hb)
    have I24_ := Lib.hid (I24.out.below hb)
    have I25_ := Lib.hid (I25.out.below hb)
    have I26_ := Lib.hid (I26.out.below hb)
    clear KB KS I7 BX7 I10 BX10 I13 I15 I17 BX17 I19 BX19 I21 I22 I23 I24 I25 I26
    have KB := KB_
    clear KB_
    have KS := KS_
    clear KS_
    have I7 := I7_
    clear I7_
    have BX7 := BX7_
    clear BX7_
    have I10 := I10_
    clear I10_
    have BX10 := BX10_
    clear BX10_
    have I13 := I13_
    clear I13_
    have I15 := I15_
    clear I15_
    have I17 := I17_
    clear I17_
    have BX17 := BX17_
    clear BX17_
    have I19 := I19_
    clear I19_
    have BX19 := BX19_
    clear BX19_
    have I21 := I21_
    clear I21_
    have I22 := I22_
    clear I22_
    have I23 := I23_
    clear I23_
    have I24 := I24_
    clear I24_
    have I25 := I25_
    clear I25_
    have I26 := I26_
    clear I26_
    clear C
    clear hb
    clear c0 c1 e0 e1
    have C := Lib.hid (SameAll_any A13 A15 n13 n15 c13 c15 pl pl w14 I13.out I15.out)
    rw [decide_eq_true rfl] at C
    go_wp2_with fail
    refine C.out.mono ?_
    rintro e w15 ⟨rfl, hb⟩
    have KB_ := Lib.hid (Below.thn KB.out hb)
    have KS_ := Lib.hid (KS.out.below hb)
    have I7_ := Lib.hid (I7.out.below hb)
    have BX7_ := Lib.hid (BX7.out.below hb)
    have I10_ := Lib.hid (I10.out.below hb)
    have BX10_ := Lib.hid (BX10.out.below hb)
    have I13_ := Lib.hid (I13.out.below hb)
    have I15_ := Lib.hid (I15.out.below hb)
    have I17_ := Lib.hid (I17.out.below hb)
    have BX17_ := Lib.hid (BX17.out.below hb)
    have I19_ := Lib.hid (I19.out.below hb)
    have BX19_ := Lib.hid (BX19.out.below hb)
    have I21_ := Lib.hid (I21.out.below hb)
    have I22_ := Lib.hid (I22.out.below hb)
    have I23_ := Lib.hid (I23.out.below hb)
    have I24_ := Lib.hid (I24.out.below hb)
    have I25_ := Lib.hid (I25.out.below hb)
    have I26_ := Lib.hid (I26.out.below hb)
    clear KB KS I7 BX7 I10 BX10 I13 I15 I17 BX17 I19 BX19 I21 I22 I23 I24 I25 I26
    have KB := KB_
    clear KB_
    have KS := KS_
    clear KS_
    have I7 := I7_
    clear I7_
    have BX7 := BX7_
    clear BX7_
    have I10 := I10_
    clear I10_
    have BX10 := BX10_
    clear BX10_
    have I13 := I13_
    clear I13_
    have I15 := I15_
    clear I15_
    have I17 := I17_
    clear I17_
    have BX17 := BX17_
    clear BX17_
    have I19 := I19_
    clear I19_
    have BX19 := BX19_
    clear BX19_
    have I21 := I21_
    clear I21_
    have I22 := I22_
    clear I22_
    have I23 := I23_
    clear I23_
    have I24 := I24_
    clear I24_
    have I25 := I25_
    clear I25_
    have I26 := I26_
    clear I26_
    clear C
    clear hb
    obtain ⟨c0, c1, _, _⟩ := BX17.out.facts
    obtain ⟨e0, e1, _, _⟩ := BX19.out.facts
    have C := Lib.hid (refSame_pv (.agg #[.int .u32 (d2 : Nat), .slice A17 n17 c17]) (.agg #[.int .u32 (d2 : Nat), .slice A19 n19 c19]) (d2, xs2) (d2, xs2) w15 (RdPo.pv I17.out p171 p172 hd2) (RdPo.pv I19.out p191 p192 hd2))
    rw [decide_eq_true rfl] at C
    go_wp2_with fail
    refine C.out.mono ?_
    rintro e w16 ⟨rfl, hb⟩
    have KB_ := Lib.hid (Below.thn KB.out hb)
    have KS_ := Lib.hid (KS.out.below hb)
    have I7_ := Lib.hid (I7.out.below hb)
    have BX7_ := Lib.hid (BX7.out.below hb)
    have I10_ := Lib.hid (I10.out.below hb)
    have BX10_ := Lib.hid (BX10.out.below hb)
    have I13_ := Lib.hid (I13.out.below hb)
    have I15_ := Lib.hid (I15.out.below hb)
    have I17_ := Lib.hid (I17.out.below hb)
    have BX17_ := Lib.hid (BX17.out.below hb)
    have I19_ := Lib.hid (I19.out.below hb)
    have BX19_ := Lib.hid (BX19.out.below hb)
    have I21_ := Lib.hid (I21.out.below hb)
    have I22_ := Lib.hid (I22.out.below hb)
    have I23_ := Lib.hid (I23.out.below hb)
    have I24_ := Lib.hid (I24.out.below hb)
    have I25_ := Lib.hid (I25.out.below hb)
    have I26_ := Lib.hid (I26.out.below hb)
    clear KB KS I7 BX7 I10 BX10 I13 I15 I17 BX17 I19 BX19 I21 I22 I23 I24 I25 I26
    have KB := KB_
    clear KB_
    have KS := KS_
    clear KS_
    have I7 := I7_
    clear I7_
    have BX7 := BX7_
    clear BX7_
    have I10 := I10_
    clear I10_
    have BX10 := BX10_
    clear BX10_
    have I13 := I13_
    clear I13_
    have I15 := I15_
    clear I15_
    have I17 := I17_
    clear I17_
    have BX17 := BX17_
    clear BX17_
    have I19 := I19_
    clear I19_
    have BX19 := BX19_
    clear BX19_
    have I21 := I21_
    clear I21_
    have I22 := I22_
    clear I22_
    have I23 := I23_
    clear I23_
    have I24 := I24_
    clear I24_
    have I25 := I25_
    clear I25_
    have I26 := I26_
    clear I26_
    clear C
    clear hb
    clear c0 c1 e0 e1
    have C := Lib.hid (SameAll_any A23 A21 n23 n21 c23 c21 (L.map (·.2)) (L.map (·.2)) w16 I23.out I21.out)
    rw [decide_eq_true rfl] at C
    go_wp2_with fail
    refine C.out.mono ?_
    rintro e w17 ⟨rfl, hb⟩
    have KB_ := Lib.hid (Below.thn KB.out hb)
    have KS_ := Lib.hid (KS.out.below hb)
    have I7_ := Lib.hid (I7.out.below hb)
    have BX7_ := Lib.hid (BX7.out.below hb)
    have I10_ := Lib.hid (I10.out.below hb)
    have BX10_ := Lib.hid (BX10.out.below hb)
    have I13_ := Lib.hid (I13.out.below hb)
    have I15_ := Lib.hid (I15.out.below hb)
    have I17_ := Lib.hid (I17.out.below hb)
    have BX17_ := Lib.hid (BX17.out.below hb)
    have I19_ := Lib.hid (I19.out.below hb)
    have BX19_ := Lib.hid (BX19.out.below hb)
    have I21_ := Lib.hid (I21.out.below hb)
    have I22_ := Lib.hid (I22.out.below hb)
    have I23_ := Lib.hid (I23.out.below hb)
    have I24_ := Lib.hid (I24.out.below hb)
    have I25_ := Lib.hid (I25.out.below hb)
    have I26_ := Lib.hid (I26.out.below hb)
    clear KB KS I7 BX7 I10 BX10 I13 I15 I17 BX17 I19 BX19 I21 I22 I23 I24 I25 I26
    have KB := KB_
    clear KB_
    have KS := KS_
    clear KS_
    have I7 := I7_
    clear I7_
    have BX7 := BX7_
    clear BX7_
    have I10 := I10_
    clear I10_
    have BX10 := BX10_
    clear BX10_
    have I13 := I13_
    clear I13_
    have I15 := I15_
    clear I15_
    have I17 := I17_
    clear I17_
    have BX17 := BX17_
    clear BX17_
    have I19 := I19_
    clear I19_
    have BX19 := BX19_
    clear BX19_
    have I21 := I21_
    clear I21_
    have I22 := I22_
    clear I22_
    have I23 := I23_
    clear I23_
    have I24 := I24_
    clear I24_
    have I25 := I25_
    clear I25_
    have I26 := I26_
    clear I26_
    clear C
    clear hb
    have C := Lib.hid (equalI_any A24 A22 n24 n22 c24 c22 _ _ w17 I24.out I22.out)
    rw [decide_eq_true rfl] at C
    go_wp2_with fail
    refine C.out.mono ?_
    rintro e w18 ⟨rfl, hb⟩
    have KB_ := Lib.hid (Below.thn KB.out hb)
    have KS_ := Lib.hid (KS.out.below hb)
    have I7_ := Lib.hid (I7.out.below hb)
    have BX7_ := Lib.hid (BX7.out.below hb)
    have I10_ := Lib.hid (I10.out.below hb)
    have BX10_ := Lib.hid (BX10.out.below hb)
    have I13_ := Lib.hid (I13.out.below hb)
    have I15_ := Lib.hid (I15.out.below hb)
    have I17_ := Lib.hid (I17.out.below hb)
    have BX17_ := Lib.hid (BX17.out.below hb)
    have I19_ := Lib.hid (I19.out.below hb)
    have BX19_ := Lib.hid (BX19.out.below hb)
    have I21_ := Lib.hid (I21.out.below hb)
    have I22_ := Lib.hid (I22.out.below hb)
    have I23_ := Lib.hid (I23.out.below hb)
    have I24_ := Lib.hid (I24.out.below hb)
    have I25_ := Lib.hid (I25.out.below hb)
    have I26_ := Lib.hid (I26.out.below hb)
    clear KB KS I7 BX7 I10 BX10 I13 I15 I17 BX17 I19 BX19 I21 I22 I23 I24 I25 I26
    have KB := KB_
    clear KB_
    have KS := KS_
    clear KS_
    have I7 := I7_
    clear I7_
    have BX7 := BX7_
    clear BX7_
    have I10 := I10_
    clear I10_
    have BX10 := BX10_
    clear BX10_
    have I13 := I13_
    clear I13_
    have I15 := I15_
    clear I15_
    have I17 := I17_
    clear I17_
    have BX17 := BX17_
    clear BX17_
    have I19 := I19_
    clear I19_
    have BX19 := BX19_
    clear BX19_
    have I21 := I21_
    clear I21_
    have I22 := I22_
    clear I22_
    have I23 := I23_
    clear I23_
    have I24 := I24_
    clear I24_
    have I25 := I25_
    clear I25_
    have I26 := I26_
    clear I26_
    clear C
    clear hb
    have hnl : n21 = L.length := by rw [← I21.out.len]; simp
    obtain ⟨mn, hmn⟩ : ∃ mn, mn = min L.length 2 := ⟨_, rfl⟩
    have hmin : (if (2 : Int) < (n21 : Int) then (2 : Int) else (n21 : Int)) = (mn : Int) := by split <;> omega
    have hmin2 : (if (n21 : Int) < (2 : Int) then (n21 : Int) else (2 : Int)) = (mn : Int) := by split <;> omega
    have hmn1 : mn ≤ n21 := by omega
    have hmn2 : mn ≤ c21 := by omega
    have hlm : ((L.take 2).map (·.2)) = (L.map (·.2)).take mn := by
      rw [← List.map_take, hmn]
      congr 1
      rcases Nat.le_total L.length 2 with h | h
      · rw [Nat.min_eq_left h, List.take_of_length_le h, List.take_of_length_le (Nat.le_refl _)]
      · rw [Nat.min_eq_right h]
    clear hmn hnl
    have C := Lib.hid (SameAll_any A25 A21 n25 mn c25 c21 ((L.take 2).map (·.2)) ((L.map (·.2)).take mn) w18 I25.out (I21.out.take mn hmn1))
    rw [decide_eq_true hlm] at C
    go_wp2_with fail
    refine C.out.mono ?_
    rintro e w19 ⟨rfl, hb⟩
    have KB_ := Lib.hid (Below.thn KB.out hb)
    have KS_ := Lib.hid (KS.out.below hb)
    have I7_ := Lib.hid (I7.out.below hb)
    have BX7_ := Lib.hid (BX7.out.below hb)
    have I10_ := Lib.hid (I10.out.below hb)
    have BX10_ := Lib.hid (BX10.out.below hb)
    have I13_ := Lib.hid (I13.out.below hb)
    have I15_ := Lib.hid (I15.out.below hb)
    have I17_ := Lib.hid (I17.out.below hb)
    have BX17_ := Lib.hid (BX17.out.below hb)
    have I19_ := Lib.hid (I19.out.below hb)
    have BX19_ := Lib.hid (BX19.out.below hb)
    have I21_ := Lib.hid (I21.out.below hb)
    have I22_ := Lib.hid (I22.out.below hb)
    have I23_ := Lib.hid (I23.out.below hb)
    have I24_ := Lib.hid (I24.out.below hb)
    have I25_ := Lib.hid (I25.out.below hb)
    have I26_ := Lib.hid (I26.out.below hb)
    clear KB KS I7 BX7 I10 BX10 I13 I15 I17 BX17 I19 BX19 I21 I22 I23 I24 I25 I26
    have KB := KB_
    clear KB_
    have KS := KS_
    clear KS_
    have I7 := I7_
    clear I7_
    have BX7 := BX7_
    clear BX7_
    have I10 := I10_
    clear I10_
    have BX10 := BX10_
    clear BX10_
    have I13 := I13_
    clear I13_
    have I15 := I15_
    clear I15_
    have I17 := I17_
    clear I17_
    have BX17 := BX17_
    clear BX17_
    have I19 := I19_
    clear I19_
    have BX19 := BX19_
    clear BX19_
    have I21 := I21_
    clear I21_
    have I22 := I22_
    clear I22_
    have I23 := I23_
    clear I23_
    have I24 := I24_
    clear I24_
    have I25 := I25_
    clear I25_
    have I26 := I26_
    clear I26_
    clear C
    clear hb
    go_wp2
    go_ret
    exact ⟨rfl, KB.out⟩
end Go.Proofs.Ytmonlookmnlgnaa
