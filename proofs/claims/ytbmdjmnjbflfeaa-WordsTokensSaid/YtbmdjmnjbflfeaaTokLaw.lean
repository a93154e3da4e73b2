/- The terms of any text are the document's: the law. -/
import Derived.Test.YtbmdjmnjbflfeaaRefTk
import Derived.Test.YtbmdjmnjbflfeaaFoldLaw
import Derived.BigQuiet
namespace Go.Proofs.Ytbmdjmnjbflfeaa
open Go.RowKit Go.Shelf
set_option linter.unusedVariables false
set_option linter.unusedSimpArgs false

abbrev clA (g : Nat) : Value := .func (.func 41) #[] #[.pointer (some ⟨g, 0, none⟩), .pointer (some ⟨g + 1, 0, none⟩)]
def SqA (w : World) (b g : Nat) (tk : List Tok) : Prop := SeqQ Fence.wide 9 Try.prog 41 #[.pointer (some ⟨g, 0, none⟩), .pointer (some ⟨g + 1, 0, none⟩)] encK b S33 tk w
theorem SqA.below {w w' : World} {b g : Nat} {tk : List Tok} (h : SqA w b g tk) (hb : Below w.heap.size w w') : SqA w' b g tk :=
  fun l J Jx W hW hJ hJx hY h0 => h l J Jx W (Below.thn hb hW) hJ hJx hY h0
theorem run_cutT_h (A : Option Addr) (n c m : Nat) (hc : m ≤ c) (W : World) : (Instr.slice 29 (.slice A n c) none (some (.int .i64 (m : Int))) none).run Try.prog W = .ok (.slice A m c) W := by
  rw [run_slice_h W 29 A n c (by rw [show Try.prog.elem 29 = 33 by kernel_rfl]; exact Try.underlying29) .i64 (m : Int) (Int.natCast_nonneg _) (by omega), show Try.prog.elem 29 = 33 by kernel_rfl]
  have hz : (sizeOf 33).run Try.prog W = .ok 2 W := by kernel_rfl
  simp [hz, sliced]
  intro _
  cases A <;> simp [Addr.add]
def TlF (A : Option Addr) (n c : Nat) (B : Option Addr) (m d : Nat) (cp : Int) (T : Option Addr) (nt ct x g : Nat) (A7 : Option Addr) (N7 c7 mn b : Nat) (tk : List Tok) (K : Nat) : Nat → Value → World → Prop
  | 0 => fun v w => v = confV A n c B m d cp
  | 1 => fun v w => v = .slice T nt ct
  | 2 => fun v w => ∃ (V27 : Value), v = V27 ∧ TS w V27 tk
  | 3 => fun v w => v = .slice A7 N7 c7
  | 4 => fun v w => v = .bool true
  | 5 => fun v w => v = .bool true
  | 6 => fun v w => v = confV A n c B m d cp
  | 7 => fun v w => v = .slice T nt ct
  | 8 => fun v w => ∃ (g33_ : Nat), v = clA g33_ ∧ SqA w b g33_ tk
  | 9 => fun v w => ∃ (V34 : Value), v = V34 ∧ TS w V34 tk
  | 10 => fun v w => v = .slice A7 N7 c7
  | 11 => fun v w => v = .bool true
  | 12 => fun v w => v = .bool true
  | 13 => fun v w => v = .bool true
  | 14 => fun v w => v = confV A n c B m d cp
  | 15 => fun v w => v = .slice T nt ct
  | 16 => fun v w => ∃ (g41_ : Nat), v = clA g41_ ∧ SqA w b g41_ tk
  | 17 => fun v w => v = .int .u8 (x : Nat)
  | 18 => fun v w => v = .int .i64 (x : Nat)
  | 19 => fun v w => ∃ (V44 : Value), v = V44 ∧ TS w V44 (tk.take x)
  | 20 => fun v w => v = .slice A7 N7 c7
  | 21 => fun v w => v = .slice A7 N7 c7
  | 22 => fun v w => v = .int .i64 (N7 : Nat)
  | 23 => fun v w => v = .int .u8 (x : Nat)
  | 24 => fun v w => v = .int .i64 (x : Nat)
  | 25 => fun v w => v = .int .i64 (mn : Nat)
  | 26 => fun v w => v = .slice A7 mn c7
  | 27 => fun v w => v = .bool true
  | 28 => fun v w => v = .bool true
  | 29 => fun v w => v = .bool true
  | 30 => fun v w => v = .slice T nt ct
  | 31 => fun v w => v = .int .i64 (K : Nat)
  | 32 => fun v w => v = .slice T nt ct
  | 33 => fun v w => v = .int .i64 (K : Nat)
  | 34 => fun v w => v = .bool true
  | 35 => fun v w => v = .bool true
  | 36 => fun v w => v = .bool true
  | _ => fun _ _ => True
theorem TlF.below (A : Option Addr) (n c : Nat) (B : Option Addr) (m d : Nat) (cp : Int) (T : Option Addr) (nt ct x g : Nat) (A7 : Option Addr) (N7 c7 mn b : Nat) (tk : List Tok) (K : Nat) : ∀ i v w w', Below w.heap.size w w' → TlF A n c B m d cp T nt ct x g A7 N7 c7 mn b tk K i v w → TlF A n c B m d cp T nt ct x g A7 N7 c7 mn b tk K i v w'
  | 0, _, _, _, _, h => h
  | 1, _, _, _, _, h => h
  | 2, _, _, _, hb, h => by
    obtain ⟨V27, e, g⟩ := h
    exact ⟨V27, e, TS.below g hb⟩
  | 3, _, _, _, _, h => h
  | 4, _, _, _, _, h => h
  | 5, _, _, _, _, h => h
  | 6, _, _, _, _, h => h
  | 7, _, _, _, _, h => h
  | 8, _, _, _, hb, h => by
    obtain ⟨g33_, e, g⟩ := h
    exact ⟨g33_, e, SqA.below g hb⟩
  | 9, _, _, _, hb, h => by
    obtain ⟨V34, e, g⟩ := h
    exact ⟨V34, e, TS.below g hb⟩
  | 10, _, _, _, _, h => h
  | 11, _, _, _, _, h => h
  | 12, _, _, _, _, h => h
  | 13, _, _, _, _, h => h
  | 14, _, _, _, _, h => h
  | 15, _, _, _, _, h => h
  | 16, _, _, _, hb, h => by
    obtain ⟨g41_, e, g⟩ := h
    exact ⟨g41_, e, SqA.below g hb⟩
  | 17, _, _, _, _, h => h
  | 18, _, _, _, _, h => h
  | 19, _, _, _, hb, h => by
    obtain ⟨V44, e, g⟩ := h
    exact ⟨V44, e, TS.below g hb⟩
  | 20, _, _, _, _, h => h
  | 21, _, _, _, _, h => h
  | 22, _, _, _, _, h => h
  | 23, _, _, _, _, h => h
  | 24, _, _, _, _, h => h
  | 25, _, _, _, _, h => h
  | 26, _, _, _, _, h => h
  | 27, _, _, _, _, h => h
  | 28, _, _, _, _, h => h
  | 29, _, _, _, _, h => h
  | 30, _, _, _, _, h => h
  | 31, _, _, _, _, h => h
  | 32, _, _, _, _, h => h
  | 33, _, _, _, _, h => h
  | 34, _, _, _, _, h => h
  | 35, _, _, _, _, h => h
  | 36, _, _, _, _, h => h
  | _ + 37, _, _, _, _, _ => trivial

set_option maxRecDepth 100000 in
set_option maxHeartbeats 8000000 in
theorem TokensLaw_any (A : Option Addr) (n c : Nat) (B : Option Addr) (m d : Nat) (cf : Cf) (T : Option Addr) (nt ct : Nat) (l : List Nat) (x : Nat) (w : World) (h : RdC0 w A n c B m d cf) (ht : RdB w T nt l) (htc : nt ≤ ct) (htc2 : ct ≤ 9223372036854775807) (hx : x < 256) :
    Calls Try.prog 3 #[confV A n c B m d cf.cap, .slice T nt ct, .int .u8 (x : Nat)] w fun e w' => e = .returned (.bool true) ∧ Below w.heap.size w w' := by
  have HR := Lib.hid h
  have HT := Lib.hid ht
  have HLn := Lib.hid ht.len
  clear ht
  obtain ⟨cp, hcp⟩ : ∃ cp, cp = cf.cap := ⟨_, rfl⟩
  have hbx := (Below.refl w.heap.size w).alloc (Nat.le_refl _) (.cells #[.slice A n c, .slice B m d, .int .i64 cp] 25)
  have hcell := World.alloc_heap_new w (.cells #[.slice A n c, .slice B m d, .int .i64 cp] 25)
  obtain ⟨w1, hw1⟩ : ∃ w1, w1 = w.alloc (.cells #[.slice A n c, .slice B m d, .int .i64 cp] 25) := ⟨_, rfl⟩
  obtain ⟨g, hg⟩ : ∃ g, g = w.heap.size := ⟨_, rfl⟩
  rw [← hw1] at hbx hcell
  rw [← hg] at hcell
  have HW1 := Lib.hid hw1
  have HG := Lib.hid hg
  have HCP := Lib.hid hcp
  have HB1 := Lib.hid hbx
  rw [← hcp]
  have HC1 := Lib.hid hcell
  clear h hw1 hg hcp hbx hcell
  go_enter Try.func3, Try.ntmps3
  go_wp2_with fail
  rw [← HW1.out, ← HG.out]
  clear HW1
  refine (live_any w1).mono ?_
  rintro e w2 ⟨rfl, hb⟩
  have HC2 := Lib.hid ((hb.block g (Array.getElem?_eq_some_iff.1 HC1.out).1).trans HC1.out)
  have HB2 := Lib.hid (Below.thn HB1.out hb)
  obtain ⟨c0, c1, c2⟩ := cells3 HC2.out
  have CF := Lib.hid (few1_any ⟨A, n, c, B, m, d, cf⟩ w2 (HR.out.below HB2.out))
  simp only at CF
  rw [← HCP.out] at CF
  clear hb HC1 HB1
  go_wp2_with fail
  refine CF.out.mono ?_
  rintro e w3 ⟨⟨b, rfl, hbf⟩, hb⟩
  have HC3 := Lib.hid ((hb.block g (Array.getElem?_eq_some_iff.1 HC2.out).1).trans HC2.out)
  have HB3 := Lib.hid (Below.thn HB2.out hb)
  have HFw := Lib.hid hbf
  clear hb hbf CF c0 c1 c2 HC2 HB2
  cases b
  case false =>
    go_wp2_with fail
    refine (live_any _).mono ?_
    rintro e w9 ⟨rfl, hb⟩
    have HB9 := Lib.hid (Below.thn HB3.out hb)
    clear hb
    go_wp2
    go_ret
    exact ⟨rfl, HB9.out⟩
  have hfw := HFw.out.1 (by simp)
  have HRC := Lib.hid (RdC0.full HR.out (by exact hfw.2.2))
  have hm100 : m ≤ 100 := hfw.2.1
  clear hfw HFw
  by_cases hbig : (2000 : Int) < (nt : Int)
  · go_wp2_with fail
    refine (live_any _).mono ?_
    rintro e w9 ⟨rfl, hb⟩
    have HB9 := Lib.hid (Below.thn HB3.out hb)
    clear hb
    go_wp2
    go_ret
    exact ⟨rfl, HB9.out⟩
  have hnt : nt ≤ 2000 := by omega
  obtain ⟨c0, c1, c2⟩ := cells3 HC3.out
  have CT := Lib.hid (refTokens_any A n c B m d cf T nt ct l w3 (HRC.out.below HB3.out) (HT.out.below HB3.out) htc (by omega) htc2 (by omega))
  rw [← HCP.out] at CT
  clear hbig
  go_wp2_with fail
  refine CT.out.mono ?_
  rintro e w4 ⟨v7, rfl, ho, hb⟩
  have HC4 := Lib.hid ((hb.block g (Array.getElem?_eq_some_iff.1 HC3.out).1).trans HC3.out)
  have HB4 := Lib.hid (Below.thn HB3.out hb)
  obtain ⟨tk, htk⟩ : ∃ tk, tk = toksL cf l := ⟨_, rfl⟩
  rw [← htk] at ho
  obtain ⟨A7, c7, rfl, h71, h72, h73⟩ := OwnK.rd encTk_len ho
  have htl : tk.length ≤ 2001 := by
    rw [htk]
    have := toks_len cf l
    have := HLn.out
    omega
  obtain ⟨N7, hN7⟩ : ∃ N7, N7 = tk.length := ⟨_, rfl⟩
  rw [← hN7] at h71 h73 ⊢
  have H7 : Hid (∀ w2, Below w4.heap.size w4 w2 → TS w2 (.slice A7 N7 c7) tk) := Lib.hid fun w2 h2 => ⟨A7, N7, c7, rfl, h71, h72, h73.below h2⟩
  obtain ⟨mn, hmn⟩ : ∃ mn, mn = min N7 x := ⟨_, rfl⟩
  have hmn1 : mn ≤ N7 := by omega
  have htm : tk.take mn = tk.take x := by
    rcases Nat.le_total x N7 with h | h
    · rw [hmn, Nat.min_eq_right h]
    · rw [hmn, Nat.min_eq_left h, List.take_of_length_le (by omega), List.take_of_length_le (by omega)]
  have H52 : Hid (∀ w2, Below w4.heap.size w4 w2 → TS w2 (.slice A7 mn c7) (tk.take x)) := Lib.hid fun w2 h2 => ⟨A7, mn, c7, rfl, by omega, h72, by rw [← htm]; exact (h73.below h2).take mn hmn1⟩
  have hcut := run_cutT_h A7 N7 c7 mn (by omega)
  have hmin3 : min (N7 : Int) (x : Int) = (mn : Int) := by omega
  have hcx : IntKind.i64.wrap (x : Int) = (x : Int) := by rw [IntKind.wrap_i64]; omega
  have HTL := Lib.hid htl
  clear ho hb CT c0 c1 c2 HC3 HB3 h73 hN7 hmn htm htl hmn1
  have G0 := Lib.hid (cells3 HC4.out)
  obtain ⟨K, hK⟩ : ∃ K, K = (wordsL l).length := ⟨_, rfl⟩
  obtain ⟨b, hbw⟩ : ∃ b, b = w4.heap.size := ⟨_, rfl⟩
  have C27 : Hid (∀ w2, Below w4.heap.size w4 w2 → Calls Try.prog 14 #[confV A n c B m d cp, .slice T nt ct] w2 fun e w' => ∃ v, e = .returned v ∧ TS w' v tk ∧ Below w2.heap.size w2 w') := Lib.hid fun w2 h2 => by
    rw [htk, HCP.out]
    refine (Tokens_any A n c B m d cf T nt ct l w2 (HRC.out.below (Below.thn HB4.out h2)) (HT.out.below (Below.thn HB4.out h2)) htc (by have := HLn.out; omega) (by omega)).mono ?_
    rintro e w' ⟨v, e1, ho, hb⟩
    exact ⟨v, e1, OwnK.ts ho, hb⟩
  have C33 : Hid (∀ w2, Below w4.heap.size w4 w2 → Calls Try.prog 16 #[confV A n c B m d cp, .slice T nt ct] w2 fun e w' => ∃ g9, e = .returned (clA g9) ∧ SqA w' b g9 tk ∧ Below w2.heap.size w2 w') := Lib.hid fun w2 h2 => by
    rw [HCP.out]
    refine (All_any A n c B m d cf.cap T nt ct w2).mono ?_
    rintro e w' ⟨rfl, rfl⟩
    refine ⟨w2.heap.size, rfl, ?_, ((Below.refl _ _).alloc (Nat.le_refl _) _).alloc (by simp) _⟩
    rw [hbw, htk]
    exact all_seq' A n c B m d cf T nt ct l S33 okS33 w4 w2 h2 (HRC.out.below HB4.out) (HT.out.below HB4.out) htc (by have := HLn.out; omega) (by omega)
  have C34 : Hid (∀ w2, Below w4.heap.size w4 w2 → ∀ g9, SqA w2 b g9 tk → Calls Try.prog 15 #[clA g9, .int .i64 1048576] w2 fun e w' => ∃ v, e = .returned v ∧ TS w' v tk ∧ Below w2.heap.size w2 w') := Lib.hid fun w2 h2 g9 hs => by
    refine (told_seq _ _ (enters_of Try.func41 (by kernel_rfl) rfl) b tk w2 w2 1048576 (by decide) hs (by rw [hbw]; exact h2.size) (by have := HTL.out; omega)).mono ?_
    rintro e w' ⟨v, e1, ho, hb⟩
    rw [List.take_of_length_le (by have := HTL.out; omega)] at ho
    exact ⟨v, e1, OwnK.ts ho, hb⟩
  have C44 : Hid (∀ w2, Below w4.heap.size w4 w2 → ∀ g9, SqA w2 b g9 tk → Calls Try.prog 15 #[clA g9, .int .i64 (x : Nat)] w2 fun e w' => ∃ v, e = .returned v ∧ TS w' v (tk.take x) ∧ Below w2.heap.size w2 w') := Lib.hid fun w2 h2 g9 hs => by
    refine (told_seq _ _ (enters_of Try.func41 (by kernel_rfl) rfl) b tk w2 w2 x (by omega) hs (by rw [hbw]; exact h2.size) (by have := HTL.out; omega)).mono ?_
    rintro e w' ⟨v, e1, ho, hb⟩
    exact ⟨v, e1, OwnK.ts ho, hb⟩
  have C56 : Hid (∀ w2, Below w4.heap.size w4 w2 → Calls Try.prog 17 #[.slice T nt ct] w2 fun e w' => e = .returned (.int .i64 (K : Nat)) ∧ Below w2.heap.size w2 w') := Lib.hid fun w2 h2 => by
    rw [hK]
    exact Count_any T nt ct l w2 (HT.out.below (Below.thn HB4.out h2)) htc
  have C58 : Hid (∀ w2, Below w4.heap.size w4 w2 → Calls Try.prog 18 #[.slice T nt ct] w2 fun e w' => e = .returned (.int .i64 (K : Nat)) ∧ Below w2.heap.size w2 w') := Lib.hid fun w2 h2 => by
    rw [hK]
    exact refCount_any T nt ct l w2 (HT.out.below (Below.thn HB4.out h2)) htc (by omega) htc2
  clear htk hK hbw
  go_wp2_with fail
  refine wp_region_flow (by kernel_rfl) (TlF A n c B m d cp T nt ct x g A7 N7 c7 mn b tk K) (TlF.below A n c B m d cp T nt ct x g A7 N7 c7 mn b tk K) (by kernel_rfl) (by kernel_rfl) ?_ ?_
  case refine_1 =>
    intro i o ho ρ y w2 hb2 hreg hn hf hyb hyn
    have hi := (Array.getElem?_eq_some_iff.1 ho).1
    rcases Nat.lt_or_ge i 37 with hi2 | hi2
    case inr => simp at hi; omega
    obtain rfl | rfl | rfl | rfl | rfl | rfl | rfl | rfl | rfl | rfl | rfl | rfl | rfl | rfl | rfl | rfl | rfl | rfl | rfl | rfl | rfl | rfl | rfl | rfl | rfl | rfl | rfl | rfl | rfl | rfl | rfl | rfl | rfl | rfl | rfl | rfl | rfl : i = 0 ∨ i = 1 ∨ i = 2 ∨ i = 3 ∨ i = 4 ∨ i = 5 ∨ i = 6 ∨ i = 7 ∨ i = 8 ∨ i = 9 ∨ i = 10 ∨ i = 11 ∨ i = 12 ∨ i = 13 ∨ i = 14 ∨ i = 15 ∨ i = 16 ∨ i = 17 ∨ i = 18 ∨ i = 19 ∨ i = 20 ∨ i = 21 ∨ i = 22 ∨ i = 23 ∨ i = 24 ∨ i = 25 ∨ i = 26 ∨ i = 27 ∨ i = 28 ∨ i = 29 ∨ i = 30 ∨ i = 31 ∨ i = 32 ∨ i = 33 ∨ i = 34 ∨ i = 35 ∨ i = 36 := by omega
    · cases ho
      rw [if_pos (show Region.wanted _ y = true from rfl)]
      have f3 : ρ (.tmp 3) = .pointer (some ⟨g, 0, none⟩) := hf 3 (by kernel_rfl)
      have k0 := cell_keep hb2 G0.out.1
      have k1 := cell_keep hb2 G0.out.2.1
      have k2 := cell_keep hb2 G0.out.2.2
      exact does_ok (v := confV A n c B m d cp) (w' := w2) (by simp [go_sem, hreg.const, f3, k0, k1, k2]) ⟨rfl, Below.refl _ _⟩
    · cases ho
      rw [if_pos (show Region.wanted _ y = true from rfl)]
      have f1 : ρ (.tmp 1) = .slice T nt ct := hf 1 (by kernel_rfl)
      exact ⟨f1, Below.refl _ _⟩
    · cases ho
      rw [if_pos (show Region.wanted _ y = true from rfl)]
      have f25 : ρ (.tmp 25) = confV A n c B m d cp := hn 0 _ 25 rfl (by kernel_rfl) rfl
      have f26 : ρ (.tmp 26) = .slice T nt ct := hn 1 _ 26 rfl (by kernel_rfl) rfl
      refine does_enter (f := 14) (args := #[confV A n c B m d cp, .slice T nt ct]) (w' := w2) (by simp [go_sem, hreg.func, hreg.const, f25, f26]) ?_
      refine (C27.out w2 hb2).mono ?_
      rintro e w' ⟨v, rfl, hts, hb⟩
      exact ⟨_, rfl, ⟨_, rfl, hts⟩, hb⟩
    · cases ho
      rw [if_pos (show Region.wanted _ y = true from rfl)]
      have f7 : ρ (.tmp 7) = .slice A7 N7 c7 := hf 7 (by kernel_rfl)
      exact ⟨f7, Below.refl _ _⟩
    · cases ho
      rw [if_pos (show Region.wanted _ y = true from rfl)]
      obtain ⟨V27, f27, g27⟩ : ∃ (V27 : Value), ρ (.tmp 27) = V27 ∧ TS w2 V27 tk := hn 2 _ 27 rfl (by kernel_rfl) rfl
      have f28 : ρ (.tmp 28) = .slice A7 N7 c7 := hn 3 _ 28 rfl (by kernel_rfl) rfl
      refine does_enter (f := 13) (args := #[V27, .slice A7 N7 c7]) (w' := w2) (by simp [go_sem, hreg.func, hreg.const, f27, f28]) ?_
      refine (equalTk_same g27 (H7.out w2 hb2)).mono ?_
      rintro e w' ⟨rfl, hb⟩
      exact ⟨_, rfl, rfl, hb⟩
    · cases ho
      rw [if_pos (show Region.wanted _ y = true from rfl)]
      have f29 : ρ (.tmp 29) = .bool true := hn 4 _ 29 rfl (by kernel_rfl) rfl
      exact does_ok (v := .bool true) (w' := w2) (by simp [go_sem, hreg.const, f29]) ⟨rfl, Below.refl _ _⟩
    · cases ho
      rw [if_pos (show Region.wanted _ y = true from by simp [Region.wanted, hyb 5 _ _ _ rfl rfl (hn 5 _ _ rfl (by kernel_rfl) rfl)])]
      have f3 : ρ (.tmp 3) = .pointer (some ⟨g, 0, none⟩) := hf 3 (by kernel_rfl)
      have k0 := cell_keep hb2 G0.out.1
      have k1 := cell_keep hb2 G0.out.2.1
      have k2 := cell_keep hb2 G0.out.2.2
      exact does_ok (v := confV A n c B m d cp) (w' := w2) (by simp [go_sem, hreg.const, f3, k0, k1, k2]) ⟨rfl, Below.refl _ _⟩
    · cases ho
      rw [if_pos (show Region.wanted _ y = true from by simp [Region.wanted, hyb 5 _ _ _ rfl rfl (hn 5 _ _ rfl (by kernel_rfl) rfl)])]
      have f1 : ρ (.tmp 1) = .slice T nt ct := hf 1 (by kernel_rfl)
      exact ⟨f1, Below.refl _ _⟩
    · cases ho
      rw [if_pos (show Region.wanted _ y = true from by simp [Region.wanted, hyb 5 _ _ _ rfl rfl (hn 5 _ _ rfl (by kernel_rfl) rfl)])]
      have f31 : ρ (.tmp 31) = confV A n c B m d cp := hn 6 _ 31 rfl (by kernel_rfl) rfl
      have f32 : ρ (.tmp 32) = .slice T nt ct := hn 7 _ 32 rfl (by kernel_rfl) rfl
      refine does_enter (f := 16) (args := #[confV A n c B m d cp, .slice T nt ct]) (w' := w2) (by simp [go_sem, hreg.func, hreg.const, f31, f32]) ?_
      refine (C33.out w2 hb2).mono ?_
      rintro e w' ⟨g9, rfl, hsq, hb⟩
      exact ⟨_, rfl, ⟨_, rfl, hsq⟩, hb⟩
    · cases ho
      rw [if_pos (show Region.wanted _ y = true from by simp [Region.wanted, hyb 5 _ _ _ rfl rfl (hn 5 _ _ rfl (by kernel_rfl) rfl)])]
      obtain ⟨g33_, f33, g33⟩ : ∃ (g33_ : Nat), ρ (.tmp 33) = clA g33_ ∧ SqA w2 b g33_ tk := hn 8 _ 33 rfl (by kernel_rfl) rfl
      refine does_enter (f := 15) (args := #[clA g33_, .int .i64 1048576]) (w' := w2) (by simp [go_sem, hreg.func, hreg.const, f33]) ?_
      refine (C34.out w2 hb2 g33_ g33).mono ?_
      rintro e w' ⟨v, rfl, hts, hb⟩
      exact ⟨_, rfl, ⟨_, rfl, hts⟩, hb⟩
    · cases ho
      rw [if_pos (show Region.wanted _ y = true from by simp [Region.wanted, hyb 5 _ _ _ rfl rfl (hn 5 _ _ rfl (by kernel_rfl) rfl)])]
      have f7 : ρ (.tmp 7) = .slice A7 N7 c7 := hf 7 (by kernel_rfl)
      exact ⟨f7, Below.refl _ _⟩
    · cases ho
      rw [if_pos (show Region.wanted _ y = true from by simp [Region.wanted, hyb 5 _ _ _ rfl rfl (hn 5 _ _ rfl (by kernel_rfl) rfl)])]
      obtain ⟨V34, f34, g34⟩ : ∃ (V34 : Value), ρ (.tmp 34) = V34 ∧ TS w2 V34 tk := hn 9 _ 34 rfl (by kernel_rfl) rfl
      have f35 : ρ (.tmp 35) = .slice A7 N7 c7 := hn 10 _ 35 rfl (by kernel_rfl) rfl
      refine does_enter (f := 13) (args := #[V34, .slice A7 N7 c7]) (w' := w2) (by simp [go_sem, hreg.func, hreg.const, f34, f35]) ?_
      refine (equalTk_same g34 (H7.out w2 hb2)).mono ?_
      rintro e w' ⟨rfl, hb⟩
      exact ⟨_, rfl, rfl, hb⟩
    · cases ho
      rw [if_pos (show Region.wanted _ y = true from rfl)]
      have f30 : ρ (.tmp 30) = .bool true := hn 5 _ 30 rfl (by kernel_rfl) rfl
      have f36 : ρ (.tmp 36) = .bool true := hn 11 _ 36 rfl (by kernel_rfl) rfl
      exact does_ok (v := .bool true) (w' := w2) (by simp [go_sem, hreg.const, f30, f36]) ⟨rfl, Below.refl _ _⟩
    · cases ho
      rw [if_pos (show Region.wanted _ y = true from rfl)]
      have f37 : ρ (.tmp 37) = .bool true := hn 12 _ 37 rfl (by kernel_rfl) rfl
      exact does_ok (v := .bool true) (w' := w2) (by simp [go_sem, hreg.const, f37]) ⟨rfl, Below.refl _ _⟩
    · cases ho
      rw [if_pos (show Region.wanted _ y = true from by simp [Region.wanted, hyb 13 _ _ _ rfl rfl (hn 13 _ _ rfl (by kernel_rfl) rfl)])]
      have f3 : ρ (.tmp 3) = .pointer (some ⟨g, 0, none⟩) := hf 3 (by kernel_rfl)
      have k0 := cell_keep hb2 G0.out.1
      have k1 := cell_keep hb2 G0.out.2.1
      have k2 := cell_keep hb2 G0.out.2.2
      exact does_ok (v := confV A n c B m d cp) (w' := w2) (by simp [go_sem, hreg.const, f3, k0, k1, k2]) ⟨rfl, Below.refl _ _⟩
    · cases ho
      rw [if_pos (show Region.wanted _ y = true from by simp [Region.wanted, hyb 13 _ _ _ rfl rfl (hn 13 _ _ rfl (by kernel_rfl) rfl)])]
      have f1 : ρ (.tmp 1) = .slice T nt ct := hf 1 (by kernel_rfl)
      exact ⟨f1, Below.refl _ _⟩
    · cases ho
      rw [if_pos (show Region.wanted _ y = true from by simp [Region.wanted, hyb 13 _ _ _ rfl rfl (hn 13 _ _ rfl (by kernel_rfl) rfl)])]
      have f39 : ρ (.tmp 39) = confV A n c B m d cp := hn 14 _ 39 rfl (by kernel_rfl) rfl
      have f40 : ρ (.tmp 40) = .slice T nt ct := hn 15 _ 40 rfl (by kernel_rfl) rfl
      refine does_enter (f := 16) (args := #[confV A n c B m d cp, .slice T nt ct]) (w' := w2) (by simp [go_sem, hreg.func, hreg.const, f39, f40]) ?_
      refine (C33.out w2 hb2).mono ?_
      rintro e w' ⟨g9, rfl, hsq, hb⟩
      exact ⟨_, rfl, ⟨_, rfl, hsq⟩, hb⟩
    · cases ho
      rw [if_pos (show Region.wanted _ y = true from by simp [Region.wanted, hyb 13 _ _ _ rfl rfl (hn 13 _ _ rfl (by kernel_rfl) rfl)])]
      have f2 : ρ (.tmp 2) = .int .u8 (x : Nat) := hf 2 (by kernel_rfl)
      exact ⟨f2, Below.refl _ _⟩
    · cases ho
      rw [if_pos (show Region.wanted _ y = true from by simp [Region.wanted, hyb 13 _ _ _ rfl rfl (hn 13 _ _ rfl (by kernel_rfl) rfl)])]
      have f42 : ρ (.tmp 42) = .int .u8 (x : Nat) := hn 17 _ 42 rfl (by kernel_rfl) rfl
      exact does_ok (v := .int .i64 (x : Nat)) (w' := w2) (by simp [go_sem, hreg.const, f42, hcx]) ⟨rfl, Below.refl _ _⟩
    · cases ho
      rw [if_pos (show Region.wanted _ y = true from by simp [Region.wanted, hyb 13 _ _ _ rfl rfl (hn 13 _ _ rfl (by kernel_rfl) rfl)])]
      obtain ⟨g41_, f41, g41⟩ : ∃ (g41_ : Nat), ρ (.tmp 41) = clA g41_ ∧ SqA w2 b g41_ tk := hn 16 _ 41 rfl (by kernel_rfl) rfl
      have f43 : ρ (.tmp 43) = .int .i64 (x : Nat) := hn 18 _ 43 rfl (by kernel_rfl) rfl
      refine does_enter (f := 15) (args := #[clA g41_, .int .i64 (x : Nat)]) (w' := w2) (by simp [go_sem, hreg.func, hreg.const, f41, f43]) ?_
      refine (C44.out w2 hb2 g41_ g41).mono ?_
      rintro e w' ⟨v, rfl, hts, hb⟩
      exact ⟨_, rfl, ⟨_, rfl, hts⟩, hb⟩
    · cases ho
      rw [if_pos (show Region.wanted _ y = true from by simp [Region.wanted, hyb 13 _ _ _ rfl rfl (hn 13 _ _ rfl (by kernel_rfl) rfl)])]
      have f7 : ρ (.tmp 7) = .slice A7 N7 c7 := hf 7 (by kernel_rfl)
      exact ⟨f7, Below.refl _ _⟩
    · cases ho
      rw [if_pos (show Region.wanted _ y = true from by simp [Region.wanted, hyb 13 _ _ _ rfl rfl (hn 13 _ _ rfl (by kernel_rfl) rfl)])]
      have f7 : ρ (.tmp 7) = .slice A7 N7 c7 := hf 7 (by kernel_rfl)
      exact ⟨f7, Below.refl _ _⟩
    · cases ho
      rw [if_pos (show Region.wanted _ y = true from by simp [Region.wanted, hyb 13 _ _ _ rfl rfl (hn 13 _ _ rfl (by kernel_rfl) rfl)])]
      have f46 : ρ (.tmp 46) = .slice A7 N7 c7 := hn 21 _ 46 rfl (by kernel_rfl) rfl
      exact does_ok (v := .int .i64 (N7 : Nat)) (w' := w2) (by simp [go_sem, hreg.const, f46]) ⟨rfl, Below.refl _ _⟩
    · cases ho
      rw [if_pos (show Region.wanted _ y = true from by simp [Region.wanted, hyb 13 _ _ _ rfl rfl (hn 13 _ _ rfl (by kernel_rfl) rfl)])]
      have f2 : ρ (.tmp 2) = .int .u8 (x : Nat) := hf 2 (by kernel_rfl)
      exact ⟨f2, Below.refl _ _⟩
    · cases ho
      rw [if_pos (show Region.wanted _ y = true from by simp [Region.wanted, hyb 13 _ _ _ rfl rfl (hn 13 _ _ rfl (by kernel_rfl) rfl)])]
      have f48 : ρ (.tmp 48) = .int .u8 (x : Nat) := hn 23 _ 48 rfl (by kernel_rfl) rfl
      exact does_ok (v := .int .i64 (x : Nat)) (w' := w2) (by simp [go_sem, hreg.const, f48, hcx]) ⟨rfl, Below.refl _ _⟩
    · cases ho
      rw [if_pos (show Region.wanted _ y = true from by simp [Region.wanted, hyb 13 _ _ _ rfl rfl (hn 13 _ _ rfl (by kernel_rfl) rfl)])]
      have f47 : ρ (.tmp 47) = .int .i64 (N7 : Nat) := hn 22 _ 47 rfl (by kernel_rfl) rfl
      have f49 : ρ (.tmp 49) = .int .i64 (x : Nat) := hn 24 _ 49 rfl (by kernel_rfl) rfl
      exact does_ok (v := .int .i64 (mn : Nat)) (w' := w2) (by simp [go_sem, hreg.const, f47, f49, hmin3]) ⟨rfl, Below.refl _ _⟩
    · cases ho
      rw [if_pos (show Region.wanted _ y = true from by simp [Region.wanted, hyb 13 _ _ _ rfl rfl (hn 13 _ _ rfl (by kernel_rfl) rfl)])]
      have f45 : ρ (.tmp 45) = .slice A7 N7 c7 := hn 20 _ 45 rfl (by kernel_rfl) rfl
      have f50 : ρ (.tmp 50) = .int .i64 (mn : Nat) := hn 25 _ 50 rfl (by kernel_rfl) rfl
      exact does_ok (v := .slice A7 mn c7) (w' := w2) (by simp [go_sem, hreg.const, f45, f50, hcut]) ⟨rfl, Below.refl _ _⟩
    · cases ho
      rw [if_pos (show Region.wanted _ y = true from by simp [Region.wanted, hyb 13 _ _ _ rfl rfl (hn 13 _ _ rfl (by kernel_rfl) rfl)])]
      obtain ⟨V44, f44, g44⟩ : ∃ (V44 : Value), ρ (.tmp 44) = V44 ∧ TS w2 V44 (tk.take x) := hn 19 _ 44 rfl (by kernel_rfl) rfl
      have f51 : ρ (.tmp 51) = .slice A7 mn c7 := hn 26 _ 51 rfl (by kernel_rfl) rfl
      refine does_enter (f := 13) (args := #[V44, .slice A7 mn c7]) (w' := w2) (by simp [go_sem, hreg.func, hreg.const, f44, f51]) ?_
      refine (equalTk_same g44 (H52.out w2 hb2)).mono ?_
      rintro e w' ⟨rfl, hb⟩
      exact ⟨_, rfl, rfl, hb⟩
    · cases ho
      rw [if_pos (show Region.wanted _ y = true from rfl)]
      have f38 : ρ (.tmp 38) = .bool true := hn 13 _ 38 rfl (by kernel_rfl) rfl
      have f52 : ρ (.tmp 52) = .bool true := hn 27 _ 52 rfl (by kernel_rfl) rfl
      exact does_ok (v := .bool true) (w' := w2) (by simp [go_sem, hreg.const, f38, f52]) ⟨rfl, Below.refl _ _⟩
    · cases ho
      rw [if_pos (show Region.wanted _ y = true from rfl)]
      have f53 : ρ (.tmp 53) = .bool true := hn 28 _ 53 rfl (by kernel_rfl) rfl
      exact does_ok (v := .bool true) (w' := w2) (by simp [go_sem, hreg.const, f53]) ⟨rfl, Below.refl _ _⟩
    · cases ho
      rw [if_pos (show Region.wanted _ y = true from by simp [Region.wanted, hyb 29 _ _ _ rfl rfl (hn 29 _ _ rfl (by kernel_rfl) rfl)])]
      have f1 : ρ (.tmp 1) = .slice T nt ct := hf 1 (by kernel_rfl)
      exact ⟨f1, Below.refl _ _⟩
    · cases ho
      rw [if_pos (show Region.wanted _ y = true from by simp [Region.wanted, hyb 29 _ _ _ rfl rfl (hn 29 _ _ rfl (by kernel_rfl) rfl)])]
      have f55 : ρ (.tmp 55) = .slice T nt ct := hn 30 _ 55 rfl (by kernel_rfl) rfl
      refine does_enter (f := 17) (args := #[.slice T nt ct]) (w' := w2) (by simp [go_sem, hreg.func, hreg.const, f55]) ?_
      refine (C56.out w2 hb2).mono ?_
      rintro e w' ⟨rfl, hb⟩
      exact ⟨_, rfl, rfl, hb⟩
    · cases ho
      rw [if_pos (show Region.wanted _ y = true from by simp [Region.wanted, hyb 29 _ _ _ rfl rfl (hn 29 _ _ rfl (by kernel_rfl) rfl)])]
      have f1 : ρ (.tmp 1) = .slice T nt ct := hf 1 (by kernel_rfl)
      exact ⟨f1, Below.refl _ _⟩
    · cases ho
      rw [if_pos (show Region.wanted _ y = true from by simp [Region.wanted, hyb 29 _ _ _ rfl rfl (hn 29 _ _ rfl (by kernel_rfl) rfl)])]
      have f57 : ρ (.tmp 57) = .slice T nt ct := hn 32 _ 57 rfl (by kernel_rfl) rfl
      refine does_enter (f := 18) (args := #[.slice T nt ct]) (w' := w2) (by simp [go_sem, hreg.func, hreg.const, f57]) ?_
      refine (C58.out w2 hb2).mono ?_
      rintro e w' ⟨rfl, hb⟩
      exact ⟨_, rfl, rfl, hb⟩
    · cases ho
      rw [if_pos (show Region.wanted _ y = true from by simp [Region.wanted, hyb 29 _ _ _ rfl rfl (hn 29 _ _ rfl (by kernel_rfl) rfl)])]
      have f56 : ρ (.tmp 56) = .int .i64 (K : Nat) := hn 31 _ 56 rfl (by kernel_rfl) rfl
      have f58 : ρ (.tmp 58) = .int .i64 (K : Nat) := hn 33 _ 58 rfl (by kernel_rfl) rfl
      exact does_ok (v := .bool true) (w' := w2) (by simp [go_sem, hreg.const, f56, f58]) ⟨rfl, Below.refl _ _⟩
    · cases ho
      rw [if_pos (show Region.wanted _ y = true from rfl)]
      have f54 : ρ (.tmp 54) = .bool true := hn 29 _ 54 rfl (by kernel_rfl) rfl
      have f59 : ρ (.tmp 59) = .bool true := hn 34 _ 59 rfl (by kernel_rfl) rfl
      exact does_ok (v := .bool true) (w' := w2) (by simp [go_sem, hreg.const, f54, f59]) ⟨rfl, Below.refl _ _⟩
    · cases ho
      rw [if_pos (show Region.wanted _ y = true from rfl)]
      have f60 : ρ (.tmp 60) = .bool true := hn 35 _ 60 rfl (by kernel_rfl) rfl
      exact ⟨f60, Below.refl _ _⟩
  case refine_2 =>
    intro a w2 hb2 hd hs hfacts hrest
    have q6 : a.tmps.getD 6 undef = .bool true := hfacts 36 _ 6 rfl rfl
    have ha := frame_of hd hs hrest [6, 25, 26, 27, 28, 29, 30, 31, 32, 33, 34, 35, 36, 37, 38, 39, 40, 41, 42, 43, 44, 45, 46, 47, 48, 49, 50, 51, 52, 53, 54, 55, 56, 57, 58, 59, 60] (by kernel_rfl)
    simp only [q6, List.foldl, List.setIfInBounds_toArray, List.set_cons_succ, List.set_cons_zero] at ha
    clear q6 hd hs hfacts hrest
    generalize a.tmps.getD = gg at ha
    subst ha
    have HB5 := Lib.hid (Below.thn HB4.out hb2)
    clear hb2 C27 C33 C34 C44 C56 C58
    go_wp2
    go_ret
    exact ⟨rfl, HB5.out⟩
end Go.Proofs.Ytbmdjmnjbflfeaa
