/- A text's terms are the document's: the law. -/
import Derived.Test.YtbmdjmnjbflfeaaRefTerms
import Derived.Test.YtbmdjmnjbflfeaaOne
import Derived.BigQuiet
namespace Go.Proofs.Ytbmdjmnjbflfeaa
open Go.RowKit Go.Shelf
set_option linter.unusedVariables false
set_option linter.unusedSimpArgs false

set_option maxRecDepth 100000 in
set_option maxHeartbeats 2000000 in
theorem equalS_any (A B : Option Addr) (n m c d : Nat) (a b : List ByteArray) (w : World) (ha : Rd encS w A n a) (hb : Rd encS w B m b) :
    Calls Try.prog 33 #[.slice A n c, .slice B m d] w fun e w' => e = .returned (.bool (decide (a = b))) ∧ Below w.heap.size w w' := by
  obtain ⟨R, hR⟩ : ∃ R, R = decide (a = b) := ⟨_, rfl⟩
  rw [← hR]
  have HR := Lib.hid hR
  have HA := Lib.hid ha
  have HB := Lib.hid hb
  have hn := ha.max
  have hm := hb.max
  clear ha hb hR
  by_cases hnm : n = m
  · subst hnm
    go_enter Try.func33, Try.ntmps33
    go_wp2_with fail
    go_loopw [13] (fun x wr => ∃ k : Nat, k ≤ n ∧ x = .int .i64 k ∧ Hid (a.take k = b.take k ∧ Below w.heap.size w wr)) (fun x _ => n - (intOf x).toNat)
    case atStart => exact ⟨0, by omega, rfl, Lib.hid ⟨by simp, Below.refl _ _⟩⟩
    case round =>
      obtain ⟨k, hk, rfl, HI⟩ := hrel
      by_cases hlt : (k : Int) < (n : Int)
      · obtain ⟨ad, x, rfl, HX, x0⟩ := rdS_at (HA.out.below HI.out.2) (k := k) (by omega)
        obtain ⟨ae, y, rfl, HY, y0⟩ := rdS_at (HB.out.below HI.out.2) (k := k) (by omega)
        by_cases hxy : x = y
        · have hq : (x.toList == y.toList) = true := by rw [str_eqB]; exact decide_eq_true hxy
          have HXY := Lib.hid hxy
          clear hxy
          go_upto_region 6 with fail
          go_quiet (fail)
          clear hq x0 y0
          go_wp2
          refine ⟨⟨k + 1, by omega, by go_num, Lib.hid ⟨?_, below_drewN HI.out.2 nq⟩⟩, by simp [intOf]; omega⟩
          obtain ⟨_, e1⟩ := HX.out
          obtain ⟨_, e2⟩ := HY.out
          exact (take_stepG _ _).2 ⟨HI.out.1, by rw [e1, e2, HXY.out]⟩
        · have hq : (x.toList == y.toList) = false := by rw [str_eqB]; exact decide_eq_false hxy
          have HF : Hid (R = false) := Lib.hid (by rw [HR.out]; exact decide_eq_false (ne_of_at HX.out HY.out hxy))
          clear hxy
          go_upto_region 6 with fail
          go_quiet (fail)
          clear hq x0 y0
          go_wp2
          go_ret
          exact ⟨by rw [HF.out]; rfl, below_drewN HI.out.2 nq⟩
      · have HT : Hid (R = true) := Lib.hid (by
          rw [HR.out]
          have h := HI.out.1
          have h1 := HA.out.len
          have h2 := HB.out.len
          rw [List.take_of_length_le (by omega), List.take_of_length_le (by omega)] at h
          exact decide_eq_true h)
        go_wp2
        go_ret
        exact ⟨by rw [HT.out]; rfl, HI.out.2⟩
  · have g0 : ((n : Int) == (m : Int)) = false := by simp; omega
    have g1 : ((n : Int) != (m : Int)) = true := by simp; omega
    have HF : Hid (R = false) := Lib.hid (by
      rw [HR.out]
      refine decide_eq_false fun e => hnm ?_
      rw [← HA.out.len, ← HB.out.len, e])
    clear hnm
    go_enter Try.func33, Try.ntmps33
    go_wp2
    go_ret
    exact ⟨by rw [HF.out]; rfl, Below.refl _ _⟩
theorem equalS_same {w : World} {u v : Value} {a : List ByteArray} (ha : SR w u a) (hb : SR w v a) :
    Calls Try.prog 33 #[u, v] w fun e w' => e = .returned (.bool true) ∧ Below w.heap.size w w' := by
  obtain ⟨A, n, c, rfl, h1, h2, h3⟩ := ha
  obtain ⟨B, m, d, rfl, h4, h5, h6⟩ := hb
  have := equalS_any A B n m c d a a w h3 h6
  simpa using this
open Classical in
noncomputable def stX (cf : Cf) (t : ByteArray) : Bool := decide (inS cf.st t = true ∧ mayC cf)
theorem stX_yes {cf : Cf} {t : ByteArray} (h : inS cf.st t = true ∧ mayC cf) : stX cf t = true := by simp [stX, h]
theorem stX_no {cf : Cf} {t : ByteArray} (h : ¬ (inS cf.st t = true ∧ mayC cf)) : stX cf t = false := by
  unfold stX
  simp only [h, decide_false]
theorem tell_stX {cf : Cf} {t : ByteArray} {e : Ending} (h : TellB (inS cf.st t = true ∧ mayC cf) e) : e = .returned (.bool (stX cf t)) := by
  obtain ⟨b, rfl, hb⟩ := h
  cases b
  · rw [stX_no (fun h => by have := hb.2 h; cases this)]
  · rw [stX_yes (hb.1 rfl)]
set_option maxRecDepth 100000 in
set_option maxHeartbeats 1000000 in
theorem StopG_any (A : Option Addr) (n c : Nat) (B : Option Addr) (m d : Nat) (cf : Cf) (t : ByteArray) (w : World) (hR : RdC w A n c B m d cf) (hmx : m ≤ 1000000) :
    Calls Try.prog 22 #[confV A n c B m d cf.cap, .string t] w fun e w' => e = .returned (.bool (stX cf t)) ∧ Below w.heap.size w w' := by
  by_cases hm : mayC cf
  · refine (Stop_any A n c B m d cf t w hR hmx hm).mono ?_
    rintro e w' ⟨rfl, hb⟩
    refine ⟨tell_stX ⟨_, rfl, ⟨fun h => ⟨h, hm⟩, fun h => h.1⟩⟩, hb⟩
  · have hbx := (Below.refl w.heap.size w).alloc (Nat.le_refl _) (.cells #[.slice A n c, .slice B m d, .int .i64 cf.cap] 25)
    have hcell := World.alloc_heap_new w (.cells #[.slice A n c, .slice B m d, .int .i64 cf.cap] 25)
    obtain ⟨w1, hw1⟩ : ∃ w1, w1 = w.alloc (.cells #[.slice A n c, .slice B m d, .int .i64 cf.cap] 25) := ⟨_, rfl⟩
    rw [← hw1] at hbx hcell
    obtain ⟨cp, hcp⟩ : ∃ cp, cp = cf.cap := ⟨_, rfl⟩
    have HB1 := Lib.hid hbx
    have HM := Lib.hid hm
    have C1 := Lib.hid (may_any A n c B m d cf w1 (hR.below hbx))
    obtain ⟨c0, c1, c2⟩ := cells3 hcell
    rw [← hcp] at c2 C1 hw1
    rw [← hcp]
    rw [hw1] at c0 c1 c2
    have HW1 := Lib.hid hw1
    have HX : Hid (stX cf t = false) := Lib.hid (stX_no fun h => hm h.2)
    clear hbx hcell hw1 hR hmx hm hcp
    go_enter Try.func22, Try.ntmps22
    go_wp2_with fail
    rw [← HW1.out]
    refine C1.out.mono ?_
    rintro e w2 ⟨⟨b, rfl, hb⟩, hb2⟩
    have hbf : b = false := by
      cases b
      · rfl
      · exact absurd (hb.1 rfl) HM.out
    subst hbf
    have HB2 := Lib.hid (Below.thn HB1.out hb2)
    clear c0 c1 c2 C1 HW1 hb hb2
    go_wp2
    go_ret
    exact ⟨by rw [HX.out]; rfl, HB2.out⟩
def OnF (A : Option Addr) (n c : Nat) (B : Option Addr) (m d : Nat) (cp : Int) (g : Nat) (ad : Addr) (c6 : Nat) (A4 : Option Addr) (n4 c4 : Nat) (s : ByteArray) : Nat → Value → World → Prop
  | 0 => fun v w => v = confV A n c B m d cp
  | 1 => fun v w => v = .slice (some ad) 1 c6
  | 2 => fun v w => v = .pointer (some ad)
  | 3 => fun v w => v = .slice A4 n4 c4
  | 4 => fun v w => v = .string s
  | 5 => fun v w => v = .string s
  | 6 => fun v w => v = .int .i64 0
  | _ => fun _ _ => True
theorem OnF.below (A : Option Addr) (n c : Nat) (B : Option Addr) (m d : Nat) (cp : Int) (g : Nat) (ad : Addr) (c6 : Nat) (A4 : Option Addr) (n4 c4 : Nat) (s : ByteArray) : ∀ i v w w', Below w.heap.size w w' → OnF A n c B m d cp g ad c6 A4 n4 c4 s i v w → OnF A n c B m d cp g ad c6 A4 n4 c4 s i v w'
  | 0, _, _, _, _, h => h
  | 1, _, _, _, _, h => h
  | 2, _, _, _, _, h => h
  | 3, _, _, _, _, h => h
  | 4, _, _, _, _, h => h
  | 5, _, _, _, _, h => h
  | 6, _, _, _, _, h => h
  | _ + 7, _, _, _, _, _ => trivial
def TwF (A : Option Addr) (n c : Nat) (B : Option Addr) (m d : Nat) (cp : Int) (T : Option Addr) (nt ct : Nat) (tm : ByteArray) (g : Nat) (s0 : ByteArray) (e0 : Int) (tk : List ByteArray) (q : Bool) : Nat → Value → World → Prop
  | 0 => fun v w => v = confV A n c B m d cp
  | 1 => fun v w => v = .slice T nt ct
  | 2 => fun v w => ∃ (V44 : Value), v = V44 ∧ SR w V44 tk
  | 3 => fun v w => v = confV A n c B m d cp
  | 4 => fun v w => v = .slice T nt ct
  | 5 => fun v w => ∃ (V47 : Value), v = V47 ∧ SR w V47 tk
  | 6 => fun v w => v = .bool true
  | 7 => fun v w => v = .bool true
  | 8 => fun v w => v = .string s0
  | 9 => fun v w => v = .string s0
  | 10 => fun v w => v = .bool true
  | 11 => fun v w => v = .bool true
  | 12 => fun v w => v = .bool true
  | 13 => fun v w => v = .int .i64 e0
  | 14 => fun v w => v = .int .i64 e0
  | 15 => fun v w => v = .bool true
  | 16 => fun v w => v = .bool true
  | 17 => fun v w => v = .bool true
  | 18 => fun v w => v = confV A n c B m d cp
  | 19 => fun v w => v = .string tm
  | 20 => fun v w => v = .bool q
  | 21 => fun v w => v = confV A n c B m d cp
  | 22 => fun v w => v = .string tm
  | 23 => fun v w => v = .bool q
  | 24 => fun v w => v = .bool true
  | 25 => fun v w => v = .bool true
  | 26 => fun v w => v = .bool true
  | _ => fun _ _ => True
theorem TwF.below (A : Option Addr) (n c : Nat) (B : Option Addr) (m d : Nat) (cp : Int) (T : Option Addr) (nt ct : Nat) (tm : ByteArray) (g : Nat) (s0 : ByteArray) (e0 : Int) (tk : List ByteArray) (q : Bool) : ∀ i v w w', Below w.heap.size w w' → TwF A n c B m d cp T nt ct tm g s0 e0 tk q i v w → TwF A n c B m d cp T nt ct tm g s0 e0 tk q i v w'
  | 0, _, _, _, _, h => h
  | 1, _, _, _, _, h => h
  | 2, _, _, _, hb, h => by
    obtain ⟨V44, e, g⟩ := h
    exact ⟨V44, e, SR.below g hb⟩
  | 3, _, _, _, _, h => h
  | 4, _, _, _, _, h => h
  | 5, _, _, _, hb, h => by
    obtain ⟨V47, e, g⟩ := h
    exact ⟨V47, e, SR.below g hb⟩
  | 6, _, _, _, _, h => h
  | 7, _, _, _, _, h => h
  | 8, _, _, _, _, h => h
  | 9, _, _, _, _, h => h
  | 10, _, _, _, _, h => h
  | 11, _, _, _, _, h => h
  | 12, _, _, _, _, h => h
  | 13, _, _, _, _, h => h
  | 14, _, _, _, _, h => h
  | 15, _, _, _, _, h => h
  | 16, _, _, _, _, h => h
  | 17, _, _, _, _, h => h
  | 18, _, _, _, _, h => h
  | 19, _, _, _, _, h => h
  | 20, _, _, _, _, h => h
  | 21, _, _, _, _, h => h
  | 22, _, _, _, _, h => h
  | 23, _, _, _, _, h => h
  | 24, _, _, _, _, h => h
  | 25, _, _, _, _, h => h
  | 26, _, _, _, _, h => h
  | _ + 27, _, _, _, _, _ => trivial

set_option maxRecDepth 100000 in
set_option maxHeartbeats 4000000 in
theorem refOne_any (A : Option Addr) (n c : Nat) (B : Option Addr) (m d : Nat) (cf : Cf) (T : Option Addr) (nt ct : Nat) (l : List Nat) (w : World) (h : RdC w A n c B m d cf) (ht : RdB w T nt l) (htc : nt ≤ ct) (htl : nt ≤ 10000) (htc2 : ct ≤ 9223372036854775807) :
    Calls Try.prog 32 #[confV A n c B m d cf.cap, .slice T nt ct] w fun e w' => e = .returned (.tuple #[.string (oneX cf l).1, .int .i64 (oneX cf l).2]) ∧ Below w.heap.size w w' := by
  have HR := Lib.hid h
  have HT := Lib.hid ht
  obtain ⟨g, hg⟩ : ∃ g, g = w.heap.size := ⟨_, rfl⟩
  have hbx := (Below.refl w.heap.size w).alloc (Nat.le_refl _) (.cells #[.slice A n c, .slice B m d, .int .i64 cf.cap] 25)
  have hcell := World.alloc_heap_new w (.cells #[.slice A n c, .slice B m d, .int .i64 cf.cap] 25)
  rw [← hg] at hcell
  obtain ⟨w1, hw1⟩ : ∃ w1, w1 = w.alloc (.cells #[.slice A n c, .slice B m d, .int .i64 cf.cap] 25) := ⟨_, rfl⟩
  rw [← hw1] at hbx hcell
  have CW := Lib.hid (refWords_any T nt ct l w1 (ht.below hbx) htc (by omega) htc2)
  obtain ⟨cp, hcp⟩ : ∃ cp, cp = cf.cap := ⟨_, rfl⟩
  have HCP := Lib.hid hcp
  rw [← hcp] at hcell hw1
  rw [← hcp]
  have HW1 := Lib.hid hw1
  have HG := Lib.hid hg
  have HB1 := Lib.hid hbx
  have HC1 := Lib.hid hcell
  have HLn := Lib.hid ht.len
  have HBy := Lib.hid ht.byt
  clear h ht hbx hcell hw1 hcp hg
  go_enter Try.func32, Try.ntmps32
  go_wp2_with fail
  rw [← HW1.out, ← HG.out]
  refine CW.out.mono ?_
  rintro e w2 ⟨v6, rfl, hws, hb⟩
  have HB2 := Lib.hid (Below.thn HB1.out hb)
  have HC2 := Lib.hid ((hb.block g (Array.getElem?_eq_some_iff.1 HC1.out).1).trans HC1.out)
  have hv6 : ∃ A6 c6, v6 = .slice A6 (wordsL l).length c6 := by
    obtain ⟨vs, h1, h2, _⟩ := hws
    obtain ⟨A6, c6, e, _⟩ := OwnL.rd h1
    exact ⟨A6, c6, by rw [e, h2]⟩
  obtain ⟨A6, c6, rfl⟩ := hv6
  have HWS := Lib.hid hws
  have C2 := Lib.hid (refCkW_any A n c B m d cf w2 (HR.out.below HB2.out))
  rw [← HCP.out] at C2
  obtain ⟨c0, c1, c2⟩ := cells3 HC2.out
  have hwl : (wordsL l).length ≤ 10001 := by have := wordsL_len l; have := HLn.out; omega
  obtain ⟨NW, hNW⟩ : ∃ NW, NW = (wordsL l).length := ⟨_, rfl⟩
  rw [← hNW] at hwl
  have HNW := Lib.hid hNW
  have HW2 : Hid (WsD w2 w1.heap.size (.slice A6 NW c6) (wordsL l)) := Lib.hid (by rw [hNW]; exact hws)
  rw [← hNW]
  clear hb hws CW HW1 HWS HC1 HB1 hNW
  go_wp2_with fail
  refine C2.out.mono ?_
  rintro e w3 ⟨rfl, hb⟩
  have HB3 := Lib.hid (Below.thn HB2.out hb)
  have HC3 := Lib.hid ((hb.block g (Array.getElem?_eq_some_iff.1 HC2.out).1).trans HC2.out)
  have HS3 := Lib.hid hb
  clear hb C2 c0 c1 c2
  by_cases hm : mayC cf
  case neg =>
    rw [may_no hm]
    have HX : Hid (oneX cf l = (⟨#[]⟩, 140)) := Lib.hid (by unfold oneX; rw [if_neg hm])
    clear hm
    go_wp2
    refine bodyPost_ret (v := .tuple #[.string ⟨#[]⟩, .int .i64 140]) (by simp [results, Try.results32, go_sem]) rfl ⟨by rw [HX.out], HB3.out⟩
  rw [may_yes hm]
  have HM := Lib.hid hm
  clear hm
  have hcase : (wordsL l = [] ∨ (∃ wd, wordsL l = [wd])) ∨ ∃ k : Nat, (wordsL l).length = k + 2 := by
    match h : wordsL l with
    | [] => exact .inl (.inl rfl)
    | [wd] => exact .inl (.inr ⟨wd, rfl⟩)
    | _ :: _ :: r => exact .inr ⟨r.length, by simp⟩
  rcases hcase with (h0 | ⟨wd, h1⟩) | ⟨k, hk⟩
  · have HX : Hid (oneX cf l = (⟨#[]⟩, 4)) := Lib.hid (by unfold oneX; rw [if_pos HM.out, h0])
    obtain rfl : NW = 0 := by rw [HNW.out, h0]; rfl
    clear h0
    go_wp2
    refine bodyPost_ret (v := .tuple #[.string ⟨#[]⟩, .int .i64 4]) (by simp [results, Try.results32, go_sem]) rfl ⟨by rw [HX.out], HB3.out⟩
  · have HX : Hid (oneX cf l = (termS cf wd, 0)) := Lib.hid (by unfold oneX; rw [if_pos HM.out, h1])
    have hN1 : NW = 1 := by rw [HNW.out, h1]; rfl
    subst hN1
    have hD := HW2.out
    rw [h1] at hD
    have hwm : wd ∈ wdG (rnsL l) [] := by
      have : wd ∈ wordsL l := by rw [h1]; simp
      exact this
    have HV : Hid (∀ r ∈ wd, r ≤ 1114111) := Lib.hid (wdG_mem (rnsL l) [] (fun r => r ≤ 1114111) (rns_le HBy.out) (fun r h => by cases h) wd hwm)
    have HWL : Hid (wd.length ≤ 10000) := Lib.hid (by
      have h3 := wdG_wlen (rnsL l) [] wd hwm
      have := rnsL_len l
      have := HLn.out
      simp at h3
      omega)
    obtain ⟨ad, A4, n4, c4, wd', rfl, e0, hx⟩ := wsD_at hD rfl (k := 0) (by decide)
    obtain ⟨⟨hl, e⟩, r4⟩ := hx.out
    have e : wd = wd' := e
    subst e
    have hn4 : n4 ≤ 10000 := by rw [← r4.len]; exact HWL.out
    have E0 : Hid (w3.cell? ad = some (.slice A4 n4 c4)) := Lib.hid (cell_keep HS3.out (by simpa [Addr.add] using e0))
    have C13 : Hid (∀ w9, Below w3.heap.size w3 w9 → Calls Try.prog 39 #[confV A n c B m d cp, .slice A4 n4 c4] w9 fun e w' => e = .returned (.string (termS cf wd)) ∧ Below w9.heap.size w9 w') := Lib.hid fun w9 h9 => by
      rw [HCP.out]
      exact refTerm_any A n c B m d cf A4 n4 c4 wd w9 (HR.out.below (Below.thn HB3.out h9)) ((r4.below HS3.out).below h9) HV.out (by omega) HM.out.2.1
    have G0 := Lib.hid (cells3 HC3.out)
    obtain ⟨s, hs⟩ : ∃ s, s = termS cf wd := ⟨_, rfl⟩
    rw [← hs] at C13 HX
    clear h1 hD hx e hl e0 r4 hs hn4 HWL HV hwm
    go_wp2_with fail
    refine wp_region_flow (by kernel_rfl) (OnF A n c B m d cp g ad c6 A4 n4 c4 s) (OnF.below A n c B m d cp g ad c6 A4 n4 c4 s) (by kernel_rfl) (by kernel_rfl) ?_ ?_
    case refine_1 =>
      intro i o ho ρ y w2 hb2 hreg hn hf hyb hyn
      have hi := (Array.getElem?_eq_some_iff.1 ho).1
      rcases Nat.lt_or_ge i 7 with hi2 | hi2
      case inr => simp at hi; omega
      obtain rfl | rfl | rfl | rfl | rfl | rfl | rfl : i = 0 ∨ i = 1 ∨ i = 2 ∨ i = 3 ∨ i = 4 ∨ i = 5 ∨ i = 6 := by omega
      · cases ho
        rw [if_pos (show Region.wanted _ y = true from rfl)]
        have f2 : ρ (.tmp 2) = .pointer (some ⟨g, 0, none⟩) := hf 2 (by kernel_rfl)
        have k0 := cell_keep hb2 G0.out.1
        have k1 := cell_keep hb2 G0.out.2.1
        have k2 := cell_keep hb2 G0.out.2.2
        exact does_ok (v := confV A n c B m d cp) (w' := w2) (by simp [go_sem, hreg.const, f2, k0, k1, k2]) ⟨rfl, Below.refl _ _⟩
      · cases ho
        rw [if_pos (show Region.wanted _ y = true from rfl)]
        have f6 : ρ (.tmp 6) = .slice (some ad) 1 c6 := hf 6 (by kernel_rfl)
        exact ⟨f6, Below.refl _ _⟩
      · cases ho
        rw [if_pos (show Region.wanted _ y = true from rfl)]
        have f10 : ρ (.tmp 10) = .slice (some ad) 1 c6 := hn 1 _ 10 rfl (by kernel_rfl) rfl
        exact does_ok (v := .pointer (some ad)) (w' := w2) (by simp [go_sem, hreg.const, f10, Addr.add]) ⟨rfl, Below.refl _ _⟩
      · cases ho
        rw [if_pos (show Region.wanted _ y = true from rfl)]
        have f11 : ρ (.tmp 11) = .pointer (some ad) := hn 2 _ 11 rfl (by kernel_rfl) rfl
        have k0 := cell_keep hb2 E0.out
        exact does_ok (v := .slice A4 n4 c4) (w' := w2) (by simp [go_sem, hreg.const, f11, k0]) ⟨rfl, Below.refl _ _⟩
      · cases ho
        rw [if_pos (show Region.wanted _ y = true from rfl)]
        have f9 : ρ (.tmp 9) = confV A n c B m d cp := hn 0 _ 9 rfl (by kernel_rfl) rfl
        have f12 : ρ (.tmp 12) = .slice A4 n4 c4 := hn 3 _ 12 rfl (by kernel_rfl) rfl
        refine does_enter (f := 39) (args := #[confV A n c B m d cp, .slice A4 n4 c4]) (w' := w2) (by simp [go_sem, hreg.func, hreg.const, f9, f12]) ?_
        refine (C13.out w2 hb2).mono ?_
        rintro e w' ⟨rfl, hb⟩
        exact ⟨_, rfl, rfl, hb⟩
      · cases ho
        rw [if_pos (show Region.wanted _ y = true from rfl)]
        have f13 : ρ (.tmp 13) = .string s := hn 4 _ 13 rfl (by kernel_rfl) rfl
        exact ⟨f13, Below.refl _ _⟩
      · cases ho
        rw [if_pos (show Region.wanted _ y = true from rfl)]
        exact does_ok (v := .int .i64 0) (w' := w2) (by simp [go_sem, hreg.const]) ⟨rfl, Below.refl _ _⟩
    case refine_2 =>
      intro a w2 hb2 hd hs hfacts hrest
      have q4 : a.tmps.getD 4 undef = .string s := hfacts 5 _ 4 rfl rfl
      have q5 : a.tmps.getD 5 undef = .int .i64 0 := hfacts 6 _ 5 rfl rfl
      have ha := frame_of hd hs hrest [4, 5, 9, 10, 11, 12, 13] (by kernel_rfl)
      simp only [q4, q5, List.foldl, List.setIfInBounds_toArray, List.set_cons_succ, List.set_cons_zero] at ha
      clear q4 q5 hd hs hfacts hrest
      generalize a.tmps.getD = gg at ha
      subst ha
      have HB5 := Lib.hid (Below.thn HB3.out hb2)
      clear hb2 C13
      go_wp2
      refine bodyPost_ret (v := .tuple #[.string s, .int .i64 0]) (by simp [results, Try.results32, go_sem]) rfl ⟨by rw [HX.out], HB5.out⟩
  · have HX : Hid (oneX cf l = (⟨#[]⟩, 3)) := Lib.hid (by
      unfold oneX
      rw [if_pos HM.out]
      match h : wordsL l with
      | [] => rw [h] at hk; simp at hk
      | [wd] => rw [h] at hk; simp at hk
      | _ :: _ :: r => rfl)
    have hn2 : ((NW : Nat) : Int) > 1 := by rw [HNW.out]; omega
    have hn0 : (((NW : Nat) : Int) == 0) = false := by simp; omega
    clear hk
    go_wp2
    refine bodyPost_ret (v := .tuple #[.string ⟨#[]⟩, .int .i64 3]) (by simp [results, Try.results32, go_sem]) rfl ⟨by rw [HX.out], HB3.out⟩
set_option maxRecDepth 100000 in
set_option maxHeartbeats 8000000 in
theorem TermsLaw_any (A : Option Addr) (n c : Nat) (B : Option Addr) (m d : Nat) (cf : Cf) (T : Option Addr) (nt ct : Nat) (l : List Nat) (tm : ByteArray) (w : World) (h : RdC0 w A n c B m d cf) (ht : RdB w T nt l) (htc : nt ≤ ct) (htc2 : ct ≤ 9223372036854775807) :
    Calls Try.prog 9 #[confV A n c B m d cf.cap, .slice T nt ct, .string tm] w fun e w' => e = .returned (.bool true) ∧ Below w.heap.size w w' := by
  have HR := Lib.hid h
  have HT := Lib.hid ht
  have HLn := Lib.hid ht.len
  clear ht
  obtain ⟨cp, hcp⟩ : ∃ cp, cp = cf.cap := ⟨_, rfl⟩
  have hbx := (Below.refl w.heap.size w).alloc (Nat.le_refl _) (.cells #[.slice A n c, .slice B m d, .int .i64 cp] 25)
  have hcell := World.alloc_heap_new w (.cells #[.slice A n c, .slice B m d, .int .i64 cp] 25)
  obtain ⟨w1, hw1⟩ : ∃ w1, w1 = w.alloc (.cells #[.slice A n c, .slice B m d, .int .i64 cp] 25) := ⟨_, rfl⟩
  obtain ⟨g, hg⟩ : ∃ g, g = w.heap.size := ⟨_, rfl⟩
  rw [← hw1] at hbx hcell
  rw [← hg] at hcell
  have HW1 := Lib.hid hw1
  have HG := Lib.hid hg
  have HCP := Lib.hid hcp
  have HB1 := Lib.hid hbx
  rw [← hcp]
  have HC1 := Lib.hid hcell
  clear h hw1 hg hcp hbx hcell
  go_enter Try.func9, Try.ntmps9
  go_wp2_with fail
  rw [← HW1.out, ← HG.out]
  clear HW1
  refine (live_any w1).mono ?_
  rintro e w2 ⟨rfl, hb⟩
  have HC2 := Lib.hid ((hb.block g (Array.getElem?_eq_some_iff.1 HC1.out).1).trans HC1.out)
  have HB2 := Lib.hid (Below.thn HB1.out hb)
  obtain ⟨c0, c1, c2⟩ := cells3 HC2.out
  have CF := Lib.hid (few1_any ⟨A, n, c, B, m, d, cf⟩ w2 (HR.out.below HB2.out))
  simp only at CF
  rw [← HCP.out] at CF
  clear hb HC1 HB1
  go_wp2_with fail
  refine CF.out.mono ?_
  rintro e w3 ⟨⟨b, rfl, hbf⟩, hb⟩
  have HC3 := Lib.hid ((hb.block g (Array.getElem?_eq_some_iff.1 HC2.out).1).trans HC2.out)
  have HB3 := Lib.hid (Below.thn HB2.out hb)
  have HFw := Lib.hid hbf
  clear hb hbf CF c0 c1 c2 HC2 HB2
  cases b
  case false =>
    go_wp2_with fail
    refine (live_any _).mono ?_
    rintro e w9 ⟨rfl, hb⟩
    have HB9 := Lib.hid (Below.thn HB3.out hb)
    clear hb
    go_wp2
    go_ret
    exact ⟨rfl, HB9.out⟩
  have hfw := HFw.out.1 (by simp)
  have HRC := Lib.hid (RdC0.full HR.out (by exact hfw.2.2))
  have hm100 : m ≤ 100 := hfw.2.1
  clear hfw HFw
  by_cases hbig : (2000 : Int) < (nt : Int)
  · go_wp2_with fail
    refine (live_any _).mono ?_
    rintro e w9 ⟨rfl, hb⟩
    have HB9 := Lib.hid (Below.thn HB3.out hb)
    clear hb
    go_wp2
    go_ret
    exact ⟨rfl, HB9.out⟩
  by_cases hbig2 : (1000 : Int) < (tm.size : Int)
  · go_wp2_with fail
    refine (live_any _).mono ?_
    rintro e w9 ⟨rfl, hb⟩
    have HB9 := Lib.hid (Below.thn HB3.out hb)
    clear hb
    go_wp2
    go_ret
    exact ⟨rfl, HB9.out⟩
  have hnt : nt ≤ 2000 := by omega
  have htm2 : ¬ (1000 : Int) < (tm.size : Int) := hbig2
  obtain ⟨c0, c1, c2⟩ := cells3 HC3.out
  have C1 := Lib.hid (One_any A n c B m d cf T nt ct l w3 (HRC.out.below HB3.out) (HT.out.below HB3.out) htc (by have := HLn.out; omega))
  obtain ⟨s0, hs0⟩ : ∃ s0, s0 = (oneX cf l).1 := ⟨_, rfl⟩
  obtain ⟨e0, he0⟩ : ∃ e0, e0 = (oneX cf l).2 := ⟨_, rfl⟩
  rw [← HCP.out, ← hs0, ← he0] at C1
  clear hbig2
  go_wp2_with fail
  refine C1.out.mono ?_
  rintro e w4 ⟨rfl, hb⟩
  have HC4 := Lib.hid ((hb.block g (Array.getElem?_eq_some_iff.1 HC3.out).1).trans HC3.out)
  have HB4 := Lib.hid (Below.thn HB3.out hb)
  clear hb C1 c0 c1 c2 HC3 HB3
  obtain ⟨c0, c1, c2⟩ := cells3 HC4.out
  have C2 := Lib.hid (refOne_any A n c B m d cf T nt ct l w4 (HRC.out.below HB4.out) (HT.out.below HB4.out) htc (by omega) htc2)
  rw [← HCP.out, ← hs0, ← he0] at C2
  clear hs0 he0
  go_wp2_with fail
  refine C2.out.mono ?_
  rintro e w5 ⟨rfl, hb⟩
  have HC5 := Lib.hid ((hb.block g (Array.getElem?_eq_some_iff.1 HC4.out).1).trans HC4.out)
  have HB5 := Lib.hid (Below.thn HB4.out hb)
  clear hb C2 c0 c1 c2 HC4 HB4
  have G0 := Lib.hid (cells3 HC5.out)
  have hee : (e0 == e0) = true := by simp
  obtain ⟨tk, htk⟩ : ∃ tk, tk = eachB ((toksL cf l).map (·.1)) := ⟨_, rfl⟩
  obtain ⟨q, hq⟩ : ∃ q, q = stX cf tm := ⟨_, rfl⟩
  have C44 : Hid (∀ w9, Below w5.heap.size w5 w9 → Calls Try.prog 34 #[confV A n c B m d cp, .slice T nt ct] w9 fun e w' => ∃ v, e = .returned v ∧ SR w' v tk ∧ Below w9.heap.size w9 w') := Lib.hid fun w9 h9 => by
    rw [htk, HCP.out]
    refine (Terms_any A n c B m d cf T nt ct l w9 (HRC.out.below (Below.thn HB5.out h9)) (HT.out.below (Below.thn HB5.out h9)) htc (by have := HLn.out; omega) (by omega)).mono ?_
    rintro e w' ⟨v, e1, hs, hb⟩
    exact ⟨v, e1, hs.sr, hb⟩
  have C47 : Hid (∀ w9, Below w5.heap.size w5 w9 → Calls Try.prog 35 #[confV A n c B m d cp, .slice T nt ct] w9 fun e w' => ∃ v, e = .returned v ∧ SR w' v tk ∧ Below w9.heap.size w9 w') := Lib.hid fun w9 h9 => by
    rw [htk, HCP.out]
    exact refTerms_any A n c B m d cf T nt ct l w9 (HRC.out.below (Below.thn HB5.out h9)) (HT.out.below (Below.thn HB5.out h9)) htc (by omega) htc2 (by omega)
  have C62 : Hid (∀ w9, Below w5.heap.size w5 w9 → Calls Try.prog 22 #[confV A n c B m d cp, .string tm] w9 fun e w' => e = .returned (.bool q) ∧ Below w9.heap.size w9 w') := Lib.hid fun w9 h9 => by
    rw [hq, HCP.out]
    exact StopG_any A n c B m d cf tm w9 (HRC.out.below (Below.thn HB5.out h9)) (by omega)
  have C65 : Hid (∀ w9, Below w5.heap.size w5 w9 → Calls Try.prog 36 #[confV A n c B m d cp, .string tm] w9 fun e w' => e = .returned (.bool q) ∧ Below w9.heap.size w9 w') := Lib.hid fun w9 h9 => by
    rw [hq, HCP.out]
    refine (refStop_any A n c B m d cf tm w9 (HRC.out.below (Below.thn HB5.out h9)) (by omega)).mono ?_
    rintro e w' ⟨h1, hb⟩
    exact ⟨tell_stX h1, hb⟩
  clear htk hq
  go_wp2_with fail
  refine wp_region_flow (by kernel_rfl) (TwF A n c B m d cp T nt ct tm g s0 e0 tk q) (TwF.below A n c B m d cp T nt ct tm g s0 e0 tk q) (by kernel_rfl) (by kernel_rfl) ?_ ?_
  case refine_1 =>
    intro i o ho ρ y w2 hb2 hreg hn hf hyb hyn
    have hi := (Array.getElem?_eq_some_iff.1 ho).1
    rcases Nat.lt_or_ge i 27 with hi2 | hi2
    case inr => simp at hi; omega
    obtain rfl | rfl | rfl | rfl | rfl | rfl | rfl | rfl | rfl | rfl | rfl | rfl | rfl | rfl | rfl | rfl | rfl | rfl | rfl | rfl | rfl | rfl | rfl | rfl | rfl | rfl | rfl : i = 0 ∨ i = 1 ∨ i = 2 ∨ i = 3 ∨ i = 4 ∨ i = 5 ∨ i = 6 ∨ i = 7 ∨ i = 8 ∨ i = 9 ∨ i = 10 ∨ i = 11 ∨ i = 12 ∨ i = 13 ∨ i = 14 ∨ i = 15 ∨ i = 16 ∨ i = 17 ∨ i = 18 ∨ i = 19 ∨ i = 20 ∨ i = 21 ∨ i = 22 ∨ i = 23 ∨ i = 24 ∨ i = 25 ∨ i = 26 := by omega
    · cases ho
      rw [if_pos (show Region.wanted _ y = true from rfl)]
      have f3 : ρ (.tmp 3) = .pointer (some ⟨g, 0, none⟩) := hf 3 (by kernel_rfl)
      have k0 := cell_keep hb2 G0.out.1
      have k1 := cell_keep hb2 G0.out.2.1
      have k2 := cell_keep hb2 G0.out.2.2
      exact does_ok (v := confV A n c B m d cp) (w' := w2) (by simp [go_sem, hreg.const, f3, k0, k1, k2]) ⟨rfl, Below.refl _ _⟩
    · cases ho
      rw [if_pos (show Region.wanted _ y = true from rfl)]
      have f1 : ρ (.tmp 1) = .slice T nt ct := hf 1 (by kernel_rfl)
      exact ⟨f1, Below.refl _ _⟩
    · cases ho
      rw [if_pos (show Region.wanted _ y = true from rfl)]
      have f42 : ρ (.tmp 42) = confV A n c B m d cp := hn 0 _ 42 rfl (by kernel_rfl) rfl
      have f43 : ρ (.tmp 43) = .slice T nt ct := hn 1 _ 43 rfl (by kernel_rfl) rfl
      refine does_enter (f := 34) (args := #[confV A n c B m d cp, .slice T nt ct]) (w' := w2) (by simp [go_sem, hreg.func, hreg.const, f42, f43]) ?_
      refine (C44.out w2 hb2).mono ?_
      rintro e w' ⟨v, rfl, hts, hb⟩
      exact ⟨_, rfl, ⟨_, rfl, hts⟩, hb⟩
    · cases ho
      rw [if_pos (show Region.wanted _ y = true from rfl)]
      have f3 : ρ (.tmp 3) = .pointer (some ⟨g, 0, none⟩) := hf 3 (by kernel_rfl)
      have k0 := cell_keep hb2 G0.out.1
      have k1 := cell_keep hb2 G0.out.2.1
      have k2 := cell_keep hb2 G0.out.2.2
      exact does_ok (v := confV A n c B m d cp) (w' := w2) (by simp [go_sem, hreg.const, f3, k0, k1, k2]) ⟨rfl, Below.refl _ _⟩
    · cases ho
      rw [if_pos (show Region.wanted _ y = true from rfl)]
      have f1 : ρ (.tmp 1) = .slice T nt ct := hf 1 (by kernel_rfl)
      exact ⟨f1, Below.refl _ _⟩
    · cases ho
      rw [if_pos (show Region.wanted _ y = true from rfl)]
      have f45 : ρ (.tmp 45) = confV A n c B m d cp := hn 3 _ 45 rfl (by kernel_rfl) rfl
      have f46 : ρ (.tmp 46) = .slice T nt ct := hn 4 _ 46 rfl (by kernel_rfl) rfl
      refine does_enter (f := 35) (args := #[confV A n c B m d cp, .slice T nt ct]) (w' := w2) (by simp [go_sem, hreg.func, hreg.const, f45, f46]) ?_
      refine (C47.out w2 hb2).mono ?_
      rintro e w' ⟨v, rfl, hts, hb⟩
      exact ⟨_, rfl, ⟨_, rfl, hts⟩, hb⟩
    · cases ho
      rw [if_pos (show Region.wanted _ y = true from rfl)]
      obtain ⟨V44, f44, g44⟩ : ∃ (V44 : Value), ρ (.tmp 44) = V44 ∧ SR w2 V44 tk := hn 2 _ 44 rfl (by kernel_rfl) rfl
      obtain ⟨V47, f47, g47⟩ : ∃ (V47 : Value), ρ (.tmp 47) = V47 ∧ SR w2 V47 tk := hn 5 _ 47 rfl (by kernel_rfl) rfl
      refine does_enter (f := 33) (args := #[V44, V47]) (w' := w2) (by simp [go_sem, hreg.func, hreg.const, f44, f47]) ?_
      refine (equalS_same g44 g47).mono ?_
      rintro e w' ⟨rfl, hb⟩
      exact ⟨_, rfl, rfl, hb⟩
    · cases ho
      rw [if_pos (show Region.wanted _ y = true from rfl)]
      have f48 : ρ (.tmp 48) = .bool true := hn 6 _ 48 rfl (by kernel_rfl) rfl
      exact ⟨f48, Below.refl _ _⟩
    · cases ho
      rw [if_pos (show Region.wanted _ y = true from by simp [Region.wanted, hyb 7 _ _ _ rfl rfl (hn 7 _ _ rfl (by kernel_rfl) rfl)])]
      have f7 : ρ (.tmp 7) = .string s0 := hf 7 (by kernel_rfl)
      exact ⟨f7, Below.refl _ _⟩
    · cases ho
      rw [if_pos (show Region.wanted _ y = true from by simp [Region.wanted, hyb 7 _ _ _ rfl rfl (hn 7 _ _ rfl (by kernel_rfl) rfl)])]
      have f9 : ρ (.tmp 9) = .string s0 := hf 9 (by kernel_rfl)
      exact ⟨f9, Below.refl _ _⟩
    · cases ho
      rw [if_pos (show Region.wanted _ y = true from by simp [Region.wanted, hyb 7 _ _ _ rfl rfl (hn 7 _ _ rfl (by kernel_rfl) rfl)])]
      have f50 : ρ (.tmp 50) = .string s0 := hn 8 _ 50 rfl (by kernel_rfl) rfl
      have f51 : ρ (.tmp 51) = .string s0 := hn 9 _ 51 rfl (by kernel_rfl) rfl
      exact does_ok (v := .bool true) (w' := w2) (by simp [go_sem, hreg.const, f50, f51]) ⟨rfl, Below.refl _ _⟩
    · cases ho
      rw [if_pos (show Region.wanted _ y = true from rfl)]
      have f49 : ρ (.tmp 49) = .bool true := hn 7 _ 49 rfl (by kernel_rfl) rfl
      have f52 : ρ (.tmp 52) = .bool true := hn 10 _ 52 rfl (by kernel_rfl) rfl
      exact does_ok (v := .bool true) (w' := w2) (by simp [go_sem, hreg.const, f49, f52]) ⟨rfl, Below.refl _ _⟩
    · cases ho
      rw [if_pos (show Region.wanted _ y = true from rfl)]
      have f53 : ρ (.tmp 53) = .bool true := hn 11 _ 53 rfl (by kernel_rfl) rfl
      exact ⟨f53, Below.refl _ _⟩
    · cases ho
      rw [if_pos (show Region.wanted _ y = true from by simp [Region.wanted, hyb 12 _ _ _ rfl rfl (hn 12 _ _ rfl (by kernel_rfl) rfl)])]
      have f8 : ρ (.tmp 8) = .int .i64 e0 := hf 8 (by kernel_rfl)
      exact ⟨f8, Below.refl _ _⟩
    · cases ho
      rw [if_pos (show Region.wanted _ y = true from by simp [Region.wanted, hyb 12 _ _ _ rfl rfl (hn 12 _ _ rfl (by kernel_rfl) rfl)])]
      have f10 : ρ (.tmp 10) = .int .i64 e0 := hf 10 (by kernel_rfl)
      exact ⟨f10, Below.refl _ _⟩
    · cases ho
      rw [if_pos (show Region.wanted _ y = true from by simp [Region.wanted, hyb 12 _ _ _ rfl rfl (hn 12 _ _ rfl (by kernel_rfl) rfl)])]
      have f55 : ρ (.tmp 55) = .int .i64 e0 := hn 13 _ 55 rfl (by kernel_rfl) rfl
      have f56 : ρ (.tmp 56) = .int .i64 e0 := hn 14 _ 56 rfl (by kernel_rfl) rfl
      exact does_ok (v := .bool true) (w' := w2) (by simp [go_sem, hreg.const, f55, f56, hee]) ⟨rfl, Below.refl _ _⟩
    · cases ho
      rw [if_pos (show Region.wanted _ y = true from rfl)]
      have f54 : ρ (.tmp 54) = .bool true := hn 12 _ 54 rfl (by kernel_rfl) rfl
      have f57 : ρ (.tmp 57) = .bool true := hn 15 _ 57 rfl (by kernel_rfl) rfl
      exact does_ok (v := .bool true) (w' := w2) (by simp [go_sem, hreg.const, f54, f57]) ⟨rfl, Below.refl _ _⟩
    · cases ho
      rw [if_pos (show Region.wanted _ y = true from rfl)]
      have f58 : ρ (.tmp 58) = .bool true := hn 16 _ 58 rfl (by kernel_rfl) rfl
      exact ⟨f58, Below.refl _ _⟩
    · cases ho
      rw [if_pos (show Region.wanted _ y = true from by simp [Region.wanted, hyb 17 _ _ _ rfl rfl (hn 17 _ _ rfl (by kernel_rfl) rfl)])]
      have f3 : ρ (.tmp 3) = .pointer (some ⟨g, 0, none⟩) := hf 3 (by kernel_rfl)
      have k0 := cell_keep hb2 G0.out.1
      have k1 := cell_keep hb2 G0.out.2.1
      have k2 := cell_keep hb2 G0.out.2.2
      exact does_ok (v := confV A n c B m d cp) (w' := w2) (by simp [go_sem, hreg.const, f3, k0, k1, k2]) ⟨rfl, Below.refl _ _⟩
    · cases ho
      rw [if_pos (show Region.wanted _ y = true from by simp [Region.wanted, hyb 17 _ _ _ rfl rfl (hn 17 _ _ rfl (by kernel_rfl) rfl)])]
      have f2 : ρ (.tmp 2) = .string tm := hf 2 (by kernel_rfl)
      exact ⟨f2, Below.refl _ _⟩
    · cases ho
      rw [if_pos (show Region.wanted _ y = true from by simp [Region.wanted, hyb 17 _ _ _ rfl rfl (hn 17 _ _ rfl (by kernel_rfl) rfl)])]
      have f60 : ρ (.tmp 60) = confV A n c B m d cp := hn 18 _ 60 rfl (by kernel_rfl) rfl
      have f61 : ρ (.tmp 61) = .string tm := hn 19 _ 61 rfl (by kernel_rfl) rfl
      refine does_enter (f := 22) (args := #[confV A n c B m d cp, .string tm]) (w' := w2) (by simp [go_sem, hreg.func, hreg.const, f60, f61]) ?_
      refine (C62.out w2 hb2).mono ?_
      rintro e w' ⟨rfl, hb⟩
      exact ⟨_, rfl, rfl, hb⟩
    · cases ho
      rw [if_pos (show Region.wanted _ y = true from by simp [Region.wanted, hyb 17 _ _ _ rfl rfl (hn 17 _ _ rfl (by kernel_rfl) rfl)])]
      have f3 : ρ (.tmp 3) = .pointer (some ⟨g, 0, none⟩) := hf 3 (by kernel_rfl)
      have k0 := cell_keep hb2 G0.out.1
      have k1 := cell_keep hb2 G0.out.2.1
      have k2 := cell_keep hb2 G0.out.2.2
      exact does_ok (v := confV A n c B m d cp) (w' := w2) (by simp [go_sem, hreg.const, f3, k0, k1, k2]) ⟨rfl, Below.refl _ _⟩
    · cases ho
      rw [if_pos (show Region.wanted _ y = true from by simp [Region.wanted, hyb 17 _ _ _ rfl rfl (hn 17 _ _ rfl (by kernel_rfl) rfl)])]
      have f2 : ρ (.tmp 2) = .string tm := hf 2 (by kernel_rfl)
      exact ⟨f2, Below.refl _ _⟩
    · cases ho
      rw [if_pos (show Region.wanted _ y = true from by simp [Region.wanted, hyb 17 _ _ _ rfl rfl (hn 17 _ _ rfl (by kernel_rfl) rfl)])]
      have f63 : ρ (.tmp 63) = confV A n c B m d cp := hn 21 _ 63 rfl (by kernel_rfl) rfl
      have f64 : ρ (.tmp 64) = .string tm := hn 22 _ 64 rfl (by kernel_rfl) rfl
      refine does_enter (f := 36) (args := #[confV A n c B m d cp, .string tm]) (w' := w2) (by simp [go_sem, hreg.func, hreg.const, f63, f64]) ?_
      refine (C65.out w2 hb2).mono ?_
      rintro e w' ⟨rfl, hb⟩
      exact ⟨_, rfl, rfl, hb⟩
    · cases ho
      rw [if_pos (show Region.wanted _ y = true from by simp [Region.wanted, hyb 17 _ _ _ rfl rfl (hn 17 _ _ rfl (by kernel_rfl) rfl)])]
      have f62 : ρ (.tmp 62) = .bool q := hn 20 _ 62 rfl (by kernel_rfl) rfl
      have f65 : ρ (.tmp 65) = .bool q := hn 23 _ 65 rfl (by kernel_rfl) rfl
      exact does_ok (v := .bool true) (w' := w2) (by simp [go_sem, hreg.const, f62, f65]) ⟨rfl, Below.refl _ _⟩
    · cases ho
      rw [if_pos (show Region.wanted _ y = true from rfl)]
      have f59 : ρ (.tmp 59) = .bool true := hn 17 _ 59 rfl (by kernel_rfl) rfl
      have f66 : ρ (.tmp 66) = .bool true := hn 24 _ 66 rfl (by kernel_rfl) rfl
      exact does_ok (v := .bool true) (w' := w2) (by simp [go_sem, hreg.const, f59, f66]) ⟨rfl, Below.refl _ _⟩
    · cases ho
      rw [if_pos (show Region.wanted _ y = true from rfl)]
      have f67 : ρ (.tmp 67) = .bool true := hn 25 _ 67 rfl (by kernel_rfl) rfl
      exact ⟨f67, Below.refl _ _⟩
  case refine_2 =>
    intro a w2 hb2 hd hs hfacts hrest
    have q6 : a.tmps.getD 6 undef = .bool true := hfacts 26 _ 6 rfl rfl
    have ha := frame_of hd hs hrest [6, 42, 43, 44, 45, 46, 47, 48, 49, 50, 51, 52, 53, 54, 55, 56, 57, 58, 59, 60, 61, 62, 63, 64, 65, 66, 67] (by kernel_rfl)
    simp only [q6, List.foldl, List.setIfInBounds_toArray, List.set_cons_succ, List.set_cons_zero] at ha
    clear q6 hd hs hfacts hrest
    generalize a.tmps.getD = gg at ha
    subst ha
    have HB6 := Lib.hid (Below.thn HB5.out hb2)
    clear hb2 C44 C47 C62 C65
    go_wp2
    go_ret
    exact ⟨rfl, HB6.out⟩
end Go.Proofs.Ytbmdjmnjbflfeaa
