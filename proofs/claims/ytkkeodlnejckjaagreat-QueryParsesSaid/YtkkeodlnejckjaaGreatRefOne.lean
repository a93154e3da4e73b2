/- A text's terms are the document's: the law. -/
import Derived.Test.YtkkeodlnejckjaaGreatRefTk
import Derived.Test.YtkkeodlnejckjaaGreatOne
import Derived.BigQuiet
namespace Go.Proofs.YtkkeodlnejckjaaGreat
open Go.RowKit Go.Shelf
set_option linter.unusedVariables false
set_option linter.unusedSimpArgs false

def OnF (A : Option Addr) (n c : Nat) (B : Option Addr) (m d : Nat) (cp : Int) (g : Nat) (ad : Addr) (c6 : Nat) (A4 : Option Addr) (n4 c4 : Nat) (s : ByteArray) : Nat → Value → World → Prop
  | 0 => fun v w => v = confV A n c B m d cp
  | 1 => fun v w => v = .slice (some ad) 1 c6
  | 2 => fun v w => v = .pointer (some ad)
  | 3 => fun v w => v = .slice A4 n4 c4
  | 4 => fun v w => v = .string s
  | 5 => fun v w => v = .string s
  | 6 => fun v w => v = .int .i64 0
  | _ => fun _ _ => True
theorem OnF.below (A : Option Addr) (n c : Nat) (B : Option Addr) (m d : Nat) (cp : Int) (g : Nat) (ad : Addr) (c6 : Nat) (A4 : Option Addr) (n4 c4 : Nat) (s : ByteArray) : ∀ i v w w', Below w.heap.size w w' → OnF A n c B m d cp g ad c6 A4 n4 c4 s i v w → OnF A n c B m d cp g ad c6 A4 n4 c4 s i v w'
  | 0, _, _, _, _, h => h
  | 1, _, _, _, _, h => h
  | 2, _, _, _, _, h => h
  | 3, _, _, _, _, h => h
  | 4, _, _, _, _, h => h
  | 5, _, _, _, _, h => h
  | 6, _, _, _, _, h => h
  | _ + 7, _, _, _, _, _ => trivial

set_option maxRecDepth 100000 in
set_option maxHeartbeats 4000000 in
theorem refOne_any (A : Option Addr) (n c : Nat) (B : Option Addr) (m d : Nat) (cf : Cf) (T : Option Addr) (nt ct : Nat) (l : List Nat) (w : World) (h : RdC w A n c B m d cf) (ht : RdB w T nt l) (htc : nt ≤ ct) (htl : nt ≤ 10000) (htc2 : ct ≤ 9223372036854775807) :
    Calls Tryz.prog 14 #[confV A n c B m d cf.cap, .slice T nt ct] w fun e w' => e = .returned (.tuple #[.string (oneX cf l).1, .int .i64 (oneX cf l).2]) ∧ Below w.heap.size w w' := by
  have HR := Lib.hid h
  have HT := Lib.hid ht
  obtain ⟨g, hg⟩ : ∃ g, g = w.heap.size := ⟨_, rfl⟩
  have hbx := (Below.refl w.heap.size w).alloc (Nat.le_refl _) (.cells #[.slice A n c, .slice B m d, .int .i64 cf.cap] 25)
  have hcell := World.alloc_heap_new w (.cells #[.slice A n c, .slice B m d, .int .i64 cf.cap] 25)
  rw [← hg] at hcell
  obtain ⟨w1, hw1⟩ : ∃ w1, w1 = w.alloc (.cells #[.slice A n c, .slice B m d, .int .i64 cf.cap] 25) := ⟨_, rfl⟩
  rw [← hw1] at hbx hcell
  have CW := Lib.hid (refWords_any T nt ct l w1 (ht.below hbx) htc (by omega) htc2)
  obtain ⟨cp, hcp⟩ : ∃ cp, cp = cf.cap := ⟨_, rfl⟩
  have HCP := Lib.hid hcp
  rw [← hcp] at hcell hw1
  rw [← hcp]
  have HW1 := Lib.hid hw1
  have HG := Lib.hid hg
  have HB1 := Lib.hid hbx
  have HC1 := Lib.hid hcell
  have HLn := Lib.hid ht.len
  have HBy := Lib.hid ht.byt
  clear h ht hbx hcell hw1 hcp hg
  go_enter Tryz.func14, Tryz.ntmps14
  go_wp2_with fail
  rw [← HW1.out, ← HG.out]
  refine CW.out.mono ?_
  rintro e w2 ⟨v6, rfl, hws, hb⟩
  have HB2 := Lib.hid (Below.thn HB1.out hb)
  have HC2 := Lib.hid ((hb.block g (Array.getElem?_eq_some_iff.1 HC1.out).1).trans HC1.out)
  have hv6 : ∃ A6 c6, v6 = .slice A6 (wordsL l).length c6 := by
    obtain ⟨vs, h1, h2, _⟩ := hws
    obtain ⟨A6, c6, e, _⟩ := OwnL.rd h1
    exact ⟨A6, c6, by rw [e, h2]⟩
  obtain ⟨A6, c6, rfl⟩ := hv6
  have HWS := Lib.hid hws
  have C2 := Lib.hid (refCkW_any A n c B m d cf w2 (HR.out.below HB2.out))
  rw [← HCP.out] at C2
  obtain ⟨c0, c1, c2⟩ := cells3 HC2.out
  have hwl : (wordsL l).length ≤ 10001 := by have := wordsL_len l; have := HLn.out; omega
  obtain ⟨NW, hNW⟩ : ∃ NW, NW = (wordsL l).length := ⟨_, rfl⟩
  rw [← hNW] at hwl
  have HNW := Lib.hid hNW
  have HW2 : Hid (WsD w2 w1.heap.size (.slice A6 NW c6) (wordsL l)) := Lib.hid (by rw [hNW]; exact hws)
  rw [← hNW]
  clear hb hws CW HW1 HWS HC1 HB1 hNW
  go_wp2_with fail
  refine C2.out.mono ?_
  rintro e w3 ⟨rfl, hb⟩
  have HB3 := Lib.hid (Below.thn HB2.out hb)
  have HC3 := Lib.hid ((hb.block g (Array.getElem?_eq_some_iff.1 HC2.out).1).trans HC2.out)
  have HS3 := Lib.hid hb
  clear hb C2 c0 c1 c2
  by_cases hm : mayC cf
  case neg =>
    rw [may_no hm]
    have HX : Hid (oneX cf l = (⟨#[]⟩, 140)) := Lib.hid (by unfold oneX; rw [if_neg hm])
    clear hm
    go_wp2
    refine bodyPost_ret (v := .tuple #[.string ⟨#[]⟩, .int .i64 140]) (by simp [results, Tryz.results14, go_sem]) rfl ⟨by rw [HX.out], HB3.out⟩
  rw [may_yes hm]
  have HM := Lib.hid hm
  clear hm
  have hcase : (wordsL l = [] ∨ (∃ wd, wordsL l = [wd])) ∨ ∃ k : Nat, (wordsL l).length = k + 2 := by
    match h : wordsL l with
    | [] => exact .inl (.inl rfl)
    | [wd] => exact .inl (.inr ⟨wd, rfl⟩)
    | _ :: _ :: r => exact .inr ⟨r.length, by simp⟩
  rcases hcase with (h0 | ⟨wd, h1⟩) | ⟨k, hk⟩
  · have HX : Hid (oneX cf l = (⟨#[]⟩, 4)) := Lib.hid (by unfold oneX; rw [if_pos HM.out, h0])
    obtain rfl : NW = 0 := by rw [HNW.out, h0]; rfl
    clear h0
    go_wp2
    refine bodyPost_ret (v := .tuple #[.string ⟨#[]⟩, .int .i64 4]) (by simp [results, Tryz.results14, go_sem]) rfl ⟨by rw [HX.out], HB3.out⟩
  · have HX : Hid (oneX cf l = (termS cf wd, 0)) := Lib.hid (by unfold oneX; rw [if_pos HM.out, h1])
    have hN1 : NW = 1 := by rw [HNW.out, h1]; rfl
    subst hN1
    have hD := HW2.out
    rw [h1] at hD
    have hwm : wd ∈ wdG (rnsL l) [] := by
      have : wd ∈ wordsL l := by rw [h1]; simp
      exact this
    have HV : Hid (∀ r ∈ wd, r ≤ 1114111) := Lib.hid (wdG_mem (rnsL l) [] (fun r => r ≤ 1114111) (rns_le HBy.out) (fun r h => by cases h) wd hwm)
    have HWL : Hid (wd.length ≤ 10000) := Lib.hid (by
      have h3 := wdG_wlen (rnsL l) [] wd hwm
      have := rnsL_len l
      have := HLn.out
      simp at h3
      omega)
    obtain ⟨ad, A4, n4, c4, wd', rfl, e0, hx⟩ := wsD_at hD rfl (k := 0) (by decide)
    obtain ⟨⟨hl, e⟩, r4⟩ := hx.out
    have e : wd = wd' := e
    subst e
    have hn4 : n4 ≤ 10000 := by rw [← r4.len]; exact HWL.out
    have E0 : Hid (w3.cell? ad = some (.slice A4 n4 c4)) := Lib.hid (cell_keep HS3.out (by simpa [Addr.add] using e0))
    have C13 : Hid (∀ w9, Below w3.heap.size w3 w9 → Calls Tryz.prog 43 #[confV A n c B m d cp, .slice A4 n4 c4] w9 fun e w' => e = .returned (.string (termS cf wd)) ∧ Below w9.heap.size w9 w') := Lib.hid fun w9 h9 => by
      rw [HCP.out]
      exact refTerm_any A n c B m d cf A4 n4 c4 wd w9 (HR.out.below (Below.thn HB3.out h9)) ((r4.below HS3.out).below h9) HV.out (by omega) HM.out.2.1
    have G0 := Lib.hid (cells3 HC3.out)
    obtain ⟨s, hs⟩ : ∃ s, s = termS cf wd := ⟨_, rfl⟩
    rw [← hs] at C13 HX
    clear h1 hD hx e hl e0 r4 hs hn4 HWL HV hwm
    go_wp2_with fail
    refine wp_region_flow (by kernel_rfl) (OnF A n c B m d cp g ad c6 A4 n4 c4 s) (OnF.below A n c B m d cp g ad c6 A4 n4 c4 s) (by kernel_rfl) (by kernel_rfl) ?_ ?_
    case refine_1 =>
      intro i o ho ρ y w2 hb2 hreg hn hf hyb hyn
      have hi := (Array.getElem?_eq_some_iff.1 ho).1
      rcases Nat.lt_or_ge i 7 with hi2 | hi2
      case inr => simp at hi; omega
      obtain rfl | rfl | rfl | rfl | rfl | rfl | rfl : i = 0 ∨ i = 1 ∨ i = 2 ∨ i = 3 ∨ i = 4 ∨ i = 5 ∨ i = 6 := by omega
      · cases ho
        rw [if_pos (show Region.wanted _ y = true from rfl)]
        have f2 : ρ (.tmp 2) = .pointer (some ⟨g, 0, none⟩) := hf 2 (by kernel_rfl)
        have k0 := cell_keep hb2 G0.out.1
        have k1 := cell_keep hb2 G0.out.2.1
        have k2 := cell_keep hb2 G0.out.2.2
        exact does_ok (v := confV A n c B m d cp) (w' := w2) (by simp [go_sem, hreg.const, f2, k0, k1, k2]) ⟨rfl, Below.refl _ _⟩
      · cases ho
        rw [if_pos (show Region.wanted _ y = true from rfl)]
        have f6 : ρ (.tmp 6) = .slice (some ad) 1 c6 := hf 6 (by kernel_rfl)
        exact ⟨f6, Below.refl _ _⟩
      · cases ho
        rw [if_pos (show Region.wanted _ y = true from rfl)]
        have f10 : ρ (.tmp 10) = .slice (some ad) 1 c6 := hn 1 _ 10 rfl (by kernel_rfl) rfl
        exact does_ok (v := .pointer (some ad)) (w' := w2) (by simp [go_sem, hreg.const, f10, Addr.add]) ⟨rfl, Below.refl _ _⟩
      · cases ho
        rw [if_pos (show Region.wanted _ y = true from rfl)]
        have f11 : ρ (.tmp 11) = .pointer (some ad) := hn 2 _ 11 rfl (by kernel_rfl) rfl
        have k0 := cell_keep hb2 E0.out
        exact does_ok (v := .slice A4 n4 c4) (w' := w2) (by simp [go_sem, hreg.const, f11, k0]) ⟨rfl, Below.refl _ _⟩
      · cases ho
        rw [if_pos (show Region.wanted _ y = true from rfl)]
        have f9 : ρ (.tmp 9) = confV A n c B m d cp := hn 0 _ 9 rfl (by kernel_rfl) rfl
        have f12 : ρ (.tmp 12) = .slice A4 n4 c4 := hn 3 _ 12 rfl (by kernel_rfl) rfl
        refine does_enter (f := 43) (args := #[confV A n c B m d cp, .slice A4 n4 c4]) (w' := w2) (by simp [go_sem, hreg.func, hreg.const, f9, f12]) ?_
        refine (C13.out w2 hb2).mono ?_
        rintro e w' ⟨rfl, hb⟩
        exact ⟨_, rfl, rfl, hb⟩
      · cases ho
        rw [if_pos (show Region.wanted _ y = true from rfl)]
        have f13 : ρ (.tmp 13) = .string s := hn 4 _ 13 rfl (by kernel_rfl) rfl
        exact ⟨f13, Below.refl _ _⟩
      · cases ho
        rw [if_pos (show Region.wanted _ y = true from rfl)]
        exact does_ok (v := .int .i64 0) (w' := w2) (by simp [go_sem, hreg.const]) ⟨rfl, Below.refl _ _⟩
    case refine_2 =>
      intro a w2 hb2 hd hs hfacts hrest
      have q4 : a.tmps.getD 4 undef = .string s := hfacts 5 _ 4 rfl rfl
      have q5 : a.tmps.getD 5 undef = .int .i64 0 := hfacts 6 _ 5 rfl rfl
      have ha := frame_of hd hs hrest [4, 5, 9, 10, 11, 12, 13] (by kernel_rfl)
      simp only [q4, q5, List.foldl, List.setIfInBounds_toArray, List.set_cons_succ, List.set_cons_zero] at ha
      clear q4 q5 hd hs hfacts hrest
      generalize a.tmps.getD = gg at ha
      subst ha
      have HB5 := Lib.hid (Below.thn HB3.out hb2)
      clear hb2 C13
      go_wp2
      refine bodyPost_ret (v := .tuple #[.string s, .int .i64 0]) (by simp [results, Tryz.results14, go_sem]) rfl ⟨by rw [HX.out], HB5.out⟩
  · have HX : Hid (oneX cf l = (⟨#[]⟩, 3)) := Lib.hid (by
      unfold oneX
      rw [if_pos HM.out]
      match h : wordsL l with
      | [] => rw [h] at hk; simp at hk
      | [wd] => rw [h] at hk; simp at hk
      | _ :: _ :: r => rfl)
    have hn2 : ((NW : Nat) : Int) > 1 := by rw [HNW.out]; omega
    have hn0 : (((NW : Nat) : Int) == 0) = false := by simp; omega
    clear hk
    go_wp2
    refine bodyPost_ret (v := .tuple #[.string ⟨#[]⟩, .int .i64 3]) (by simp [results, Tryz.results14, go_sem]) rfl ⟨by rw [HX.out], HB3.out⟩
end Go.Proofs.YtkkeodlnejckjaaGreat
