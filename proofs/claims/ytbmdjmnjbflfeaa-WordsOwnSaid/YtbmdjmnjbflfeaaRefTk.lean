/- The tokens of a text, and how many words it has, by the document. -/
import Derived.Test.YtbmdjmnjbflfeaaRefWd
import Derived.Test.YtbmdjmnjbflfeaaTold
import Derived.Test.YtbmdjmnjbflfeaaAll
import Derived.Test.YtbmdjmnjbflfeaaFoldLaw
namespace Go.Proofs.Ytbmdjmnjbflfeaa
open Go.RowKit Go.Shelf
set_option linter.unusedVariables false
set_option linter.unusedSimpArgs false

theorem tmG_append (cf : Cf) : ∀ (a b : List (List Nat)) (k : Nat), tmG cf (a ++ b) k = tmG cf a k ++ tmG cf b (k + a.length)
  | [], b, k => by simp [tmG]
  | w :: a, b, k => by
    simp only [List.cons_append, tmG, tmG_append cf a b (k + 1), List.length_cons]
    rw [show k + 1 + a.length = k + (a.length + 1) by omega]
theorem tmG_take (cf : Cf) {ws : List (List Nat)} {i : Nat} {wd : List Nat} (hx : ∃ hl : i < ws.length, ws[i] = wd) : tmG cf (ws.take (i + 1)) 0 = tmG cf (ws.take i) 0 ++ [(i, termS cf wd)] := by
  obtain ⟨hl, rfl⟩ := hx
  rw [List.take_succ_eq_append_getElem hl, tmG_append]
  simp [tmG, List.length_take, Nat.min_eq_left (Nat.le_of_lt hl)]
theorem wdG_wlen : ∀ (rs cur : List Nat), ∀ w ∈ wdG rs cur, w.length ≤ cur.length + rs.length
  | [], cur, w, hw => by
    unfold wdG at hw
    split at hw
    · cases hw
    · simp at hw
      subst hw
      simp
  | r :: rs, cur, w, hw => by
    unfold wdG at hw
    split at hw
    · have := wdG_wlen rs (cur ++ [r]) w hw
      simp at this ⊢
      omega
    · split at hw
      · have := wdG_wlen rs [] w hw
        simp at this ⊢
        omega
      · rcases List.mem_cons.1 hw with h | h
        · subst h; simp
        · have := wdG_wlen rs [] w h
          simp at this ⊢
          omega
theorem wsD_at {w : World} {base : Nat} {A : Option Addr} {n c : Nat} {ws : List (List Nat)} (h : WsD w base (.slice A n c) ws) (hn : n = ws.length) {k : Nat} (hk : k < n) :
    ∃ (ad : Addr) (A' : Option Addr) (n' c' : Nat) (wd : List Nat), A = some ad ∧ w.cell? (ad.add k) = some (.slice A' n' c') ∧ Hid ((∃ hl : k < ws.length, ws[k] = wd) ∧ Rd encR w A' n' wd) := by
  obtain ⟨vs, h1, h2, h3, h4⟩ := h
  have hkv : k < vs.length := by omega
  have hkw : k < ws.length := by omega
  obtain ⟨A', c', e, _, _, h6⟩ := h1.rd
  injection e with e1 e2 e3
  subst e1
  obtain ⟨ad, e4, hc⟩ := h6.cell (by omega)
  obtain ⟨A8, c8, e8, _, _, h8⟩ := (h4 k hkv hkw).rd
  exact ⟨ad, A8, _, c8, ws[k], e4, by rw [hc k hkv]; show some vs[k] = _; rw [e8], Lib.hid ⟨⟨hkw, rfl⟩, h8⟩⟩
def TkF (A : Option Addr) (n c : Nat) (B : Option Addr) (m d : Nat) (cp : Int) (g : Nat) (ad : Addr) (nw cw ix : Nat) (A8 : Option Addr) (n8 c8 : Nat) (s : ByteArray) : Nat → Value → World → Prop
  | 0 => fun v w => v = confV A n c B m d cp
  | 1 => fun v w => v = .slice (some ad) nw cw
  | 2 => fun v w => v = .int .i64 (ix : Nat)
  | 3 => fun v w => v = .pointer (some (ad.add ix))
  | 4 => fun v w => v = .slice A8 n8 c8
  | 5 => fun v w => v = .string s
  | 6 => fun v w => v = .string s
  | _ => fun _ _ => True
theorem TkF.below (A : Option Addr) (n c : Nat) (B : Option Addr) (m d : Nat) (cp : Int) (g : Nat) (ad : Addr) (nw cw ix : Nat) (A8 : Option Addr) (n8 c8 : Nat) (s : ByteArray) : ∀ i v w w', Below w.heap.size w w' → TkF A n c B m d cp g ad nw cw ix A8 n8 c8 s i v w → TkF A n c B m d cp g ad nw cw ix A8 n8 c8 s i v w'
  | 0, _, _, _, _, h => h
  | 1, _, _, _, _, h => h
  | 2, _, _, _, _, h => h
  | 3, _, _, _, _, h => h
  | 4, _, _, _, _, h => h
  | 5, _, _, _, _, h => h
  | 6, _, _, _, _, h => h
  | _ + 7, _, _, _, _, _ => trivial

set_option maxRecDepth 100000 in
set_option maxHeartbeats 1000000 in
theorem refCount_any (A : Option Addr) (n c : Nat) (l : List Nat) (w : World) (hl : RdB w A n l) (hc : n ≤ c) (hn : n ≤ 10000000) (hc2 : c ≤ 9223372036854775807) :
    Calls Try.prog 18 #[.slice A n c] w fun e w' => e = .returned (.int .i64 ((wordsL l).length : Nat)) ∧ Below w.heap.size w w' := by
  have C := Lib.hid (refWords_any A n c l w hl hc hn hc2)
  clear hl
  go_enter Try.func18, Try.ntmps18
  go_wp2_with fail
  refine C.out.mono ?_
  rintro e w1 ⟨v, rfl, ho, hb⟩
  obtain ⟨A1, c1, rfl, _⟩ := ho.byV
  have HB := Lib.hid hb
  clear ho hb C
  go_wp2
  go_ret
  exact ⟨rfl, HB.out⟩
set_option maxRecDepth 100000 in
set_option maxHeartbeats 8000000 in
theorem refTokens_any (A : Option Addr) (n c : Nat) (B : Option Addr) (m d : Nat) (cf : Cf) (T : Option Addr) (nt ct : Nat) (l : List Nat) (w : World) (h : RdC w A n c B m d cf) (ht : RdB w T nt l) (htc : nt ≤ ct) (htl : nt ≤ 1000000) (htc2 : ct ≤ 9223372036854775807) (hm : m ≤ 1000000) :
    Calls Try.prog 12 #[confV A n c B m d cf.cap, .slice T nt ct] w fun e w' => ∃ v, e = .returned v ∧ OwnK encTk 2 33 w' w.heap.size v (toksL cf l) ∧ Below w.heap.size w w' := by
  have HR := Lib.hid h
  have HT := Lib.hid ht
  have HLn := Lib.hid ht.len
  obtain ⟨cp, hcp⟩ : ∃ cp, cp = cf.cap := ⟨_, rfl⟩
  have hbx := (Below.refl w.heap.size w).alloc (Nat.le_refl _) (.cells #[.slice A n c, .slice B m d, .int .i64 cp] 25)
  have hcell := World.alloc_heap_new w (.cells #[.slice A n c, .slice B m d, .int .i64 cp] 25)
  obtain ⟨w1, hw1⟩ : ∃ w1, w1 = w.alloc (.cells #[.slice A n c, .slice B m d, .int .i64 cp] 25) := ⟨_, rfl⟩
  obtain ⟨g, hg⟩ : ∃ g, g = w.heap.size := ⟨_, rfl⟩
  rw [← hw1] at hbx hcell
  rw [← hg] at hcell
  have HW1 := Lib.hid hw1
  have HG := Lib.hid hg
  have HCP := Lib.hid hcp
  have HB1 := Lib.hid hbx
  have C1 := Lib.hid (refCkW_any A n c B m d cf w1 (h.below hbx))
  rw [← hcp] at C1 ⊢
  obtain ⟨c0, c1, c2⟩ := cells3 hcell
  have d0 := c0
  have d1 := c1
  have d2 := c2
  rw [hw1] at d0 d1 d2
  rw [hg] at d0 d1 d2
  have HC1 := Lib.hid hcell
  clear h ht hw1 hg hcp hbx hcell
  go_enter Try.func12, Try.ntmps12
  go_wp2_with fail
  rw [← HW1.out, ← HG.out]
  clear HW1 d0 d1 d2
  refine C1.out.mono ?_
  rintro e w2 ⟨rfl, hb⟩
  have HC2 := Lib.hid ((hb.block g (Array.getElem?_eq_some_iff.1 HC1.out).1).trans HC1.out)
  have HB2 := Lib.hid (HB1.out.trans (hb.mono HB1.out.size))
  clear hb C1 c0 c1 c2 HC1 HB1
  by_cases hmay : mayC cf
  case neg =>
    rw [may_no hmay]
    have HE : Hid (toksL cf l = []) := Lib.hid (by unfold toksL termsL; rw [if_neg hmay]; rfl)
    clear hmay
    go_wp2
    go_ret
    exact ⟨_, rfl, by rw [HE.out]; exact OwnK.nil _ _ _ _ _, HB2.out⟩
  rw [may_yes hmay]
  have HMay := Lib.hid hmay
  have HE : Hid (toksL cf l = fltL cf.st (tmG cf (wordsL l) 0)) := Lib.hid (by rw [toks_flt]; unfold termsL; rw [if_pos hmay])
  have hcap1 : 1 ≤ cf.cap := hmay.2.1
  have HCAP := Lib.hid hcap1
  have C2 := Lib.hid (refWords_any T nt ct l w2 (HT.out.below HB2.out) htc (by omega) htc2)
  clear hmay hcap1
  go_wp2_with fail
  refine C2.out.mono ?_
  rintro e w3 ⟨lv, rfl, ho, hb⟩
  have HC3 := Lib.hid ((hb.block g (Array.getElem?_eq_some_iff.1 HC2.out).1).trans HC2.out)
  have HB3 := Lib.hid (HB2.out.trans (hb.mono HB2.out.size))
  obtain ⟨A6, cw, rfl, hlw⟩ := ho.byV
  have hwl := wordsL_len l
  have hval : ∀ wd ∈ wordsL l, ∀ r ∈ wd, r ≤ 1114111 := fun wd hw r hr => wdG_mem _ [] (fun r => r ≤ 1114111) (rns_le HT.out.byt) (fun r h => by cases h) wd hw r hr
  have hwlen : ∀ wd ∈ wordsL l, wd.length ≤ 1000000 := fun wd hw => by
    have h1 := wdG_wlen (rnsL l) [] wd hw
    have := rnsL_len l
    have := HLn.out
    simp at h1
    omega
  obtain ⟨ws, hws⟩ : ∃ ws, ws = wordsL l := ⟨_, rfl⟩
  rw [← hws] at ho hlw hwl hval hwlen HE
  rw [← hws]
  obtain ⟨nw, hnw⟩ : ∃ nw, nw = ws.length := ⟨_, rfl⟩
  rw [← hnw] at ho hlw
  rw [← hnw]
  have hnwb : nw ≤ 1000001 := by have := HLn.out; omega
  have HO := Lib.hid ho
  have HNW := Lib.hid hnw
  have HV := Lib.hid hval
  have HWL := Lib.hid hwlen
  clear ho hb hws hnw hwl hval hwlen C2 HC2 HB2
  go_wp2_with fail
  go_loopw [5, 7] (fun x y wr => ∃ ix : Nat, ix ≤ nw ∧ y = .int .i64 (ix : Nat) ∧ Hid (wr.heap[g]? = some (.cells #[.slice A n c, .slice B m d, .int .i64 cp] 25 (0, 0))) ∧ Hid (Below w.heap.size w wr ∧ WsD wr w2.heap.size (.slice A6 nw cw) ws ∧ OwnK encTk 2 33 wr w.heap.size x (fltL cf.st (tmG cf (ws.take ix) 0)))) (fun _ y _ => nw - (intOf y).toNat)
  case atStart => exact ⟨0, Nat.zero_le _, rfl, HC3, Lib.hid ⟨HB3.out, HO.out, OwnK.nil _ _ _ _ _⟩⟩
  case round =>
    obtain ⟨ix, hi, rfl, HC4, HI⟩ := hrel
    by_cases hlt : (ix : Int) < (nw : Int)
    · obtain ⟨ad, A8, n8, c8, wd, rfl, e0, HX⟩ := wsD_at HI.out.2.1 HNW.out (k := ix) (by omega)
      have hwm : wd ∈ ws := by
        obtain ⟨⟨hl, rfl⟩, _⟩ := HX.out
        exact List.getElem_mem hl
      have E0 := Lib.hid e0
      have G0 := Lib.hid (cells3 HC4.out)
      have hj1 : (ix : Int) < (nw : Int) := hlt
      have hj2 : ix < nw := by omega
      have hn8 := HX.out.2.len
      have h8 : n8 ≤ 1000000 := by have := HWL.out wd hwm; omega
      obtain ⟨s, hs⟩ : ∃ s, s = termS cf wd := ⟨_, rfl⟩
      have C25 : Hid (∀ w2, Below wr.heap.size wr w2 → Calls Try.prog 39 #[confV A n c B m d cp, .slice A8 n8 c8] w2 fun e w' => e = .returned (.string s) ∧ Below w2.heap.size w2 w') := Lib.hid fun w2 h2 => by
        rw [hs, HCP.out]
        exact refTerm_any A n c B m d cf A8 n8 c8 wd w2 (HR.out.below (Below.thn HI.out.1 h2)) (HX.out.2.below h2) (HV.out wd hwm) (by omega) HCAP.out
      have HST := Lib.hid (tmG_take cf HX.out.1)
      rw [← hs] at HST
      clear e0 hs hn8 h8 hwm
      go_wp2_with fail
      refine wp_region_flow (by kernel_rfl) (TkF A n c B m d cp g ad nw cw ix A8 n8 c8 s) (TkF.below A n c B m d cp g ad nw cw ix A8 n8 c8 s) (by kernel_rfl) (by kernel_rfl) ?_ ?_
      case refine_1 =>
        intro i o ho ρ y w2 hb2 hreg hn hf hyb hyn
        have hi := (Array.getElem?_eq_some_iff.1 ho).1
        rcases Nat.lt_or_ge i 7 with hi2 | hi2
        case inr => simp at hi; omega
        obtain rfl | rfl | rfl | rfl | rfl | rfl | rfl : i = 0 ∨ i = 1 ∨ i = 2 ∨ i = 3 ∨ i = 4 ∨ i = 5 ∨ i = 6 := by omega
        · cases ho
          rw [if_pos (show Region.wanted _ y = true from rfl)]
          have f2 : ρ (.tmp 2) = .pointer (some ⟨g, 0, none⟩) := hf 2 (by kernel_rfl)
          have k0 := cell_keep hb2 G0.out.1
          have k1 := cell_keep hb2 G0.out.2.1
          have k2 := cell_keep hb2 G0.out.2.2
          exact does_ok (v := confV A n c B m d cp) (w' := w2) (by simp [go_sem, hreg.const, f2, k0, k1, k2]) ⟨rfl, Below.refl _ _⟩
        · cases ho
          rw [if_pos (show Region.wanted _ y = true from rfl)]
          have f6 : ρ (.tmp 6) = .slice (some ad) nw cw := hf 6 (by kernel_rfl)
          exact ⟨f6, Below.refl _ _⟩
        · cases ho
          rw [if_pos (show Region.wanted _ y = true from rfl)]
          have f7 : ρ (.tmp 7) = .int .i64 (ix : Nat) := hf 7 (by kernel_rfl)
          exact ⟨f7, Below.refl _ _⟩
        · cases ho
          rw [if_pos (show Region.wanted _ y = true from rfl)]
          have f21 : ρ (.tmp 21) = .slice (some ad) nw cw := hn 1 _ 21 rfl (by kernel_rfl) rfl
          have f22 : ρ (.tmp 22) = .int .i64 (ix : Nat) := hn 2 _ 22 rfl (by kernel_rfl) rfl
          exact does_ok (v := .pointer (some (ad.add ix))) (w' := w2) (by simp [go_sem, hreg.const, f21, f22, hj1, hj2]) ⟨rfl, Below.refl _ _⟩
        · cases ho
          rw [if_pos (show Region.wanted _ y = true from rfl)]
          have f23 : ρ (.tmp 23) = .pointer (some (ad.add ix)) := hn 3 _ 23 rfl (by kernel_rfl) rfl
          have k0 := cell_keep hb2 E0.out
          exact does_ok (v := .slice A8 n8 c8) (w' := w2) (by simp [go_sem, hreg.const, f23, k0]) ⟨rfl, Below.refl _ _⟩
        · cases ho
          rw [if_pos (show Region.wanted _ y = true from rfl)]
          have f20 : ρ (.tmp 20) = confV A n c B m d cp := hn 0 _ 20 rfl (by kernel_rfl) rfl
          have f24 : ρ (.tmp 24) = .slice A8 n8 c8 := hn 4 _ 24 rfl (by kernel_rfl) rfl
          refine does_enter (f := 39) (args := #[confV A n c B m d cp, .slice A8 n8 c8]) (w' := w2) (by simp [go_sem, hreg.func, hreg.const, f20, f24]) ?_
          refine (C25.out w2 hb2).mono ?_
          rintro e w' ⟨rfl, hb⟩
          exact ⟨_, rfl, rfl, hb⟩
        · cases ho
          rw [if_pos (show Region.wanted _ y = true from rfl)]
          have f25 : ρ (.tmp 25) = .string s := hn 5 _ 25 rfl (by kernel_rfl) rfl
          exact ⟨f25, Below.refl _ _⟩
      case refine_2 =>
        intro a w5 hb2 hd hs hfacts hrest
        have q8 : a.tmps.getD 8 undef = .string s := hfacts 6 _ 8 rfl rfl
        have ha := frame_of hd hs hrest [8, 20, 21, 22, 23, 24, 25] (by kernel_rfl)
        simp only [q8, List.foldl, List.setIfInBounds_toArray, List.set_cons_succ, List.set_cons_zero] at ha
        clear q8 hd hs hfacts hrest
        generalize a.tmps.getD = gg at ha
        subst ha
        have HC5 := Lib.hid ((hb2.block g (Array.getElem?_eq_some_iff.1 HC4.out).1).trans HC4.out)
        have HB5 := Lib.hid (Below.thn HI.out.1 hb2)
        have HW5 := Lib.hid (HI.out.2.1.below hb2)
        have HO5 := Lib.hid (OwnK.below HI.out.2.2 hb2)
        have CS := Lib.hid (refStop_any A n c B m d cf s w5 (HR.out.below HB5.out) hm)
        rw [← HCP.out] at CS
        obtain ⟨c0, c1, c2⟩ := cells3 HC5.out
        clear hb2 C25
        go_wp2_with fail
        refine CS.out.mono ?_
        rintro e w6 ⟨⟨b, rfl, hbs⟩, hb⟩
        have HC6 := Lib.hid ((hb.block g (Array.getElem?_eq_some_iff.1 HC5.out).1).trans HC5.out)
        have HB6 := Lib.hid (Below.thn HB5.out hb)
        have HW6 := Lib.hid (HW5.out.below hb)
        have HO6 := Lib.hid (OwnK.below HO5.out hb)
        have HBS := Lib.hid hbs
        clear hb hbs CS c0 c1 c2 HC5 HB5 HW5 HO5
        cases b
        case true =>
          have HN : Hid (fltL cf.st (tmG cf (ws.take (ix + 1)) 0) = fltL cf.st (tmG cf (ws.take ix) 0)) := Lib.hid (by
            rw [HST.out]
            exact flt_yes ((HBS.out.1 (by simp)).1))
          go_wp2
          exact ⟨⟨ix + 1, by omega, by simp; try go_num, HC6, Lib.hid ⟨HB6.out, HW6.out, by rw [HN.out]; exact HO6.out⟩⟩, by simp [intOf]; try omega⟩
        case false =>
          have hin : inS cf.st s = false := by
            cases h : inS cf.st s with
            | false => rfl
            | true => exact absurd (HBS.out.2 ⟨h, HMay.out⟩) (by simp)
          have HN : Hid (fltL cf.st (tmG cf (ws.take (ix + 1)) 0) = fltL cf.st (tmG cf (ws.take ix) 0) ++ [(s, ix)]) := Lib.hid (by
            rw [HST.out]
            exact flt_no hin)
          have hfl : (fltL cf.st (tmG cf (ws.take ix) 0)).length ≤ 1000001 := by
            unfold fltL
            rw [List.length_map]
            refine Nat.le_trans (List.length_filter_le _ _) ?_
            rw [tmG_len, List.length_take]
            omega
          have hbA : Below w6.heap.size w6 (w6.alloc (.cells #[.string s, .int .i64 (ix : Nat)] 33)) := (Below.refl _ _).alloc (Nat.le_refl _) _
          have hA := OwnK.below HO6.out hbA
          have hrd := RdK.one (enc := encTk) (sz := 2) w6 33 (s, ix) #[.string s, .int .i64 (ix : Nat)] (0, 0) rfl rfl
          obtain ⟨v1, w7, r1, o1, g1, at1⟩ := run_append_rdK (P := Try.prog) (c := 1) w.heap.size 29 29 33 (.agg #[.string .empty, .int .i64 0]) 24 Try.underlying29 infoTk rfl (by decide) (by decide) encTk_len encTk_one hA hrd (by omega) (by have := HB6.out.size; simp; omega)
          have key : ∀ (j : Nat) (o : Obj), w6.heap[j]? = some o → (∀ C fr, o ≠ .cells C 33 fr) → w7.heap[j]? = some o := fun j o hj ho => by
            have h1 := (hbA.block j (Array.getElem?_eq_some_iff.1 hj).1).trans hj
            refine (g1.block j (Array.getElem?_eq_some_iff.1 h1).1 (fun e => ?_)).trans h1
            rcases hA.2 with ⟨e2, _⟩ | ⟨g', cap, cur, e2, _, hh, _⟩
            · rw [e2] at e; simp [Value.ownBlock] at e
            · rw [e2] at e
              simp only [Value.ownBlock, Option.some.injEq] at e
              subst e
              rw [h1] at hh
              cases hh
              exact ho _ _ rfl
          have hW7 : WsD w7 w2.heap.size (.slice (some ad) nw cw) ws := by
            obtain ⟨vs, h1, h2, h3, h4⟩ := HW6.out
            exact ⟨vs, (h1.below hbA).kept g1 (rows_apart (h1.below hbA) hA (by decide)), h2, h3, fun i hi hi' => ((h4 i hi hi').below hbA).kept g1 (rows_apart ((h4 i hi hi').below hbA) hA (by decide))⟩
          have HN7 : Hid (w7.heap[g]? = some (.cells #[.slice A n c, .slice B m d, .int .i64 cp] 25 (0, 0)) ∧ Below w.heap.size w w7 ∧ WsD w7 w2.heap.size (.slice (some ad) nw cw) ws ∧ OwnK encTk 2 33 w7 w.heap.size v1 (fltL cf.st (tmG cf (ws.take (ix + 1)) 0))) := Lib.hid
            ⟨key g _ HC6.out (fun C fr e => by cases e), (Below.thn HB6.out hbA).grown g1 (by have := HB6.out.size; simp; omega) (fun j hj => (OwnK.base hA j hj).1), hW7, by rw [HN.out]; exact o1⟩
          clear hbA hA hrd o1 g1 at1 key hW7 hfl hin
          go_wp2_with (at_builtin; refine wpl_append_run rfl _ _ _ rfl rfl rfl r1 ?_)
          exact ⟨⟨ix + 1, by omega, by simp; try go_num, Lib.hid HN7.out.1, Lib.hid HN7.out.2⟩, by simp [intOf]; try omega⟩
    · have HF : Hid (OwnK encTk 2 33 wr w.heap.size u5 (toksL cf l)) := Lib.hid (by
        have h := HI.out.2.2
        rw [List.take_of_length_le (by have := HNW.out; omega), ← HE.out] at h
        exact h)
      go_wp2
      go_ret
      exact ⟨_, rfl, HF.out, HI.out.1⟩
end Go.Proofs.Ytbmdjmnjbflfeaa
