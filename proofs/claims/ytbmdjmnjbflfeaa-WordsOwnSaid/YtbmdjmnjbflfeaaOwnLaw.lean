/- Each term that is told is its own: the law. -/
import Derived.Test.YtbmdjmnjbflfeaaOne
import Derived.BigQuiet
import Derived.Laws.IdiomStrings
namespace Go.Proofs.Ytbmdjmnjbflfeaa
open Go.RowKit Go.Shelf
set_option linter.unusedVariables false
set_option linter.unusedSimpArgs false

theorem runesFrom_len (l : List Nat) (hb : Byt l) : ∀ (f i : Nat) (acc : Array Value), l.length ≤ i + f → (Conv.runesFrom (strL l) f i acc).size = acc.size + (rnsL (l.drop i)).length
  | 0, i, acc, h => by
    rw [List.drop_eq_nil_of_le (by omega), rnsL_nil]
    rfl
  | f + 1, i, acc, h => by
    unfold Conv.runesFrom
    rw [strL_size]
    by_cases hi : i < l.length
    · rw [if_pos hi, decode_strL l hb i]
      have hne : l.drop i ≠ [] := fun e => by
        have := congrArg List.length e
        rw [List.length_drop] at this
        simp at this
        omega
      have hw := dec_w (l.drop i)
      have h2 := runesFrom_len l hb f (i + (dec (l.drop i)).2) (acc.push (.int .i32 (Int.ofNat (dec (l.drop i)).1))) (by omega)
      rw [rns_step _ hne, List.length_cons, List.drop_drop]
      simp only [Array.size_push] at h2
      refine h2.trans ?_
      omega
    · rw [if_neg hi, List.drop_eq_nil_of_le (by omega), rnsL_nil]
      rfl
theorem conv_r (s : ByteArray) (hs : s.size ≤ 1000000000) (w : World) : ∃ c w', (convert 9 47 (.string s)).run Try.prog w = .ok (.slice (some ⟨w.heap.size, 0, none⟩) (rnsL (bsL s)).length c) w' ∧ Below w.heap.size w w' := by
  have h := runesFrom_len (bsL s) (bsL_byt s) s.size 0 #[] (by rw [bsL_len]; omega)
  rw [bsL_str] at h
  simp only [List.drop_zero, List.size_toArray, List.length_nil, Nat.zero_add] at h
  have h2 := rnsL_len (bsL s)
  rw [bsL_len] at h2
  have h3 := run_runes_of_string (P := Try.prog) w 9 47 21 s Try.underlying9 Try.underlying47 Try.underlying21 (by rw [h]; omega)
  rw [h] at h3
  exact ⟨_, _, h3, (Below.drew (Below.refl _ _)).alloc (Nat.le_refl _) _⟩
theorem one_tok {cf : Cf} (hm : mayC cf) {l : List Nat} {x : ByteArray × Nat} (h : TokOk cf l x) : oneX cf (bsL x.1) = (x.1, 0) := by
  unfold oneX
  rw [if_pos hm, h.one]
  show (termS cf (rnsL (bsL x.1)), (0 : Int)) = (x.1, 0)
  rw [h.same]
set_option maxRecDepth 100000 in
set_option maxHeartbeats 8000000 in
theorem OwnLaw_any (A : Option Addr) (n c : Nat) (B : Option Addr) (m d : Nat) (cf : Cf) (T : Option Addr) (nt ct : Nat) (l : List Nat) (w : World) (h : RdC0 w A n c B m d cf) (ht : RdB w T nt l) (htc : nt ≤ ct) (htc2 : ct ≤ 9223372036854775807) :
    Calls Try.prog 5 #[confV A n c B m d cf.cap, .slice T nt ct] w fun e w' => e = .returned (.bool true) ∧ Below w.heap.size w w' := by
  have HR := Lib.hid h
  have HT := Lib.hid ht
  have HLn := Lib.hid ht.len
  clear ht
  obtain ⟨cp, hcp⟩ : ∃ cp, cp = cf.cap := ⟨_, rfl⟩
  have hbx := (Below.refl w.heap.size w).alloc (Nat.le_refl _) (.cells #[.slice A n c, .slice B m d, .int .i64 cp] 25)
  have hcell := World.alloc_heap_new w (.cells #[.slice A n c, .slice B m d, .int .i64 cp] 25)
  obtain ⟨w1, hw1⟩ : ∃ w1, w1 = w.alloc (.cells #[.slice A n c, .slice B m d, .int .i64 cp] 25) := ⟨_, rfl⟩
  obtain ⟨g, hg⟩ : ∃ g, g = w.heap.size := ⟨_, rfl⟩
  rw [← hw1] at hbx hcell
  rw [← hg] at hcell
  have HW1 := Lib.hid hw1
  have HG := Lib.hid hg
  have HCP := Lib.hid hcp
  have HB1 := Lib.hid hbx
  rw [← hcp]
  have HC1 := Lib.hid hcell
  clear h hw1 hg hcp hbx hcell
  go_enter Try.func5, Try.ntmps5
  go_wp2_with fail
  rw [← HW1.out, ← HG.out]
  clear HW1
  refine (live_any w1).mono ?_
  rintro e w2 ⟨rfl, hb⟩
  have HC2 := Lib.hid ((hb.block g (Array.getElem?_eq_some_iff.1 HC1.out).1).trans HC1.out)
  have HB2 := Lib.hid (Below.thn HB1.out hb)
  obtain ⟨c0, c1, c2⟩ := cells3 HC2.out
  have CF := Lib.hid (few1_any ⟨A, n, c, B, m, d, cf⟩ w2 (HR.out.below HB2.out))
  simp only at CF
  rw [← HCP.out] at CF
  clear hb HC1 HB1
  go_wp2_with fail
  refine CF.out.mono ?_
  rintro e w3 ⟨⟨b, rfl, hbf⟩, hb⟩
  have HC3 := Lib.hid ((hb.block g (Array.getElem?_eq_some_iff.1 HC2.out).1).trans HC2.out)
  have HB3 := Lib.hid (Below.thn HB2.out hb)
  have HFw := Lib.hid hbf
  clear hb hbf CF c0 c1 c2 HC2 HB2
  cases b
  case false =>
    go_wp2_with fail
    refine (live_any _).mono ?_
    rintro e w9 ⟨rfl, hb⟩
    have HB9 := Lib.hid (Below.thn HB3.out hb)
    clear hb
    go_wp2
    go_ret
    exact ⟨rfl, HB9.out⟩
  have hfw := HFw.out.1 (by simp)
  have HRC := Lib.hid (RdC0.full HR.out (by exact hfw.2.2))
  have hm100 : m ≤ 100 := hfw.2.1
  clear hfw HFw
  by_cases hbig : (2000 : Int) < (nt : Int)
  · go_wp2_with fail
    refine (live_any _).mono ?_
    rintro e w9 ⟨rfl, hb⟩
    have HB9 := Lib.hid (Below.thn HB3.out hb)
    clear hb
    go_wp2
    go_ret
    exact ⟨rfl, HB9.out⟩
  have hnt : nt ≤ 2000 := by omega
  obtain ⟨c0, c1, c2⟩ := cells3 HC3.out
  have CK := Lib.hid (CheckW_any A n c B m d cf w3 (HRC.out.below HB3.out))
  rw [← HCP.out] at CK
  go_wp2_with fail
  refine CK.out.mono ?_
  rintro e w4 ⟨rfl, hb⟩
  have HC4 := Lib.hid ((hb.block g (Array.getElem?_eq_some_iff.1 HC3.out).1).trans HC3.out)
  have HB4 := Lib.hid (Below.thn HB3.out hb)
  clear hb CK c0 c1 c2 HC3 HB3
  by_cases hmay : mayC cf
  case neg =>
    rw [may_no hmay]
    clear hmay
    go_wp2_with fail
    refine (live_any _).mono ?_
    rintro e w9 ⟨rfl, hb⟩
    have HB9 := Lib.hid (Below.thn HB4.out hb)
    clear hb
    go_wp2
    go_ret
    exact ⟨rfl, HB9.out⟩
  rw [may_yes hmay]
  have HM := Lib.hid hmay
  have hcp1 : 1 ≤ cp ∧ cp ≤ 12 := by rw [HCP.out]; exact ⟨hmay.2.1, hmay.2.2.1⟩
  have hcp2 := hcp1.1
  have hcp3 := hcp1.2
  clear hmay hcp1
  obtain ⟨c0, c1, c2⟩ := cells3 HC4.out
  have CT := Lib.hid (Tokens_any A n c B m d cf T nt ct l w4 (HRC.out.below HB4.out) (HT.out.below HB4.out) htc (by have := HLn.out; omega) (by omega))
  rw [← HCP.out] at CT
  go_wp2_with fail
  refine CT.out.mono ?_
  rintro e w5 ⟨v8, rfl, ho, hb⟩
  have HC5 := Lib.hid ((hb.block g (Array.getElem?_eq_some_iff.1 HC4.out).1).trans HC4.out)
  have HB5 := Lib.hid (Below.thn HB4.out hb)
  obtain ⟨tk, htk⟩ : ∃ tk, tk = toksL cf l := ⟨_, rfl⟩
  rw [← htk] at ho
  obtain ⟨A8, c8, rfl, h81, h82, h83⟩ := OwnK.rd encTk_len ho
  have htl : tk.length ≤ 2001 := by
    rw [htk]
    have := toks_len cf l
    have := HLn.out
    omega
  obtain ⟨N8, hN8⟩ : ∃ N8, N8 = tk.length := ⟨_, rfl⟩
  rw [← hN8] at h81 h83 ⊢
  have hN8b : N8 ≤ 2001 := by omega
  have HN8 := Lib.hid hN8
  have HI5 : Hid (Below w.heap.size w w5 ∧ RdK encTk 2 w5 A8 N8 tk) := Lib.hid ⟨HB5.out, h83⟩
  have HTK := Lib.hid htk
  have HOK := Lib.hid (show ∀ x ∈ tk, TokOk cf l x from fun x hx => toks_ok HM.out l x (by rw [← htk]; exact hx))
  have HLS := Lib.hid (show ∀ k x, (∃ hk : k < tk.length, tk[k] = x) → ¬ ((x.2 : Int) ≤ lastP tk k) from fun k x h => by rw [htk] at h ⊢; exact last_lt h)
  have HLE := Lib.hid (show ∀ k, lastP tk k < ((wordsL l).length : Nat) from fun k => by rw [htk]; exact last_end cf l k)
  clear ho hb CT c0 c1 c2 h83 hN8 htk htl HC4 HB4
  go_wp2_with fail
  go_loopw [5, 33] (fun x y wr => ∃ ix : Nat, ix ≤ N8 ∧ y = .int .i64 (ix : Nat) ∧ (∃ L : Int, x = .int .i64 L ∧ Hid (L = lastP tk ix)) ∧ Hid (wr.heap[g]? = some (.cells #[.slice A n c, .slice B m d, .int .i64 cp] 25 (0, 0))) ∧ Hid (Below w.heap.size w wr ∧ RdK encTk 2 wr A8 N8 tk)) (fun _ y _ => N8 - (intOf y).toNat)
  case atStart => exact ⟨0, Nat.zero_le _, rfl, ⟨_, rfl, Lib.hid rfl⟩, HC5, HI5⟩
  case round =>
    obtain ⟨ix, hi, rfl, ⟨L, rfl, HL⟩, HC6, HI⟩ := hrel
    by_cases hlt : (ix : Int) < (N8 : Int)
    · obtain ⟨ad, x, rfl, HX, x0, x1⟩ := HI.out.2.at2 (k := ix) (by omega)
      have hxm : x ∈ tk := by
        obtain ⟨hl, rfl⟩ := HX.out
        exact List.getElem_mem hl
      have HO := Lib.hid (HOK.out x hxm)
      have hsz : (x.1.size : Int) ≤ 2 * cp := by
        have := HO.out.size
        have := HCP.out
        omega
      have hrn : ((rnsL (bsL x.1)).length : Int) ≤ cp := by
        have := HO.out.runes
        have := HCP.out
        omega
      have hps : ¬ ((x.2 : Int) ≤ L) := by rw [HL.out]; exact Int.not_le.2 (HLS.out ix x HX.out)
      have HSZ := Lib.hid hsz
      have HRN := Lib.hid hrn
      have HPS := Lib.hid hps
      have HNX : Hid ((x.2 : Int) = lastP tk (ix + 1)) := Lib.hid (last_next HX.out)
      have hbA : Below wr.heap.size wr (wr.alloc (.cells #[.string x.1, .int .i64 (x.2 : Nat)] 33)) := (Below.refl _ _).alloc (Nat.le_refl _) _
      have hcA := World.alloc_heap_new wr (.cells #[.string x.1, .int .i64 (x.2 : Nat)] 33)
      have hcC : (wr.alloc (.cells #[.string x.1, .int .i64 (x.2 : Nat)] 33)).heap[g]? = some (.cells #[.slice A n c, .slice B m d, .int .i64 cp] 25 (0, 0)) := (hbA.block g (Array.getElem?_eq_some_iff.1 HC6.out).1).trans HC6.out
      obtain ⟨c0, c1, c2⟩ := cells3 hcC
      obtain ⟨y0, y1⟩ := tok_box hcA
      obtain ⟨cv, wB, hcv, hRB, hbB, hcv1, hcv2⟩ := conv_s x.1 (by omega) (wr.alloc (.cells #[.string x.1, .int .i64 (x.2 : Nat)] 33))
      have HBA := Lib.hid (Below.thn hbA hbB)
      have HBW := Lib.hid (HI.out.1.trans ((Below.thn hbA hbB).mono HI.out.1.size))
      have HCB := Lib.hid ((hbB.block g (Array.getElem?_eq_some_iff.1 hcC).1).trans hcC)
      have HXB := Lib.hid ((hbB.block wr.heap.size (by simp)).trans hcA)
      have CO := Lib.hid (One_any A n c B m d cf (some ⟨(wr.alloc (.cells #[.string x.1, .int .i64 (x.2 : Nat)] 33)).heap.size, 0, none⟩) x.1.size cv (bsL x.1) wB (HRC.out.below HBW.out) hRB hcv1 (by rw [bsL_len]; omega))
      rw [one_tok HM.out HO.out, ← HCP.out] at CO
      simp only [World.size_alloc] at CO hcv
      clear hxm hbA hcA hcC hRB hbB hsz hrn hps
      go_wp2_with fail
      refine CO.out.mono ?_
      rintro e w6 ⟨rfl, hb⟩
      have HB6 := Lib.hid (Below.thn HBW.out hb)
      have HBr := Lib.hid (Below.thn HBA.out hb)
      have HC7 := Lib.hid ((hb.block g (Array.getElem?_eq_some_iff.1 HCB.out).1).trans HCB.out)
      have HX6 := Lib.hid ((hb.block _ (Array.getElem?_eq_some_iff.1 HXB.out).1).trans HXB.out)
      have CS := Lib.hid (Stop_any A n c B m d cf x.1 w6 (HRC.out.below HB6.out) (by omega) HM.out)
      rw [HO.out.no, ← HCP.out] at CS
      clear CO c0 c1 c2 y0 y1 hcv hb HBA HBW HCB HXB hcv1 hcv2
      obtain ⟨c0, c1, c2⟩ := cells3 HC7.out
      obtain ⟨y0, y1⟩ := tok_box HX6.out
      go_wp2_with fail
      refine CS.out.mono ?_
      rintro e w7 ⟨rfl, hb⟩
      have HB7 := Lib.hid (Below.thn HB6.out hb)
      have HB7r := Lib.hid (Below.thn HBr.out hb)
      have HC8 := Lib.hid ((hb.block g (Array.getElem?_eq_some_iff.1 HC7.out).1).trans HC7.out)
      have HX7 := Lib.hid ((hb.block _ (Array.getElem?_eq_some_iff.1 HX6.out).1).trans HX6.out)
      obtain ⟨cr, w8, hcr, hb8⟩ := conv_r x.1 (by have := HSZ.out; omega) w7
      have HB8 := Lib.hid (Below.thn HB7.out hb8)
      have HB8r := Lib.hid (Below.thn HB7r.out hb8)
      have HC9 := Lib.hid ((hb8.block g (Array.getElem?_eq_some_iff.1 HC8.out).1).trans HC8.out)
      have HX8 := Lib.hid ((hb8.block _ (Array.getElem?_eq_some_iff.1 HX7.out).1).trans HX7.out)
      clear CS c0 c1 c2 y0 y1 hb hb8 HB6 HBr HC7 HX6
      obtain ⟨c0, c1, c2⟩ := cells3 HC8.out
      obtain ⟨y0, y1⟩ := tok_box HX7.out
      obtain ⟨k0, k1, k2⟩ := cells3 HC9.out
      obtain ⟨z0, z1⟩ := tok_box HX8.out
      have hsz := HSZ.out
      have hps := HPS.out
      have hrn := HRN.out
      obtain ⟨kr, hkr⟩ : ∃ kr, kr = (rnsL (bsL x.1)).length := ⟨_, rfl⟩
      rw [← hkr] at hcr hrn
      clear hkr
      have HN : Hid (w8.heap[g]? = some (.cells #[.slice A n c, .slice B m d, .int .i64 cp] 25 (0, 0))) := HC9
      have HNI : Hid (Below w.heap.size w w8 ∧ RdK encTk 2 w8 (some ad) N8 tk) := Lib.hid ⟨HB8.out, HI.out.2.below HB8r.out⟩
      go_wp2_with fail
      exact ⟨⟨ix + 1, by omega, by simp; try go_num, ⟨_, rfl, HNX⟩, HN, HNI⟩, by simp [intOf]; try omega⟩
    · have CC := Lib.hid (Count_any T nt ct l wr (HT.out.below HI.out.1) htc)
      have hle : L < ((wordsL l).length : Nat) := by rw [HL.out]; exact HLE.out ix
      go_wp2_with fail
      refine CC.out.mono ?_
      rintro e w6 ⟨rfl, hb⟩
      have HB6 := Lib.hid (Below.thn HI.out.1 hb)
      clear CC hb
      go_wp2
      go_ret
      exact ⟨rfl, HB6.out⟩
end Go.Proofs.Ytbmdjmnjbflfeaa
