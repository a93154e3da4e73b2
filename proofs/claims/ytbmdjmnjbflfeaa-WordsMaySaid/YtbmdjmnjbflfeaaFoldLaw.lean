/- A text, and its runes folded, have the same terms at the same places: the law. -/
import Derived.Test.YtbmdjmnjbflfeaaLiveW
import Derived.Test.YtbmdjmnjbflfeaaCnt
import Derived.Test.YtbmdjmnjbflfeaaRefCk
import Derived.BigQuiet
namespace Go.Proofs.Ytbmdjmnjbflfeaa
open Go.RowKit Go.Shelf
set_option linter.unusedVariables false
set_option linter.unusedSimpArgs false

theorem wdG_rel (fo : List Fo) : ∀ (rs rs' cur cur' : List Nat), rs'.map (fun n : Nat => (n : Int)) = rs.map (fun r : Nat => oneR (eff fo) (r : Int)) → cur'.map (fun n : Nat => (n : Int)) = cur.map (fun r : Nat => oneR (eff fo) (r : Int)) → (∀ r ∈ rs, r ≤ 1114111) →
    (wdG rs' cur').map (fun w => w.map fun n : Nat => (n : Int)) = (wdG rs cur).map (fun w => w.map fun r : Nat => oneR (eff fo) (r : Int))
  | [], [], cur, cur', h1, h2, _ => by
    unfold wdG
    by_cases hc : cur = []
    · have hc' : cur' = [] := by subst hc; simpa using h2
      rw [if_pos hc, if_pos hc']
      rfl
    · have hc' : cur' ≠ [] := by
        intro h; subst h
        simp at h2
        exact hc h2
      rw [if_neg hc, if_neg hc']
      simp [h2]
  | [], _ :: _, _, _, h1, _, _ => by simp at h1
  | _ :: _, [], _, _, h1, _, _ => by simp at h1
  | r :: rs, r' :: rs', cur, cur', h1, h2, h3 => by
    simp only [List.map_cons, List.cons.injEq] at h1
    have hr := h3 r (by simp)
    have hl : letB (r' : Int) = letB (r : Int) := by rw [h1.1]; exact oneE_let fo (by omega) (by omega)
    have h3' : ∀ x ∈ rs, x ≤ 1114111 := fun x hx => h3 x (by simp [hx])
    have hce : (cur' = []) ↔ (cur = []) := by
      constructor
      · intro h; subst h; simpa using h2.symm
      · intro h; subst h; simpa using h2
    unfold wdG
    rw [hl]
    by_cases hlt : letB (r : Int) = true
    · rw [if_pos hlt, if_pos hlt]
      exact wdG_rel fo rs rs' _ _ h1.2 (by rw [List.map_append, List.map_append, h2]; simp [h1.1]) h3'
    · rw [if_neg hlt, if_neg hlt]
      by_cases hc : cur = []
      · rw [if_pos hc, if_pos (hce.2 hc)]
        exact wdG_rel fo rs rs' [] [] h1.2 rfl h3'
      · rw [if_neg hc, if_neg (fun h => hc (hce.1 h)), List.map_cons, List.map_cons, h2, wdG_rel fo rs rs' [] [] h1.2 rfl h3']
theorem wdG_mem : ∀ (rs cur : List Nat) (P : Nat → Prop), (∀ r ∈ rs, P r) → (∀ r ∈ cur, P r) → ∀ w ∈ wdG rs cur, ∀ r ∈ w, P r
  | [], cur, P, _, h2, w, hw => by
    unfold wdG at hw
    split at hw
    · cases hw
    · simp at hw
      subst hw
      exact h2
  | r :: rs, cur, P, h1, h2, w, hw => by
    have h1' : ∀ x ∈ rs, P x := fun x hx => h1 x (by simp [hx])
    unfold wdG at hw
    split at hw
    · exact wdG_mem rs (cur ++ [r]) P h1' (fun x hx => by
        rcases List.mem_append.1 hx with h | h
        · exact h2 x h
        · simp at h
          subst h
          exact h1 x (by simp)) w hw
    · split at hw
      · exact wdG_mem rs [] P h1' (fun x hx => by cases hx) w hw
      · rcases List.mem_cons.1 hw with h | h
        · subst h; exact h2
        · exact wdG_mem rs [] P h1' (fun x hx => by cases hx) w h
theorem tmG_rel (c : Cf) : ∀ (ws ws' : List (List Nat)) (k : Nat), ws'.map (fun w => w.map fun n : Nat => (n : Int)) = ws.map (fun w => w.map fun r : Nat => oneR (eff c.fo) (r : Int)) → (∀ w ∈ ws, ∀ r ∈ w, r ≤ 1114111) → tmG c ws' k = tmG c ws k
  | [], [], _, _, _ => rfl
  | [], _ :: _, _, h, _ => by simp at h
  | _ :: _, [], _, h, _ => by simp at h
  | w :: ws, w' :: ws', k, h, hv => by
    simp only [List.map_cons, List.cons.injEq] at h
    have hw : termL c w' = termL c w := by
      unfold termL
      have e : (w'.take c.cap.toNat).map (fun n : Nat => (n : Int)) = (w.take c.cap.toNat).map fun r : Nat => oneR (eff c.fo) (r : Int) := by
        rw [List.map_take, List.map_take, h.1]
      have e2 : (w'.take c.cap.toNat).map (fun r : Nat => oneR (eff c.fo) (r : Int)) = ((w'.take c.cap.toNat).map (fun n : Nat => (n : Int))).map (oneR (eff c.fo)) := by
        rw [List.map_map]; rfl
      rw [e2, e, List.map_map]
      refine List.map_congr_left fun r hr => ?_
      have := hv w (by simp) r (List.mem_of_mem_take hr)
      exact oneE_fix c.fo (by omega) (by omega)
    unfold tmG termS
    rw [hw, tmG_rel c ws ws' (k + 1) h.2 (fun x hx => hv x (by simp [hx]))]
theorem rns_le {l : List Nat} (hb : Byt l) : ∀ r ∈ rnsL l, r ≤ 1114111 := fun r hr => by
  have := (rns_valid _ _ (Nat.le_refl _) hb r hr).2.1
  omega
theorem fold_words (fo : List Fo) (l : List Nat) (hb : Byt l) : (wordsL (textL fo l)).map (fun w => w.map fun n : Nat => (n : Int)) = (wordsL l).map (fun w => w.map fun r : Nat => oneR (eff fo) (r : Int)) :=
  wdG_rel fo _ _ [] [] (text_runes fo l hb) rfl (rns_le hb)
theorem fold_toks (cf : Cf) (l : List Nat) (hb : Byt l) : toksL cf (textL cf.fo l) = toksL cf l := by
  have h : termsL cf (textL cf.fo l) = termsL cf l := by
    unfold termsL
    split
    · exact tmG_rel cf _ _ 0 (fold_words cf.fo l hb) (fun w hw r hr => wdG_mem _ [] (fun r => r ≤ 1114111) (rns_le hb) (fun r h => by cases h) w hw r hr)
    · rfl
  unfold toksL
  rw [h]
theorem fold_count (fo : List Fo) (l : List Nat) (hb : Byt l) : (wordsL (textL fo l)).length = (wordsL l).length := by
  have := congrArg List.length (fold_words fo l hb)
  simpa using this
theorem encC_len (x : CV) : (encC x).length = 3 := rfl
/-- One way is handed to few. -/
theorem few1_any (x : CV) (w : World) (h : x.rd w) : Calls Try.prog 11 #[.slice (some ⟨w.heap.size, 0, none⟩) 1 1] (w.alloc (.cells #[.slice x.A x.n x.c, .slice x.B x.m x.d, .int .i64 x.cf.cap] 25)) fun e w' => TellB (fewC x) e ∧ Below w.heap.size w w' := by
  have hb : Below w.heap.size w (w.alloc (.cells #[.slice x.A x.n x.c, .slice x.B x.m x.d, .int .i64 x.cf.cap] 25)) := (Below.refl _ _).alloc (Nat.le_refl _) _
  have hk : RdK encC 3 (w.alloc (.cells #[.slice x.A x.n x.c, .slice x.B x.m x.d, .int .i64 x.cf.cap] 25)) (some ⟨w.heap.size, 0, none⟩) 1 [x] := by
    obtain ⟨A, c, e, _, _, h⟩ := OwnK.rd (enc := encC) encC_len (OwnK.lit (enc := encC) encC_len w w.heap.size 25 [x] #[.slice x.A x.n x.c, .slice x.B x.m x.d, .int .i64 x.cf.cap] 1 rfl rfl (Nat.le_refl _) (by decide))
    injection e with e1 e2 e3
    subst e1
    exact h
  refine (few_any _ 1 1 [x] _ hk (fun y hy => by simp at hy; subst hy; exact h.below hb) (by decide)).mono ?_
  rintro e w' ⟨⟨b, e1, e2⟩, hb2⟩
  exact ⟨⟨b, e1, by rw [e2]; simp⟩, Below.thn hb hb2⟩
def FlF (A : Option Addr) (n c : Nat) (B : Option Addr) (m d : Nat) (cp : Int) (T : Option Addr) (nt ct g : Nat) (s : ByteArray) (tk : List Tok) (K : Nat) : Nat → Value → World → Prop
  | 0 => fun v w => v = confV A n c B m d cp
  | 1 => fun v w => v = .slice T nt ct
  | 2 => fun v w => ∃ (V26 : Value), v = V26 ∧ TS w V26 tk
  | 3 => fun v w => v = confV A n c B m d cp
  | 4 => fun v w => v = .string s
  | 5 => fun v w => ∃ (A29 : Option Addr) (c29 : Nat), v = .slice A29 s.size c29 ∧ (RdB w A29 s.size (bsL s) ∧ s.size ≤ c29 ∧ c29 ≤ 9223372036854775807)
  | 6 => fun v w => ∃ (V30 : Value), v = V30 ∧ TS w V30 tk
  | 7 => fun v w => v = .bool true
  | 8 => fun v w => v = .bool true
  | 9 => fun v w => v = .slice T nt ct
  | 10 => fun v w => v = .int .i64 (K : Nat)
  | 11 => fun v w => v = .string s
  | 12 => fun v w => ∃ (A36 : Option Addr) (c36 : Nat), v = .slice A36 s.size c36 ∧ (RdB w A36 s.size (bsL s) ∧ s.size ≤ c36 ∧ c36 ≤ 9223372036854775807)
  | 13 => fun v w => v = .int .i64 (K : Nat)
  | 14 => fun v w => v = .bool true
  | 15 => fun v w => v = .bool true
  | 16 => fun v w => v = .bool true
  | _ => fun _ _ => True
theorem FlF.below (A : Option Addr) (n c : Nat) (B : Option Addr) (m d : Nat) (cp : Int) (T : Option Addr) (nt ct g : Nat) (s : ByteArray) (tk : List Tok) (K : Nat) : ∀ i v w w', Below w.heap.size w w' → FlF A n c B m d cp T nt ct g s tk K i v w → FlF A n c B m d cp T nt ct g s tk K i v w'
  | 0, _, _, _, _, h => h
  | 1, _, _, _, _, h => h
  | 2, _, _, _, hb, h => by
    obtain ⟨V26, e, g⟩ := h
    exact ⟨V26, e, TS.below g hb⟩
  | 3, _, _, _, _, h => h
  | 4, _, _, _, _, h => h
  | 5, _, _, _, hb, h => by
    obtain ⟨A29, c29, e, g⟩ := h
    exact ⟨A29, c29, e, ⟨RdB.below g.1 hb, g.2⟩⟩
  | 6, _, _, _, hb, h => by
    obtain ⟨V30, e, g⟩ := h
    exact ⟨V30, e, TS.below g hb⟩
  | 7, _, _, _, _, h => h
  | 8, _, _, _, _, h => h
  | 9, _, _, _, _, h => h
  | 10, _, _, _, _, h => h
  | 11, _, _, _, _, h => h
  | 12, _, _, _, hb, h => by
    obtain ⟨A36, c36, e, g⟩ := h
    exact ⟨A36, c36, e, ⟨RdB.below g.1 hb, g.2⟩⟩
  | 13, _, _, _, _, h => h
  | 14, _, _, _, _, h => h
  | 15, _, _, _, _, h => h
  | 16, _, _, _, _, h => h
  | _ + 17, _, _, _, _, _ => trivial

set_option maxRecDepth 100000 in
set_option maxHeartbeats 8000000 in
theorem Folded_any (A : Option Addr) (n c : Nat) (B : Option Addr) (m d : Nat) (cf : Cf) (T : Option Addr) (nt ct : Nat) (l : List Nat) (w : World) (h : RdC0 w A n c B m d cf) (ht : RdB w T nt l) (htc : nt ≤ ct) (htc2 : ct ≤ 9223372036854775807) :
    Calls Try.prog 4 #[confV A n c B m d cf.cap, .slice T nt ct] w fun e w' => e = .returned (.bool true) ∧ Below w.heap.size w w' := by
  have HR := Lib.hid h
  have HT := Lib.hid ht
  have HLn := Lib.hid ht.len
  clear ht
  obtain ⟨cp, hcp⟩ : ∃ cp, cp = cf.cap := ⟨_, rfl⟩
  have hbx := (Below.refl w.heap.size w).alloc (Nat.le_refl _) (.cells #[.slice A n c, .slice B m d, .int .i64 cp] 25)
  have hcell := World.alloc_heap_new w (.cells #[.slice A n c, .slice B m d, .int .i64 cp] 25)
  obtain ⟨w1, hw1⟩ : ∃ w1, w1 = w.alloc (.cells #[.slice A n c, .slice B m d, .int .i64 cp] 25) := ⟨_, rfl⟩
  obtain ⟨g, hg⟩ : ∃ g, g = w.heap.size := ⟨_, rfl⟩
  rw [← hw1] at hbx hcell
  rw [← hg] at hcell
  have HW1 := Lib.hid hw1
  have HG := Lib.hid hg
  have HCP := Lib.hid hcp
  have HB1 := Lib.hid hbx
  rw [← hcp]
  have HC1 := Lib.hid hcell
  clear h hw1 hg hcp hbx hcell
  go_enter Try.func4, Try.ntmps4
  go_wp2_with fail
  rw [← HW1.out, ← HG.out]
  clear HW1
  refine (live_any w1).mono ?_
  rintro e w2 ⟨rfl, hb⟩
  have HC2 := Lib.hid ((hb.block g (Array.getElem?_eq_some_iff.1 HC1.out).1).trans HC1.out)
  have HB2 := Lib.hid (Below.thn HB1.out hb)
  obtain ⟨c0, c1, c2⟩ := cells3 HC2.out
  have CF := Lib.hid (few1_any ⟨A, n, c, B, m, d, cf⟩ w2 (HR.out.below HB2.out))
  simp only at CF
  rw [← HCP.out] at CF
  clear hb HC1 HB1
  go_wp2_with fail
  refine CF.out.mono ?_
  rintro e w3 ⟨⟨b, rfl, hbf⟩, hb⟩
  have HC3 := Lib.hid ((hb.block g (Array.getElem?_eq_some_iff.1 HC2.out).1).trans HC2.out)
  have HB3 := Lib.hid (Below.thn HB2.out hb)
  have HFw := Lib.hid hbf
  clear hb hbf CF c0 c1 c2 HC2 HB2
  cases b
  case false =>
    go_wp2_with fail
    refine (live_any _).mono ?_
    rintro e w9 ⟨rfl, hb⟩
    have HB9 := Lib.hid (Below.thn HB3.out hb)
    clear hb
    go_wp2
    go_ret
    exact ⟨rfl, HB9.out⟩
  have hfw := HFw.out.1 (by simp)
  have HRC := Lib.hid (RdC0.full HR.out (by exact hfw.2.2))
  have hm100 : m ≤ 100 := hfw.2.1
  clear hfw HFw
  by_cases hbig : (1500 : Int) < (nt : Int)
  · go_wp2_with fail
    refine (live_any _).mono ?_
    rintro e w9 ⟨rfl, hb⟩
    have HB9 := Lib.hid (Below.thn HB3.out hb)
    clear hb
    go_wp2
    go_ret
    exact ⟨rfl, HB9.out⟩
  have hnt : nt ≤ 1500 := by omega
  obtain ⟨c0, c1, c2⟩ := cells3 HC3.out
  have CT := Lib.hid (refText_any A n c cf.fo T nt ct l w3 (HR.out.fo.below HB3.out) HR.out.wf (HT.out.below HB3.out) htc (by omega) htc2)
  obtain ⟨s, hs⟩ : ∃ s, s = strL (textL cf.fo l) := ⟨_, rfl⟩
  rw [← hs] at CT
  have hbs : bsL s = textL cf.fo l := by rw [hs]; exact bsL_strL (text_byt _ _)
  have HBS := Lib.hid hbs
  have HSZ : Hid (s.size ≤ 1000000000) := Lib.hid (by
    rw [← bsL_len, hbs]
    have := text_len cf.fo l
    have := HLn.out
    omega)
  have HSZ2 : Hid (s.size ≤ 10000000) := Lib.hid (by
    rw [← bsL_len, hbs]
    have := text_len cf.fo l
    have := HLn.out
    omega)
  clear hbig hs hbs
  go_wp2_with fail
  refine CT.out.mono ?_
  rintro e w4 ⟨rfl, hb⟩
  have HC4 := Lib.hid ((hb.block g (Array.getElem?_eq_some_iff.1 HC3.out).1).trans HC3.out)
  have HB4 := Lib.hid (Below.thn HB3.out hb)
  clear hb CT c0 c1 c2 HC3 HB3
  have G0 := Lib.hid (cells3 HC4.out)
  obtain ⟨tk, htk⟩ : ∃ tk, tk = toksL cf l := ⟨_, rfl⟩
  obtain ⟨K, hK⟩ : ∃ K, K = (wordsL l).length := ⟨_, rfl⟩
  have C26 : Hid (∀ w2, Below w4.heap.size w4 w2 → Calls Try.prog 14 #[confV A n c B m d cp, .slice T nt ct] w2 fun e w' => ∃ v, e = .returned v ∧ TS w' v tk ∧ Below w2.heap.size w2 w') := Lib.hid fun w2 h2 => by
    rw [htk, HCP.out]
    refine (Tokens_any A n c B m d cf T nt ct l w2 (HRC.out.below (Below.thn HB4.out h2)) (HT.out.below (Below.thn HB4.out h2)) htc (by have := HLn.out; omega) (by omega)).mono ?_
    rintro e w' ⟨v, e1, ho, hb⟩
    exact ⟨v, e1, OwnK.ts ho, hb⟩
  have C30 : Hid (∀ w2, Below w4.heap.size w4 w2 → ∀ (A9 : Option Addr) (c9 : Nat), RdB w2 A9 s.size (bsL s) → s.size ≤ c9 → c9 ≤ 9223372036854775807 → Calls Try.prog 14 #[confV A n c B m d cp, .slice A9 s.size c9] w2 fun e w' => ∃ v, e = .returned v ∧ TS w' v tk ∧ Below w2.heap.size w2 w') := Lib.hid fun w2 h2 A9 c9 r1 r2 r3 => by
    rw [htk, HCP.out, ← fold_toks cf l HT.out.byt, ← HBS.out]
    refine (Tokens_any A n c B m d cf A9 s.size c9 (bsL s) w2 (HRC.out.below (Below.thn HB4.out h2)) r1 r2 (by rw [bsL_len]; exact HSZ2.out) (by omega)).mono ?_
    rintro e w' ⟨v, e1, ho, hb⟩
    exact ⟨v, e1, OwnK.ts ho, hb⟩
  have C34 : Hid (∀ w2, Below w4.heap.size w4 w2 → Calls Try.prog 17 #[.slice T nt ct] w2 fun e w' => e = .returned (.int .i64 (K : Nat)) ∧ Below w2.heap.size w2 w') := Lib.hid fun w2 h2 => by
    rw [hK]
    exact Count_any T nt ct l w2 (HT.out.below (Below.thn HB4.out h2)) htc
  have C37 : Hid (∀ w2, Below w4.heap.size w4 w2 → ∀ (A9 : Option Addr) (c9 : Nat), RdB w2 A9 s.size (bsL s) → s.size ≤ c9 → c9 ≤ 9223372036854775807 → Calls Try.prog 17 #[.slice A9 s.size c9] w2 fun e w' => e = .returned (.int .i64 (K : Nat)) ∧ Below w2.heap.size w2 w') := Lib.hid fun w2 h2 A9 c9 r1 r2 r3 => by
    rw [hK, ← fold_count cf.fo l HT.out.byt, ← HBS.out]
    exact Count_any A9 s.size c9 (bsL s) w2 r1 r2
  clear htk hK
  go_wp2_with fail
  refine wp_region_flow (by kernel_rfl) (FlF A n c B m d cp T nt ct g s tk K) (FlF.below A n c B m d cp T nt ct g s tk K) (by kernel_rfl) (by kernel_rfl) ?_ ?_
  case refine_1 =>
    intro i o ho ρ y w2 hb2 hreg hn hf hyb hyn
    have hi := (Array.getElem?_eq_some_iff.1 ho).1
    rcases Nat.lt_or_ge i 17 with hi2 | hi2
    case inr => simp at hi; omega
    obtain rfl | rfl | rfl | rfl | rfl | rfl | rfl | rfl | rfl | rfl | rfl | rfl | rfl | rfl | rfl | rfl | rfl : i = 0 ∨ i = 1 ∨ i = 2 ∨ i = 3 ∨ i = 4 ∨ i = 5 ∨ i = 6 ∨ i = 7 ∨ i = 8 ∨ i = 9 ∨ i = 10 ∨ i = 11 ∨ i = 12 ∨ i = 13 ∨ i = 14 ∨ i = 15 ∨ i = 16 := by omega
    · cases ho
      rw [if_pos (show Region.wanted _ y = true from rfl)]
      have f2 : ρ (.tmp 2) = .pointer (some ⟨g, 0, none⟩) := hf 2 (by kernel_rfl)
      have k0 := cell_keep hb2 G0.out.1
      have k1 := cell_keep hb2 G0.out.2.1
      have k2 := cell_keep hb2 G0.out.2.2
      exact does_ok (v := confV A n c B m d cp) (w' := w2) (by simp [go_sem, hreg.const, f2, k0, k1, k2]) ⟨rfl, Below.refl _ _⟩
    · cases ho
      rw [if_pos (show Region.wanted _ y = true from rfl)]
      have f1 : ρ (.tmp 1) = .slice T nt ct := hf 1 (by kernel_rfl)
      exact ⟨f1, Below.refl _ _⟩
    · cases ho
      rw [if_pos (show Region.wanted _ y = true from rfl)]
      have f24 : ρ (.tmp 24) = confV A n c B m d cp := hn 0 _ 24 rfl (by kernel_rfl) rfl
      have f25 : ρ (.tmp 25) = .slice T nt ct := hn 1 _ 25 rfl (by kernel_rfl) rfl
      refine does_enter (f := 14) (args := #[confV A n c B m d cp, .slice T nt ct]) (w' := w2) (by simp [go_sem, hreg.func, hreg.const, f24, f25]) ?_
      refine (C26.out w2 hb2).mono ?_
      rintro e w' ⟨v, rfl, hts, hb⟩
      exact ⟨_, rfl, ⟨_, rfl, hts⟩, hb⟩
    · cases ho
      rw [if_pos (show Region.wanted _ y = true from rfl)]
      have f2 : ρ (.tmp 2) = .pointer (some ⟨g, 0, none⟩) := hf 2 (by kernel_rfl)
      have k0 := cell_keep hb2 G0.out.1
      have k1 := cell_keep hb2 G0.out.2.1
      have k2 := cell_keep hb2 G0.out.2.2
      exact does_ok (v := confV A n c B m d cp) (w' := w2) (by simp [go_sem, hreg.const, f2, k0, k1, k2]) ⟨rfl, Below.refl _ _⟩
    · cases ho
      rw [if_pos (show Region.wanted _ y = true from rfl)]
      have f5 : ρ (.tmp 5) = .string s := hf 5 (by kernel_rfl)
      exact ⟨f5, Below.refl _ _⟩
    · cases ho
      rw [if_pos (show Region.wanted _ y = true from rfl)]
      have f28 : ρ (.tmp 28) = .string s := hn 4 _ 28 rfl (by kernel_rfl) rfl
      obtain ⟨c9, w9, hcv, hr9, hb9, hc9, hd9⟩ := conv_s s HSZ.out w2
      exact does_ok (v := .slice (some ⟨w2.heap.size, 0, none⟩) s.size c9) (w' := w9) (by simp [go_sem, hreg.const, f28, hcv]) ⟨⟨_, _, rfl, hr9, hc9, hd9⟩, hb9⟩
    · cases ho
      rw [if_pos (show Region.wanted _ y = true from rfl)]
      have f27 : ρ (.tmp 27) = confV A n c B m d cp := hn 3 _ 27 rfl (by kernel_rfl) rfl
      obtain ⟨A29, c29, f29, g29⟩ : ∃ (A29 : Option Addr) (c29 : Nat), ρ (.tmp 29) = .slice A29 s.size c29 ∧ (RdB w2 A29 s.size (bsL s) ∧ s.size ≤ c29 ∧ c29 ≤ 9223372036854775807) := hn 5 _ 29 rfl (by kernel_rfl) rfl
      refine does_enter (f := 14) (args := #[confV A n c B m d cp, .slice A29 s.size c29]) (w' := w2) (by simp [go_sem, hreg.func, hreg.const, f27, f29]) ?_
      refine (C30.out w2 hb2 A29 c29 g29.1 g29.2.1 g29.2.2).mono ?_
      rintro e w' ⟨v, rfl, hts, hb⟩
      exact ⟨_, rfl, ⟨_, rfl, hts⟩, hb⟩
    · cases ho
      rw [if_pos (show Region.wanted _ y = true from rfl)]
      obtain ⟨V26, f26, g26⟩ : ∃ (V26 : Value), ρ (.tmp 26) = V26 ∧ TS w2 V26 tk := hn 2 _ 26 rfl (by kernel_rfl) rfl
      obtain ⟨V30, f30, g30⟩ : ∃ (V30 : Value), ρ (.tmp 30) = V30 ∧ TS w2 V30 tk := hn 6 _ 30 rfl (by kernel_rfl) rfl
      refine does_enter (f := 13) (args := #[V26, V30]) (w' := w2) (by simp [go_sem, hreg.func, hreg.const, f26, f30]) ?_
      refine (equalTk_same g26 g30).mono ?_
      rintro e w' ⟨rfl, hb⟩
      exact ⟨_, rfl, rfl, hb⟩
    · cases ho
      rw [if_pos (show Region.wanted _ y = true from rfl)]
      have f31 : ρ (.tmp 31) = .bool true := hn 7 _ 31 rfl (by kernel_rfl) rfl
      exact does_ok (v := .bool true) (w' := w2) (by simp [go_sem, hreg.const, f31]) ⟨rfl, Below.refl _ _⟩
    · cases ho
      rw [if_pos (show Region.wanted _ y = true from by simp [Region.wanted, hyb 8 _ _ _ rfl rfl (hn 8 _ _ rfl (by kernel_rfl) rfl)])]
      have f1 : ρ (.tmp 1) = .slice T nt ct := hf 1 (by kernel_rfl)
      exact ⟨f1, Below.refl _ _⟩
    · cases ho
      rw [if_pos (show Region.wanted _ y = true from by simp [Region.wanted, hyb 8 _ _ _ rfl rfl (hn 8 _ _ rfl (by kernel_rfl) rfl)])]
      have f33 : ρ (.tmp 33) = .slice T nt ct := hn 9 _ 33 rfl (by kernel_rfl) rfl
      refine does_enter (f := 17) (args := #[.slice T nt ct]) (w' := w2) (by simp [go_sem, hreg.func, hreg.const, f33]) ?_
      refine (C34.out w2 hb2).mono ?_
      rintro e w' ⟨rfl, hb⟩
      exact ⟨_, rfl, rfl, hb⟩
    · cases ho
      rw [if_pos (show Region.wanted _ y = true from by simp [Region.wanted, hyb 8 _ _ _ rfl rfl (hn 8 _ _ rfl (by kernel_rfl) rfl)])]
      have f5 : ρ (.tmp 5) = .string s := hf 5 (by kernel_rfl)
      exact ⟨f5, Below.refl _ _⟩
    · cases ho
      rw [if_pos (show Region.wanted _ y = true from by simp [Region.wanted, hyb 8 _ _ _ rfl rfl (hn 8 _ _ rfl (by kernel_rfl) rfl)])]
      have f35 : ρ (.tmp 35) = .string s := hn 11 _ 35 rfl (by kernel_rfl) rfl
      obtain ⟨c9, w9, hcv, hr9, hb9, hc9, hd9⟩ := conv_s s HSZ.out w2
      exact does_ok (v := .slice (some ⟨w2.heap.size, 0, none⟩) s.size c9) (w' := w9) (by simp [go_sem, hreg.const, f35, hcv]) ⟨⟨_, _, rfl, hr9, hc9, hd9⟩, hb9⟩
    · cases ho
      rw [if_pos (show Region.wanted _ y = true from by simp [Region.wanted, hyb 8 _ _ _ rfl rfl (hn 8 _ _ rfl (by kernel_rfl) rfl)])]
      obtain ⟨A36, c36, f36, g36⟩ : ∃ (A36 : Option Addr) (c36 : Nat), ρ (.tmp 36) = .slice A36 s.size c36 ∧ (RdB w2 A36 s.size (bsL s) ∧ s.size ≤ c36 ∧ c36 ≤ 9223372036854775807) := hn 12 _ 36 rfl (by kernel_rfl) rfl
      refine does_enter (f := 17) (args := #[.slice A36 s.size c36]) (w' := w2) (by simp [go_sem, hreg.func, hreg.const, f36]) ?_
      refine (C37.out w2 hb2 A36 c36 g36.1 g36.2.1 g36.2.2).mono ?_
      rintro e w' ⟨rfl, hb⟩
      exact ⟨_, rfl, rfl, hb⟩
    · cases ho
      rw [if_pos (show Region.wanted _ y = true from by simp [Region.wanted, hyb 8 _ _ _ rfl rfl (hn 8 _ _ rfl (by kernel_rfl) rfl)])]
      have f34 : ρ (.tmp 34) = .int .i64 (K : Nat) := hn 10 _ 34 rfl (by kernel_rfl) rfl
      have f37 : ρ (.tmp 37) = .int .i64 (K : Nat) := hn 13 _ 37 rfl (by kernel_rfl) rfl
      exact does_ok (v := .bool true) (w' := w2) (by simp [go_sem, hreg.const, f34, f37]) ⟨rfl, Below.refl _ _⟩
    · cases ho
      rw [if_pos (show Region.wanted _ y = true from rfl)]
      have f32 : ρ (.tmp 32) = .bool true := hn 8 _ 32 rfl (by kernel_rfl) rfl
      have f38 : ρ (.tmp 38) = .bool true := hn 14 _ 38 rfl (by kernel_rfl) rfl
      exact does_ok (v := .bool true) (w' := w2) (by simp [go_sem, hreg.const, f32, f38]) ⟨rfl, Below.refl _ _⟩
    · cases ho
      rw [if_pos (show Region.wanted _ y = true from rfl)]
      have f39 : ρ (.tmp 39) = .bool true := hn 15 _ 39 rfl (by kernel_rfl) rfl
      exact ⟨f39, Below.refl _ _⟩
  case refine_2 =>
    intro a w2 hb2 hd hs hfacts hrest
    have q4 : a.tmps.getD 4 undef = .bool true := hfacts 16 _ 4 rfl rfl
    have ha := frame_of hd hs hrest [4, 24, 25, 26, 27, 28, 29, 30, 31, 32, 33, 34, 35, 36, 37, 38, 39] (by kernel_rfl)
    simp only [q4, List.foldl, List.setIfInBounds_toArray, List.set_cons_succ, List.set_cons_zero] at ha
    clear q4 hd hs hfacts hrest
    generalize a.tmps.getD = gg at ha
    subst ha
    have HB5 := Lib.hid (Below.thn HB4.out hb2)
    clear hb2 C26 C30 C34 C37
    go_wp2
    go_ret
    exact ⟨rfl, HB5.out⟩
end Go.Proofs.Ytbmdjmnjbflfeaa
