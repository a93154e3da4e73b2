/- The terms of a text, as one goes through them. -/
import Derived.Test.YtkkeodlnejckjaaGreatAdd
import Derived.Test.YtkkeodlnejckjaaGreatMay2
import Derived.Test.YtkkeodlnejckjaaGreatIter
import Derived.Test.YtkkeodlnejckjaaGreatCollQ
import Derived.LoopIn
import Derived.TacticsIn
import Derived.RangeFuncCalls
namespace Go.Proofs.YtkkeodlnejckjaaGreat
open Go.RowKit Go.Shelf Go.Maps
set_option linter.unusedVariables false
set_option linter.unusedSimpArgs false

theorem wpIn_scope_wide {n : Nat} {P : Program} {c : Code} {Q : Exit → Act → World → Prop} {a : Act} {w : World} (h : c.wpIn Fence.wide n P (Exit.noGoto Q) a w) : (Code.scope c).wpIn Fence.wide n P Q a w :=
  wpIn_wide.2 (wp_scope_straight (wpIn_wide.1 h))
theorem add_term (c : Cf) (h1 : 1 ≤ c.cap) (cur : List Nat) (r : Nat) : addL c.cap c.fo (encsL (termL c cur)) cur.length r = encsL (termL c (cur ++ [r])) := by
  unfold addL termL
  split
  · rename_i h
    rw [List.take_of_length_le (by omega), List.take_of_length_le (by simp; omega)]
    simp [encsL]
  · rename_i h
    rw [List.take_append_of_le_length (by omega)]
theorem term_len (c : Cf) (h : c.cap ≤ 12) (cur : List Nat) : (encsL (termL c cur)).length ≤ 48 := by
  have := encs_len (termL c cur)
  have h2 : (termL c cur).length ≤ 12 := by unfold termL; rw [List.length_map, List.length_take]; omega
  omega
theorem term_ne (c : Cf) (h : 1 ≤ c.cap) (cur : List Nat) (hc : cur ≠ []) (hl : ∀ r ∈ cur, letB (r : Int) = true) : encsL (termL c cur) ≠ [] := by
  cases cur with
  | nil => exact absurd rfl hc
  | cons r rs =>
    obtain ⟨R, h1, h2, h3⟩ := oneL c.fo (hl r (by simp))
    obtain ⟨k, hk⟩ : ∃ k, c.cap.toNat = k + 1 := ⟨c.cap.toNat - 1, by omega⟩
    unfold termL
    rw [hk, List.take_succ_cons, List.map_cons, h1]
    intro he
    have h4 := congrArg List.length he
    simp only [encsL, List.flatMap_cons, List.length_append, List.length_nil] at h4
    have h5 : 1 ≤ (encL (R : Int)).length := by rw [encL_form ⟨by omega, by omega, by omega⟩]; exact (formN_pos R).1
    omega
theorem Rest.step {Bs B M : Nat} {S : TypeId → Bool} {w w' : World} (h : Rest Bs (some M) w w') (hM : ∃ es c, w.heap[M]? = some (.map es c)) (hS : ∀ t, S t = true → t ≠ 185 ∧ t ≠ 5) (hB : B ≤ Bs) : Step B S w w' :=
  ⟨h.os, h.tape, h.output, h.size, fun k o hk ho => h.low k o (by omega) ho, fun k C t fr ht ho => h.own k _ ho (by
    intro e
    cases e
    obtain ⟨es, c, hm⟩ := hM
    rw [ho] at hm
    cases hm) (fun C' t' fr' e => by cases e; exact hS t ht)⟩
theorem Fol.keep {w w' : World} {b E f M : Nat} {S : TypeId → Bool} {l : List Fo} {k : Nat} (h : Fol w b f M l k) (hk : Keep b E S w w') (hS : S 139 = false) (hE : E ≤ M) : Fol w' b f M l k := by
  obtain ⟨A, n, c, D, h1, h2, h3, h4⟩ := h.ex
  have hlt := (Array.getElem?_eq_some_iff.1 h1).1
  refine ⟨⟨A, n, c, D, hk.own f _ _ _ hS h1, h2.low (hk.belowb (by have := h.hf; omega)), ?_, h4⟩, h.small, h.hf, h.hM⟩
  obtain ⟨es, cc, hb, rest⟩ := h3
  exact ⟨es, cc, hk.walk M _ hE rfl hb, rest⟩
abbrev encT : Nat × ByteArray → Array Value := fun x => #[.int .i64 (x.1 : Nat), .string x.2]
/-- The types that one who goes through terms may write. -/
def okS (S : TypeId → Bool) : Prop := S 25 = false ∧ S 26 = false ∧ S 139 = false ∧ S 185 = false ∧ S 5 = false ∧ S 174 = false ∧ S 181 = false
theorem okS.word {S : TypeId → Bool} (h : okS S) : ∀ t, S t = true → t ≠ 185 ∧ t ≠ 5 := fun t ht => ⟨fun e => (by rw [e, h.2.2.2.1] at ht; cases ht), fun e => (by rw [e, h.2.2.2.2.1] at ht; cases ht)⟩
theorem word_new (w : World) (base : Nat) (hb : base ≤ w.heap.size) : WordS (w.alloc (.cells #[.pointer none, .slice none 0 0, .int .i64 0] 185)) base w.heap.size [] 0 :=
  ⟨⟨_, _, World.alloc_heap_new w _, .inl rfl, OwnB.nil _ _⟩, hb⟩
theorem iter_keep {w : World} {R k p q : Nat} {s : ByteArray} (h : w.heap[R]? = some (.stringIter s p)) {C : Array Value} {t : TypeId} {fr : Nat × Nat} (hc : w.heap[k]? = some (.cells C t fr)) : (w.iterAt R s q).heap[k]? = some (.cells C t fr) := by
  refine ((grownBy_putObj' w R (.stringIter s q)).block k (Array.getElem?_eq_some_iff.1 hc).1 ?_).trans hc
  intro e
  cases e
  rw [h] at hc
  cases hc
theorem WordS.iter {w : World} {base b R p q : Nat} {s : ByteArray} {l : List Nat} {many : Nat} (h : WordS w base b l many) (hR : w.heap[R]? = some (.stringIter s p)) : WordS (w.iterAt R s q) base b l many := by
  obtain ⟨pp, v, h1, h2, h3⟩ := h.ex
  refine ⟨⟨pp, v, iter_keep hR h1, h2, h3.1.kept (grownBy_putObj' w R (.stringIter s q)) (.inr ?_), h3.2⟩, h.hb⟩
  intro e
  obtain ⟨_, C, t, fr, hc, _⟩ := own_row h3 R e
  rw [hR] at hc
  cases hc
theorem Rest.box {Bs M k : Nat} {w w' : World} (h : Rest Bs (some M) w w') (hk : k < Bs) {o : Obj} (ho : w.heap[k]? = some o) : w'.heap[k]? = some o := h.low k o hk ho
set_option maxRecDepth 100000 in
set_option maxHeartbeats 4000000 in
theorem terms_seq (n Bc Bt : Nat) (hn : 1 ≤ n) (A : Option Addr) (na c : Nat) (B : Option Addr) (m d : Nat) (cf : Cf) (T : Option Addr) (nt ct : Nat) (l : List Nat) (S : TypeId → Bool) (hS : okS S) (w0 w : World)
    (hBc : w.heap[Bc]? = some (.cells #[.slice A na c, .slice B m d, .int .i64 cf.cap] 25 (0, 0))) (hBt : w.heap[Bt]? = some (.cells #[.slice T nt ct] 26 (0, 0)))
    (hb0 : Below w0.heap.size w0 w) (hR0 : RdC w0 A na c B m d cf) (ht : RdB w0 T nt l) (htc : nt ≤ ct) (htl : l.length ≤ 10000000) :
    SeqQ Fence.wide n Tryz.prog 129 #[.pointer (some ⟨Bc, 0, none⟩), .pointer (some ⟨Bt, 0, none⟩)] encT w0.heap.size S (termsL cf l) w := fun L J Jx W hW hJ hJx hY h0 => by
  have HB := Lib.hid (hb0.trans (hW.mono hb0.size))
  have HRC := Lib.hid hR0
  have HT := Lib.hid ht
  have HJ : Hid (Firm W.heap.size S J) := hJ
  have HY := Lib.hid hY
  have HS := Lib.hid hS
  have hlc := (Array.getElem?_eq_some_iff.1 hBc).1
  have hlt := (Array.getElem?_eq_some_iff.1 hBt).1
  have HLW := Lib.hid (show Bc < W.heap.size ∧ Bt < W.heap.size ∧ w0.heap.size ≤ W.heap.size by have := hW.size; have := hb0.size; omega)
  have HC0 := Lib.hid ((hW.block Bc hlc).trans hBc)
  have HC1 := Lib.hid ((hW.block Bt hlt).trans hBt)
  have HJ0 := Lib.hid h0
  have C := Lib.hid (may_any A na c B m d cf W (hR0.below HB.out))
  obtain ⟨c0, c1, c2⟩ := cells3 HC0.out
  obtain ⟨WS, hWS⟩ : ∃ x, x = W.heap.size := ⟨_, rfl⟩
  have HWS := Lib.hid hWS
  have HTL := Lib.hid htl
  have HTC := Lib.hid htc
  clear hb0 hW hJ hJx hY hBc hBt h0 hR0 ht hS hlc hlt hWS htl htc
  refine callsIn_of_wp Tryz.func129 rfl trivial ?_ rfl
  simp only [Tryz.ntmps129, List.size_toArray, List.length_cons, List.length_nil, Nat.reduceAdd, Nat.reduceSub, Array.replicate_succ, Array.replicate_zero, List.push_toArray, List.append_toArray, List.nil_append, List.cons_append]
  gi_wp2_with fail
  refine wpIn_scope_wide ?_
  gi_wp2_with fail
  refine ⟨trivial, (callsIn_wide.2 C.out).mono ?_⟩
  rintro e W1 ⟨⟨b, rfl, hbm⟩, hb⟩
  have hJ1 : J [] W1 := HJ.out [] W W1 HJ0.out (Step.below hb)
  have HB1 := Lib.hid (HB.out.trans (hb.mono HB.out.size))
  have HSz := Lib.hid hb.size
  have HC0' := Lib.hid ((hb.block Bc HLW.out.1).trans HC0.out)
  have HC1' := Lib.hid ((hb.block Bt HLW.out.2.1).trans HC1.out)
  have HJ1 := Lib.hid hJ1
  have HBM := Lib.hid hbm
  clear C hb hJ1 HJ0 hbm c0 c1 c2
  cases b
  case false =>
    have HE : Hid (termsL cf l = []) := Lib.hid (by
      unfold termsL
      rw [if_neg (fun h => by have := HBM.out.2 h; simp at this)])
    gi_wp2
    try simp only [Exit.noGoto_normal, Exit.noGoto_ret]
    refine bodyPost_ret (results_none rfl _ _ _) rfl ?_
    exact ⟨⟨_, rfl⟩, .inl (by rw [HE.out]; exact HJ1.out)⟩
  have HMay : Hid (mayC cf) := Lib.hid (HBM.out.1 (by simp))
  have HE : Hid (termsL cf l = tmG cf (wdG (rnsL l) []) 0) := Lib.hid (by
    unfold termsL wordsL
    rw [if_pos HMay.out])
  obtain ⟨c0, c1, c2⟩ := cells3 HC0'.out
  have C := Lib.hid (folds_any' A na c B m d cf w0.heap.size W1 ⟨w0, HRC.out.fo, HB1.out, Nat.le_refl _⟩ HB1.out.size)
  gi_wp2_with fail
  refine ⟨trivial, (callsIn_wide.2 C.out).mono ?_⟩
  rintro e W2 ⟨f, M, rfl, hF, hf, hM, hb⟩
  have hJ2 : J [] W2 := HJ.out [] W1 W2 HJ1.out (Step.below hb)
  have HC0 := Lib.hid ((hb.block Bc (by have := HLW.out.1; have := HSz.out; omega)).trans HC0'.out)
  have HC1 := Lib.hid ((hb.block Bt (by have := HLW.out.2.1; have := HSz.out; omega)).trans HC1'.out)
  obtain ⟨Bs, hBs⟩ : ∃ x, x = W1.heap.size := ⟨_, rfl⟩
  have HBs : Hid (WS ≤ Bs ∧ w0.heap.size ≤ Bs ∧ Bs ≤ M ∧ Bs ≤ f ∧ Bs ≤ W2.heap.size) := Lib.hid (by
    have := HSz.out
    have := HWS.out
    have := HB1.out.size
    have := hb.size
    omega)
  have HF := Lib.hid hF
  have HJ2 := Lib.hid hJ2
  -- the first word, the text as a string, its iterator
  have hbw : Below W2.heap.size W2 (W2.alloc (.cells #[.pointer none, .slice none 0 0, .int .i64 0] 185)) := (Below.refl _ _).alloc (Nat.le_refl _) _
  have hw3 := word_new W2 Bs HBs.out.2.2.2.2
  obtain ⟨W3, hW3⟩ : ∃ x, x = W2.alloc (.cells #[.pointer none, .slice none 0 0, .int .i64 0] 185) := ⟨_, rfl⟩
  obtain ⟨bw, hbw2⟩ : ∃ x, x = W2.heap.size := ⟨_, rfl⟩
  have hs3 : W3.heap.size = bw + 1 := by rw [hW3, hbw2]; simp
  rw [← hW3] at hbw hw3
  rw [← hbw2] at hw3
  have hb03 : Below w0.heap.size w0 W3 := (HB1.out.trans (hb.mono HB1.out.size)).trans (hbw.mono (by have := HB1.out.size; have := hb.size; omega))
  have hstr := run_str W3 T nt ct l (HT.out.below hb03) HTC.out
  obtain ⟨Z, hZ⟩ : ∃ Z, Z = strL l := ⟨_, rfl⟩
  rw [← hZ] at hstr
  have hZs : Z.size = l.length := by rw [hZ, strL_size]
  have hbi : Below W3.heap.size W3 (W3.iter Z 0) := (Below.refl _ _).alloc (Nat.le_refl _) _
  have hit : (W3.iter Z 0).heap[W3.heap.size]? = some (.stringIter Z 0) := World.iter_heap W3 Z 0
  obtain ⟨W4, hW4⟩ : ∃ x, x = W3.iter Z 0 := ⟨_, rfl⟩
  obtain ⟨R, hR⟩ : ∃ R, R = bw + 1 := ⟨_, rfl⟩
  rw [hs3, ← hR] at hit
  rw [← hW4] at hit hbi
  have hC1' := (hbw.block Bt (Array.getElem?_eq_some_iff.1 HC1.out).1).trans HC1.out
  have t0 : W3.cell? ⟨Bt, 0, none⟩ = some (.slice T nt ct) := by simp [World.cell?, hC1']
  have hdec := fun pos => decode_strL l HT.out.byt pos
  rw [← hZ] at hdec
  have HC04 := Lib.hid ((hbi.block Bc (by have := (Array.getElem?_eq_some_iff.1 HC0.out).1; have := hbw.size; omega)).trans ((hbw.block Bc (Array.getElem?_eq_some_iff.1 HC0.out).1).trans HC0.out))
  have HF4 := Lib.hid ((HF.out.below hbw).below hbi)
  have HW4 := Lib.hid (hw3.below hbi)
  have HJ4 : Hid (J [] W4) := Lib.hid (HJ.out [] _ _ (HJ.out [] _ _ HJ2.out (Step.below hbw)) (Step.below hbi))
  have HW3 := Lib.hid hW3
  have HW4e := Lib.hid hW4
  have HBW := Lib.hid hbw2
  have HR : Hid (R = W3.heap.size) := Lib.hid (by rw [hs3]; exact hR)
  have HD := Lib.hid hdec
  have HZS := Lib.hid hZs
  have HBR : Hid (Bs ≤ R) := Lib.hid (by have := HBs.out; omega)
  have HIT := Lib.hid hit
  have HBY := Lib.hid HT.out.byt
  clear C hb hJ2 hF hf hM c0 c1 c2 hbw hw3 hW3 hbw2 hs3 hb03 hZ hZs hbi hit hW4 hR hC1' hdec hBs HC1' HC0' HF HC0 HB1 HB
  gi_wp2_with fail
  rw [← HW3.out, ← HBW.out]
  refine wpIn_label ?_
  gi_wp2_with fail
  rw [← HW4e.out, ← HR.out]
  clear HW3 HW4e t0 hstr
  gi_loopw [5, 6] (fun x y wr => ∃ (pre : List (Nat × ByteArray)) (cur : List Nat) (pos b : Nat), x = .pointer (some ⟨b, 0, none⟩) ∧ y = .int .i64 (pre.length : Nat) ∧ wr.heap[R]? = some (.stringIter Z pos) ∧
      Hid (termsL cf l = pre ++ tmG cf (wdG (rnsL (l.drop pos)) cur) pre.length ∧ pre.length ≤ pos ∧ cur.length ≤ pos ∧ pos ≤ l.length ∧ ∀ r ∈ cur, letB (r : Nat) = true) ∧ Hid (J pre wr) ∧ Hid (Fol wr w0.heap.size f M cf.fo pos) ∧ Hid (WordS wr Bs b (encsL (termL cf cur)) cur.length) ∧
      Hid (wr.heap[Bc]? = some (.cells #[.slice A na c, .slice B m d, .int .i64 cf.cap] 25 (0, 0)))) (fun _ _ wr => Z.size - wr.iterPos R)
  case atStart => exact ⟨[], [], 0, bw, rfl, rfl, HIT.out, Lib.hid ⟨by rw [HE.out]; rfl, Nat.le_refl _, Nat.le_refl _, Nat.zero_le _, fun r h => by cases h⟩, HJ4, HF4, Lib.hid (by have := HW4.out; simpa [termL, encsL] using this), HC04⟩
  case round =>
    obtain ⟨pre, cur, pos, b, rfl, rfl, hk, HM, HJs, HFs, HWs, HCs⟩ := hrel
    have hip : wr.iterPos R = pos := by simp [World.iterPos, hk]
    have HIP := Lib.hid hip
    clear hip
    have hlen := HZS.out
    have HML := Lib.hid (show 1 ≤ cf.cap ∧ cf.cap ≤ 12 from ⟨HMay.out.2.1, HMay.out.2.2.1⟩)
    by_cases hp : pos < Z.size
    · have hne : l.drop pos ≠ [] := by
        intro h
        have := congrArg List.length h
        simp at this
        omega
      have hnx := fun ty => Lib.run_next_any_at (P := Tryz.prog) wr R Z pos ty hk hp
      rw [HD.out pos] at hnx
      have hM2 := HM.out.1
      rw [rns_step _ hne, List.drop_drop] at hM2
      have hw := dec_w (l.drop pos)
      have hrv := dec_r (l.drop pos) (HBY.out.drop pos)
      have hle := dec_le (l.drop pos) hne
      obtain ⟨dd, hd⟩ : ∃ dd, dd = dec (l.drop pos) := ⟨_, rfl⟩
      rw [← hd] at hnx hM2 hw hrv hle
      obtain ⟨r, v⟩ := dd
      simp only [List.length_drop] at hnx hM2 hw hrv hle
      have hk2 := Lib.iterAt_heap wr R Z pos (pos + v) hk
      have hgi : wr.grownBy (wr.iterAt R Z (pos + v)) (some R) := grownBy_putObj' wr R _
      have hF2 := Fol.iter HFs.out hk hgi (by have := HBR.out; have := HBs.out; omega)
      have hC2 := iter_keep (q := pos + v) hk HCs.out
      have hW2 := WordS.iter (q := pos + v) HWs.out hk
      have hJ2 : J pre (wr.iterAt R Z (pos + v)) := HJ.out pre _ _ HJs.out (Step.grown hgi fun j e => by
        cases e
        refine ⟨by have := HBR.out; have := HBs.out; have := HWS.out; omega, fun C t fr hc => ?_⟩
        rw [hk] at hc
        cases hc)
      obtain ⟨W2, hWe⟩ : ∃ W2, W2 = wr.iterAt R Z (pos + v) := ⟨_, rfl⟩
      rw [← hWe] at hnx hk2 hF2 hC2 hJ2 hW2
      have HM2 := Lib.hid hM2
      have HK2 := Lib.hid hk2
      have HCC := Lib.hid hC2
      have HFF := Lib.hid hF2
      have HWW := Lib.hid hW2
      have HJJ := Lib.hid hJ2
      have HV := Lib.hid hw
      have HLE := Lib.hid (show pos + v ≤ l.length by omega)
      obtain ⟨c0, c1, c2⟩ := cells3 hC2
      clear hM2 hWe hd hne hk2 hF2 hC2 hW2 hJ2 hgi hw hrv hle hlen HFs HWs HJs HCs hk
      by_cases hlt : letB (r : Int) = true
      · have C := Lib.hid (add_any A na c B m d cf.cap w0.heap.size Bs b f M cf.fo pos (encsL (termL cf cur)) cur.length r W2 HWW.out HFF.out (by have := HTL.out; have := HLE.out; omega) hlt (by have := term_len cf HML.out.2 cur; omega) (by have := HM.out.2.2.1; have := HTL.out; have := HLE.out; omega) HBs.out.2.1 HBs.out.2.2.1)
        gi_wp2_with fail
        refine ⟨trivial, (callsIn_wide.2 (Letter_any (r : Int) W2)).mono ?_⟩
        rintro e W3 ⟨rfl, rfl⟩
        rw [hlt]
        gi_wp2_with fail
        refine ⟨trivial, (callsIn_wide.2 C.out).mono ?_⟩
        rintro e W3 ⟨rfl, hW3, hF3, hr3⟩
        rw [add_term cf HML.out.1] at hW3
        have hst := Rest.step (B := W.heap.size) hr3 HFF.out.map HS.out.word (by rw [← HWS.out]; exact HBs.out.1)
        have HRel : Hid (W3.heap[R]? = some (.stringIter Z (pos + v)) ∧ J pre W3 ∧ Fol W3 w0.heap.size f M cf.fo (pos + v) ∧ WordS W3 Bs b (encsL (termL cf (cur ++ [r]))) (cur.length + 1) ∧ W3.heap[Bc]? = some (.cells #[.slice A na c, .slice B m d, .int .i64 cf.cap] 25 (0, 0))) := Lib.hid (by
          obtain ⟨es, cc, hm⟩ := HFF.out.map
          refine ⟨hr3.own R _ HK2.out (fun e => ?_) (fun C t fr e => by cases e), HJ.out _ _ _ HJJ.out hst, hF3.le (by have := HV.out; omega) (by have := HTL.out; have := HLE.out; omega), hW3, hr3.box (by have := HLW.out.1; have := HWS.out; have := HBs.out.1; omega) HCC.out⟩
          cases e
          have := HK2.out
          rw [hm] at this
          cases this)
        have HLT := Lib.hid hlt
        clear hW3 hF3 hr3 hst C c0 c1 c2 hlt
        gi_wp2
        go_roundw
        case rel =>
          refine ⟨pre, cur ++ [r], pos + v, b, rfl, rfl, HRel.out.1, Lib.hid ⟨?_, ?_, ?_, HLE.out, ?_⟩, Lib.hid HRel.out.2.1, Lib.hid HRel.out.2.2.1, Lib.hid ?_, Lib.hid HRel.out.2.2.2.2⟩
          · rw [HM2.out]
            conv => lhs; unfold wdG
            rw [if_pos HLT.out]
          · have := HM.out.2.1; omega
          · have := HM.out.2.2.1; have := HV.out; simp; omega
          · intro x hx
            rcases List.mem_append.1 hx with hx | hx
            · exact HM.out.2.2.2.2 x hx
            · simp at hx
              subst hx
              exact HLT.out
          · rw [List.length_append]; exact HRel.out.2.2.2.1
        case measure =>
          have hk4 := HRel.out.1
          have e2 : W3.iterPos R = pos + v := by simp [World.iterPos, hk4]
          rw [e2, HIP.out]
          have := HV.out
          omega
      · have hlt : letB (r : Int) = false := by simpa using hlt
        obtain ⟨p, vv, hb, hpp, ho⟩ := HWW.out.ex
        obtain ⟨b0, b1, b2⟩ := cells3 hb
        have HLT := Lib.hid hlt
        obtain ⟨N, hN⟩ : ∃ N, N = cur.length := ⟨_, rfl⟩
        rw [← hN] at b2
        have HN := Lib.hid hN
        clear b0 b1 hb hpp ho hN
        by_cases hc0 : N = 0
        · have HC0 := Lib.hid hc0
          have hN0 : (N : Int) = 0 := by omega
          rw [hN0] at b2
          gi_wp2_with fail
          refine ⟨trivial, (callsIn_wide.2 (Letter_any (r : Int) W2)).mono ?_⟩
          rintro e W3 ⟨rfl, rfl⟩
          rw [HLT.out]
          clear hc0 hN0 hlt
          gi_wp2
          go_roundw
          case rel =>
            have hcur : cur = [] := List.eq_nil_of_length_eq_zero (by rw [← HN.out]; exact HC0.out)
            refine ⟨pre, [], pos + v, b, rfl, rfl, HK2.out, Lib.hid ⟨?_, ?_, Nat.zero_le _, HLE.out, fun r h => by cases h⟩, HJJ, Lib.hid (HFF.out.le (by have := HV.out; omega) (by have := HTL.out; have := HLE.out; omega)), Lib.hid ?_, HCC⟩
            · rw [HM2.out, hcur]
              conv => lhs; unfold wdG
              rw [if_neg (by rw [HLT.out]; decide), if_pos rfl]
            · have := HM.out.2.1; omega
            · have := HWW.out; rw [hcur] at this; exact this
          case measure =>
            have hk4 := HK2.out
            have e2 : W2.iterPos R = pos + v := by simp [World.iterPos, hk4]
            rw [e2, HIP.out]
            have := HV.out
            omega
        · have hcur : cur ≠ [] := fun h => hc0 (by rw [HN.out, h]; rfl)
          have hN0 : ((N : Int) == 0) = false := by simp; omega
          have hN1 : decide ((N : Int) = 0) = false := by simp; omega
          have hNe : tmG cf (wdG (r :: rnsL (l.drop (pos + v))) cur) pre.length = (pre.length, termS cf cur) :: tmG cf (wdG (rnsL (l.drop (pos + v))) []) (pre.length + 1) := by
            conv => lhs; unfold wdG
            rw [if_neg (by rw [HLT.out]; decide), if_neg hcur]
            rfl
          have hM3 := HM2.out
          rw [hNe] at hM3
          have C := Lib.hid (String_any Bs b (encsL (termL cf cur)) cur.length W2 HWW.out (term_ne cf HML.out.1 cur hcur HM.out.2.2.2.2) (by
            obtain ⟨p, vv, hb, _⟩ := HWW.out.ex
            have := (Array.getElem?_eq_some_iff.1 hb).1
            have := HWW.out.hb
            omega) (by have := term_len cf HML.out.2 cur; omega))
          rw [show strL (encsL (termL cf cur)) = termS cf cur from rfl] at C
          obtain ⟨s, hs⟩ : ∃ s, s = termS cf cur := ⟨_, rfl⟩
          rw [← hs] at C hM3
          have HM3 := Lib.hid hM3
          have HSe := Lib.hid hs
          clear hcur hc0 hNe hM3 hs
          gi_wp2_with fail
          refine ⟨trivial, (callsIn_wide.2 (Letter_any (r : Int) W2)).mono ?_⟩
          rintro e W3 ⟨rfl, rfl⟩
          rw [HLT.out]
          clear hlt
          gi_wp2_with fail
          refine ⟨trivial, (callsIn_wide.2 C.out).mono ?_⟩
          rintro e W3 ⟨rfl, hr3⟩
          have hst := Rest.step (M := M) (B := W.heap.size) hr3.wid HFF.out.map HS.out.word (by rw [← HWS.out]; exact HBs.out.1)
          have hJ3 := HJ.out _ _ _ HJJ.out hst
          have HK3 := Lib.hid (hr3.own R _ HK2.out (by simp) (fun C t fr e => by cases e))
          have HF3 := Lib.hid (HFF.out.rest (hr3.mono HBs.out.2.1))
          have HC3 := Lib.hid (hr3.low Bc _ (by have := HLW.out.1; have := HWS.out; have := HBs.out.1; omega) HCC.out)
          have HS3 := Lib.hid hr3.size
          obtain ⟨fn, tmps, assign, body, hy, hRd⟩ := HY.out pre (pre.length, s) W3 ⟨tmG cf (wdG (rnsL (l.drop (pos + v))) []) (pre.length + 1), by rw [HM3.out]; simp⟩ hJ3
          dsimp only [encT] at hy
          clear hr3 hst hJ3 C c0 c1 c2 b2
          gi_wp2_with fail
          refine hRd.mono ?_
          rintro e W5 (⟨rfl, hJ5, hk5⟩ | ⟨rfl, hJx5, _⟩)
          · have HR5 : Hid (W5.heap[R]? = some (.stringIter Z (pos + v)) ∧ Fol W5 w0.heap.size f M cf.fo (pos + v) ∧ J (pre ++ [(pre.length, s)]) W5 ∧ W5.heap[Bc]? = some (.cells #[.slice A na c, .slice B m d, .int .i64 cf.cap] 25 (0, 0)) ∧ Bs ≤ W5.heap.size) := Lib.hid
              ⟨hk5.walk R _ (by have := HBR.out; have := HBs.out.1; have := HWS.out; omega) rfl HK3.out, (HF3.out.keep hk5 HS.out.2.2.1 (by have := HBs.out; have := HWS.out; omega)).le (by have := HV.out; omega) (by have := HTL.out; have := HLE.out; omega), hJ5, hk5.own Bc _ _ _ HS.out.1 HC3.out, by
                have := hk5.size
                have := (Array.getElem?_eq_some_iff.1 HK3.out).1
                have := HBR.out
                omega⟩
            clear hJ5 hk5
            have hb6 := (Below.refl W5.heap.size W5).alloc (Nat.le_refl _) (.cells #[.pointer none, .slice none 0 0, .int .i64 0] 185)
            have hw6 := word_new W5 Bs HR5.out.2.2.2.2
            obtain ⟨W6, hW6⟩ : ∃ x, x = W5.alloc (.cells #[.pointer none, .slice none 0 0, .int .i64 0] 185) := ⟨_, rfl⟩
            obtain ⟨b6, hb6e⟩ : ∃ x, x = W5.heap.size := ⟨_, rfl⟩
            rw [← hW6] at hb6 hw6
            rw [← hb6e] at hw6
            have HR6 : Hid (W6.heap[R]? = some (.stringIter Z (pos + v)) ∧ Fol W6 w0.heap.size f M cf.fo (pos + v) ∧ J (pre ++ [(pre.length, s)]) W6 ∧ W6.heap[Bc]? = some (.cells #[.slice A na c, .slice B m d, .int .i64 cf.cap] 25 (0, 0))) := Lib.hid
              ⟨(hb6.block R (Array.getElem?_eq_some_iff.1 HR5.out.1).1).trans HR5.out.1, HR5.out.2.1.below hb6, HJ.out _ _ _ HR5.out.2.2.1 (Step.below hb6), (hb6.block Bc (Array.getElem?_eq_some_iff.1 HR5.out.2.2.2.1).1).trans HR5.out.2.2.2.1⟩
            have HW6 := Lib.hid hw6
            have HWe := Lib.hid hW6
            have HBe := Lib.hid hb6e
            have hpl : pre.length + 1 ≤ 9223372036854775807 := by have := HM.out.2.1; have := HTL.out; have := HLE.out; omega
            clear hb6 hw6 hW6 hb6e
            gi_wp2
            rw [← HWe.out, ← HBe.out]
            go_roundw
            case rel =>
              refine ⟨pre ++ [(pre.length, s)], [], pos + v, b6, rfl, by simp; try go_num, HR6.out.1, Lib.hid ⟨?_, ?_, Nat.zero_le _, HLE.out, fun r h => by cases h⟩, Lib.hid HR6.out.2.2.1, Lib.hid HR6.out.2.1, Lib.hid ?_, Lib.hid HR6.out.2.2.2⟩
              · rw [HM3.out, List.length_append, List.append_assoc]
                rfl
              · have := HM.out.2.1; have := HV.out; simp; omega
              · have := HW6.out; simpa [termL, encsL] using this
            case measure =>
              have hk4 := HR6.out.1
              have e2 : W6.iterPos R = pos + v := by simp [World.iterPos, hk4]
              rw [e2, HIP.out]
              have := HV.out
              omega
          · have HX5 := Lib.hid hJx5
            clear hJx5
            gi_wp2
            try simp only [Exit.noGoto_normal, Exit.noGoto_ret]
            refine bodyPost_ret (results_none rfl _ _ _) rfl ?_
            exact ⟨⟨_, rfl⟩, .inr ⟨_, ⟨tmG cf (wdG (rnsL (l.drop (pos + v))) []) (pre.length + 1), by rw [HM3.out, List.append_assoc]; rfl⟩, HX5.out⟩⟩
    · have hnx := fun ty => Lib.run_next_end_at (P := Tryz.prog) wr R Z pos ty hk hp
      have hM2 := HM.out.1
      rw [List.drop_of_length_le (by omega), rnsL_nil] at hM2
      have hbw : Bs ≤ wr.heap.size := by
        have := (Array.getElem?_eq_some_iff.1 hk).1
        have := HBR.out
        omega
      obtain ⟨p, vv, hb, hpp, ho⟩ := HWs.out.ex
      obtain ⟨b0, b1, b2⟩ := cells3 hb
      obtain ⟨N, hN⟩ : ∃ N, N = cur.length := ⟨_, rfl⟩
      rw [← hN] at b2
      have HN := Lib.hid hN
      have HM2 := Lib.hid hM2
      clear b0 b1 hb hpp ho hN hM2 hlen
      by_cases hc0 : N = 0
      · have hcur : cur = [] := List.eq_nil_of_length_eq_zero (by rw [← HN.out]; exact hc0)
        have HE2 : Hid (termsL cf l = pre) := Lib.hid (by
          rw [HM2.out, hcur]
          simp [wdG, tmG])
        have hN0 : (N : Int) = 0 := by omega
        rw [hN0] at b2
        clear hcur hc0 hN0
        gi_wp2
        try simp only [Exit.noGoto_normal, Exit.noGoto_ret]
        go_end0
        exact ⟨⟨_, rfl⟩, .inl (by rw [HE2.out]; exact HJs.out)⟩
      · have hcur : cur ≠ [] := fun h => hc0 (by rw [HN.out, h]; rfl)
        have hM3 : termsL cf l = pre ++ [(pre.length, termS cf cur)] := by
          rw [HM2.out]
          simp [wdG, hcur, tmG]
        have hNp : (0 : Int) < (N : Int) := by omega
        have C := Lib.hid (String_any Bs b (encsL (termL cf cur)) cur.length wr HWs.out (term_ne cf HML.out.1 cur hcur HM.out.2.2.2.2) hbw (by have := term_len cf HML.out.2 cur; omega))
        rw [show strL (encsL (termL cf cur)) = termS cf cur from rfl] at C
        obtain ⟨s, hs⟩ : ∃ s, s = termS cf cur := ⟨_, rfl⟩
        rw [← hs] at C hM3
        have HM3 := Lib.hid hM3
        clear hcur hc0 hM3 hs
        gi_wp2_with fail
        refine ⟨trivial, (callsIn_wide.2 C.out).mono ?_⟩
        rintro e W3 ⟨rfl, hr3⟩
        have hst := Rest.step (M := M) (B := W.heap.size) hr3.wid HFs.out.map HS.out.word (by rw [← HWS.out]; exact HBs.out.1)
        have hJ3 := HJ.out _ _ _ HJs.out hst
        obtain ⟨fn, tmps, assign, body, hy, hRd⟩ := HY.out pre (pre.length, s) W3 ⟨[], by rw [HM3.out, List.append_nil]⟩ hJ3
        dsimp only [encT] at hy
        clear hr3 hst hJ3 C b2
        gi_wp2_with fail
        refine hRd.mono ?_
        rintro e W5 (⟨rfl, hJ5, hk5⟩ | ⟨rfl, hJx5, _⟩)
        · have HX5 : Hid (J (termsL cf l) W5) := Lib.hid (by rw [HM3.out]; exact hJ5)
          clear hJ5 hk5
          gi_wp2
          try simp only [Exit.noGoto_normal, Exit.noGoto_ret]
          go_end0
          exact ⟨⟨_, rfl⟩, .inl HX5.out⟩
        · have HX5 := Lib.hid hJx5
          clear hJx5
          gi_wp2
          try simp only [Exit.noGoto_normal, Exit.noGoto_ret]
          go_end0
          exact ⟨⟨_, rfl⟩, .inr ⟨_, ⟨[], by rw [HM3.out, List.append_nil]⟩, HX5.out⟩⟩
end Go.Proofs.YtkkeodlnejckjaaGreat
