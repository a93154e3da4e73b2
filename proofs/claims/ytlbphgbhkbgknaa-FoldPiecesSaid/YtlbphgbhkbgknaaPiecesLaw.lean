/- FoldPieces: the runes of bytes in two pieces are those of the one, then those of the other. -/
import Derived.Test.YtlbphgbhkbgknaaRunesLaw
import Derived.Test.YtlbphgbhkbgknaaPiecesMath
import Derived.Test.YtlbphgbhkbgknaaConcat
namespace Go.Proofs.Ytlbphgbhkbgknaa
open Go.RowKit Go.Shelf
set_option linter.unusedVariables false
set_option linter.unusedSimpArgs false

theorem marks_own {w : World} {v : Value} {A : Option Addr} {n c : Nat} {l : List Nat} (h : RunF w v A n c) (hl : RdB w A n l) (hc : n ≤ c) (hn : n ≤ 100000000) (most : Nat) (hm : most ≤ 100000000) :
    Calls Try.prog 15 #[v, .int .i64 (most : Nat)] w fun e w' => ∃ v, e = .returned v ∧ OwnM w' w.heap.size v ((marksL l).take most) ∧ Below w.heap.size w w' := by
  obtain ⟨g, rfl, hcell⟩ := h
  have hk := marksL_len l
  have := hl.len
  exact (marks_seq _ _ most (marksL l) w (enters_of Try.func34 (by kernel_rfl) rfl) (runes_stops 9 g (by omega) A n c l w hcell hl hc) (by omega) hm)
theorem OwnK.rd4 {w : World} {base : Nat} {A : Option Addr} {n c : Nat} {L : List (Nat × Nat)} (h : OwnM w base (.slice A n c) L) : RdM w A n L := by
  obtain ⟨A', c', e, _, _, h3⟩ := OwnK.rd encMk_len h
  cases e
  exact h3
theorem shift_take (n : Nat) (M : List (Nat × Nat)) (k : Nat) (h : k < M.length) : shiftL n (M.take (k + 1)) = shiftL n (M.take k) ++ [(n + M[k].1, M[k].2)] := by
  unfold shiftL
  rw [List.take_succ_eq_append_getElem h, List.map_append]
  rfl

set_option maxRecDepth 100000 in
set_option maxHeartbeats 4000000 in
theorem pieces_law (A B : Option Addr) (n m c d : Nat) (a b : List Nat) (w : World) (ha : RdB w A n a) (hb : RdB w B m b) (hc : n ≤ c) (hd : m ≤ d) (hc2 : c ≤ 9223372036854775807) (hd2 : d ≤ 9223372036854775807) :
    Calls Try.prog 6 #[.slice A n c, .slice B m d] w fun e w' => e = .returned (.bool true) ∧ Below w.heap.size w w' := by
  have HA := Lib.hid ha
  have HB := Lib.hid hb
  clear ha hb
  by_cases h1 : (1000 : Int) < (n : Int)
  · skip
    go_enter Try.func6, Try.ntmps6
    go_wp2_with fail
    refine (live_any _).mono ?_
    rintro e w1 ⟨rfl, hb⟩
    have KB := Lib.hid hb
    clear hb
    go_wp2_with fail
    refine (live_any _).mono ?_
    rintro e w2 ⟨rfl, hb⟩
    have KB2 := Lib.hid (Below.thn KB.out hb)
    clear hb KB
    go_wp2
    go_ret
    exact ⟨rfl, KB2.out⟩
  by_cases h2 : (1000 : Int) < (m : Int)
  · skip
    go_enter Try.func6, Try.ntmps6
    go_wp2_with fail
    refine (live_any _).mono ?_
    rintro e w1 ⟨rfl, hb⟩
    have KB := Lib.hid hb
    clear hb
    go_wp2_with fail
    refine (live_any _).mono ?_
    rintro e w2 ⟨rfl, hb⟩
    have KB2 := Lib.hid (Below.thn KB.out hb)
    clear hb KB
    go_wp2
    go_ret
    exact ⟨rfl, KB2.out⟩
  have hN : n ≤ 100000000 := by omega
  have hM : m ≤ 100000000 := by omega
  have HTa : Hid ((marksL a).take 1048576 = marksL a) := Lib.hid (List.take_of_length_le (by have := marksL_len a; have := HA.out.len; omega))
  have HTb : Hid ((marksL b).take 1048576 = marksL b) := Lib.hid (List.take_of_length_le (by have := marksL_len b; have := HB.out.len; omega))
  have HTab : Hid ((marksL (a ++ b)).take 1048576 = marksL (a ++ b)) := Lib.hid (List.take_of_length_le (by have := HB.out.len; have := HA.out.len; have h7 := marksL_len (a ++ b); rw [List.length_append] at h7; omega))
  by_cases h3 : (0 : Int) < (m : Int)
  · obtain ⟨ad, x, rfl, HX, qx, cx⟩ := HB.out.at (k := 0) (by omega)
    rw [show ad.add 0 = ad from rfl] at cx
    have CX := Lib.hid cx
    clear cx
    by_cases h4 : (128 : Int) ≤ (x : Int)
    · by_cases h5 : (x : Int) < 192
      · skip
        go_enter Try.func6, Try.ntmps6
        go_wp2_with fail
        refine (live_any _).mono ?_
        rintro e w1 ⟨rfl, hb⟩
        have KB := Lib.hid hb
        clear hb
        have cx := cell_keep KB.out CX.out
        go_wp2_with fail
        refine (live_any _).mono ?_
        rintro e w2 ⟨rfl, hb⟩
        have KB2 := Lib.hid (Below.thn KB.out hb)
        clear hb KB
        go_wp2
        go_ret
        exact ⟨rfl, KB2.out⟩
      · skip
        have HFr : Hid (freshL b) := Lib.hid (.inr (by rw [← HX.out]; omega))
        go_enter Try.func6, Try.ntmps6
        go_wp2_with fail
        refine (live_any _).mono ?_
        rintro e w1 ⟨rfl, hb⟩
        have KB := Lib.hid hb
        have HA1 := Lib.hid (HA.out.below hb)
        clear hb
        have cx := cell_keep KB.out CX.out
        go_wp2_with fail
        refine (Runes_f A n c _).mono ?_
        rintro e w2 ⟨v, rfl, hr, hb⟩
        have KB2 := Lib.hid (Below.thn KB.out hb)
        have HA2 := Lib.hid (HA1.out.below hb)
        have HR := Lib.hid hr
        clear hb KB HA1 hr cx h1 h2 h3 h4 h5
        go_wp2_with fail
        refine (marks_own HR.out HA2.out hc hN 1048576 (by omega)).mono ?_
        rintro e w3 ⟨v5, rfl, ho, hb⟩
        rw [HTa.out] at ho
        have KB3 := Lib.hid (Below.thn KB2.out hb)
        have HB3 := Lib.hid (HB.out.below KB3.out)
        have HO5 := Lib.hid (OwnK.mono ho KB2.out.size)
        have HO3 := HO5
        clear hb KB2 ho HR HA2
        go_wp2_with fail
        refine (Runes_f _ m d _).mono ?_
        rintro e w4 ⟨u, rfl, hr, hb⟩
        have KB4 := Lib.hid (Below.thn KB3.out hb)
        have HO5b := Lib.hid (HO5.out.below hb)
        have HB4 := Lib.hid (HB3.out.below hb)
        have HS34 := Lib.hid hb.size
        have HR := Lib.hid hr
        clear hb KB3 hr HB3 HO5
        go_wp2_with fail
        refine (marks_own HR.out HB4.out hd hM 1048576 (by omega)).mono ?_
        rintro e w5 ⟨v43, rfl, ho, hb⟩
        rw [HTb.out] at ho
        have KB5 := Lib.hid (Below.thn KB4.out hb)
        have HO5 := Lib.hid (HO5b.out.below hb)
        clear hb KB4 HR HB4 HO5b
        obtain ⟨M, hMq⟩ : ∃ M, M = marksL b := ⟨_, rfl⟩
        rw [← hMq] at ho
        have HMq := Lib.hid hMq
        obtain ⟨A4, n4, c4, rfl, h41, h42, h43⟩ := OwnK.ms ho
        have HM := Lib.hid h43
        have hM4 : n4 ≤ 1000 := by
          have := marksL_len b
          have := HB.out.len
          have := h43.len
          rw [hMq] at this
          omega
        have HL5 : Hid ((marksL a).length ≤ 1000) := Lib.hid (by
          have := marksL_len a
          have := HA.out.len
          omega)
        have HAp : Hid (∀ j, v5.ownBlock = some j → (Value.slice A4 n4 c4).ownBlock ≠ some j) := Lib.hid (by
          intro j hj e
          have h1 := (HO3.out.base j hj).2
          have h2 := (OwnK.base ho j e).1
          have := HS34.out
          omega)
        have HO4 := Lib.hid ho
        clear ho hMq h43 h41
        go_wp2_with fail
        go_loopw [5, 45] (fun x5 x45 wr => ∃ k : Nat, k ≤ n4 ∧ x45 = .int .i64 k ∧ Hid (OwnM wr w.heap.size x5 (marksL a ++ shiftL n (M.take k)) ∧ Below w.heap.size w wr ∧ OwnM wr w4.heap.size (.slice A4 n4 c4) M ∧ (∀ j, x5.ownBlock = some j → (Value.slice A4 n4 c4).ownBlock ≠ some j))) (fun _ x45 _ => n4 - (intOf x45).toNat)
        case atStart => exact ⟨0, by omega, rfl, Lib.hid ⟨by simpa [shiftL] using HO5.out, KB5.out, HO4.out, HAp.out⟩⟩
        case round =>
          obtain ⟨k, hk, rfl, HI⟩ := hrel
          by_cases hlt : (k : Int) < (n4 : Int)
          · obtain ⟨ad4, y, rfl, HY, y0, y1⟩ := (HI.out.2.2.1.rd4).at2 (k := k) (by omega)
            obtain ⟨p, r⟩ := y
            have hpb : p < 1048576 := by
              obtain ⟨hk5, hy⟩ := HY.out
              have h6 := mkAt_lt b.length 0 b HB.out.byt (Nat.le_refl _) (p, r) (by rw [← hy]; have := HMq.out; subst this; exact List.getElem_mem _)
              have := HB.out.len
              simp at h6
              omega
            simp only at y0 y1
            have HBx : Hid (Below w.heap.size w (wr.alloc (.cells #[.int .i64 (p : Int), .int .i32 (r : Int)] 34)) ∧ OwnM (wr.alloc (.cells #[.int .i64 (p : Int), .int .i32 (r : Int)] 34)) w4.heap.size (.slice (some ad4) n4 c4) M ∧ OwnM (wr.alloc (.cells #[.int .i64 (p : Int), .int .i32 (r : Int)] 34)) w.heap.size u5 (marksL a ++ shiftL n (M.take k))) := Lib.hid ⟨HI.out.2.1.alloc HI.out.2.1.size _, HI.out.2.2.1.below ((Below.refl _ _).alloc (Nat.le_refl _) _), HI.out.1.below ((Below.refl _ _).alloc (Nat.le_refl _) _)⟩
            obtain ⟨w6, hw6⟩ : ∃ w6, w6 = wr.alloc (.cells #[.int .i64 (p : Int), .int .i32 (r : Int)] 34) := ⟨_, rfl⟩
            have HBl := (Below.refl w6.heap.size w6).alloc (Nat.le_refl _) (.cells #[.int .i64 ((n : Int) + (p : Int)), .int .i32 (r : Int)] 34)
            have hrd := RdK.one (enc := encMk) (sz := 2) w6 34 (n + p, r) #[.int .i64 ((n : Int) + (p : Int)), .int .i32 (r : Int)] (0, 0) (by first | rfl | (simp; done) | go_num) rfl
            rw [← hw6] at HBx
            obtain ⟨v1, w7, r1, o1, g1, at1⟩ := run_append_rdK (P := Try.prog) (c := 1) w.heap.size 30 30 34 (.agg #[.int .i64 0, .int .i32 0]) 16 Try.underlying30 infoMk rfl (by decide) (by decide) encMk_len encMk_one (HBx.out.2.2.below HBl) hrd (by have := HL5.out; have := HM.out.len; simp [shiftL]; omega) (by have := HBx.out.1.size; simp; omega)
            have HN : Hid (OwnM w7 w.heap.size v1 (marksL a ++ shiftL n (M.take (k + 1))) ∧ Below w.heap.size w w7 ∧ OwnM w7 w4.heap.size (.slice (some ad4) n4 c4) M ∧ (∀ j, v1.ownBlock = some j → (Value.slice (some ad4) n4 c4).ownBlock ≠ some j)) := Lib.hid (by
              refine ⟨?_, (HBx.out.1.trans (HBl.mono HBx.out.1.size)).grown g1 (by have := HBx.out.1.size; simp; omega) (fun j hj => ((HBx.out.2.2.below HBl).base j hj).1), ?_, ?_⟩
              · obtain ⟨hk5, hy⟩ := HY.out
                rw [shift_take n M k hk5, hy, ← List.append_assoc]
                exact o1
              · refine (HBx.out.2.1.below HBl).kept g1 ?_
                cases hob : u5.ownBlock with
                | none => cases h : (Value.slice (some ad4) n4 c4).ownBlock <;> simp
                | some j => exact .inr (HI.out.2.2.2 j hob)
              · intro j hj e
                have hlt4 := (HBx.out.2.1.base j e).2
                rcases at1 with h | h
                · exact HI.out.2.2.2 j (by rw [← h]; exact hj) e
                · rw [h] at hj
                  simp at hj
                  omega)
            subst hw6
            simp only [World.size_alloc] at r1
            clear o1 g1 at1 hrd HBl
            go_wp2_with (at_builtin; refine wpl_append_run rfl _ _ _ rfl rfl rfl r1 ?_)
            exact ⟨⟨k + 1, by omega, by go_num, HN⟩, by simp [intOf]; omega⟩
          · obtain rfl : k = n4 := by omega
            have HBl : Hid (Below wr.heap.size wr (wr.alloc (.cells #[.slice A n c, .slice (some ad) m d] 23))) := Lib.hid ((Below.refl _ _).alloc (Nat.le_refl _) _)
            have HE : Hid (OwnM wr w.heap.size u5 (marksL (a ++ b))) := Lib.hid (by
              rw [marks_append a b HFr.out, HA.out.len, ← HMq.out]
              have h := HI.out.1
              rw [List.take_of_length_le (by rw [HM.out.len]; exact Nat.le_refl _)] at h
              exact h)
            have HE2 := Lib.hid (HE.out.below HBl.out)
            have HB6 := Lib.hid (HI.out.2.1.alloc HI.out.2.1.size (.cells #[.slice A n c, .slice (some ad) m d] 23))
            go_wp2_with fail
            refine (Concat_any wr.heap.size A _ n c m d a b _ (by simp) (by simp) (HA.out.below HB6.out) (HB.out.below HB6.out) (by omega) (by omega)).mono ?_
            rintro e w8 ⟨v64, rfl, ho, hb⟩
            have KB8 := Lib.hid (Below.thn HB6.out hb)
            have HE8 := Lib.hid (HE2.out.below hb)
            obtain ⟨A6, n6, c6, rfl, h61, h62, h63⟩ := ho.bs
            have H6 := Lib.hid h63
            have h6l : n6 ≤ 100000000 := by rw [← h63.len, List.length_append, HA.out.len, HB.out.len]; omega
            clear ho hb h63 HE2 HB6
            go_wp2_with fail
            refine (Runes_f A6 n6 c6 _).mono ?_
            rintro e w9 ⟨v, rfl, hr, hb⟩
            have KB9 := Lib.hid (Below.thn KB8.out hb)
            have HE9 := Lib.hid (HE8.out.below hb)
            have H69 := Lib.hid (H6.out.below hb)
            have HR := Lib.hid hr
            clear hb hr HE8 KB8 H6
            go_wp2_with fail
            refine (marks_ms HR.out H69.out h61 (by omega) 1048576 (by omega)).mono ?_
            rintro e w10 ⟨v66, rfl, hm, hb⟩
            rw [HTab.out] at hm
            have KB10 := Lib.hid (Below.thn KB9.out hb)
            have HE10 := Lib.hid (HE9.out.below hb)
            have HM66 := Lib.hid hm
            clear hb hm HE9 KB9 HR H69
            go_wp2_with fail
            refine (equalM_ms HM66.out (OwnK.ms HE10.out)).mono ?_
            rintro e w11 ⟨rfl, hb⟩
            have KB11 := Lib.hid (Below.thn KB10.out hb)
            rw [decide_eq_true rfl]
            clear hb
            go_wp2
            go_ret
            exact ⟨rfl, KB11.out⟩
    · skip
      have HFr : Hid (freshL b) := Lib.hid (.inr (by rw [← HX.out]; omega))
      go_enter Try.func6, Try.ntmps6
      go_wp2_with fail
      refine (live_any _).mono ?_
      rintro e w1 ⟨rfl, hb⟩
      have KB := Lib.hid hb
      have HA1 := Lib.hid (HA.out.below hb)
      clear hb
      have cx := cell_keep KB.out CX.out
      go_wp2_with fail
      refine (Runes_f A n c _).mono ?_
      rintro e w2 ⟨v, rfl, hr, hb⟩
      have KB2 := Lib.hid (Below.thn KB.out hb)
      have HA2 := Lib.hid (HA1.out.below hb)
      have HR := Lib.hid hr
      clear hb KB HA1 hr cx h1 h2 h3 h4
      go_wp2_with fail
      refine (marks_own HR.out HA2.out hc hN 1048576 (by omega)).mono ?_
      rintro e w3 ⟨v5, rfl, ho, hb⟩
      rw [HTa.out] at ho
      have KB3 := Lib.hid (Below.thn KB2.out hb)
      have HB3 := Lib.hid (HB.out.below KB3.out)
      have HO5 := Lib.hid (OwnK.mono ho KB2.out.size)
      have HO3 := HO5
      clear hb KB2 ho HR HA2
      go_wp2_with fail
      refine (Runes_f _ m d _).mono ?_
      rintro e w4 ⟨u, rfl, hr, hb⟩
      have KB4 := Lib.hid (Below.thn KB3.out hb)
      have HO5b := Lib.hid (HO5.out.below hb)
      have HB4 := Lib.hid (HB3.out.below hb)
      have HS34 := Lib.hid hb.size
      have HR := Lib.hid hr
      clear hb KB3 hr HB3 HO5
      go_wp2_with fail
      refine (marks_own HR.out HB4.out hd hM 1048576 (by omega)).mono ?_
      rintro e w5 ⟨v43, rfl, ho, hb⟩
      rw [HTb.out] at ho
      have KB5 := Lib.hid (Below.thn KB4.out hb)
      have HO5 := Lib.hid (HO5b.out.below hb)
      clear hb KB4 HR HB4 HO5b
      obtain ⟨M, hMq⟩ : ∃ M, M = marksL b := ⟨_, rfl⟩
      rw [← hMq] at ho
      have HMq := Lib.hid hMq
      obtain ⟨A4, n4, c4, rfl, h41, h42, h43⟩ := OwnK.ms ho
      have HM := Lib.hid h43
      have hM4 : n4 ≤ 1000 := by
        have := marksL_len b
        have := HB.out.len
        have := h43.len
        rw [hMq] at this
        omega
      have HL5 : Hid ((marksL a).length ≤ 1000) := Lib.hid (by
        have := marksL_len a
        have := HA.out.len
        omega)
      have HAp : Hid (∀ j, v5.ownBlock = some j → (Value.slice A4 n4 c4).ownBlock ≠ some j) := Lib.hid (by
        intro j hj e
        have h1 := (HO3.out.base j hj).2
        have h2 := (OwnK.base ho j e).1
        have := HS34.out
        omega)
      have HO4 := Lib.hid ho
      clear ho hMq h43 h41
      go_wp2_with fail
      go_loopw [5, 45] (fun x5 x45 wr => ∃ k : Nat, k ≤ n4 ∧ x45 = .int .i64 k ∧ Hid (OwnM wr w.heap.size x5 (marksL a ++ shiftL n (M.take k)) ∧ Below w.heap.size w wr ∧ OwnM wr w4.heap.size (.slice A4 n4 c4) M ∧ (∀ j, x5.ownBlock = some j → (Value.slice A4 n4 c4).ownBlock ≠ some j))) (fun _ x45 _ => n4 - (intOf x45).toNat)
      case atStart => exact ⟨0, by omega, rfl, Lib.hid ⟨by simpa [shiftL] using HO5.out, KB5.out, HO4.out, HAp.out⟩⟩
      case round =>
        obtain ⟨k, hk, rfl, HI⟩ := hrel
        by_cases hlt : (k : Int) < (n4 : Int)
        · obtain ⟨ad4, y, rfl, HY, y0, y1⟩ := (HI.out.2.2.1.rd4).at2 (k := k) (by omega)
          obtain ⟨p, r⟩ := y
          have hpb : p < 1048576 := by
            obtain ⟨hk5, hy⟩ := HY.out
            have h6 := mkAt_lt b.length 0 b HB.out.byt (Nat.le_refl _) (p, r) (by rw [← hy]; have := HMq.out; subst this; exact List.getElem_mem _)
            have := HB.out.len
            simp at h6
            omega
          simp only at y0 y1
          have HBx : Hid (Below w.heap.size w (wr.alloc (.cells #[.int .i64 (p : Int), .int .i32 (r : Int)] 34)) ∧ OwnM (wr.alloc (.cells #[.int .i64 (p : Int), .int .i32 (r : Int)] 34)) w4.heap.size (.slice (some ad4) n4 c4) M ∧ OwnM (wr.alloc (.cells #[.int .i64 (p : Int), .int .i32 (r : Int)] 34)) w.heap.size u5 (marksL a ++ shiftL n (M.take k))) := Lib.hid ⟨HI.out.2.1.alloc HI.out.2.1.size _, HI.out.2.2.1.below ((Below.refl _ _).alloc (Nat.le_refl _) _), HI.out.1.below ((Below.refl _ _).alloc (Nat.le_refl _) _)⟩
          obtain ⟨w6, hw6⟩ : ∃ w6, w6 = wr.alloc (.cells #[.int .i64 (p : Int), .int .i32 (r : Int)] 34) := ⟨_, rfl⟩
          have HBl := (Below.refl w6.heap.size w6).alloc (Nat.le_refl _) (.cells #[.int .i64 ((n : Int) + (p : Int)), .int .i32 (r : Int)] 34)
          have hrd := RdK.one (enc := encMk) (sz := 2) w6 34 (n + p, r) #[.int .i64 ((n : Int) + (p : Int)), .int .i32 (r : Int)] (0, 0) (by first | rfl | (simp; done) | go_num) rfl
          rw [← hw6] at HBx
          obtain ⟨v1, w7, r1, o1, g1, at1⟩ := run_append_rdK (P := Try.prog) (c := 1) w.heap.size 30 30 34 (.agg #[.int .i64 0, .int .i32 0]) 16 Try.underlying30 infoMk rfl (by decide) (by decide) encMk_len encMk_one (HBx.out.2.2.below HBl) hrd (by have := HL5.out; have := HM.out.len; simp [shiftL]; omega) (by have := HBx.out.1.size; simp; omega)
          have HN : Hid (OwnM w7 w.heap.size v1 (marksL a ++ shiftL n (M.take (k + 1))) ∧ Below w.heap.size w w7 ∧ OwnM w7 w4.heap.size (.slice (some ad4) n4 c4) M ∧ (∀ j, v1.ownBlock = some j → (Value.slice (some ad4) n4 c4).ownBlock ≠ some j)) := Lib.hid (by
            refine ⟨?_, (HBx.out.1.trans (HBl.mono HBx.out.1.size)).grown g1 (by have := HBx.out.1.size; simp; omega) (fun j hj => ((HBx.out.2.2.below HBl).base j hj).1), ?_, ?_⟩
            · obtain ⟨hk5, hy⟩ := HY.out
              rw [shift_take n M k hk5, hy, ← List.append_assoc]
              exact o1
            · refine (HBx.out.2.1.below HBl).kept g1 ?_
              cases hob : u5.ownBlock with
              | none => cases h : (Value.slice (some ad4) n4 c4).ownBlock <;> simp
              | some j => exact .inr (HI.out.2.2.2 j hob)
            · intro j hj e
              have hlt4 := (HBx.out.2.1.base j e).2
              rcases at1 with h | h
              · exact HI.out.2.2.2 j (by rw [← h]; exact hj) e
              · rw [h] at hj
                simp at hj
                omega)
          subst hw6
          simp only [World.size_alloc] at r1
          clear o1 g1 at1 hrd HBl
          go_wp2_with (at_builtin; refine wpl_append_run rfl _ _ _ rfl rfl rfl r1 ?_)
          exact ⟨⟨k + 1, by omega, by go_num, HN⟩, by simp [intOf]; omega⟩
        · obtain rfl : k = n4 := by omega
          have HBl : Hid (Below wr.heap.size wr (wr.alloc (.cells #[.slice A n c, .slice (some ad) m d] 23))) := Lib.hid ((Below.refl _ _).alloc (Nat.le_refl _) _)
          have HE : Hid (OwnM wr w.heap.size u5 (marksL (a ++ b))) := Lib.hid (by
            rw [marks_append a b HFr.out, HA.out.len, ← HMq.out]
            have h := HI.out.1
            rw [List.take_of_length_le (by rw [HM.out.len]; exact Nat.le_refl _)] at h
            exact h)
          have HE2 := Lib.hid (HE.out.below HBl.out)
          have HB6 := Lib.hid (HI.out.2.1.alloc HI.out.2.1.size (.cells #[.slice A n c, .slice (some ad) m d] 23))
          go_wp2_with fail
          refine (Concat_any wr.heap.size A _ n c m d a b _ (by simp) (by simp) (HA.out.below HB6.out) (HB.out.below HB6.out) (by omega) (by omega)).mono ?_
          rintro e w8 ⟨v64, rfl, ho, hb⟩
          have KB8 := Lib.hid (Below.thn HB6.out hb)
          have HE8 := Lib.hid (HE2.out.below hb)
          obtain ⟨A6, n6, c6, rfl, h61, h62, h63⟩ := ho.bs
          have H6 := Lib.hid h63
          have h6l : n6 ≤ 100000000 := by rw [← h63.len, List.length_append, HA.out.len, HB.out.len]; omega
          clear ho hb h63 HE2 HB6
          go_wp2_with fail
          refine (Runes_f A6 n6 c6 _).mono ?_
          rintro e w9 ⟨v, rfl, hr, hb⟩
          have KB9 := Lib.hid (Below.thn KB8.out hb)
          have HE9 := Lib.hid (HE8.out.below hb)
          have H69 := Lib.hid (H6.out.below hb)
          have HR := Lib.hid hr
          clear hb hr HE8 KB8 H6
          go_wp2_with fail
          refine (marks_ms HR.out H69.out h61 (by omega) 1048576 (by omega)).mono ?_
          rintro e w10 ⟨v66, rfl, hm, hb⟩
          rw [HTab.out] at hm
          have KB10 := Lib.hid (Below.thn KB9.out hb)
          have HE10 := Lib.hid (HE9.out.below hb)
          have HM66 := Lib.hid hm
          clear hb hm HE9 KB9 HR H69
          go_wp2_with fail
          refine (equalM_ms HM66.out (OwnK.ms HE10.out)).mono ?_
          rintro e w11 ⟨rfl, hb⟩
          have KB11 := Lib.hid (Below.thn KB10.out hb)
          rw [decide_eq_true rfl]
          clear hb
          go_wp2
          go_ret
          exact ⟨rfl, KB11.out⟩
  · skip
    have HFr : Hid (freshL b) := Lib.hid (.inl (List.eq_nil_of_length_eq_zero (by have := HB.out.len; omega)))
    go_enter Try.func6, Try.ntmps6
    go_wp2_with fail
    refine (live_any _).mono ?_
    rintro e w1 ⟨rfl, hb⟩
    have KB := Lib.hid hb
    have HA1 := Lib.hid (HA.out.below hb)
    clear hb
    go_wp2_with fail
    refine (Runes_f A n c _).mono ?_
    rintro e w2 ⟨v, rfl, hr, hb⟩
    have KB2 := Lib.hid (Below.thn KB.out hb)
    have HA2 := Lib.hid (HA1.out.below hb)
    have HR := Lib.hid hr
    clear hb KB HA1 hr h1 h2 h3
    go_wp2_with fail
    refine (marks_own HR.out HA2.out hc hN 1048576 (by omega)).mono ?_
    rintro e w3 ⟨v5, rfl, ho, hb⟩
    rw [HTa.out] at ho
    have KB3 := Lib.hid (Below.thn KB2.out hb)
    have HB3 := Lib.hid (HB.out.below KB3.out)
    have HO5 := Lib.hid (OwnK.mono ho KB2.out.size)
    have HO3 := HO5
    clear hb KB2 ho HR HA2
    go_wp2_with fail
    refine (Runes_f _ m d _).mono ?_
    rintro e w4 ⟨u, rfl, hr, hb⟩
    have KB4 := Lib.hid (Below.thn KB3.out hb)
    have HO5b := Lib.hid (HO5.out.below hb)
    have HB4 := Lib.hid (HB3.out.below hb)
    have HS34 := Lib.hid hb.size
    have HR := Lib.hid hr
    clear hb KB3 hr HB3 HO5
    go_wp2_with fail
    refine (marks_own HR.out HB4.out hd hM 1048576 (by omega)).mono ?_
    rintro e w5 ⟨v43, rfl, ho, hb⟩
    rw [HTb.out] at ho
    have KB5 := Lib.hid (Below.thn KB4.out hb)
    have HO5 := Lib.hid (HO5b.out.below hb)
    clear hb KB4 HR HB4 HO5b
    obtain ⟨M, hMq⟩ : ∃ M, M = marksL b := ⟨_, rfl⟩
    rw [← hMq] at ho
    have HMq := Lib.hid hMq
    obtain ⟨A4, n4, c4, rfl, h41, h42, h43⟩ := OwnK.ms ho
    have HM := Lib.hid h43
    have hM4 : n4 ≤ 1000 := by
      have := marksL_len b
      have := HB.out.len
      have := h43.len
      rw [hMq] at this
      omega
    have HL5 : Hid ((marksL a).length ≤ 1000) := Lib.hid (by
      have := marksL_len a
      have := HA.out.len
      omega)
    have HAp : Hid (∀ j, v5.ownBlock = some j → (Value.slice A4 n4 c4).ownBlock ≠ some j) := Lib.hid (by
      intro j hj e
      have h1 := (HO3.out.base j hj).2
      have h2 := (OwnK.base ho j e).1
      have := HS34.out
      omega)
    have HO4 := Lib.hid ho
    clear ho hMq h43 h41
    go_wp2_with fail
    go_loopw [5, 45] (fun x5 x45 wr => ∃ k : Nat, k ≤ n4 ∧ x45 = .int .i64 k ∧ Hid (OwnM wr w.heap.size x5 (marksL a ++ shiftL n (M.take k)) ∧ Below w.heap.size w wr ∧ OwnM wr w4.heap.size (.slice A4 n4 c4) M ∧ (∀ j, x5.ownBlock = some j → (Value.slice A4 n4 c4).ownBlock ≠ some j))) (fun _ x45 _ => n4 - (intOf x45).toNat)
    case atStart => exact ⟨0, by omega, rfl, Lib.hid ⟨by simpa [shiftL] using HO5.out, KB5.out, HO4.out, HAp.out⟩⟩
    case round =>
      obtain ⟨k, hk, rfl, HI⟩ := hrel
      by_cases hlt : (k : Int) < (n4 : Int)
      · obtain ⟨ad4, y, rfl, HY, y0, y1⟩ := (HI.out.2.2.1.rd4).at2 (k := k) (by omega)
        obtain ⟨p, r⟩ := y
        have hpb : p < 1048576 := by
          obtain ⟨hk5, hy⟩ := HY.out
          have h6 := mkAt_lt b.length 0 b HB.out.byt (Nat.le_refl _) (p, r) (by rw [← hy]; have := HMq.out; subst this; exact List.getElem_mem _)
          have := HB.out.len
          simp at h6
          omega
        simp only at y0 y1
        have HBx : Hid (Below w.heap.size w (wr.alloc (.cells #[.int .i64 (p : Int), .int .i32 (r : Int)] 34)) ∧ OwnM (wr.alloc (.cells #[.int .i64 (p : Int), .int .i32 (r : Int)] 34)) w4.heap.size (.slice (some ad4) n4 c4) M ∧ OwnM (wr.alloc (.cells #[.int .i64 (p : Int), .int .i32 (r : Int)] 34)) w.heap.size u5 (marksL a ++ shiftL n (M.take k))) := Lib.hid ⟨HI.out.2.1.alloc HI.out.2.1.size _, HI.out.2.2.1.below ((Below.refl _ _).alloc (Nat.le_refl _) _), HI.out.1.below ((Below.refl _ _).alloc (Nat.le_refl _) _)⟩
        obtain ⟨w6, hw6⟩ : ∃ w6, w6 = wr.alloc (.cells #[.int .i64 (p : Int), .int .i32 (r : Int)] 34) := ⟨_, rfl⟩
        have HBl := (Below.refl w6.heap.size w6).alloc (Nat.le_refl _) (.cells #[.int .i64 ((n : Int) + (p : Int)), .int .i32 (r : Int)] 34)
        have hrd := RdK.one (enc := encMk) (sz := 2) w6 34 (n + p, r) #[.int .i64 ((n : Int) + (p : Int)), .int .i32 (r : Int)] (0, 0) (by first | rfl | (simp; done) | go_num) rfl
        rw [← hw6] at HBx
        obtain ⟨v1, w7, r1, o1, g1, at1⟩ := run_append_rdK (P := Try.prog) (c := 1) w.heap.size 30 30 34 (.agg #[.int .i64 0, .int .i32 0]) 16 Try.underlying30 infoMk rfl (by decide) (by decide) encMk_len encMk_one (HBx.out.2.2.below HBl) hrd (by have := HL5.out; have := HM.out.len; simp [shiftL]; omega) (by have := HBx.out.1.size; simp; omega)
        have HN : Hid (OwnM w7 w.heap.size v1 (marksL a ++ shiftL n (M.take (k + 1))) ∧ Below w.heap.size w w7 ∧ OwnM w7 w4.heap.size (.slice (some ad4) n4 c4) M ∧ (∀ j, v1.ownBlock = some j → (Value.slice (some ad4) n4 c4).ownBlock ≠ some j)) := Lib.hid (by
          refine ⟨?_, (HBx.out.1.trans (HBl.mono HBx.out.1.size)).grown g1 (by have := HBx.out.1.size; simp; omega) (fun j hj => ((HBx.out.2.2.below HBl).base j hj).1), ?_, ?_⟩
          · obtain ⟨hk5, hy⟩ := HY.out
            rw [shift_take n M k hk5, hy, ← List.append_assoc]
            exact o1
          · refine (HBx.out.2.1.below HBl).kept g1 ?_
            cases hob : u5.ownBlock with
            | none => cases h : (Value.slice (some ad4) n4 c4).ownBlock <;> simp
            | some j => exact .inr (HI.out.2.2.2 j hob)
          · intro j hj e
            have hlt4 := (HBx.out.2.1.base j e).2
            rcases at1 with h | h
            · exact HI.out.2.2.2 j (by rw [← h]; exact hj) e
            · rw [h] at hj
              simp at hj
              omega)
        subst hw6
        simp only [World.size_alloc] at r1
        clear o1 g1 at1 hrd HBl
        go_wp2_with (at_builtin; refine wpl_append_run rfl _ _ _ rfl rfl rfl r1 ?_)
        exact ⟨⟨k + 1, by omega, by go_num, HN⟩, by simp [intOf]; omega⟩
      · obtain rfl : k = n4 := by omega
        have HBl : Hid (Below wr.heap.size wr (wr.alloc (.cells #[.slice A n c, .slice B m d] 23))) := Lib.hid ((Below.refl _ _).alloc (Nat.le_refl _) _)
        have HE : Hid (OwnM wr w.heap.size u5 (marksL (a ++ b))) := Lib.hid (by
          rw [marks_append a b HFr.out, HA.out.len, ← HMq.out]
          have h := HI.out.1
          rw [List.take_of_length_le (by rw [HM.out.len]; exact Nat.le_refl _)] at h
          exact h)
        have HE2 := Lib.hid (HE.out.below HBl.out)
        have HB6 := Lib.hid (HI.out.2.1.alloc HI.out.2.1.size (.cells #[.slice A n c, .slice B m d] 23))
        go_wp2_with fail
        refine (Concat_any wr.heap.size A _ n c m d a b _ (by simp) (by simp) (HA.out.below HB6.out) (HB.out.below HB6.out) (by omega) (by omega)).mono ?_
        rintro e w8 ⟨v64, rfl, ho, hb⟩
        have KB8 := Lib.hid (Below.thn HB6.out hb)
        have HE8 := Lib.hid (HE2.out.below hb)
        obtain ⟨A6, n6, c6, rfl, h61, h62, h63⟩ := ho.bs
        have H6 := Lib.hid h63
        have h6l : n6 ≤ 100000000 := by rw [← h63.len, List.length_append, HA.out.len, HB.out.len]; omega
        clear ho hb h63 HE2 HB6
        go_wp2_with fail
        refine (Runes_f A6 n6 c6 _).mono ?_
        rintro e w9 ⟨v, rfl, hr, hb⟩
        have KB9 := Lib.hid (Below.thn KB8.out hb)
        have HE9 := Lib.hid (HE8.out.below hb)
        have H69 := Lib.hid (H6.out.below hb)
        have HR := Lib.hid hr
        clear hb hr HE8 KB8 H6
        go_wp2_with fail
        refine (marks_ms HR.out H69.out h61 (by omega) 1048576 (by omega)).mono ?_
        rintro e w10 ⟨v66, rfl, hm, hb⟩
        rw [HTab.out] at hm
        have KB10 := Lib.hid (Below.thn KB9.out hb)
        have HE10 := Lib.hid (HE9.out.below hb)
        have HM66 := Lib.hid hm
        clear hb hm HE9 KB9 HR H69
        go_wp2_with fail
        refine (equalM_ms HM66.out (OwnK.ms HE10.out)).mono ?_
        rintro e w11 ⟨rfl, hb⟩
        have KB11 := Lib.hid (Below.thn KB10.out hb)
        rw [decide_eq_true rfl]
        clear hb
        go_wp2
        go_ret
        exact ⟨rfl, KB11.out⟩

end Go.Proofs.Ytlbphgbhkbgknaa
