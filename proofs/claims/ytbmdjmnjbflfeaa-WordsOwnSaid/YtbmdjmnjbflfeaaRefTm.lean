/- A word's term, and whether a term is a stop word, by the document. -/
import Derived.Test.YtbmdjmnjbflfeaaRefCk
import Derived.Test.YtbmdjmnjbflfeaaRegT
namespace Go.Proofs.Ytbmdjmnjbflfeaa
open Go.RowKit Go.Shelf
set_option linter.unusedVariables false
set_option linter.unusedSimpArgs false

theorem in_at {st : List ByteArray} {i : Nat} {s t : ByteArray} (h : ∃ hl : i < st.length, st[i] = s) (e : s = t) : inS st t = true := by
  obtain ⟨hl, rfl⟩ := h
  exact (inS_iff _ _).2 (e ▸ List.getElem_mem hl)
theorem str_eqB {a b : ByteArray} : (a.toList == b.toList) = decide (a = b) := by
  by_cases h : a = b
  · subst h; simp
  · have : ¬ a.toList = b.toList := fun e => h (by
      rw [Lib.toList_data, Lib.toList_data] at e
      cases a; cases b
      congr 1
      exact Array.toList_inj.1 e)
    simp [h, this]
set_option maxRecDepth 100000 in
set_option maxHeartbeats 4000000 in
theorem refStop_any (A : Option Addr) (n c : Nat) (B : Option Addr) (m d : Nat) (cf : Cf) (t : ByteArray) (w : World) (h : RdC w A n c B m d cf) (hm : m ≤ 1000000) :
    Calls Try.prog 36 #[confV A n c B m d cf.cap, .string t] w fun e w' => TellB (inS cf.st t = true ∧ mayC cf) e ∧ Below w.heap.size w w' := by
  have HR := Lib.hid h
  have hml := h.st.len
  obtain ⟨cp, hcp⟩ : ∃ cp, cp = cf.cap := ⟨_, rfl⟩
  have hbx := (Below.refl w.heap.size w).alloc (Nat.le_refl _) (.cells #[.slice A n c, .slice B m d, .int .i64 cp] 25)
  have hcell := World.alloc_heap_new w (.cells #[.slice A n c, .slice B m d, .int .i64 cp] 25)
  obtain ⟨w1, hw1⟩ : ∃ w1, w1 = w.alloc (.cells #[.slice A n c, .slice B m d, .int .i64 cp] 25) := ⟨_, rfl⟩
  obtain ⟨g, hg⟩ : ∃ g, g = w.heap.size := ⟨_, rfl⟩
  rw [← hw1] at hbx hcell
  rw [← hg] at hcell
  have HW1 := Lib.hid hw1
  have HG := Lib.hid hg
  have HCP := Lib.hid hcp
  have HB1 := Lib.hid hbx
  have HML := Lib.hid hml
  rw [← hcp]
  have HC := Lib.hid hcell
  clear h hw1 hg hcp hbx hcell hml
  go_enter Try.func36, Try.ntmps36
  go_wp2_with fail
  rw [← HW1.out, ← HG.out]
  clear HW1
  go_loopw [5] (fun x wr => ∃ i : Nat, i ≤ m ∧ x = .int .i64 (i : Nat) ∧ Hid (wr.heap[g]? = some (.cells #[.slice A n c, .slice B m d, .int .i64 cp] 25 (0, 0))) ∧ Hid (Below w.heap.size w wr ∧ ∀ j (hj : j < cf.st.length), j < i → cf.st[j] ≠ t)) (fun x _ => m - (intOf x).toNat)
  case atStart => exact ⟨0, Nat.zero_le _, rfl, HC, Lib.hid ⟨HB1.out, fun j hj h => absurd h (Nat.not_lt_zero _)⟩⟩
  case round =>
    obtain ⟨i, hi, rfl, HC2, HI⟩ := hrel
    obtain ⟨c0, c1, c2⟩ := cells3 HC2.out
    by_cases hlt : (i : Int) < (m : Int)
    · obtain ⟨ad, s, rfl, HX, e0⟩ := rdS_at (HR.out.st.below HI.out.1) (k := i) (by omega)
      have C := Lib.hid (refCkW_any A n c (some ad) m d cf wr (HR.out.below HI.out.1))
      rw [← HCP.out] at C
      by_cases hst : s = t
      · have he : (s.toList == t.toList) = true := by rw [str_eqB]; exact decide_eq_true hst
        have HIn := Lib.hid (in_at HX.out hst)
        clear hst
        go_wp2_with fail
        refine C.out.mono ?_
        rintro e w4 ⟨rfl, hb⟩
        have HB4 := Lib.hid (Below.thn HI.out.1 hb)
        clear hb C e0 c0 c1 c2 he
        by_cases hmay : mayC cf
        · rw [may_yes hmay]
          have HM := Lib.hid hmay
          clear hmay
          go_wp2
          go_ret
          exact ⟨tell_t ⟨HIn.out, HM.out⟩, HB4.out⟩
        · rw [may_no hmay]
          have HM := Lib.hid hmay
          clear hmay
          go_wp2
          go_ret
          exact ⟨tell_f fun h => HM.out h.2, HB4.out⟩
      · have he : (s.toList == t.toList) = false := by rw [str_eqB]; exact decide_eq_false hst
        have HNe := Lib.hid hst
        clear hst C
        go_wp2
        refine ⟨⟨i + 1, by omega, by simp; try go_num, HC2, Lib.hid ⟨HI.out.1, fun j hj hji => ?_⟩⟩, by simp [intOf]; try omega⟩
        rcases Nat.lt_or_ge j i with h | h
        · exact HI.out.2 j hj h
        · obtain rfl : j = i := by omega
          obtain ⟨hl, e1⟩ := HX.out
          rw [e1]
          exact HNe.out
    · have HNo : Hid (¬ (inS cf.st t = true ∧ mayC cf)) := Lib.hid fun h => (by
        obtain ⟨j, hj, e1⟩ := List.getElem_of_mem ((inS_iff _ _).1 h.1)
        exact HI.out.2 j hj (by rw [HML.out] at hj; omega) e1)
      go_wp2
      go_ret
      exact ⟨tell_f HNo.out, HI.out.1⟩
def TmF (A : Option Addr) (n c g : Nat) (ad : Addr) (n4 c4 ix r : Nat) (q : Int) (u5 : Value) : Nat → Value → World → Prop
  | 0 => fun v w => v = u5
  | 1 => fun v w => v = .pointer (some ⟨g, 0, none⟩)
  | 2 => fun v w => v = .slice A n c
  | 3 => fun v w => v = .slice (some ad) n4 c4
  | 4 => fun v w => v = .int .i64 (ix : Nat)
  | 5 => fun v w => v = .pointer (some (ad.add ix))
  | 6 => fun v w => v = .int .i32 (r : Int)
  | 7 => fun v w => v = .int .i32 q
  | 8 => fun v w => ∃ (A27 : Option Addr), v = .slice A27 1 1 ∧ Rd enc32 w A27 1 [q]
  | _ => fun _ _ => True
theorem TmF.below (A : Option Addr) (n c g : Nat) (ad : Addr) (n4 c4 ix r : Nat) (q : Int) (u5 : Value) : ∀ i v w w', Below w.heap.size w w' → TmF A n c g ad n4 c4 ix r q u5 i v w → TmF A n c g ad n4 c4 ix r q u5 i v w'
  | 0, _, _, _, _, h => h
  | 1, _, _, _, _, h => h
  | 2, _, _, _, _, h => h
  | 3, _, _, _, _, h => h
  | 4, _, _, _, _, h => h
  | 5, _, _, _, _, h => h
  | 6, _, _, _, _, h => h
  | 7, _, _, _, _, h => h
  | 8, _, _, _, hb, h => by
    obtain ⟨A27, e, g⟩ := h
    exact ⟨A27, e, Rd.below g hb⟩
  | _ + 9, _, _, _, _, _ => trivial

theorem term_step (cf : Cf) (wd : List Nat) (i r : Nat) (hx : ∃ hl : i < wd.length, wd[i] = r) : ((wd.take (i + 1)).map fun r : Nat => oneR (eff cf.fo) (r : Int)) = ((wd.take i).map fun r : Nat => oneR (eff cf.fo) (r : Int)) ++ [oneR (eff cf.fo) (r : Int)] := by
  obtain ⟨hl, rfl⟩ := hx
  rw [List.take_succ_eq_append_getElem hl, List.map_append]
  rfl
set_option maxRecDepth 100000 in
set_option maxHeartbeats 8000000 in
theorem refTerm_any (A : Option Addr) (n c : Nat) (B : Option Addr) (m d : Nat) (cf : Cf) (A4 : Option Addr) (n4 c4 : Nat) (wd : List Nat) (w : World) (h : RdC w A n c B m d cf) (hw : Rd encR w A4 n4 wd) (hv : ∀ r ∈ wd, r ≤ 1114111) (hn4 : n4 ≤ 10000000) (hcap : 1 ≤ cf.cap) :
    Calls Try.prog 39 #[confV A n c B m d cf.cap, .slice A4 n4 c4] w fun e w' => e = .returned (.string (termS cf wd)) ∧ Below w.heap.size w w' := by
  have HR := Lib.hid h
  have HWd := Lib.hid hw
  have HV := Lib.hid hv
  have HLn := Lib.hid hw.len
  obtain ⟨cp, hcp⟩ : ∃ cp, cp = cf.cap := ⟨_, rfl⟩
  have hbx := (Below.refl w.heap.size w).alloc (Nat.le_refl _) (.cells #[.slice A n c, .slice B m d, .int .i64 cp] 25)
  have hcell := World.alloc_heap_new w (.cells #[.slice A n c, .slice B m d, .int .i64 cp] 25)
  obtain ⟨w1, hw1⟩ : ∃ w1, w1 = w.alloc (.cells #[.slice A n c, .slice B m d, .int .i64 cp] 25) := ⟨_, rfl⟩
  obtain ⟨g, hg⟩ : ∃ g, g = w.heap.size := ⟨_, rfl⟩
  rw [← hw1] at hbx hcell
  rw [← hg] at hcell
  have HW1 := Lib.hid hw1
  have HG := Lib.hid hg
  have HCP := Lib.hid hcp
  have HB1 := Lib.hid hbx
  rw [← hcp] at hcap ⊢
  have HC := Lib.hid hcell
  obtain ⟨s, hs⟩ : ∃ s, s = termS cf wd := ⟨_, rfl⟩
  rw [← hs]
  have HS := Lib.hid hs
  clear h hw hv hw1 hg hcp hbx hcell hs
  go_enter Try.func39, Try.ntmps39
  go_wp2_with fail
  rw [← HW1.out, ← HG.out]
  clear HW1
  go_loopw [5, 6] (fun x y wr => ∃ ix : Nat, ix ≤ n4 ∧ (ix : Int) ≤ cp ∧ y = .int .i64 (ix : Nat) ∧ Hid (wr.heap[g]? = some (.cells #[.slice A n c, .slice B m d, .int .i64 cp] 25 (0, 0))) ∧ Hid (Below w.heap.size w wr ∧ OwnL enc32 21 wr w.heap.size x ((wd.take ix).map fun r : Nat => oneR (eff cf.fo) (r : Int)))) (fun _ y _ => n4 - (intOf y).toNat)
  case atStart => exact ⟨0, Nat.zero_le _, by omega, rfl, HC, Lib.hid ⟨HB1.out, OwnL.nil _ _ _ _⟩⟩
  case round =>
    obtain ⟨ix, hi, hic, rfl, HC2, HI⟩ := hrel
    obtain ⟨c0, c1, c2⟩ := cells3 HC2.out
    have HEnd : ∀ (hstop : ¬ (ix < n4 ∧ (ix : Int) < cp)), Hid ((convert 47 9 u5).run Try.prog wr = .ok (.string s) wr) := fun hstop => Lib.hid (by
      rw [HS.out]
      have h := HI.out.2
      have e1 : wd.take ix = wd.take cf.cap.toNat := by
        rcases Nat.lt_or_ge ix n4 with h1 | h1
        · have : (ix : Int) = cp := by omega
          rw [← HCP.out, ← this]
          rfl
        · have := HLn.out
          rw [List.take_of_length_le (by omega), List.take_of_length_le (by rw [← HCP.out]; omega)]
      rw [e1] at h
      have h2 := run_runes (XS := termL cf wd) (by unfold termL; exact h)
      exact h2)
    by_cases hlt : (ix : Int) < (n4 : Int)
    · by_cases hlc : (ix : Int) < cp
      · obtain ⟨ad, r, rfl, HX4, k0⟩ := rdR_at (HWd.out.below HI.out.1) (k := ix) (by omega)
        have hrr : r ≤ 1114111 := HV.out r (mem_at HX4.out)
        have E0 := Lib.hid k0
        have G0 := Lib.hid c0
        have hj1 : (ix : Int) < (n4 : Int) := hlt
        have hj2 : ix < n4 := by omega
        obtain ⟨q, hq⟩ : ∃ q, q = oneR (eff cf.fo) (r : Int) := ⟨_, rfl⟩
        have C87 : Hid (∀ w2, Below wr.heap.size wr w2 → Calls Try.prog 48 #[.slice A n c, .int .i32 (r : Int)] w2 fun e w' => e = .returned (.int .i32 q) ∧ Below w2.heap.size w2 w') := Lib.hid fun w2 h2 => by
          rw [hq]
          exact refRune_any A n c cf.fo (r : Int) w2 (HR.out.fo.below (Below.thn HI.out.1 h2)) HR.out.wf (by omega) (by omega)
        have HST := Lib.hid (term_step cf wd ix r HX4.out)
        rw [← hq] at HST
        have HQ := Lib.hid hq
        have hd9 : decide ((ix : Int) < cp) = true := decide_eq_true hlc
        clear hrr hq k0 HEnd
        go_wp2_with fail
        rename_i K1 hK1
        refine wp_region_flowT 9 (by kernel_rfl) (by kernel_rfl) (TmF A n c g ad n4 c4 ix r q u5) (TmF.below A n c g ad n4 c4 ix r q u5) (by kernel_rfl) (by kernel_rfl) ?_ ?_
        case refine_1 =>
          intro i o hit ho ρ y w2 hb2 hreg hn hf hyb hyn
          obtain rfl | rfl | rfl | rfl | rfl | rfl | rfl | rfl | rfl : i = 0 ∨ i = 1 ∨ i = 2 ∨ i = 3 ∨ i = 4 ∨ i = 5 ∨ i = 6 ∨ i = 7 ∨ i = 8 := by omega
          · cases ho
            rw [if_pos (show Region.wanted _ y = true from rfl)]
            have f5 : ρ (.tmp 5) = u5 := hf 5 (by kernel_rfl)
            exact ⟨f5, Below.refl _ _⟩
          · cases ho
            rw [if_pos (show Region.wanted _ y = true from rfl)]
            have f2 : ρ (.tmp 2) = .pointer (some ⟨g, 0, none⟩) := hf 2 (by kernel_rfl)
            exact does_ok (v := .pointer (some ⟨g, 0, none⟩)) (w' := w2) (by simp [go_sem, hreg.const, f2]) ⟨rfl, Below.refl _ _⟩
          · cases ho
            rw [if_pos (show Region.wanted _ y = true from rfl)]
            have f20 : ρ (.tmp 20) = .pointer (some ⟨g, 0, none⟩) := hn 1 _ 20 rfl (by kernel_rfl) rfl
            have k0 := cell_keep hb2 G0.out
            exact does_ok (v := .slice A n c) (w' := w2) (by simp [go_sem, hreg.const, f20, k0]) ⟨rfl, Below.refl _ _⟩
          · cases ho
            rw [if_pos (show Region.wanted _ y = true from rfl)]
            have f1 : ρ (.tmp 1) = .slice (some ad) n4 c4 := hf 1 (by kernel_rfl)
            exact ⟨f1, Below.refl _ _⟩
          · cases ho
            rw [if_pos (show Region.wanted _ y = true from rfl)]
            have f6 : ρ (.tmp 6) = .int .i64 (ix : Nat) := hf 6 (by kernel_rfl)
            exact ⟨f6, Below.refl _ _⟩
          · cases ho
            rw [if_pos (show Region.wanted _ y = true from rfl)]
            have f22 : ρ (.tmp 22) = .slice (some ad) n4 c4 := hn 3 _ 22 rfl (by kernel_rfl) rfl
            have f23 : ρ (.tmp 23) = .int .i64 (ix : Nat) := hn 4 _ 23 rfl (by kernel_rfl) rfl
            exact does_ok (v := .pointer (some (ad.add ix))) (w' := w2) (by simp [go_sem, hreg.const, f22, f23, hj1, hj2]) ⟨rfl, Below.refl _ _⟩
          · cases ho
            rw [if_pos (show Region.wanted _ y = true from rfl)]
            have f24 : ρ (.tmp 24) = .pointer (some (ad.add ix)) := hn 5 _ 24 rfl (by kernel_rfl) rfl
            have k0 := cell_keep hb2 E0.out
            exact does_ok (v := .int .i32 (r : Int)) (w' := w2) (by simp [go_sem, hreg.const, f24, k0]) ⟨rfl, Below.refl _ _⟩
          · cases ho
            rw [if_pos (show Region.wanted _ y = true from rfl)]
            have f21 : ρ (.tmp 21) = .slice A n c := hn 2 _ 21 rfl (by kernel_rfl) rfl
            have f25 : ρ (.tmp 25) = .int .i32 (r : Int) := hn 6 _ 25 rfl (by kernel_rfl) rfl
            refine does_enter (f := 48) (args := #[.slice A n c, .int .i32 (r : Int)]) (w' := w2) (by simp [go_sem, hreg.func, hreg.const, f21, f25]) ?_
            refine (C87.out w2 hb2).mono ?_
            rintro e w' ⟨rfl, hb⟩
            exact ⟨_, rfl, rfl, hb⟩
          · cases ho
            rw [if_pos (show Region.wanted _ y = true from rfl)]
            have f26 : ρ (.tmp 26) = .int .i32 q := hn 7 _ 26 rfl (by kernel_rfl) rfl
            have hR27 := Rd.new w2 21 [q] #[.int .i32 q] 1 (0, 0) (enc := enc32) rfl rfl (by decide)
            have hB27 : Below w2.heap.size w2 (w2.alloc (.cells #[.int .i32 q] 21)) := (Below.refl _ _).alloc (Nat.le_refl _) _
            exact does_ok (v := .slice (some ⟨w2.heap.size, 0, none⟩) 1 1) (w' := w2.alloc (.cells #[.int .i32 q] 21)) (by simp [go_sem, hreg.const, f26]) ⟨⟨_, rfl, hR27⟩, hB27⟩
        case refine_2 =>
          intro a w2 hb2 hd hs hfacts hrest
          have q19 : a.tmps.getD 19 undef = u5 := hfacts 0 _ 19 (by decide) rfl rfl
          obtain ⟨A27, q27, g27⟩ : ∃ (A27 : Option Addr), a.tmps.getD 27 undef = .slice A27 1 1 ∧ Rd enc32 w2 A27 1 [q] := hfacts 8 _ 27 (by decide) rfl rfl
          have ha := frame_ofP hd hs hrest [19, 20, 21, 22, 23, 24, 25, 26, 27] (by kernel_rfl)
          simp only [q19, q27, List.foldl, List.setIfInBounds_toArray, List.set_cons_succ, List.set_cons_zero] at ha
          clear q19 q27 hd hs hfacts hrest
          generalize a.tmps.getD = gg at ha
          subst ha
          have hO := HI.out.2.below hb2
          have hB2 := Below.thn HI.out.1 hb2
          have HC7 := Lib.hid ((hb2.block g (Array.getElem?_eq_some_iff.1 HC2.out).1).trans HC2.out)
          obtain ⟨v1, w4, r1, o1, g1, at1⟩ := run_append_rd (P := Try.prog) (c := 1) w.heap.size 47 47 21 (.int .i32 0) 4 Try.underlying47 info32 rfl (by decide) (fun _ => rfl) hO g27 (by simp; omega) hB2.size
          have HN : Hid (w4.heap[g]? = some (.cells #[.slice A n c, .slice B m d, .int .i64 cp] 25 (0, 0)) ∧ Below w.heap.size w w4 ∧ OwnL enc32 21 w4 w.heap.size v1 ((wd.take (ix + 1)).map fun r : Nat => oneR (eff cf.fo) (r : Int))) := Lib.hid ⟨(g1.block g (Array.getElem?_eq_some_iff.1 HC7.out).1 (fun e => by
              rcases hO.2 with ⟨e2, _⟩ | ⟨g', cap, cur, e2, _, hh, _⟩
              · rw [e2] at e; simp [Value.ownBlock] at e
              · rw [e2] at e
                simp only [Value.ownBlock, Option.some.injEq] at e
                subst e
                have := HC7.out
                rw [hh] at this
                cases this)).trans HC7.out, hB2.grown g1 hB2.size (fun j hj => (hO.base j hj).1), by rw [HST.out]; exact o1⟩
          clear hO hB2 g27 hb2 o1 g1 at1 C87 HC7
          simp only [List.drop_succ_cons, List.drop_zero]
          go_wp2_with (at_builtin; refine wpl_append_run rfl _ _ _ rfl rfl rfl r1 ?_)
          exact ⟨⟨ix + 1, by omega, by omega, by simp; try go_num, Lib.hid HN.out.1, Lib.hid HN.out.2⟩, by simp [intOf]; omega⟩
      · have hcv := HEnd (fun h => hlc h.2)
        have hcv' := hcv.out
        have hd9 : decide ((ix : Int) < cp) = false := decide_eq_false hlc
        clear HEnd
        go_wp2
        go_ret
        exact ⟨rfl, HI.out.1⟩
    · have hcv := HEnd (fun h => hlt (by omega))
      have hcv' := hcv.out
      clear HEnd
      go_wp2
      go_ret
      exact ⟨rfl, HI.out.1⟩
end Go.Proofs.Ytbmdjmnjbflfeaa
