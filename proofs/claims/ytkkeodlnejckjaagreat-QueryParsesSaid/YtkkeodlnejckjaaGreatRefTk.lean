import Derived.Test.YtkkeodlnejckjaaGreatRefCk
import Derived.Test.YtkkeodlnejckjaaGreatReg
import Derived.BigQuiet
import Derived.Test.YtkkeodlnejckjaaGreatTold
import Derived.Test.YtkkeodlnejckjaaGreatAll
import Derived.Test.YtkkeodlnejckjaaGreatWoX

/- A word's term, and whether a term is a stop word, by the document. -/
namespace Go.Proofs.YtkkeodlnejckjaaGreat
open Go.RowKit Go.Shelf
set_option linter.unusedVariables false
set_option linter.unusedSimpArgs false

theorem in_at {st : List ByteArray} {i : Nat} {s t : ByteArray} (h : ∃ hl : i < st.length, st[i] = s) (e : s = t) : inS st t = true := by
  obtain ⟨hl, rfl⟩ := h
  exact (inS_iff _ _).2 (e ▸ List.getElem_mem hl)
theorem str_eqB {a b : ByteArray} : (a.toList == b.toList) = decide (a = b) := by
  by_cases h : a = b
  · subst h; simp
  · have : ¬ a.toList = b.toList := fun e => h (by
      rw [Lib.toList_data, Lib.toList_data] at e
      cases a; cases b
      congr 1
      exact Array.toList_inj.1 e)
    simp [h, this]
set_option maxRecDepth 100000 in
set_option maxHeartbeats 4000000 in
theorem refStop_any (A : Option Addr) (n c : Nat) (B : Option Addr) (m d : Nat) (cf : Cf) (t : ByteArray) (w : World) (h : RdC w A n c B m d cf) (hm : m ≤ 1000000) :
    Calls Tryz.prog 15 #[confV A n c B m d cf.cap, .string t] w fun e w' => TellB (inS cf.st t = true ∧ mayC cf) e ∧ Below w.heap.size w w' := by
  have HR := Lib.hid h
  have hml := h.st.len
  obtain ⟨cp, hcp⟩ : ∃ cp, cp = cf.cap := ⟨_, rfl⟩
  have hbx := (Below.refl w.heap.size w).alloc (Nat.le_refl _) (.cells #[.slice A n c, .slice B m d, .int .i64 cp] 25)
  have hcell := World.alloc_heap_new w (.cells #[.slice A n c, .slice B m d, .int .i64 cp] 25)
  obtain ⟨w1, hw1⟩ : ∃ w1, w1 = w.alloc (.cells #[.slice A n c, .slice B m d, .int .i64 cp] 25) := ⟨_, rfl⟩
  obtain ⟨g, hg⟩ : ∃ g, g = w.heap.size := ⟨_, rfl⟩
  rw [← hw1] at hbx hcell
  rw [← hg] at hcell
  have HW1 := Lib.hid hw1
  have HG := Lib.hid hg
  have HCP := Lib.hid hcp
  have HB1 := Lib.hid hbx
  have HML := Lib.hid hml
  rw [← hcp]
  have HC := Lib.hid hcell
  clear h hw1 hg hcp hbx hcell hml
  go_enter Tryz.func15, Tryz.ntmps15
  go_wp2_with fail
  rw [← HW1.out, ← HG.out]
  clear HW1
  go_loopw [5] (fun x wr => ∃ i : Nat, i ≤ m ∧ x = .int .i64 (i : Nat) ∧ Hid (wr.heap[g]? = some (.cells #[.slice A n c, .slice B m d, .int .i64 cp] 25 (0, 0))) ∧ Hid (Below w.heap.size w wr ∧ ∀ j (hj : j < cf.st.length), j < i → cf.st[j] ≠ t)) (fun x _ => m - (intOf x).toNat)
  case atStart => exact ⟨0, Nat.zero_le _, rfl, HC, Lib.hid ⟨HB1.out, fun j hj h => absurd h (Nat.not_lt_zero _)⟩⟩
  case round =>
    obtain ⟨i, hi, rfl, HC2, HI⟩ := hrel
    obtain ⟨c0, c1, c2⟩ := cells3 HC2.out
    by_cases hlt : (i : Int) < (m : Int)
    · obtain ⟨ad, s, rfl, HX, e0⟩ := rdS_at (HR.out.st.below HI.out.1) (k := i) (by omega)
      have C := Lib.hid (refCkW_any A n c (some ad) m d cf wr (HR.out.below HI.out.1))
      rw [← HCP.out] at C
      by_cases hst : s = t
      · have he : (s.toList == t.toList) = true := by rw [str_eqB]; exact decide_eq_true hst
        have HIn := Lib.hid (in_at HX.out hst)
        clear hst
        go_wp2_with fail
        refine C.out.mono ?_
        rintro e w4 ⟨rfl, hb⟩
        have HB4 := Lib.hid (Below.thn HI.out.1 hb)
        clear hb C e0 c0 c1 c2 he
        by_cases hmay : mayC cf
        · rw [may_yes hmay]
          have HM := Lib.hid hmay
          clear hmay
          go_wp2
          go_ret
          exact ⟨tell_t ⟨HIn.out, HM.out⟩, HB4.out⟩
        · rw [may_no hmay]
          have HM := Lib.hid hmay
          clear hmay
          go_wp2
          go_ret
          exact ⟨tell_f fun h => HM.out h.2, HB4.out⟩
      · have he : (s.toList == t.toList) = false := by rw [str_eqB]; exact decide_eq_false hst
        have HNe := Lib.hid hst
        clear hst C
        go_wp2
        refine ⟨⟨i + 1, by omega, by simp; try go_num, HC2, Lib.hid ⟨HI.out.1, fun j hj hji => ?_⟩⟩, by simp [intOf]; try omega⟩
        rcases Nat.lt_or_ge j i with h | h
        · exact HI.out.2 j hj h
        · obtain rfl : j = i := by omega
          obtain ⟨hl, e1⟩ := HX.out
          rw [e1]
          exact HNe.out
    · have HNo : Hid (¬ (inS cf.st t = true ∧ mayC cf)) := Lib.hid fun h => (by
        obtain ⟨j, hj, e1⟩ := List.getElem_of_mem ((inS_iff _ _).1 h.1)
        exact HI.out.2 j hj (by rw [HML.out] at hj; omega) e1)
      go_wp2
      go_ret
      exact ⟨tell_f HNo.out, HI.out.1⟩
def TmF (A : Option Addr) (n c g : Nat) (ad : Addr) (n4 c4 ix r : Nat) (q : Int) (u5 : Value) : Nat → Value → World → Prop
  | 0 => fun v w => v = u5
  | 1 => fun v w => v = .pointer (some ⟨g, 0, none⟩)
  | 2 => fun v w => v = .slice A n c
  | 3 => fun v w => v = .slice (some ad) n4 c4
  | 4 => fun v w => v = .int .i64 (ix : Nat)
  | 5 => fun v w => v = .pointer (some (ad.add ix))
  | 6 => fun v w => v = .int .i32 (r : Int)
  | 7 => fun v w => v = .int .i32 q
  | 8 => fun v w => ∃ (A27 : Option Addr), v = .slice A27 1 1 ∧ Rd enc32 w A27 1 [q]
  | _ => fun _ _ => True
theorem TmF.below (A : Option Addr) (n c g : Nat) (ad : Addr) (n4 c4 ix r : Nat) (q : Int) (u5 : Value) : ∀ i v w w', Below w.heap.size w w' → TmF A n c g ad n4 c4 ix r q u5 i v w → TmF A n c g ad n4 c4 ix r q u5 i v w'
  | 0, _, _, _, _, h => h
  | 1, _, _, _, _, h => h
  | 2, _, _, _, _, h => h
  | 3, _, _, _, _, h => h
  | 4, _, _, _, _, h => h
  | 5, _, _, _, _, h => h
  | 6, _, _, _, _, h => h
  | 7, _, _, _, _, h => h
  | 8, _, _, _, hb, h => by
    obtain ⟨A27, e, g⟩ := h
    exact ⟨A27, e, Rd.below g hb⟩
  | _ + 9, _, _, _, _, _ => trivial

theorem term_step (cf : Cf) (wd : List Nat) (i r : Nat) (hx : ∃ hl : i < wd.length, wd[i] = r) : ((wd.take (i + 1)).map fun r : Nat => oneR (eff cf.fo) (r : Int)) = ((wd.take i).map fun r : Nat => oneR (eff cf.fo) (r : Int)) ++ [oneR (eff cf.fo) (r : Int)] := by
  obtain ⟨hl, rfl⟩ := hx
  rw [List.take_succ_eq_append_getElem hl, List.map_append]
  rfl
set_option maxRecDepth 100000 in
set_option maxHeartbeats 8000000 in
theorem refTerm_any (A : Option Addr) (n c : Nat) (B : Option Addr) (m d : Nat) (cf : Cf) (A4 : Option Addr) (n4 c4 : Nat) (wd : List Nat) (w : World) (h : RdC w A n c B m d cf) (hw : Rd encR w A4 n4 wd) (hv : ∀ r ∈ wd, r ≤ 1114111) (hn4 : n4 ≤ 10000000) (hcap : 1 ≤ cf.cap) :
    Calls Tryz.prog 43 #[confV A n c B m d cf.cap, .slice A4 n4 c4] w fun e w' => e = .returned (.string (termS cf wd)) ∧ Below w.heap.size w w' := by
  have HR := Lib.hid h
  have HWd := Lib.hid hw
  have HV := Lib.hid hv
  have HLn := Lib.hid hw.len
  obtain ⟨cp, hcp⟩ : ∃ cp, cp = cf.cap := ⟨_, rfl⟩
  have hbx := (Below.refl w.heap.size w).alloc (Nat.le_refl _) (.cells #[.slice A n c, .slice B m d, .int .i64 cp] 25)
  have hcell := World.alloc_heap_new w (.cells #[.slice A n c, .slice B m d, .int .i64 cp] 25)
  obtain ⟨w1, hw1⟩ : ∃ w1, w1 = w.alloc (.cells #[.slice A n c, .slice B m d, .int .i64 cp] 25) := ⟨_, rfl⟩
  obtain ⟨g, hg⟩ : ∃ g, g = w.heap.size := ⟨_, rfl⟩
  rw [← hw1] at hbx hcell
  rw [← hg] at hcell
  have HW1 := Lib.hid hw1
  have HG := Lib.hid hg
  have HCP := Lib.hid hcp
  have HB1 := Lib.hid hbx
  rw [← hcp] at hcap ⊢
  have HC := Lib.hid hcell
  obtain ⟨s, hs⟩ : ∃ s, s = termS cf wd := ⟨_, rfl⟩
  rw [← hs]
  have HS := Lib.hid hs
  clear h hw hv hw1 hg hcp hbx hcell hs
  go_enter Tryz.func43, Tryz.ntmps43
  go_wp2_with fail
  rw [← HW1.out, ← HG.out]
  clear HW1
  go_loopw [5, 6] (fun x y wr => ∃ ix : Nat, ix ≤ n4 ∧ (ix : Int) ≤ cp ∧ y = .int .i64 (ix : Nat) ∧ Hid (wr.heap[g]? = some (.cells #[.slice A n c, .slice B m d, .int .i64 cp] 25 (0, 0))) ∧ Hid (Below w.heap.size w wr ∧ OwnL enc32 21 wr w.heap.size x ((wd.take ix).map fun r : Nat => oneR (eff cf.fo) (r : Int)))) (fun _ y _ => n4 - (intOf y).toNat)
  case atStart => exact ⟨0, Nat.zero_le _, by omega, rfl, HC, Lib.hid ⟨HB1.out, OwnL.nil _ _ _ _⟩⟩
  case round =>
    obtain ⟨ix, hi, hic, rfl, HC2, HI⟩ := hrel
    obtain ⟨c0, c1, c2⟩ := cells3 HC2.out
    have HEnd : ∀ (hstop : ¬ (ix < n4 ∧ (ix : Int) < cp)), Hid ((convert 86 9 u5).run Tryz.prog wr = .ok (.string s) wr) := fun hstop => Lib.hid (by
      rw [HS.out]
      have h := HI.out.2
      have e1 : wd.take ix = wd.take cf.cap.toNat := by
        rcases Nat.lt_or_ge ix n4 with h1 | h1
        · have : (ix : Int) = cp := by omega
          rw [← HCP.out, ← this]
          rfl
        · have := HLn.out
          rw [List.take_of_length_le (by omega), List.take_of_length_le (by rw [← HCP.out]; omega)]
      rw [e1] at h
      have h2 := run_runes (XS := termL cf wd) (by unfold termL; exact h)
      exact h2)
    by_cases hlt : (ix : Int) < (n4 : Int)
    · by_cases hlc : (ix : Int) < cp
      · obtain ⟨ad, r, rfl, HX4, k0⟩ := rdR_at (HWd.out.below HI.out.1) (k := ix) (by omega)
        have hrr : r ≤ 1114111 := HV.out r (mem_at HX4.out)
        have E0 := Lib.hid k0
        have G0 := Lib.hid c0
        have hj1 : (ix : Int) < (n4 : Int) := hlt
        have hj2 : ix < n4 := by omega
        obtain ⟨q, hq⟩ : ∃ q, q = oneR (eff cf.fo) (r : Int) := ⟨_, rfl⟩
        have C87 : Hid (∀ w2, Below wr.heap.size wr w2 → Calls Tryz.prog 59 #[.slice A n c, .int .i32 (r : Int)] w2 fun e w' => e = .returned (.int .i32 q) ∧ Below w2.heap.size w2 w') := Lib.hid fun w2 h2 => by
          rw [hq]
          exact refRune_any A n c cf.fo (r : Int) w2 (HR.out.fo.below (Below.thn HI.out.1 h2)) HR.out.wf (by omega) (by omega)
        have HST := Lib.hid (term_step cf wd ix r HX4.out)
        rw [← hq] at HST
        have HQ := Lib.hid hq
        have hd9 : decide ((ix : Int) < cp) = true := decide_eq_true hlc
        clear hrr hq k0 HEnd
        go_wp2_with fail
        rename_i K1 hK1
        refine wp_region_flowT 9 (by kernel_rfl) (by kernel_rfl) (TmF A n c g ad n4 c4 ix r q u5) (TmF.below A n c g ad n4 c4 ix r q u5) (by kernel_rfl) (by kernel_rfl) ?_ ?_
        case refine_1 =>
          intro i o hit ho ρ y w2 hb2 hreg hn hf hyb hyn
          obtain rfl | rfl | rfl | rfl | rfl | rfl | rfl | rfl | rfl : i = 0 ∨ i = 1 ∨ i = 2 ∨ i = 3 ∨ i = 4 ∨ i = 5 ∨ i = 6 ∨ i = 7 ∨ i = 8 := by omega
          · cases ho
            rw [if_pos (show Region.wanted _ y = true from rfl)]
            have f5 : ρ (.tmp 5) = u5 := hf 5 (by kernel_rfl)
            exact ⟨f5, Below.refl _ _⟩
          · cases ho
            rw [if_pos (show Region.wanted _ y = true from rfl)]
            have f2 : ρ (.tmp 2) = .pointer (some ⟨g, 0, none⟩) := hf 2 (by kernel_rfl)
            exact does_ok (v := .pointer (some ⟨g, 0, none⟩)) (w' := w2) (by simp [go_sem, hreg.const, f2]) ⟨rfl, Below.refl _ _⟩
          · cases ho
            rw [if_pos (show Region.wanted _ y = true from rfl)]
            have f20 : ρ (.tmp 20) = .pointer (some ⟨g, 0, none⟩) := hn 1 _ 20 rfl (by kernel_rfl) rfl
            have k0 := cell_keep hb2 G0.out
            exact does_ok (v := .slice A n c) (w' := w2) (by simp [go_sem, hreg.const, f20, k0]) ⟨rfl, Below.refl _ _⟩
          · cases ho
            rw [if_pos (show Region.wanted _ y = true from rfl)]
            have f1 : ρ (.tmp 1) = .slice (some ad) n4 c4 := hf 1 (by kernel_rfl)
            exact ⟨f1, Below.refl _ _⟩
          · cases ho
            rw [if_pos (show Region.wanted _ y = true from rfl)]
            have f6 : ρ (.tmp 6) = .int .i64 (ix : Nat) := hf 6 (by kernel_rfl)
            exact ⟨f6, Below.refl _ _⟩
          · cases ho
            rw [if_pos (show Region.wanted _ y = true from rfl)]
            have f22 : ρ (.tmp 22) = .slice (some ad) n4 c4 := hn 3 _ 22 rfl (by kernel_rfl) rfl
            have f23 : ρ (.tmp 23) = .int .i64 (ix : Nat) := hn 4 _ 23 rfl (by kernel_rfl) rfl
            exact does_ok (v := .pointer (some (ad.add ix))) (w' := w2) (by simp [go_sem, hreg.const, f22, f23, hj1, hj2]) ⟨rfl, Below.refl _ _⟩
          · cases ho
            rw [if_pos (show Region.wanted _ y = true from rfl)]
            have f24 : ρ (.tmp 24) = .pointer (some (ad.add ix)) := hn 5 _ 24 rfl (by kernel_rfl) rfl
            have k0 := cell_keep hb2 E0.out
            exact does_ok (v := .int .i32 (r : Int)) (w' := w2) (by simp [go_sem, hreg.const, f24, k0]) ⟨rfl, Below.refl _ _⟩
          · cases ho
            rw [if_pos (show Region.wanted _ y = true from rfl)]
            have f21 : ρ (.tmp 21) = .slice A n c := hn 2 _ 21 rfl (by kernel_rfl) rfl
            have f25 : ρ (.tmp 25) = .int .i32 (r : Int) := hn 6 _ 25 rfl (by kernel_rfl) rfl
            refine does_enter (f := 59) (args := #[.slice A n c, .int .i32 (r : Int)]) (w' := w2) (by simp [go_sem, hreg.func, hreg.const, f21, f25]) ?_
            refine (C87.out w2 hb2).mono ?_
            rintro e w' ⟨rfl, hb⟩
            exact ⟨_, rfl, rfl, hb⟩
          · cases ho
            rw [if_pos (show Region.wanted _ y = true from rfl)]
            have f26 : ρ (.tmp 26) = .int .i32 q := hn 7 _ 26 rfl (by kernel_rfl) rfl
            have hR27 := Rd.new w2 21 [q] #[.int .i32 q] 1 (0, 0) (enc := enc32) rfl rfl (by decide)
            have hB27 : Below w2.heap.size w2 (w2.alloc (.cells #[.int .i32 q] 21)) := (Below.refl _ _).alloc (Nat.le_refl _) _
            exact does_ok (v := .slice (some ⟨w2.heap.size, 0, none⟩) 1 1) (w' := w2.alloc (.cells #[.int .i32 q] 21)) (by simp [go_sem, hreg.const, f26]) ⟨⟨_, rfl, hR27⟩, hB27⟩
        case refine_2 =>
          intro a w2 hb2 hd hs hfacts hrest
          have q19 : a.tmps.getD 19 undef = u5 := hfacts 0 _ 19 (by decide) rfl rfl
          obtain ⟨A27, q27, g27⟩ : ∃ (A27 : Option Addr), a.tmps.getD 27 undef = .slice A27 1 1 ∧ Rd enc32 w2 A27 1 [q] := hfacts 8 _ 27 (by decide) rfl rfl
          have ha := frame_ofP hd hs hrest [19, 20, 21, 22, 23, 24, 25, 26, 27] (by kernel_rfl)
          simp only [q19, q27, List.foldl, List.setIfInBounds_toArray, List.set_cons_succ, List.set_cons_zero] at ha
          clear q19 q27 hd hs hfacts hrest
          generalize a.tmps.getD = gg at ha
          subst ha
          have hO := HI.out.2.below hb2
          have hB2 := Below.thn HI.out.1 hb2
          have HC7 := Lib.hid ((hb2.block g (Array.getElem?_eq_some_iff.1 HC2.out).1).trans HC2.out)
          obtain ⟨v1, w4, r1, o1, g1, at1⟩ := run_append_rd (P := Tryz.prog) (c := 1) w.heap.size 86 86 21 (.int .i32 0) 4 Tryz.underlying86 info32 rfl (by decide) (fun _ => rfl) hO g27 (by simp; omega) hB2.size
          have HN : Hid (w4.heap[g]? = some (.cells #[.slice A n c, .slice B m d, .int .i64 cp] 25 (0, 0)) ∧ Below w.heap.size w w4 ∧ OwnL enc32 21 w4 w.heap.size v1 ((wd.take (ix + 1)).map fun r : Nat => oneR (eff cf.fo) (r : Int))) := Lib.hid ⟨(g1.block g (Array.getElem?_eq_some_iff.1 HC7.out).1 (fun e => by
              rcases hO.2 with ⟨e2, _⟩ | ⟨g', cap, cur, e2, _, hh, _⟩
              · rw [e2] at e; simp [Value.ownBlock] at e
              · rw [e2] at e
                simp only [Value.ownBlock, Option.some.injEq] at e
                subst e
                have := HC7.out
                rw [hh] at this
                cases this)).trans HC7.out, hB2.grown g1 hB2.size (fun j hj => (hO.base j hj).1), by rw [HST.out]; exact o1⟩
          clear hO hB2 g27 hb2 o1 g1 at1 C87 HC7
          simp only [List.drop_succ_cons, List.drop_zero]
          go_wp2_with (at_builtin; refine wpl_append_run rfl _ _ _ rfl rfl rfl r1 ?_)
          exact ⟨⟨ix + 1, by omega, by omega, by simp; try go_num, Lib.hid HN.out.1, Lib.hid HN.out.2⟩, by simp [intOf]; omega⟩
      · have hcv := HEnd (fun h => hlc h.2)
        have hcv' := hcv.out
        have hd9 : decide ((ix : Int) < cp) = false := decide_eq_false hlc
        clear HEnd
        go_wp2
        go_ret
        exact ⟨rfl, HI.out.1⟩
    · have hcv := HEnd (fun h => hlt (by omega))
      have hcv' := hcv.out
      clear HEnd
      go_wp2
      go_ret
      exact ⟨rfl, HI.out.1⟩
end Go.Proofs.YtkkeodlnejckjaaGreat

/- The words of a text, by the document. -/
namespace Go.Proofs.YtkkeodlnejckjaaGreat
open Go.RowKit Go.Shelf
set_option linter.unusedVariables false
set_option linter.unusedSimpArgs false

/-- Words as they are gathered: those that are done, the one under way. -/
def wdS (s : List (List Nat) × List Nat) (r : Nat) : List (List Nat) × List Nat := if letB (r : Nat) = true then (s.1, s.2 ++ [r]) else if s.2 = [] then (s.1, []) else (s.1 ++ [s.2], [])
def wdF (rs : List Nat) : List (List Nat) × List Nat := rs.foldl wdS ([], [])
theorem wdF_gen : ∀ (rs : List Nat) (d : List (List Nat)) (c : List Nat), (rs.foldl wdS (d, c)).1 ++ (if (rs.foldl wdS (d, c)).2 = [] then [] else [(rs.foldl wdS (d, c)).2]) = d ++ wdG rs c
  | [], d, c => by unfold wdG; split <;> simp_all
  | r :: rs, d, c => by
    rw [List.foldl_cons]
    unfold wdG
    by_cases hl : letB (r : Nat) = true
    · rw [if_pos hl, show wdS (d, c) r = (d, c ++ [r]) from by simp [wdS, hl]]
      exact wdF_gen rs d (c ++ [r])
    · rw [if_neg hl]
      by_cases hc : c = []
      · rw [if_pos hc, show wdS (d, c) r = (d, []) from by simp [wdS, hl, hc]]
        exact wdF_gen rs d []
      · rw [if_neg hc, show wdS (d, c) r = (d ++ [c], []) from by simp [wdS, hl, hc], wdF_gen rs (d ++ [c]) []]
        simp
theorem wdF_words (rs : List Nat) : (wdF rs).1 ++ (if (wdF rs).2 = [] then [] else [(wdF rs).2]) = wdG rs [] := by
  have := wdF_gen rs [] []
  rw [List.nil_append] at this
  exact this
theorem wdF_snoc (rs : List Nat) (r : Nat) : wdF (rs ++ [r]) = wdS (wdF rs) r := by simp [wdF, List.foldl_append]
theorem wdF_take {rs : List Nat} {i r : Nat} (hx : ∃ hl : i < rs.length, rs[i] = r) : wdF (rs.take (i + 1)) = wdS (wdF (rs.take i)) r := by
  obtain ⟨hl, rfl⟩ := hx
  rw [List.take_succ_eq_append_getElem hl, wdF_snoc]
/-- No word is under way just if no letter stands ahead. -/
theorem wdF_none {rs : List Nat} {i r : Nat} (hx : ∃ hl : i < rs.length, rs[i] = r) : (wdF (rs.take (i + 1))).2 = [] ↔ letB (r : Nat) = false := by
  rw [wdF_take hx]
  unfold wdS
  by_cases hl : letB (r : Nat) = true
  · simp [hl]
  · by_cases hc : (wdF (rs.take i)).2 = [] <;> simp [hl, hc]
theorem infoSl : (Tryz.prog.info? 86).map (fun i => (i.zero, i.size, i.bytes)) = some (some (.slice none 0 0), 1, 24) := by kernel_rfl
abbrev encV : Value → Value := fun v => v
/-- Words that are done. -/
def WsD (w : World) (base : Nat) (v : Value) (d : List (List Nat)) : Prop := ∃ vs : List Value, OwnL encV 86 w base v vs ∧ vs.length = d.length ∧ (∀ u ∈ vs, u.oneCell' = true) ∧ ∀ i (h : i < vs.length) (h' : i < d.length), OwnL encR 21 w base vs[i] d[i]
/-- .. and one under way. -/
def WsL (w : World) (base : Nat) (v : Value) (d : List (List Nat)) (c : List Nat) : Prop := ∃ (vs : List Value) (V : Value), OwnL encV 86 w base v (vs ++ [V]) ∧ vs.length = d.length ∧ (∀ u ∈ vs ++ [V], u.oneCell' = true) ∧ (∀ i (h : i < vs.length) (h' : i < d.length), OwnL encR 21 w base vs[i] d[i]) ∧ OwnL encR 21 w base V c ∧ ∀ i (h : i < vs.length), ∀ k, V.ownBlock = some k → vs[i].ownBlock ≠ some k
theorem WsL.done {w : World} {base : Nat} {v : Value} {d : List (List Nat)} {c : List Nat} (h : WsL w base v d c) : WsD w base v (d ++ [c]) := by
  obtain ⟨vs, V, h1, h2, h3, h4, h5, h6⟩ := h
  refine ⟨vs ++ [V], h1, by simp [h2], h3, fun i hi hi' => ?_⟩
  rcases Nat.lt_or_ge i vs.length with hlt | hge
  · rw [List.getElem_append_left hlt, List.getElem_append_left (by omega)]
    exact h4 i hlt (by omega)
  · have e : i = vs.length := by simp at hi; omega
    subst e
    rw [List.getElem_append_right (Nat.le_refl _), List.getElem_append_right (by omega)]
    simpa [h2] using h5
theorem WsD.below {w w' : World} {base : Nat} {v : Value} {d : List (List Nat)} (h : WsD w base v d) (hb : Below w.heap.size w w') : WsD w' base v d := by
  obtain ⟨vs, h1, h2, h3, h4⟩ := h
  exact ⟨vs, h1.below hb, h2, h3, fun i hi hi' => (h4 i hi hi').below hb⟩
theorem WsL.below {w w' : World} {base : Nat} {v : Value} {d : List (List Nat)} {c : List Nat} (h : WsL w base v d c) (hb : Below w.heap.size w w') : WsL w' base v d c := by
  obtain ⟨vs, V, h1, h2, h3, h4, h5, h6⟩ := h
  exact ⟨vs, V, h1.below hb, h2, h3, fun i hi hi' => (h4 i hi hi').below hb, h5.below hb, h6⟩
/-- The world as the last word grows: as it is, with the new row of one, behind the append, behind the store. -/
structure Det3 (W0 W1 W2 W3 : World) (S : Nat → Prop) (wr : World) : Prop where
  z : ¬ S 14 → wr = W0
  a : S 14 → ¬ S 15 → wr = W1
  b : S 15 → ¬ S 17 → wr = W2
  c : S 17 → wr = W3
theorem Det3.next {W0 W1 W2 W3 wr : World} {S : Nat → Prop} (h : Det3 W0 W1 W2 W3 S wr) {i : Nat} (h1 : i ≠ 14) (h2 : i ≠ 15) (h3 : i ≠ 17) : Det3 W0 W1 W2 W3 (fun k => k = i ∨ S k) wr :=
  ⟨fun hs => h.z fun h' => hs (.inr h'), fun ha hb => h.a (ha.resolve_left (Ne.symm h1)) fun h' => hb (.inr h'), fun hb hc => h.b (hb.resolve_left (Ne.symm h2)) fun h' => hc (.inr h'), fun hc => h.c (hc.resolve_left (Ne.symm h3))⟩
theorem Det3.al {W0 W1 W2 W3 : World} {S : Nat → Prop} (h : Det3 W0 W1 W2 W3 S W0) (hb : ¬ S 15) (hc : ¬ S 17) : Det3 W0 W1 W2 W3 (fun k => k = 14 ∨ S k) W1 :=
  ⟨fun hs => absurd (.inl rfl) hs, fun _ _ => rfl, fun h' => absurd (h'.resolve_left (by decide)) hb, fun h' => absurd (h'.resolve_left (by decide)) hc⟩
theorem Det3.ap {W0 W1 W2 W3 : World} {S : Nat → Prop} (h : Det3 W0 W1 W2 W3 S W1) (ha : S 14) (hc : ¬ S 17) : Det3 W0 W1 W2 W3 (fun k => k = 15 ∨ S k) W2 :=
  ⟨fun hs => absurd (.inr ha) hs, fun _ hs => absurd (.inl rfl) hs, fun _ _ => rfl, fun h' => absurd (h'.resolve_left (by decide)) hc⟩
theorem Det3.st {W0 W1 W2 : World} {G nd : Nat} {v1 : Value} {S : Nat → Prop} (h : Det3 W0 W1 W2 (W2.setCell ⟨G, nd, none⟩ v1) S W2) (hb : S 15) (h14 : S 14) : Det3 W0 W1 W2 (W2.setCell ⟨G, nd, none⟩ v1) (fun k => k = 17 ∨ S k) (W2.setCell ⟨G, nd, none⟩ v1) :=
  ⟨fun hs => absurd (.inr h14) hs, fun _ hs => absurd (.inr hb) hs, fun _ hs => absurd (.inl rfl) hs, fun _ => rfl⟩
theorem own_cell {α : Type} {enc : α → Value} {e : TypeId} {w : World} {base : Nat} {v : Value} {l : List α} (h : OwnL enc e w base v l) : ∀ k, v.ownBlock = some k → ∃ C fr, w.heap[k]? = some (.cells C e fr) := by
  intro k hk
  rcases h.2 with ⟨rfl, _⟩ | ⟨g, cap, cur, rfl, _, hh, _⟩
  · simp [Value.ownBlock] at hk
  · simp only [Value.ownBlock, Option.some.injEq] at hk
    subst hk
    exact ⟨_, _, hh⟩
theorem OwnL.cellAt' {w : World} {base : Nat} {v : Value} {vs : List Value} {V : Value} (h : OwnL encV 86 w base v (vs ++ [V])) {G n c nd : Nat} (hv : v = .slice (some ⟨G, 0, none⟩) n c) (hn : nd = vs.length) : w.cell? ⟨G, nd, none⟩ = some V := by
  subst hn
  obtain ⟨A, c', e, _, _, h3⟩ := h.rd
  rw [hv] at e
  injection e with e1 e2 e3
  subst e1
  obtain ⟨ad, e4, hc⟩ := h3.cell (by simp)
  injection e4 with e4
  subst e4
  have := hc vs.length (by simp)
  rw [add_lit0] at this
  simpa using this
/-- A new word begins: a nil slice is put behind. -/
theorem wsD_new {w : World} {base : Nat} {v : Value} {d : List (List Nat)} (h : WsD w base v d) (hl : d.length ≤ 10000000) (hb : base ≤ w.heap.size) : ∃ v1 w1, (Builtin.append_ #[83, 83] 83 #[v, .slice (some ⟨w.heap.size, 0, none⟩) 1 1]).run Tryz.prog (w.alloc (.cells #[.slice none 0 0] 86)) = .ok v1 w1 ∧ WsL w1 base v1 d [] ∧ (∀ {b' : Nat} {L : List Nat} {A : Option Addr} {n c : Nat}, OwnL encR 21 w b' (.slice A n c) L → OwnL encR 21 w1 b' (.slice A n c) L) ∧ Below base w w1 := by
  obtain ⟨vs, h1, h2, h3, h4⟩ := h
  have hbA : Below w.heap.size w (w.alloc (.cells #[.slice none 0 0] 86)) := (Below.refl _ _).alloc (Nat.le_refl _) _
  have hR := Rd.new w 86 [Value.slice none 0 0] #[.slice none 0 0] 1 (0, 0) (enc := encV) rfl rfl (by decide)
  have hA := h1.below hbA
  have one : ∀ x : {u : Value // u.oneCell' = true}, (x.1).oneCell' = true := fun x => x.2
  obtain ⟨vt, rfl⟩ : ∃ vt : List {u : Value // u.oneCell' = true}, vs = vt.map (·.1) := ⟨vs.attach.map fun x => ⟨x.1, h3 x.1 x.2⟩, by simp⟩
  have hA' : OwnL (fun x : {u : Value // u.oneCell' = true} => x.1) 86 (w.alloc (.cells #[.slice none 0 0] 86)) base v vt := by
    have := hA
    unfold OwnL at this ⊢
    rw [List.length_map, List.map_map] at this
    exact this
  have hR' : Rd (fun x : {u : Value // u.oneCell' = true} => x.1) (w.alloc (.cells #[.slice none 0 0] 86)) (some ⟨w.heap.size, 0, none⟩) 1 [⟨.slice none 0 0, rfl⟩] :=
    Rd.new w 86 [⟨.slice none 0 0, rfl⟩] #[.slice none 0 0] 1 (0, 0) (enc := fun x : {u : Value // u.oneCell' = true} => x.1) rfl rfl (by decide)
  obtain ⟨v1, w1, r1, o1, g1, at1⟩ := run_append_rd (P := Tryz.prog) (c := 1) base 83 83 86 (.slice none 0 0) 24 Tryz.underlying83 infoSl rfl (by decide) one hA' hR' (by rw [List.length_map] at h2; omega) (by simp; omega)
  have keep : ∀ {b' : Nat} {L : List Nat} {u : Value}, OwnL encR 21 w b' u L → OwnL encR 21 w1 b' u L := by
    intro b' L u ho
    refine (ho.below hbA).kept g1 ?_
    cases hu : u.ownBlock with
    | none => exact .inl rfl
    | some k =>
      right
      intro e
      obtain ⟨C, fr, hc⟩ := own_cell (ho.below hbA) k hu
      obtain ⟨C', fr', hc'⟩ := own_cell hA' k e.symm
      rw [hc] at hc'
      cases hc'
  refine ⟨v1, w1, r1, ⟨vt.map (·.1), .slice none 0 0, ?_, h2, fun u hu => ?_, fun i hi hi' => keep (h4 i hi hi'), OwnL.nil _ _ _ _, fun i hi k hk => by simp [Value.ownBlock] at hk⟩, fun ho => keep ho, (hbA.mono hb).grown g1 (by simp; omega) (fun j hj => (hA'.base j hj).1)⟩
  · have := o1
    unfold OwnL at this ⊢
    rw [List.map_append] at this
    simpa using this
  · rcases List.mem_append.1 hu with hu | hu
    · exact h3 u hu
    · simp at hu
      subst hu
      rfl
/-- The last word grows. -/
theorem wsL_grow {w : World} {base : Nat} {v : Value} {d : List (List Nat)} {c : List Nat} (h : WsL w base v d c) (r : Nat) (hl : d.length ≤ 10000000) (hcl : c.length ≤ 10000000) (hb : base ≤ w.heap.size) :
    ∃ G cG V v1 W2, v = .slice (some ⟨G, 0, none⟩) (d.length + 1) cG ∧ d.length + 1 ≤ cG ∧ w.cell? ⟨G, d.length, none⟩ = some V ∧ (w.alloc (.cells #[.int .i32 (r : Int)] 21)).cell? ⟨G, d.length, none⟩ = some V ∧
      (Builtin.append_ #[86, 86] 86 #[V, .slice (some ⟨w.heap.size, 0, none⟩) 1 1]).run Tryz.prog (w.alloc (.cells #[.int .i32 (r : Int)] 21)) = .ok v1 W2 ∧
      W2.frozen? ⟨G, d.length, none⟩ = false ∧ W2.cell? ⟨G, d.length, none⟩ = some V ∧ v1.oneCell' = true ∧ (∃ A' n' c', v1 = .slice A' n' c') ∧ (∃ A' n' c', V = .slice A' n' c') ∧
      WsL (W2.setCell ⟨G, d.length, none⟩ v1) base (.slice (some ⟨G, 0, none⟩) (d.length + 1) cG) d (c ++ [r]) ∧ Below base w (W2.setCell ⟨G, d.length, none⟩ v1) ∧
      ∀ {b' : Nat} {L : List Nat} {A : Option Addr} {n c : Nat}, OwnL encR 21 w b' (.slice A n c) L → (∀ k, V.ownBlock = some k → (Value.slice A n c).ownBlock ≠ some k) → OwnL encR 21 (W2.setCell ⟨G, d.length, none⟩ v1) b' (.slice A n c) L := by
  obtain ⟨vs, V, h1, h2, h3, h4, h5, h6⟩ := h
  obtain ⟨G, cG, rfl, hbG, hG, hlc, _⟩ := h1.place (by simp)
  have hlen : (vs ++ [V]).length = d.length + 1 := by simp [h2]
  have hcell := h1.cellAt d.length (by omega)
  have hge : (vs ++ [V])[d.length]'(by omega) = V := by
    rw [List.getElem_append_right (by omega)]
    simp [h2]
  rw [hge] at hcell
  have hbA : Below w.heap.size w (w.alloc (.cells #[.int .i32 (r : Int)] 21)) := (Below.refl _ _).alloc (Nat.le_refl _) _
  have hR := Rd.new w 21 [r] #[.int .i32 (r : Int)] 1 (0, 0) (enc := encR) rfl rfl (by decide)
  have hA := h5.below hbA
  obtain ⟨v1, W2, r1, o1, g1, at1⟩ := run_append_rd (P := Tryz.prog) (c := 1) base 86 86 21 (.int .i32 0) 4 Tryz.underlying86 infoR rfl (by decide) encR_one hA hR (by omega) (by simp; omega)
  have hGV : V.ownBlock ≠ some G := by
    intro e
    obtain ⟨C, fr, hc⟩ := own_cell h5 G e
    obtain ⟨C', fr', hc'⟩ := own_cell h1 G rfl
    rw [hc] at hc'
    cases hc'
  have hg2 : W2.heap[G]? = w.heap[G]? := (g1.block G (by simp; omega) (fun e => hGV e.symm)).trans (hbA.block G hG)
  have houter : OwnL encV 86 W2 base (.slice (some ⟨G, 0, none⟩) (vs ++ [V]).length cG) (vs ++ [V]) := (h1.below hbA).kept g1 (.inr (fun e => hGV e.symm))
  have hset := OwnL.set houter d.length v1
  have hsl : (vs ++ [V]).set d.length v1 = vs ++ [v1] := by
    rw [List.set_append_right _ _ (by omega), ← h2, Nat.sub_self]
    rfl
  rw [hsl] at hset
  have inner : ∀ {b' : Nat} {L : List Nat} {u : Value}, OwnL encR 21 W2 b' u L → OwnL encR 21 (W2.setCell ⟨G, d.length, none⟩ v1) b' u L := by
    intro b' L u ho
    refine ho.kept hset.2 ?_
    cases hu : u.ownBlock with
    | none => exact .inl rfl
    | some k =>
      right
      intro e
      obtain ⟨C, fr, hc⟩ := own_cell ho k hu
      obtain ⟨C', fr', hc'⟩ := own_cell houter G rfl
      cases e
      rw [hc] at hc'
      cases hc'
  have keep : ∀ {b' : Nat} {L : List Nat} {u : Value}, OwnL encR 21 w b' u L → (∀ k, V.ownBlock = some k → u.ownBlock ≠ some k) → OwnL encR 21 (W2.setCell ⟨G, d.length, none⟩ v1) b' u L := by
    intro b' L u ho hne
    refine inner ((ho.below hbA).kept g1 ?_)
    cases hu : u.ownBlock with
    | none => exact .inl rfl
    | some k => exact .inr fun e => hne k e.symm hu
  obtain ⟨A', c', hv1, _, _, _⟩ := OwnL.rd o1
  obtain ⟨A9, c9, hV9, _, _, _⟩ := OwnL.rd h5
  refine ⟨G, cG, V, v1, W2, by rw [hlen], by omega, hcell.1, ?_, r1, ?_, ?_, by rw [hv1]; rfl, ⟨A', _, c', hv1⟩, ⟨_, _, _, hV9⟩, ⟨vs, v1, ?_, h2, fun u hu => ?_, fun i hi hi' => keep (h4 i hi hi') (fun k hk => h6 i hi k hk), inner o1, fun i hi k hk => ?_⟩, ?_, fun ho hne => keep ho hne⟩
  · exact cell_keep hbA hcell.1
  · rw [World.frozen?_of_block hg2]; exact hcell.2
  · rw [World.cell?_of_block hg2]; exact hcell.1
  · have e2 : (vs ++ [v1]).length = d.length + 1 := by simp [h2]
    have h9 := hset.1
    rw [hlen] at h9
    unfold OwnL at h9 ⊢
    rw [e2] at h9 ⊢
    exact h9
  · rcases List.mem_append.1 hu with hu | hu
    · exact h3 u (List.mem_append_left _ hu)
    · simp at hu
      subst hu
      rw [hv1]
      rfl
  · rcases at1 with e | e
    · rw [e] at hk; exact h6 i hi k hk
    · rw [e] at hk
      intro e2
      have := (h4 i hi (by omega)).base k e2
      simp at hk
      omega
  · have hbW : Below base w W2 := (hbA.mono hb).grown g1 (by simp; omega) (fun j hj => (hA.base j hj).1)
    exact hbW.setCell (p := ⟨G, d.length, none⟩) hbG v1
def WdF (G nd cG : Nat) (ad : Addr) (n4 c4 ix r n0 : Nat) (V v1 : Value) : Nat → Value → World → Prop
  | 0 => fun v w => v = .slice (some ⟨G, 0, none⟩) (nd + 1) cG
  | 1 => fun v w => v = .slice (some ⟨G, 0, none⟩) (nd + 1) cG
  | 2 => fun v w => v = .int .i64 ((nd : Int) + 1)
  | 3 => fun v w => v = .int .i64 (nd : Nat)
  | 4 => fun v w => v = .slice (some ⟨G, 0, none⟩) (nd + 1) cG
  | 5 => fun v w => v = .slice (some ⟨G, 0, none⟩) (nd + 1) cG
  | 6 => fun v w => v = .int .i64 ((nd : Int) + 1)
  | 7 => fun v w => v = .int .i64 (nd : Nat)
  | 8 => fun v w => v = .pointer (some ⟨G, nd, none⟩)
  | 9 => fun v w => v = V
  | 10 => fun v w => v = .slice (some ad) n4 c4
  | 11 => fun v w => v = .int .i64 (ix : Nat)
  | 12 => fun v w => v = .pointer (some (ad.add ix))
  | 13 => fun v w => v = .int .i32 (r : Int)
  | 14 => fun v w => v = .slice (some ⟨n0, 0, none⟩) 1 1
  | 15 => fun v w => v = v1
  | 16 => fun v w => v = .pointer (some ⟨G, nd, none⟩)
  | 17 => fun v w => v = undef
  | _ => fun _ _ => True
theorem WdF.keep (G nd cG : Nat) (ad : Addr) (n4 c4 ix r n0 : Nat) (V v1 : Value) : ∀ i v w w', True → WdF G nd cG ad n4 c4 ix r n0 V v1 i v w → WdF G nd cG ad n4 c4 ix r n0 V v1 i v w'
  | 0, _, _, _, _, h => h
  | 1, _, _, _, _, h => h
  | 2, _, _, _, _, h => h
  | 3, _, _, _, _, h => h
  | 4, _, _, _, _, h => h
  | 5, _, _, _, _, h => h
  | 6, _, _, _, _, h => h
  | 7, _, _, _, _, h => h
  | 8, _, _, _, _, h => h
  | 9, _, _, _, _, h => h
  | 10, _, _, _, _, h => h
  | 11, _, _, _, _, h => h
  | 12, _, _, _, _, h => h
  | 13, _, _, _, _, h => h
  | 14, _, _, _, _, h => h
  | 15, _, _, _, _, h => h
  | 16, _, _, _, _, h => h
  | 17, _, _, _, _, h => h
  | _ + 18, _, _, _, _, _ => trivial

end Go.Proofs.YtkkeodlnejckjaaGreat

/- The words of a text, by the document: the walk. -/
namespace Go.Proofs.YtkkeodlnejckjaaGreat
open Go.RowKit Go.Shelf
set_option linter.unusedVariables false
set_option linter.unusedSimpArgs false

theorem WsD.byV {w : World} {base : Nat} {v : Value} {d : List (List Nat)} (h : WsD w base v d) : ∃ A c, v = .slice A d.length c ∧ d.length ≤ c := by
  obtain ⟨vs, h1, h2, _⟩ := h
  obtain ⟨A, c, e, h3, _⟩ := h1.rd
  exact ⟨A, c, by rw [e, h2], by omega⟩
/-- The runes of a text stand apart from a word that grows. -/
structure WdI (w : World) (base : Nat) (v lv : Value) (rs : List Nat) (i : Nat) (wr : World) : Prop where
  below : Below w.heap.size w wr
  runes : OwnL encR 21 wr w.heap.size lv rs
  apart : base ≤ wr.heap.size ∧ ∀ k, lv.ownBlock = some k → k < base
  out : ((wdF (rs.take i)).2 = [] → WsD wr base v (wdF (rs.take i)).1) ∧ ((wdF (rs.take i)).2 ≠ [] → WsL wr base v (wdF (rs.take i)).1 (wdF (rs.take i)).2)
theorem ws_sep {w : World} {base : Nat} {V lv : Value} {c rs : List Nat} {b' : Nat} (h : OwnL encR 21 w base V c) (hl : ∀ k, lv.ownBlock = some k → k < base) : ∀ k, V.ownBlock = some k → lv.ownBlock ≠ some k := by
  intro k hk e
  have := (h.base k hk).1
  have := hl k e
  omega
theorem wdF_len (rs : List Nat) : (wdF rs).1.length ≤ rs.length ∧ (wdF rs).2.length ≤ rs.length := by
  have key : ∀ (rs : List Nat) (d : List (List Nat)) (c : List Nat), (rs.foldl wdS (d, c)).1.length + (rs.foldl wdS (d, c)).2.length ≤ d.length + c.length + rs.length := by
    intro rs
    induction rs with
    | nil => intro d c; simp
    | cons r rs ih =>
      intro d c
      rw [List.foldl_cons]
      have h := ih (wdS (d, c) r).1 (wdS (d, c) r).2
      have h2 : (wdS (d, c) r).1.length + (wdS (d, c) r).2.length ≤ d.length + c.length + 1 := by
        unfold wdS
        split
        · simp; omega
        · split
          · simp <;> omega
          · simp <;> omega
      simp only [List.length_cons]
      have e : (wdS (d, c) r) = ((wdS (d, c) r).1, (wdS (d, c) r).2) := rfl
      rw [← e] at h
      omega
  have := key rs [] []
  simp only [List.length_nil] at this
  unfold wdF
  omega
set_option maxRecDepth 100000 in
set_option maxHeartbeats 8000000 in
theorem refWords_any (A : Option Addr) (n c : Nat) (l : List Nat) (w : World) (hl : RdB w A n l) (hc : n ≤ c) (hn : n ≤ 10000000) (hc2 : c ≤ 9223372036854775807) :
    Calls Tryz.prog 42 #[.slice A n c] w fun e w' => ∃ v, e = .returned v ∧ WsD w' w.heap.size v (wordsL l) ∧ Below w.heap.size w w' := by
  have C := Lib.hid (refRn_any A n c l w hl hc hn hc2)
  have hll := hl.len
  have hrl := rnsL_len l
  obtain ⟨rs, hrs⟩ : ∃ rs, rs = rnsL l := ⟨_, rfl⟩
  have HRS := Lib.hid hrs
  rw [← hrs] at C hrl
  have HRL := Lib.hid (show rs.length ≤ 10000000 by omega)
  clear hl hll hrl hrs
  go_enter Tryz.func42, Tryz.ntmps42
  go_wp2_with fail
  refine C.out.mono ?_
  rintro e w1 ⟨lv, rfl, ho, hb⟩
  obtain ⟨A4, c4, hlv, h41, h42, h43⟩ := ho.rd
  obtain ⟨n4, hn4⟩ : ∃ n4, n4 = rs.length := ⟨_, rfl⟩
  obtain ⟨bs, hbs⟩ : ∃ bs, bs = w1.heap.size := ⟨_, rfl⟩
  have HI1 : Hid (WdI w bs (.slice none 0 0) lv rs 0 w1) := Lib.hid ⟨hb, ho, ⟨by omega, fun k hk => by rw [hbs]; exact (ho.base k hk).2⟩, ⟨fun _ => ⟨[], OwnL.nil _ _ _ _, rfl, (fun u hu => by cases hu), fun i hi => by cases hi⟩, fun h => absurd rfl h⟩⟩
  have HBS : Hid (w.heap.size ≤ bs) := Lib.hid (by have := hb.size; omega)
  have HN4 := Lib.hid hn4
  rw [← hn4] at hlv h41
  have hn4b : n4 ≤ 10000000 := by have := HRL.out; omega
  subst hlv
  clear ho hb h43 C hn4 hbs
  go_wp2_with fail
  go_loopw [3, 5] (fun x y wr => ∃ ix : Nat, ix ≤ n4 ∧ y = .int .i64 (ix : Nat) ∧ Hid (WdI w bs x (.slice A4 n4 c4) rs ix wr)) (fun _ y _ => n4 - (intOf y).toNat)
  case atStart => exact ⟨0, Nat.zero_le _, rfl, HI1⟩
  case round =>
    obtain ⟨ix, hi, rfl, HI⟩ := hrel
    by_cases hlt : (ix : Int) < (n4 : Int)
    · have hrd : Rd encR wr A4 n4 rs := by
        obtain ⟨A5, c5, e, _, _, h⟩ := HI.out.runes.rd
        injection e with e1 e2 e3
        subst e1
        rw [HN4.out]
        exact h
      obtain ⟨ad, r, rfl, HX, k0⟩ := rdR_at hrd (k := ix) (by omega)
      have HST := Lib.hid (wdF_take HX.out)
      have hil : ix < n4 := by omega
      cases hlr : letB (r : Int)
      · have HNx : Hid (WdI w bs u3 (.slice (some ad) n4 c4) rs (ix + 1) wr) := Lib.hid ⟨HI.out.below, HI.out.runes, HI.out.apart, by
          rw [HST.out]
          unfold wdS
          rw [if_neg (by rw [hlr]; decide)]
          by_cases hc0 : (wdF (rs.take ix)).2 = []
          · rw [if_pos hc0]
            exact ⟨fun _ => HI.out.out.1 hc0, fun h => absurd rfl h⟩
          · rw [if_neg hc0]
            exact ⟨fun _ => (HI.out.out.2 hc0).done, fun h => absurd rfl h⟩⟩
        have C := Lib.hid (refLetter_f hlr)
        clear hlr hrd
        go_wp2_with fail
        refine (C.out wr).mono ?_
        rintro e w9 ⟨rfl, h9⟩
        obtain rfl := h9.symm
        clear k0 C
        go_wp2
        exact ⟨⟨ix + 1, by omega, by simp; try go_num, HNx⟩, by simp [intOf]; try omega⟩
      · have HLR := Lib.hid hlr
        have C := Lib.hid (refLetter_t hlr)
        have hdl := wdF_len (rs.take ix)
        rw [List.length_take] at hdl
        obtain ⟨d, hd⟩ : ∃ d, d = (wdF (rs.take ix)).1 := ⟨_, rfl⟩
        obtain ⟨cu, hcu⟩ : ∃ cu, cu = (wdF (rs.take ix)).2 := ⟨_, rfl⟩
        have hst := HST.out
        unfold wdS at hst
        rw [if_pos hlr, ← hd, ← hcu] at hst
        have HST2 := Lib.hid hst
        have HDL : Hid (d.length ≤ 10000000 ∧ cu.length ≤ 10000000) := Lib.hid (by rw [hd, hcu]; omega)
        have HOut := Lib.hid HI.out.out
        rw [← hd, ← hcu] at HOut
        have HCU := Lib.hid hcu
        clear hlr hrd hst hd hcu hdl
        by_cases hc0 : cu = []
        · -- a word begins
          have hprev : ix = 0 ∨ ∃ ix' r' : Nat, ix = ix' + 1 ∧ wr.cell? (ad.add ix') = some (.int .i32 (r' : Int)) ∧ letB (r' : Nat) = false := by
            rcases Nat.eq_zero_or_pos ix with h | h
            · exact .inl h
            · right
              obtain ⟨ix', rfl⟩ : ∃ ix', ix = ix' + 1 := ⟨ix - 1, by omega⟩
              have hrd : Rd encR wr (some ad) n4 rs := by
                obtain ⟨A5, c5, e, _, _, h⟩ := HI.out.runes.rd
                injection e with e1 e2 e3
                subst e1
                rw [HN4.out]
                exact h
              obtain ⟨ad', r', e, HX', k1⟩ := rdR_at hrd (k := ix') (by omega)
              injection e with e
              subst e
              exact ⟨ix', r', rfl, k1, (wdF_none HX'.out).1 (by rw [← HCU.out]; exact hc0)⟩
          have hD := HOut.out.1 hc0
          obtain ⟨v9, w9, r9, hL9, kp9, hb9⟩ := wsD_new hD HDL.out.1 HI.out.apart.1
          have HI9 : Hid (WsL w9 bs v9 d [] ∧ OwnL encR 21 w9 w.heap.size (.slice (some ad) n4 c4) rs ∧ Below w.heap.size w w9 ∧ bs ≤ w9.heap.size) := Lib.hid ⟨hL9, kp9 HI.out.runes, HI.out.below.trans (hb9.mono HBS.out), Nat.le_trans HI.out.apart.1 hb9.size⟩
          have HC0 := Lib.hid hc0
          clear hD hL9 kp9 hb9 hc0
          rcases hprev with h0 | ⟨ix', r', h0, k1, hnl⟩
          · have g0 : ((ix : Int) == 0) = true := by simp; omega
            have H0 := Lib.hid h0
            clear h0
            go_wp2_with fail
            refine (C.out wr).mono ?_
            rintro e wz ⟨rfl, h9⟩
            obtain rfl := h9.symm
            go_wp2_with (at_builtin; refine wpl_append_run rfl _ _ _ rfl rfl rfl r9 ?_)
            clear k0 C g0 r9
            obtain ⟨G, cG, V, v1, W2, hv9, hcG, kW0, kW1, r1, kF, kW2, hone, ⟨A', n', c', hv1⟩, ⟨A8, n8, c8, hV8⟩, hL2, hb2, kp2⟩ := wsL_grow (w := w9.drew) (HI9.out.1.below (Below.drew (Below.refl _ _))) r HDL.out.1 (by simp) (show bs ≤ w9.drew.heap.size from HI9.out.2.2.2)
            obtain ⟨nd, hnd⟩ : ∃ nd, nd = d.length := ⟨_, rfl⟩
            rw [← hnd] at hv9 hcG kW0 kW1 kF kW2 hL2 hb2 kp2
            have hsep : ∀ k, V.ownBlock = some k → (Value.slice (some ad) n4 c4).ownBlock ≠ some k := by
              obtain ⟨vs, V', h1, h2, h3, h4, h5, h6⟩ := HI9.out.1
              have e1 := (h1.cellAt' hv9 (by rw [hnd, h2])).symm.trans kW0
              have e2 : V' = V := by injection e1
              subst e2
              exact ws_sep (rs := rs) (b' := 0) h5 HI.out.apart.2
            have hro := kp2 (OwnL.below HI9.out.2.1 (Below.drew (Below.refl _ _))) hsep
            have hND : nd ≤ 10000000 := by have := HDL.out.1; omega
            obtain ⟨W1, hW1⟩ : ∃ W1, W1 = w9.drew.alloc (.cells #[.int .i32 (r : Int)] 21) := ⟨_, rfl⟩
            obtain ⟨n0, hn0⟩ : ∃ n0, n0 = w9.drew.heap.size := ⟨_, rfl⟩
            rw [← hW1] at kW1 r1
            rw [← hn0, hV8] at r1
            have hnd1 : (nd : Int) < (nd : Int) + 1 := by omega
            have hwr : IntKind.i64.wrap (nd : Int) = (nd : Int) := by rw [IntKind.wrap_i64]; omega
            have hnd2 : nd < nd + 1 := by omega
            have kR : w9.drew.cell? (ad.add ix) = some (.int .i32 (r : Int)) := by
              have hrd : Rd encR w9 (some ad) n4 rs := by
                obtain ⟨A5, c5, e, _, _, h⟩ := HI9.out.2.1.rd
                injection e with e1 e2 e3
                subst e1
                rw [HN4.out]
                exact h
              obtain ⟨ad', r', e, HX', k1⟩ := rdR_at hrd (k := ix) (by omega)
              injection e with e
              subst e
              obtain ⟨_, e1⟩ := HX.out
              obtain ⟨_, e2⟩ := HX'.out
              rw [← e1, e2]
              exact k1
            have hj1 : (ix : Int) < (n4 : Int) := hlt
            have hj2 : ix < n4 := hil
            have HFin : Hid (WdI w bs (.slice (some ⟨G, 0, none⟩) (nd + 1) cG) (.slice (some ad) n4 c4) rs (ix + 1) (W2.setCell ⟨G, nd, none⟩ v1)) := Lib.hid ⟨HI9.out.2.2.1.trans ((Below.drew (Below.refl _ _)).trans (hb2.mono HBS.out)), hro, ⟨Nat.le_trans HI9.out.2.2.2 hb2.size, HI.out.apart.2⟩, by
              rw [HST2.out]
              simp only
              refine ⟨fun h => absurd h (by simp), fun _ => ?_⟩
              rw [HC0.out]; exact hL2⟩
            have HV9 := Lib.hid hv9
            subst hv9
            clear hL2 hb2 kp2 hsep hro hone hnd
            refine wp_region_flowJ (by kernel_rfl) (WdF G nd cG ad n4 c4 ix r n0 V v1) (fun _ _ => True) (fun S wq => Det3 w9.drew W1 W2 (W2.setCell ⟨G, nd, none⟩ v1) S wq) (WdF.keep G nd cG ad n4 c4 ix r n0 V v1) ?_ (by kernel_rfl) (by kernel_rfl) ?_ ?_
            case refine_1 => exact ⟨fun _ => rfl, fun h => h.elim, fun h => h.elim, fun h => h.elim⟩
            case refine_2 =>
              intro i o ho ρ y w2 S hJ hnS hneeds hcl hreg hn hf hyb hyn
              have hi := (Array.getElem?_eq_some_iff.1 ho).1
              rcases Nat.lt_or_ge i 18 with hi2 | hi2
              case inr => simp at hi; omega
              obtain rfl | rfl | rfl | rfl | rfl | rfl | rfl | rfl | rfl | rfl | rfl | rfl | rfl | rfl | rfl | rfl | rfl | rfl : i = 0 ∨ i = 1 ∨ i = 2 ∨ i = 3 ∨ i = 4 ∨ i = 5 ∨ i = 6 ∨ i = 7 ∨ i = 8 ∨ i = 9 ∨ i = 10 ∨ i = 11 ∨ i = 12 ∨ i = 13 ∨ i = 14 ∨ i = 15 ∨ i = 16 ∨ i = 17 := by omega
              · cases ho
                rw [if_pos (show Region.wanted _ y = true from rfl)]
                have f3 : ρ (.tmp 3) = .slice (some ⟨G, 0, none⟩) (nd + 1) cG := hf 3 (by kernel_rfl)
                exact ⟨f3, trivial, hJ.next (by decide) (by decide) (by decide)⟩
              · cases ho
                rw [if_pos (show Region.wanted _ y = true from rfl)]
                have f3 : ρ (.tmp 3) = .slice (some ⟨G, 0, none⟩) (nd + 1) cG := hf 3 (by kernel_rfl)
                exact ⟨f3, trivial, hJ.next (by decide) (by decide) (by decide)⟩
              · cases ho
                rw [if_pos (show Region.wanted _ y = true from rfl)]
                have f35 : ρ (.tmp 35) = .slice (some ⟨G, 0, none⟩) (nd + 1) cG := hn 1 _ 35 rfl (by kernel_rfl) rfl
                exact does_ok (v := .int .i64 ((nd : Int) + 1)) (w' := w2) (by simp [go_sem, hreg.const, f35]) ⟨rfl, trivial, hJ.next (by decide) (by decide) (by decide)⟩
              · cases ho
                rw [if_pos (show Region.wanted _ y = true from rfl)]
                have f36 : ρ (.tmp 36) = .int .i64 ((nd : Int) + 1) := hn 2 _ 36 rfl (by kernel_rfl) rfl
                exact does_ok (v := .int .i64 (nd : Nat)) (w' := w2) (by simp [go_sem, hreg.const, f36, hwr]) ⟨rfl, trivial, hJ.next (by decide) (by decide) (by decide)⟩
              · cases ho
                rw [if_pos (show Region.wanted _ y = true from rfl)]
                have f3 : ρ (.tmp 3) = .slice (some ⟨G, 0, none⟩) (nd + 1) cG := hf 3 (by kernel_rfl)
                exact ⟨f3, trivial, hJ.next (by decide) (by decide) (by decide)⟩
              · cases ho
                rw [if_pos (show Region.wanted _ y = true from rfl)]
                have f3 : ρ (.tmp 3) = .slice (some ⟨G, 0, none⟩) (nd + 1) cG := hf 3 (by kernel_rfl)
                exact ⟨f3, trivial, hJ.next (by decide) (by decide) (by decide)⟩
              · cases ho
                rw [if_pos (show Region.wanted _ y = true from rfl)]
                have f39 : ρ (.tmp 39) = .slice (some ⟨G, 0, none⟩) (nd + 1) cG := hn 5 _ 39 rfl (by kernel_rfl) rfl
                exact does_ok (v := .int .i64 ((nd : Int) + 1)) (w' := w2) (by simp [go_sem, hreg.const, f39]) ⟨rfl, trivial, hJ.next (by decide) (by decide) (by decide)⟩
              · cases ho
                rw [if_pos (show Region.wanted _ y = true from rfl)]
                have f40 : ρ (.tmp 40) = .int .i64 ((nd : Int) + 1) := hn 6 _ 40 rfl (by kernel_rfl) rfl
                exact does_ok (v := .int .i64 (nd : Nat)) (w' := w2) (by simp [go_sem, hreg.const, f40, hwr]) ⟨rfl, trivial, hJ.next (by decide) (by decide) (by decide)⟩
              · cases ho
                rw [if_pos (show Region.wanted _ y = true from rfl)]
                have f38 : ρ (.tmp 38) = .slice (some ⟨G, 0, none⟩) (nd + 1) cG := hn 4 _ 38 rfl (by kernel_rfl) rfl
                have f41 : ρ (.tmp 41) = .int .i64 (nd : Nat) := hn 7 _ 41 rfl (by kernel_rfl) rfl
                exact does_ok (v := .pointer (some ⟨G, nd, none⟩)) (w' := w2) (by simp [go_sem, hreg.const, f38, f41, hnd1, hnd2, hcG]) ⟨rfl, trivial, hJ.next (by decide) (by decide) (by decide)⟩
              · cases ho
                rw [if_pos (show Region.wanted _ y = true from rfl)]
                have f42 : ρ (.tmp 42) = .pointer (some ⟨G, nd, none⟩) := hn 8 _ 42 rfl (by kernel_rfl) rfl
                have hn15 : ¬ S 15 := fun h => hnS (hcl 15 _ rfl h 9 (by kernel_rfl))
                have k0 : w2.cell? ⟨G, nd, none⟩ = some V := by
                  by_cases h14 : S 14
                  · rw [hJ.a h14 hn15]; exact kW1
                  · rw [hJ.z h14]; exact kW0
                exact does_ok (v := V) (w' := w2) (by simp [go_sem, hreg.const, f42, k0]) ⟨rfl, trivial, hJ.next (by decide) (by decide) (by decide)⟩
              · cases ho
                rw [if_pos (show Region.wanted _ y = true from rfl)]
                have f4 : ρ (.tmp 4) = .slice (some ad) n4 c4 := hf 4 (by kernel_rfl)
                exact ⟨f4, trivial, hJ.next (by decide) (by decide) (by decide)⟩
              · cases ho
                rw [if_pos (show Region.wanted _ y = true from rfl)]
                have f5 : ρ (.tmp 5) = .int .i64 (ix : Nat) := hf 5 (by kernel_rfl)
                exact ⟨f5, trivial, hJ.next (by decide) (by decide) (by decide)⟩
              · cases ho
                rw [if_pos (show Region.wanted _ y = true from rfl)]
                have f44 : ρ (.tmp 44) = .slice (some ad) n4 c4 := hn 10 _ 44 rfl (by kernel_rfl) rfl
                have f45 : ρ (.tmp 45) = .int .i64 (ix : Nat) := hn 11 _ 45 rfl (by kernel_rfl) rfl
                exact does_ok (v := .pointer (some (ad.add ix))) (w' := w2) (by simp [go_sem, hreg.const, f44, f45, hj1, hj2]) ⟨rfl, trivial, hJ.next (by decide) (by decide) (by decide)⟩
              · cases ho
                rw [if_pos (show Region.wanted _ y = true from rfl)]
                have f46 : ρ (.tmp 46) = .pointer (some (ad.add ix)) := hn 12 _ 46 rfl (by kernel_rfl) rfl
                have hn14 : ¬ S 14 := fun h => hnS (hcl 14 _ rfl h 13 (by kernel_rfl))
                have k0 : w2.cell? (ad.add ix) = some (.int .i32 (r : Int)) := by rw [hJ.z hn14]; exact kR
                exact does_ok (v := .int .i32 (r : Int)) (w' := w2) (by simp [go_sem, hreg.const, f46, k0]) ⟨rfl, trivial, hJ.next (by decide) (by decide) (by decide)⟩
              · cases ho
                rw [if_pos (show Region.wanted _ y = true from rfl)]
                have f47 : ρ (.tmp 47) = .int .i32 (r : Int) := hn 13 _ 47 rfl (by kernel_rfl) rfl
                have hn15 : ¬ S 15 := fun h => hnS (hcl 15 _ rfl h 14 (by kernel_rfl))
                have hn17 : ¬ S 17 := fun h => hn15 (hcl 17 _ rfl h 15 (by kernel_rfl))
                obtain rfl := hJ.z hnS
                exact does_ok (v := .slice (some ⟨n0, 0, none⟩) 1 1) (w' := W1) (by rw [hW1, hn0]; simp [go_sem, hreg.const, f47]) ⟨rfl, trivial, hJ.al hn15 hn17⟩
              · cases ho
                rw [if_pos (show Region.wanted _ y = true from rfl)]
                have f43 : ρ (.tmp 43) = V := hn 9 _ 43 rfl (by kernel_rfl) rfl
                have f48 : ρ (.tmp 48) = .slice (some ⟨n0, 0, none⟩) 1 1 := hn 14 _ 48 rfl (by kernel_rfl) rfl
                have h14 : S 14 := hneeds 14 (by kernel_rfl)
                have hn17 : ¬ S 17 := fun h => hnS (hcl 17 _ rfl h 15 (by kernel_rfl))
                obtain rfl := (hJ.a h14 hnS).symm
                exact does_ok (v := v1) (w' := W2) (by simp only [execOp, List.getElem_toArray, List.getElem_cons_succ, List.getElem_cons_zero, resolve, invoke, builtin, Sem.run_bind, Sem.run_pure, Result.andThen_ok, List.map_toArray, List.map_cons, List.map_nil, f43, f48, hV8, r1]) ⟨rfl, trivial, hJ.ap h14 hn17⟩
              · cases ho
                rw [if_pos (show Region.wanted _ y = true from rfl)]
                have f34 : ρ (.tmp 34) = .slice (some ⟨G, 0, none⟩) (nd + 1) cG := hn 0 _ 34 rfl (by kernel_rfl) rfl
                have f37 : ρ (.tmp 37) = .int .i64 (nd : Nat) := hn 3 _ 37 rfl (by kernel_rfl) rfl
                exact does_ok (v := .pointer (some ⟨G, nd, none⟩)) (w' := w2) (by simp [go_sem, hreg.const, f34, f37, hnd1, hnd2, hcG]) ⟨rfl, trivial, hJ.next (by decide) (by decide) (by decide)⟩
              · cases ho
                rw [if_pos (show Region.wanted _ y = true from rfl)]
                have f49 : ρ (.tmp 49) = v1 := hn 15 _ 49 rfl (by kernel_rfl) rfl
                have f50 : ρ (.tmp 50) = .pointer (some ⟨G, nd, none⟩) := hn 16 _ 50 rfl (by kernel_rfl) rfl
                have h15 : S 15 := hneeds 15 (by kernel_rfl)
                obtain rfl := (hJ.b h15 hnS).symm
                exact does_skip (w' := W2.setCell ⟨G, nd, none⟩ v1) (by simp [go_sem, f49, f50, kF, kW2, hv1]) ⟨rfl, trivial, hJ.st h15 (hcl 15 _ rfl h15 14 (by kernel_rfl))⟩
            case refine_3 =>
              intro a wz S hJ hall hd3 hs hfacts hrest
              have q36 : a.tmps.getD 36 undef = .int .i64 ((nd : Int) + 1) := hfacts 2 _ 36 rfl rfl
              have ha := frame_of hd3 hs hrest [34, 35, 36, 37, 38, 39, 40, 41, 42, 43, 44, 45, 46, 47, 48, 49, 50] (by kernel_rfl)
              simp only [q36, List.foldl, List.setIfInBounds_toArray, List.set_cons_succ, List.set_cons_zero] at ha
              clear q36 hd3 hs hfacts hrest
              generalize a.tmps.getD = gg at ha
              subst ha
              obtain rfl := hJ.c (hall 17 (by decide))
              clear hJ hall kW0 kW1 r1 kF kW2 kR hW1 hn0 hv1 hV8
              go_wp2
              exact ⟨⟨ix + 1, by omega, by simp; try go_num, HFin⟩, by simp [intOf]; try omega⟩
          · have g0 : ((ix : Int) == 0) = false := by simp; omega
            have gi : (ix : Int) - 1 = (ix' : Int) := by omega
            have him : ix' < n4 := by omega
            have him2 : (ix' : Int) < (n4 : Int) := by omega
            have C2 := Lib.hid (refLetter_f hnl)
            clear h0 hnl
            go_wp2_with fail
            refine (C.out wr).mono ?_
            rintro e wz ⟨rfl, h9⟩
            obtain rfl := h9.symm
            go_wp2_with fail
            refine (C2.out wr).mono ?_
            rintro e wz ⟨rfl, h9⟩
            obtain rfl := h9.symm
            go_wp2_with (at_builtin; refine wpl_append_run rfl _ _ _ rfl rfl rfl r9 ?_)
            clear k0 k1 C C2 g0 gi him him2 r9
            obtain ⟨G, cG, V, v1, W2, hv9, hcG, kW0, kW1, r1, kF, kW2, hone, ⟨A', n', c', hv1⟩, ⟨A8, n8, c8, hV8⟩, hL2, hb2, kp2⟩ := wsL_grow (w := w9.drew) (HI9.out.1.below (Below.drew (Below.refl _ _))) r HDL.out.1 (by simp) (show bs ≤ w9.drew.heap.size from HI9.out.2.2.2)
            obtain ⟨nd, hnd⟩ : ∃ nd, nd = d.length := ⟨_, rfl⟩
            rw [← hnd] at hv9 hcG kW0 kW1 kF kW2 hL2 hb2 kp2
            have hsep : ∀ k, V.ownBlock = some k → (Value.slice (some ad) n4 c4).ownBlock ≠ some k := by
              obtain ⟨vs, V', h1, h2, h3, h4, h5, h6⟩ := HI9.out.1
              have e1 := (h1.cellAt' hv9 (by rw [hnd, h2])).symm.trans kW0
              have e2 : V' = V := by injection e1
              subst e2
              exact ws_sep (rs := rs) (b' := 0) h5 HI.out.apart.2
            have hro := kp2 (OwnL.below HI9.out.2.1 (Below.drew (Below.refl _ _))) hsep
            have hND : nd ≤ 10000000 := by have := HDL.out.1; omega
            obtain ⟨W1, hW1⟩ : ∃ W1, W1 = w9.drew.alloc (.cells #[.int .i32 (r : Int)] 21) := ⟨_, rfl⟩
            obtain ⟨n0, hn0⟩ : ∃ n0, n0 = w9.drew.heap.size := ⟨_, rfl⟩
            rw [← hW1] at kW1 r1
            rw [← hn0, hV8] at r1
            have hnd1 : (nd : Int) < (nd : Int) + 1 := by omega
            have hwr : IntKind.i64.wrap (nd : Int) = (nd : Int) := by rw [IntKind.wrap_i64]; omega
            have hnd2 : nd < nd + 1 := by omega
            have kR : w9.drew.cell? (ad.add ix) = some (.int .i32 (r : Int)) := by
              have hrd : Rd encR w9 (some ad) n4 rs := by
                obtain ⟨A5, c5, e, _, _, h⟩ := HI9.out.2.1.rd
                injection e with e1 e2 e3
                subst e1
                rw [HN4.out]
                exact h
              obtain ⟨ad', r', e, HX', k1⟩ := rdR_at hrd (k := ix) (by omega)
              injection e with e
              subst e
              obtain ⟨_, e1⟩ := HX.out
              obtain ⟨_, e2⟩ := HX'.out
              rw [← e1, e2]
              exact k1
            have hj1 : (ix : Int) < (n4 : Int) := hlt
            have hj2 : ix < n4 := hil
            have HFin : Hid (WdI w bs (.slice (some ⟨G, 0, none⟩) (nd + 1) cG) (.slice (some ad) n4 c4) rs (ix + 1) (W2.setCell ⟨G, nd, none⟩ v1)) := Lib.hid ⟨HI9.out.2.2.1.trans ((Below.drew (Below.refl _ _)).trans (hb2.mono HBS.out)), hro, ⟨Nat.le_trans HI9.out.2.2.2 hb2.size, HI.out.apart.2⟩, by
              rw [HST2.out]
              simp only
              refine ⟨fun h => absurd h (by simp), fun _ => ?_⟩
              rw [HC0.out]; exact hL2⟩
            have HV9 := Lib.hid hv9
            subst hv9
            clear hL2 hb2 kp2 hsep hro hone hnd
            refine wp_region_flowJ (by kernel_rfl) (WdF G nd cG ad n4 c4 ix r n0 V v1) (fun _ _ => True) (fun S wq => Det3 w9.drew W1 W2 (W2.setCell ⟨G, nd, none⟩ v1) S wq) (WdF.keep G nd cG ad n4 c4 ix r n0 V v1) ?_ (by kernel_rfl) (by kernel_rfl) ?_ ?_
            case refine_1 => exact ⟨fun _ => rfl, fun h => h.elim, fun h => h.elim, fun h => h.elim⟩
            case refine_2 =>
              intro i o ho ρ y w2 S hJ hnS hneeds hcl hreg hn hf hyb hyn
              have hi := (Array.getElem?_eq_some_iff.1 ho).1
              rcases Nat.lt_or_ge i 18 with hi2 | hi2
              case inr => simp at hi; omega
              obtain rfl | rfl | rfl | rfl | rfl | rfl | rfl | rfl | rfl | rfl | rfl | rfl | rfl | rfl | rfl | rfl | rfl | rfl : i = 0 ∨ i = 1 ∨ i = 2 ∨ i = 3 ∨ i = 4 ∨ i = 5 ∨ i = 6 ∨ i = 7 ∨ i = 8 ∨ i = 9 ∨ i = 10 ∨ i = 11 ∨ i = 12 ∨ i = 13 ∨ i = 14 ∨ i = 15 ∨ i = 16 ∨ i = 17 := by omega
              · cases ho
                rw [if_pos (show Region.wanted _ y = true from rfl)]
                have f3 : ρ (.tmp 3) = .slice (some ⟨G, 0, none⟩) (nd + 1) cG := hf 3 (by kernel_rfl)
                exact ⟨f3, trivial, hJ.next (by decide) (by decide) (by decide)⟩
              · cases ho
                rw [if_pos (show Region.wanted _ y = true from rfl)]
                have f3 : ρ (.tmp 3) = .slice (some ⟨G, 0, none⟩) (nd + 1) cG := hf 3 (by kernel_rfl)
                exact ⟨f3, trivial, hJ.next (by decide) (by decide) (by decide)⟩
              · cases ho
                rw [if_pos (show Region.wanted _ y = true from rfl)]
                have f35 : ρ (.tmp 35) = .slice (some ⟨G, 0, none⟩) (nd + 1) cG := hn 1 _ 35 rfl (by kernel_rfl) rfl
                exact does_ok (v := .int .i64 ((nd : Int) + 1)) (w' := w2) (by simp [go_sem, hreg.const, f35]) ⟨rfl, trivial, hJ.next (by decide) (by decide) (by decide)⟩
              · cases ho
                rw [if_pos (show Region.wanted _ y = true from rfl)]
                have f36 : ρ (.tmp 36) = .int .i64 ((nd : Int) + 1) := hn 2 _ 36 rfl (by kernel_rfl) rfl
                exact does_ok (v := .int .i64 (nd : Nat)) (w' := w2) (by simp [go_sem, hreg.const, f36, hwr]) ⟨rfl, trivial, hJ.next (by decide) (by decide) (by decide)⟩
              · cases ho
                rw [if_pos (show Region.wanted _ y = true from rfl)]
                have f3 : ρ (.tmp 3) = .slice (some ⟨G, 0, none⟩) (nd + 1) cG := hf 3 (by kernel_rfl)
                exact ⟨f3, trivial, hJ.next (by decide) (by decide) (by decide)⟩
              · cases ho
                rw [if_pos (show Region.wanted _ y = true from rfl)]
                have f3 : ρ (.tmp 3) = .slice (some ⟨G, 0, none⟩) (nd + 1) cG := hf 3 (by kernel_rfl)
                exact ⟨f3, trivial, hJ.next (by decide) (by decide) (by decide)⟩
              · cases ho
                rw [if_pos (show Region.wanted _ y = true from rfl)]
                have f39 : ρ (.tmp 39) = .slice (some ⟨G, 0, none⟩) (nd + 1) cG := hn 5 _ 39 rfl (by kernel_rfl) rfl
                exact does_ok (v := .int .i64 ((nd : Int) + 1)) (w' := w2) (by simp [go_sem, hreg.const, f39]) ⟨rfl, trivial, hJ.next (by decide) (by decide) (by decide)⟩
              · cases ho
                rw [if_pos (show Region.wanted _ y = true from rfl)]
                have f40 : ρ (.tmp 40) = .int .i64 ((nd : Int) + 1) := hn 6 _ 40 rfl (by kernel_rfl) rfl
                exact does_ok (v := .int .i64 (nd : Nat)) (w' := w2) (by simp [go_sem, hreg.const, f40, hwr]) ⟨rfl, trivial, hJ.next (by decide) (by decide) (by decide)⟩
              · cases ho
                rw [if_pos (show Region.wanted _ y = true from rfl)]
                have f38 : ρ (.tmp 38) = .slice (some ⟨G, 0, none⟩) (nd + 1) cG := hn 4 _ 38 rfl (by kernel_rfl) rfl
                have f41 : ρ (.tmp 41) = .int .i64 (nd : Nat) := hn 7 _ 41 rfl (by kernel_rfl) rfl
                exact does_ok (v := .pointer (some ⟨G, nd, none⟩)) (w' := w2) (by simp [go_sem, hreg.const, f38, f41, hnd1, hnd2, hcG]) ⟨rfl, trivial, hJ.next (by decide) (by decide) (by decide)⟩
              · cases ho
                rw [if_pos (show Region.wanted _ y = true from rfl)]
                have f42 : ρ (.tmp 42) = .pointer (some ⟨G, nd, none⟩) := hn 8 _ 42 rfl (by kernel_rfl) rfl
                have hn15 : ¬ S 15 := fun h => hnS (hcl 15 _ rfl h 9 (by kernel_rfl))
                have k0 : w2.cell? ⟨G, nd, none⟩ = some V := by
                  by_cases h14 : S 14
                  · rw [hJ.a h14 hn15]; exact kW1
                  · rw [hJ.z h14]; exact kW0
                exact does_ok (v := V) (w' := w2) (by simp [go_sem, hreg.const, f42, k0]) ⟨rfl, trivial, hJ.next (by decide) (by decide) (by decide)⟩
              · cases ho
                rw [if_pos (show Region.wanted _ y = true from rfl)]
                have f4 : ρ (.tmp 4) = .slice (some ad) n4 c4 := hf 4 (by kernel_rfl)
                exact ⟨f4, trivial, hJ.next (by decide) (by decide) (by decide)⟩
              · cases ho
                rw [if_pos (show Region.wanted _ y = true from rfl)]
                have f5 : ρ (.tmp 5) = .int .i64 (ix : Nat) := hf 5 (by kernel_rfl)
                exact ⟨f5, trivial, hJ.next (by decide) (by decide) (by decide)⟩
              · cases ho
                rw [if_pos (show Region.wanted _ y = true from rfl)]
                have f44 : ρ (.tmp 44) = .slice (some ad) n4 c4 := hn 10 _ 44 rfl (by kernel_rfl) rfl
                have f45 : ρ (.tmp 45) = .int .i64 (ix : Nat) := hn 11 _ 45 rfl (by kernel_rfl) rfl
                exact does_ok (v := .pointer (some (ad.add ix))) (w' := w2) (by simp [go_sem, hreg.const, f44, f45, hj1, hj2]) ⟨rfl, trivial, hJ.next (by decide) (by decide) (by decide)⟩
              · cases ho
                rw [if_pos (show Region.wanted _ y = true from rfl)]
                have f46 : ρ (.tmp 46) = .pointer (some (ad.add ix)) := hn 12 _ 46 rfl (by kernel_rfl) rfl
                have hn14 : ¬ S 14 := fun h => hnS (hcl 14 _ rfl h 13 (by kernel_rfl))
                have k0 : w2.cell? (ad.add ix) = some (.int .i32 (r : Int)) := by rw [hJ.z hn14]; exact kR
                exact does_ok (v := .int .i32 (r : Int)) (w' := w2) (by simp [go_sem, hreg.const, f46, k0]) ⟨rfl, trivial, hJ.next (by decide) (by decide) (by decide)⟩
              · cases ho
                rw [if_pos (show Region.wanted _ y = true from rfl)]
                have f47 : ρ (.tmp 47) = .int .i32 (r : Int) := hn 13 _ 47 rfl (by kernel_rfl) rfl
                have hn15 : ¬ S 15 := fun h => hnS (hcl 15 _ rfl h 14 (by kernel_rfl))
                have hn17 : ¬ S 17 := fun h => hn15 (hcl 17 _ rfl h 15 (by kernel_rfl))
                obtain rfl := hJ.z hnS
                exact does_ok (v := .slice (some ⟨n0, 0, none⟩) 1 1) (w' := W1) (by rw [hW1, hn0]; simp [go_sem, hreg.const, f47]) ⟨rfl, trivial, hJ.al hn15 hn17⟩
              · cases ho
                rw [if_pos (show Region.wanted _ y = true from rfl)]
                have f43 : ρ (.tmp 43) = V := hn 9 _ 43 rfl (by kernel_rfl) rfl
                have f48 : ρ (.tmp 48) = .slice (some ⟨n0, 0, none⟩) 1 1 := hn 14 _ 48 rfl (by kernel_rfl) rfl
                have h14 : S 14 := hneeds 14 (by kernel_rfl)
                have hn17 : ¬ S 17 := fun h => hnS (hcl 17 _ rfl h 15 (by kernel_rfl))
                obtain rfl := (hJ.a h14 hnS).symm
                exact does_ok (v := v1) (w' := W2) (by simp only [execOp, List.getElem_toArray, List.getElem_cons_succ, List.getElem_cons_zero, resolve, invoke, builtin, Sem.run_bind, Sem.run_pure, Result.andThen_ok, List.map_toArray, List.map_cons, List.map_nil, f43, f48, hV8, r1]) ⟨rfl, trivial, hJ.ap h14 hn17⟩
              · cases ho
                rw [if_pos (show Region.wanted _ y = true from rfl)]
                have f34 : ρ (.tmp 34) = .slice (some ⟨G, 0, none⟩) (nd + 1) cG := hn 0 _ 34 rfl (by kernel_rfl) rfl
                have f37 : ρ (.tmp 37) = .int .i64 (nd : Nat) := hn 3 _ 37 rfl (by kernel_rfl) rfl
                exact does_ok (v := .pointer (some ⟨G, nd, none⟩)) (w' := w2) (by simp [go_sem, hreg.const, f34, f37, hnd1, hnd2, hcG]) ⟨rfl, trivial, hJ.next (by decide) (by decide) (by decide)⟩
              · cases ho
                rw [if_pos (show Region.wanted _ y = true from rfl)]
                have f49 : ρ (.tmp 49) = v1 := hn 15 _ 49 rfl (by kernel_rfl) rfl
                have f50 : ρ (.tmp 50) = .pointer (some ⟨G, nd, none⟩) := hn 16 _ 50 rfl (by kernel_rfl) rfl
                have h15 : S 15 := hneeds 15 (by kernel_rfl)
                obtain rfl := (hJ.b h15 hnS).symm
                exact does_skip (w' := W2.setCell ⟨G, nd, none⟩ v1) (by simp [go_sem, f49, f50, kF, kW2, hv1]) ⟨rfl, trivial, hJ.st h15 (hcl 15 _ rfl h15 14 (by kernel_rfl))⟩
            case refine_3 =>
              intro a wz S hJ hall hd3 hs hfacts hrest
              have q36 : a.tmps.getD 36 undef = .int .i64 ((nd : Int) + 1) := hfacts 2 _ 36 rfl rfl
              have ha := frame_of hd3 hs hrest [34, 35, 36, 37, 38, 39, 40, 41, 42, 43, 44, 45, 46, 47, 48, 49, 50] (by kernel_rfl)
              simp only [q36, List.foldl, List.setIfInBounds_toArray, List.set_cons_succ, List.set_cons_zero] at ha
              clear q36 hd3 hs hfacts hrest
              generalize a.tmps.getD = gg at ha
              subst ha
              obtain rfl := hJ.c (hall 17 (by decide))
              clear hJ hall kW0 kW1 r1 kF kW2 kR hW1 hn0 hv1 hV8
              go_wp2
              exact ⟨⟨ix + 1, by omega, by simp; try go_num, HFin⟩, by simp [intOf]; try omega⟩
        · -- it goes on
          have hprev : ∃ ix' r' : Nat, ix = ix' + 1 ∧ wr.cell? (ad.add ix') = some (.int .i32 (r' : Int)) ∧ letB (r' : Nat) = true := by
            have hpos : 0 < ix := by
              rcases Nat.eq_zero_or_pos ix with h | h
              · exact absurd (by rw [HCU.out, h]; rfl) hc0
              · exact h
            obtain ⟨ix', rfl⟩ : ∃ ix', ix = ix' + 1 := ⟨ix - 1, by omega⟩
            have hrd : Rd encR wr (some ad) n4 rs := by
              obtain ⟨A5, c5, e, _, _, h⟩ := HI.out.runes.rd
              injection e with e1 e2 e3
              subst e1
              rw [HN4.out]
              exact h
            obtain ⟨ad', r', e, HX', k1⟩ := rdR_at hrd (k := ix') (by omega)
            injection e with e
            subst e
            refine ⟨ix', r', rfl, k1, ?_⟩
            cases hb : letB (r' : Nat) with
            | true => rfl
            | false => exact absurd (by rw [HCU.out]; exact (wdF_none HX'.out).2 hb) hc0
          have HI9 : Hid (WsL wr bs u3 d cu ∧ OwnL encR 21 wr w.heap.size (.slice (some ad) n4 c4) rs ∧ Below w.heap.size w wr ∧ bs ≤ wr.heap.size) := Lib.hid ⟨HOut.out.2 hc0, HI.out.runes, HI.out.below, HI.out.apart.1⟩
          clear hc0
          obtain ⟨ix', r', h0, k1, hnl⟩ := hprev
          have g0 : ((ix : Int) == 0) = false := by simp; omega
          have gi : (ix : Int) - 1 = (ix' : Int) := by omega
          have him : ix' < n4 := by omega
          have him2 : (ix' : Int) < (n4 : Int) := by omega
          have C2 := Lib.hid (refLetter_t hnl)
          clear h0 hnl
          go_wp2_with fail
          refine (C.out wr).mono ?_
          rintro e wz ⟨rfl, h9⟩
          obtain rfl := h9.symm
          go_wp2_with fail
          refine (C2.out wr).mono ?_
          rintro e wz ⟨rfl, h9⟩
          obtain rfl := h9.symm
          go_wp2_with fail
          clear k0 k1 C C2 g0 gi him him2
          obtain ⟨G, cG, V, v1, W2, hv9, hcG, kW0, kW1, r1, kF, kW2, hone, ⟨A', n', c', hv1⟩, ⟨A8, n8, c8, hV8⟩, hL2, hb2, kp2⟩ := wsL_grow (w := wr.drew) (HI9.out.1.below (Below.drew (Below.refl _ _))) r HDL.out.1 HDL.out.2 (show bs ≤ wr.drew.heap.size from HI9.out.2.2.2)
          obtain ⟨nd, hnd⟩ : ∃ nd, nd = d.length := ⟨_, rfl⟩
          rw [← hnd] at hv9 hcG kW0 kW1 kF kW2 hL2 hb2 kp2
          have hsep : ∀ k, V.ownBlock = some k → (Value.slice (some ad) n4 c4).ownBlock ≠ some k := by
            obtain ⟨vs, V', h1, h2, h3, h4, h5, h6⟩ := HI9.out.1
            have e1 := (h1.cellAt' hv9 (by rw [hnd, h2])).symm.trans kW0
            have e2 : V' = V := by injection e1
            subst e2
            exact ws_sep (rs := rs) (b' := 0) h5 HI.out.apart.2
          have hro := kp2 (OwnL.below HI9.out.2.1 (Below.drew (Below.refl _ _))) hsep
          have hND : nd ≤ 10000000 := by have := HDL.out.1; omega
          obtain ⟨W1, hW1⟩ : ∃ W1, W1 = wr.drew.alloc (.cells #[.int .i32 (r : Int)] 21) := ⟨_, rfl⟩
          obtain ⟨n0, hn0⟩ : ∃ n0, n0 = wr.drew.heap.size := ⟨_, rfl⟩
          rw [← hW1] at kW1 r1
          rw [← hn0, hV8] at r1
          have hnd1 : (nd : Int) < (nd : Int) + 1 := by omega
          have hwr : IntKind.i64.wrap (nd : Int) = (nd : Int) := by rw [IntKind.wrap_i64]; omega
          have hnd2 : nd < nd + 1 := by omega
          have kR : wr.drew.cell? (ad.add ix) = some (.int .i32 (r : Int)) := by
            have hrd : Rd encR wr (some ad) n4 rs := by
              obtain ⟨A5, c5, e, _, _, h⟩ := HI9.out.2.1.rd
              injection e with e1 e2 e3
              subst e1
              rw [HN4.out]
              exact h
            obtain ⟨ad', r', e, HX', k1⟩ := rdR_at hrd (k := ix) (by omega)
            injection e with e
            subst e
            obtain ⟨_, e1⟩ := HX.out
            obtain ⟨_, e2⟩ := HX'.out
            rw [← e1, e2]
            exact k1
          have hj1 : (ix : Int) < (n4 : Int) := hlt
          have hj2 : ix < n4 := hil
          have HFin : Hid (WdI w bs (.slice (some ⟨G, 0, none⟩) (nd + 1) cG) (.slice (some ad) n4 c4) rs (ix + 1) (W2.setCell ⟨G, nd, none⟩ v1)) := Lib.hid ⟨HI9.out.2.2.1.trans ((Below.drew (Below.refl _ _)).trans (hb2.mono HBS.out)), hro, ⟨Nat.le_trans HI9.out.2.2.2 hb2.size, HI.out.apart.2⟩, by
            rw [HST2.out]
            simp only
            refine ⟨fun h => absurd h (by simp), fun _ => ?_⟩
            exact hL2⟩
          have HV9 := Lib.hid hv9
          subst hv9
          clear hL2 hb2 kp2 hsep hro hone hnd
          refine wp_region_flowJ (by kernel_rfl) (WdF G nd cG ad n4 c4 ix r n0 V v1) (fun _ _ => True) (fun S wq => Det3 wr.drew W1 W2 (W2.setCell ⟨G, nd, none⟩ v1) S wq) (WdF.keep G nd cG ad n4 c4 ix r n0 V v1) ?_ (by kernel_rfl) (by kernel_rfl) ?_ ?_
          case refine_1 => exact ⟨fun _ => rfl, fun h => h.elim, fun h => h.elim, fun h => h.elim⟩
          case refine_2 =>
            intro i o ho ρ y w2 S hJ hnS hneeds hcl hreg hn hf hyb hyn
            have hi := (Array.getElem?_eq_some_iff.1 ho).1
            rcases Nat.lt_or_ge i 18 with hi2 | hi2
            case inr => simp at hi; omega
            obtain rfl | rfl | rfl | rfl | rfl | rfl | rfl | rfl | rfl | rfl | rfl | rfl | rfl | rfl | rfl | rfl | rfl | rfl : i = 0 ∨ i = 1 ∨ i = 2 ∨ i = 3 ∨ i = 4 ∨ i = 5 ∨ i = 6 ∨ i = 7 ∨ i = 8 ∨ i = 9 ∨ i = 10 ∨ i = 11 ∨ i = 12 ∨ i = 13 ∨ i = 14 ∨ i = 15 ∨ i = 16 ∨ i = 17 := by omega
            · cases ho
              rw [if_pos (show Region.wanted _ y = true from rfl)]
              have f3 : ρ (.tmp 3) = .slice (some ⟨G, 0, none⟩) (nd + 1) cG := hf 3 (by kernel_rfl)
              exact ⟨f3, trivial, hJ.next (by decide) (by decide) (by decide)⟩
            · cases ho
              rw [if_pos (show Region.wanted _ y = true from rfl)]
              have f3 : ρ (.tmp 3) = .slice (some ⟨G, 0, none⟩) (nd + 1) cG := hf 3 (by kernel_rfl)
              exact ⟨f3, trivial, hJ.next (by decide) (by decide) (by decide)⟩
            · cases ho
              rw [if_pos (show Region.wanted _ y = true from rfl)]
              have f35 : ρ (.tmp 35) = .slice (some ⟨G, 0, none⟩) (nd + 1) cG := hn 1 _ 35 rfl (by kernel_rfl) rfl
              exact does_ok (v := .int .i64 ((nd : Int) + 1)) (w' := w2) (by simp [go_sem, hreg.const, f35]) ⟨rfl, trivial, hJ.next (by decide) (by decide) (by decide)⟩
            · cases ho
              rw [if_pos (show Region.wanted _ y = true from rfl)]
              have f36 : ρ (.tmp 36) = .int .i64 ((nd : Int) + 1) := hn 2 _ 36 rfl (by kernel_rfl) rfl
              exact does_ok (v := .int .i64 (nd : Nat)) (w' := w2) (by simp [go_sem, hreg.const, f36, hwr]) ⟨rfl, trivial, hJ.next (by decide) (by decide) (by decide)⟩
            · cases ho
              rw [if_pos (show Region.wanted _ y = true from rfl)]
              have f3 : ρ (.tmp 3) = .slice (some ⟨G, 0, none⟩) (nd + 1) cG := hf 3 (by kernel_rfl)
              exact ⟨f3, trivial, hJ.next (by decide) (by decide) (by decide)⟩
            · cases ho
              rw [if_pos (show Region.wanted _ y = true from rfl)]
              have f3 : ρ (.tmp 3) = .slice (some ⟨G, 0, none⟩) (nd + 1) cG := hf 3 (by kernel_rfl)
              exact ⟨f3, trivial, hJ.next (by decide) (by decide) (by decide)⟩
            · cases ho
              rw [if_pos (show Region.wanted _ y = true from rfl)]
              have f39 : ρ (.tmp 39) = .slice (some ⟨G, 0, none⟩) (nd + 1) cG := hn 5 _ 39 rfl (by kernel_rfl) rfl
              exact does_ok (v := .int .i64 ((nd : Int) + 1)) (w' := w2) (by simp [go_sem, hreg.const, f39]) ⟨rfl, trivial, hJ.next (by decide) (by decide) (by decide)⟩
            · cases ho
              rw [if_pos (show Region.wanted _ y = true from rfl)]
              have f40 : ρ (.tmp 40) = .int .i64 ((nd : Int) + 1) := hn 6 _ 40 rfl (by kernel_rfl) rfl
              exact does_ok (v := .int .i64 (nd : Nat)) (w' := w2) (by simp [go_sem, hreg.const, f40, hwr]) ⟨rfl, trivial, hJ.next (by decide) (by decide) (by decide)⟩
            · cases ho
              rw [if_pos (show Region.wanted _ y = true from rfl)]
              have f38 : ρ (.tmp 38) = .slice (some ⟨G, 0, none⟩) (nd + 1) cG := hn 4 _ 38 rfl (by kernel_rfl) rfl
              have f41 : ρ (.tmp 41) = .int .i64 (nd : Nat) := hn 7 _ 41 rfl (by kernel_rfl) rfl
              exact does_ok (v := .pointer (some ⟨G, nd, none⟩)) (w' := w2) (by simp [go_sem, hreg.const, f38, f41, hnd1, hnd2, hcG]) ⟨rfl, trivial, hJ.next (by decide) (by decide) (by decide)⟩
            · cases ho
              rw [if_pos (show Region.wanted _ y = true from rfl)]
              have f42 : ρ (.tmp 42) = .pointer (some ⟨G, nd, none⟩) := hn 8 _ 42 rfl (by kernel_rfl) rfl
              have hn15 : ¬ S 15 := fun h => hnS (hcl 15 _ rfl h 9 (by kernel_rfl))
              have k0 : w2.cell? ⟨G, nd, none⟩ = some V := by
                by_cases h14 : S 14
                · rw [hJ.a h14 hn15]; exact kW1
                · rw [hJ.z h14]; exact kW0
              exact does_ok (v := V) (w' := w2) (by simp [go_sem, hreg.const, f42, k0]) ⟨rfl, trivial, hJ.next (by decide) (by decide) (by decide)⟩
            · cases ho
              rw [if_pos (show Region.wanted _ y = true from rfl)]
              have f4 : ρ (.tmp 4) = .slice (some ad) n4 c4 := hf 4 (by kernel_rfl)
              exact ⟨f4, trivial, hJ.next (by decide) (by decide) (by decide)⟩
            · cases ho
              rw [if_pos (show Region.wanted _ y = true from rfl)]
              have f5 : ρ (.tmp 5) = .int .i64 (ix : Nat) := hf 5 (by kernel_rfl)
              exact ⟨f5, trivial, hJ.next (by decide) (by decide) (by decide)⟩
            · cases ho
              rw [if_pos (show Region.wanted _ y = true from rfl)]
              have f44 : ρ (.tmp 44) = .slice (some ad) n4 c4 := hn 10 _ 44 rfl (by kernel_rfl) rfl
              have f45 : ρ (.tmp 45) = .int .i64 (ix : Nat) := hn 11 _ 45 rfl (by kernel_rfl) rfl
              exact does_ok (v := .pointer (some (ad.add ix))) (w' := w2) (by simp [go_sem, hreg.const, f44, f45, hj1, hj2]) ⟨rfl, trivial, hJ.next (by decide) (by decide) (by decide)⟩
            · cases ho
              rw [if_pos (show Region.wanted _ y = true from rfl)]
              have f46 : ρ (.tmp 46) = .pointer (some (ad.add ix)) := hn 12 _ 46 rfl (by kernel_rfl) rfl
              have hn14 : ¬ S 14 := fun h => hnS (hcl 14 _ rfl h 13 (by kernel_rfl))
              have k0 : w2.cell? (ad.add ix) = some (.int .i32 (r : Int)) := by rw [hJ.z hn14]; exact kR
              exact does_ok (v := .int .i32 (r : Int)) (w' := w2) (by simp [go_sem, hreg.const, f46, k0]) ⟨rfl, trivial, hJ.next (by decide) (by decide) (by decide)⟩
            · cases ho
              rw [if_pos (show Region.wanted _ y = true from rfl)]
              have f47 : ρ (.tmp 47) = .int .i32 (r : Int) := hn 13 _ 47 rfl (by kernel_rfl) rfl
              have hn15 : ¬ S 15 := fun h => hnS (hcl 15 _ rfl h 14 (by kernel_rfl))
              have hn17 : ¬ S 17 := fun h => hn15 (hcl 17 _ rfl h 15 (by kernel_rfl))
              obtain rfl := hJ.z hnS
              exact does_ok (v := .slice (some ⟨n0, 0, none⟩) 1 1) (w' := W1) (by rw [hW1, hn0]; simp [go_sem, hreg.const, f47]) ⟨rfl, trivial, hJ.al hn15 hn17⟩
            · cases ho
              rw [if_pos (show Region.wanted _ y = true from rfl)]
              have f43 : ρ (.tmp 43) = V := hn 9 _ 43 rfl (by kernel_rfl) rfl
              have f48 : ρ (.tmp 48) = .slice (some ⟨n0, 0, none⟩) 1 1 := hn 14 _ 48 rfl (by kernel_rfl) rfl
              have h14 : S 14 := hneeds 14 (by kernel_rfl)
              have hn17 : ¬ S 17 := fun h => hnS (hcl 17 _ rfl h 15 (by kernel_rfl))
              obtain rfl := (hJ.a h14 hnS).symm
              exact does_ok (v := v1) (w' := W2) (by simp only [execOp, List.getElem_toArray, List.getElem_cons_succ, List.getElem_cons_zero, resolve, invoke, builtin, Sem.run_bind, Sem.run_pure, Result.andThen_ok, List.map_toArray, List.map_cons, List.map_nil, f43, f48, hV8, r1]) ⟨rfl, trivial, hJ.ap h14 hn17⟩
            · cases ho
              rw [if_pos (show Region.wanted _ y = true from rfl)]
              have f34 : ρ (.tmp 34) = .slice (some ⟨G, 0, none⟩) (nd + 1) cG := hn 0 _ 34 rfl (by kernel_rfl) rfl
              have f37 : ρ (.tmp 37) = .int .i64 (nd : Nat) := hn 3 _ 37 rfl (by kernel_rfl) rfl
              exact does_ok (v := .pointer (some ⟨G, nd, none⟩)) (w' := w2) (by simp [go_sem, hreg.const, f34, f37, hnd1, hnd2, hcG]) ⟨rfl, trivial, hJ.next (by decide) (by decide) (by decide)⟩
            · cases ho
              rw [if_pos (show Region.wanted _ y = true from rfl)]
              have f49 : ρ (.tmp 49) = v1 := hn 15 _ 49 rfl (by kernel_rfl) rfl
              have f50 : ρ (.tmp 50) = .pointer (some ⟨G, nd, none⟩) := hn 16 _ 50 rfl (by kernel_rfl) rfl
              have h15 : S 15 := hneeds 15 (by kernel_rfl)
              obtain rfl := (hJ.b h15 hnS).symm
              exact does_skip (w' := W2.setCell ⟨G, nd, none⟩ v1) (by simp [go_sem, f49, f50, kF, kW2, hv1]) ⟨rfl, trivial, hJ.st h15 (hcl 15 _ rfl h15 14 (by kernel_rfl))⟩
          case refine_3 =>
            intro a wz S hJ hall hd3 hs hfacts hrest
            have q36 : a.tmps.getD 36 undef = .int .i64 ((nd : Int) + 1) := hfacts 2 _ 36 rfl rfl
            have ha := frame_of hd3 hs hrest [34, 35, 36, 37, 38, 39, 40, 41, 42, 43, 44, 45, 46, 47, 48, 49, 50] (by kernel_rfl)
            simp only [q36, List.foldl, List.setIfInBounds_toArray, List.set_cons_succ, List.set_cons_zero] at ha
            clear q36 hd3 hs hfacts hrest
            generalize a.tmps.getD = gg at ha
            subst ha
            obtain rfl := hJ.c (hall 17 (by decide))
            clear hJ hall kW0 kW1 r1 kF kW2 kR hW1 hn0 hv1 hV8
            go_wp2
            exact ⟨⟨ix + 1, by omega, by simp; try go_num, HFin⟩, by simp [intOf]; try omega⟩
    · have HT : Hid (WsD wr w.heap.size u3 (wordsL l)) := Lib.hid (by
        have h := HI.out.out
        rw [List.take_of_length_le (by rw [← HN4.out]; omega)] at h
        have hw := wdF_words rs
        unfold wordsL
        rw [← HRS.out, ← hw]
        have mono : ∀ d, WsD wr bs u3 d → WsD wr w.heap.size u3 d := fun d ⟨vs, h1, h2, h3, h4⟩ => ⟨vs, h1.mono HBS.out, h2, h3, fun i hi hi' => (h4 i hi hi').mono HBS.out⟩
        by_cases hc0 : (wdF rs).2 = []
        · rw [if_pos hc0, List.append_nil]
          exact mono _ (h.1 hc0)
        · rw [if_neg hc0]
          exact mono _ (h.2 hc0).done)
      go_wp2
      go_ret
      exact ⟨_, rfl, HT.out, HI.out.below⟩
end Go.Proofs.YtkkeodlnejckjaaGreat

/- The tokens of a text, and how many words it has, by the document. -/
namespace Go.Proofs.YtkkeodlnejckjaaGreat
open Go.RowKit Go.Shelf
set_option linter.unusedVariables false
set_option linter.unusedSimpArgs false

theorem tmG_append (cf : Cf) : ∀ (a b : List (List Nat)) (k : Nat), tmG cf (a ++ b) k = tmG cf a k ++ tmG cf b (k + a.length)
  | [], b, k => by simp [tmG]
  | w :: a, b, k => by
    simp only [List.cons_append, tmG, tmG_append cf a b (k + 1), List.length_cons]
    rw [show k + 1 + a.length = k + (a.length + 1) by omega]
theorem tmG_take (cf : Cf) {ws : List (List Nat)} {i : Nat} {wd : List Nat} (hx : ∃ hl : i < ws.length, ws[i] = wd) : tmG cf (ws.take (i + 1)) 0 = tmG cf (ws.take i) 0 ++ [(i, termS cf wd)] := by
  obtain ⟨hl, rfl⟩ := hx
  rw [List.take_succ_eq_append_getElem hl, tmG_append]
  simp [tmG, List.length_take, Nat.min_eq_left (Nat.le_of_lt hl)]
theorem wdG_wlen : ∀ (rs cur : List Nat), ∀ w ∈ wdG rs cur, w.length ≤ cur.length + rs.length
  | [], cur, w, hw => by
    unfold wdG at hw
    split at hw
    · cases hw
    · simp at hw
      subst hw
      simp
  | r :: rs, cur, w, hw => by
    unfold wdG at hw
    split at hw
    · have := wdG_wlen rs (cur ++ [r]) w hw
      simp at this ⊢
      omega
    · split at hw
      · have := wdG_wlen rs [] w hw
        simp at this ⊢
        omega
      · rcases List.mem_cons.1 hw with h | h
        · subst h; simp
        · have := wdG_wlen rs [] w h
          simp at this ⊢
          omega
theorem wsD_at {w : World} {base : Nat} {A : Option Addr} {n c : Nat} {ws : List (List Nat)} (h : WsD w base (.slice A n c) ws) (hn : n = ws.length) {k : Nat} (hk : k < n) :
    ∃ (ad : Addr) (A' : Option Addr) (n' c' : Nat) (wd : List Nat), A = some ad ∧ w.cell? (ad.add k) = some (.slice A' n' c') ∧ Hid ((∃ hl : k < ws.length, ws[k] = wd) ∧ Rd encR w A' n' wd) := by
  obtain ⟨vs, h1, h2, h3, h4⟩ := h
  have hkv : k < vs.length := by omega
  have hkw : k < ws.length := by omega
  obtain ⟨A', c', e, _, _, h6⟩ := h1.rd
  injection e with e1 e2 e3
  subst e1
  obtain ⟨ad, e4, hc⟩ := h6.cell (by omega)
  obtain ⟨A8, c8, e8, _, _, h8⟩ := (h4 k hkv hkw).rd
  exact ⟨ad, A8, _, c8, ws[k], e4, by rw [hc k hkv]; show some vs[k] = _; rw [e8], Lib.hid ⟨⟨hkw, rfl⟩, h8⟩⟩
def TkF (A : Option Addr) (n c : Nat) (B : Option Addr) (m d : Nat) (cp : Int) (g : Nat) (ad : Addr) (nw cw ix : Nat) (A8 : Option Addr) (n8 c8 : Nat) (s : ByteArray) : Nat → Value → World → Prop
  | 0 => fun v w => v = confV A n c B m d cp
  | 1 => fun v w => v = .slice (some ad) nw cw
  | 2 => fun v w => v = .int .i64 (ix : Nat)
  | 3 => fun v w => v = .pointer (some (ad.add ix))
  | 4 => fun v w => v = .slice A8 n8 c8
  | 5 => fun v w => v = .string s
  | 6 => fun v w => v = .string s
  | _ => fun _ _ => True
theorem TkF.below (A : Option Addr) (n c : Nat) (B : Option Addr) (m d : Nat) (cp : Int) (g : Nat) (ad : Addr) (nw cw ix : Nat) (A8 : Option Addr) (n8 c8 : Nat) (s : ByteArray) : ∀ i v w w', Below w.heap.size w w' → TkF A n c B m d cp g ad nw cw ix A8 n8 c8 s i v w → TkF A n c B m d cp g ad nw cw ix A8 n8 c8 s i v w'
  | 0, _, _, _, _, h => h
  | 1, _, _, _, _, h => h
  | 2, _, _, _, _, h => h
  | 3, _, _, _, _, h => h
  | 4, _, _, _, _, h => h
  | 5, _, _, _, _, h => h
  | 6, _, _, _, _, h => h
  | _ + 7, _, _, _, _, _ => trivial

set_option maxRecDepth 100000 in
set_option maxHeartbeats 1000000 in
theorem refCount_any (A : Option Addr) (n c : Nat) (l : List Nat) (w : World) (hl : RdB w A n l) (hc : n ≤ c) (hn : n ≤ 10000000) (hc2 : c ≤ 9223372036854775807) :
    Calls Tryz.prog 123 #[.slice A n c] w fun e w' => e = .returned (.int .i64 ((wordsL l).length : Nat)) ∧ Below w.heap.size w w' := by
  have C := Lib.hid (refWords_any A n c l w hl hc hn hc2)
  clear hl
  go_enter Tryz.func123, Tryz.ntmps123
  go_wp2_with fail
  refine C.out.mono ?_
  rintro e w1 ⟨v, rfl, ho, hb⟩
  obtain ⟨A1, c1, rfl, _⟩ := ho.byV
  have HB := Lib.hid hb
  clear ho hb C
  go_wp2
  go_ret
  exact ⟨rfl, HB.out⟩
set_option maxRecDepth 100000 in
set_option maxHeartbeats 8000000 in
theorem refTokens_any (A : Option Addr) (n c : Nat) (B : Option Addr) (m d : Nat) (cf : Cf) (T : Option Addr) (nt ct : Nat) (l : List Nat) (w : World) (h : RdC w A n c B m d cf) (ht : RdB w T nt l) (htc : nt ≤ ct) (htl : nt ≤ 1000000) (htc2 : ct ≤ 9223372036854775807) (hm : m ≤ 1000000) :
    Calls Tryz.prog 124 #[confV A n c B m d cf.cap, .slice T nt ct] w fun e w' => ∃ v, e = .returned v ∧ OwnK encTk 2 160 w' w.heap.size v (toksL cf l) ∧ Below w.heap.size w w' := by
  have HR := Lib.hid h
  have HT := Lib.hid ht
  have HLn := Lib.hid ht.len
  obtain ⟨cp, hcp⟩ : ∃ cp, cp = cf.cap := ⟨_, rfl⟩
  have hbx := (Below.refl w.heap.size w).alloc (Nat.le_refl _) (.cells #[.slice A n c, .slice B m d, .int .i64 cp] 25)
  have hcell := World.alloc_heap_new w (.cells #[.slice A n c, .slice B m d, .int .i64 cp] 25)
  obtain ⟨w1, hw1⟩ : ∃ w1, w1 = w.alloc (.cells #[.slice A n c, .slice B m d, .int .i64 cp] 25) := ⟨_, rfl⟩
  obtain ⟨g, hg⟩ : ∃ g, g = w.heap.size := ⟨_, rfl⟩
  rw [← hw1] at hbx hcell
  rw [← hg] at hcell
  have HW1 := Lib.hid hw1
  have HG := Lib.hid hg
  have HCP := Lib.hid hcp
  have HB1 := Lib.hid hbx
  have C1 := Lib.hid (refCkW_any A n c B m d cf w1 (h.below hbx))
  rw [← hcp] at C1 ⊢
  obtain ⟨c0, c1, c2⟩ := cells3 hcell
  have d0 := c0
  have d1 := c1
  have d2 := c2
  rw [hw1] at d0 d1 d2
  rw [hg] at d0 d1 d2
  have HC1 := Lib.hid hcell
  clear h ht hw1 hg hcp hbx hcell
  go_enter Tryz.func124, Tryz.ntmps124
  go_wp2_with fail
  rw [← HW1.out, ← HG.out]
  clear HW1 d0 d1 d2
  refine C1.out.mono ?_
  rintro e w2 ⟨rfl, hb⟩
  have HC2 := Lib.hid ((hb.block g (Array.getElem?_eq_some_iff.1 HC1.out).1).trans HC1.out)
  have HB2 := Lib.hid (HB1.out.trans (hb.mono HB1.out.size))
  clear hb C1 c0 c1 c2 HC1 HB1
  by_cases hmay : mayC cf
  case neg =>
    rw [may_no hmay]
    have HE : Hid (toksL cf l = []) := Lib.hid (by unfold toksL termsL; rw [if_neg hmay]; rfl)
    clear hmay
    go_wp2
    go_ret
    exact ⟨_, rfl, by rw [HE.out]; exact OwnK.nil _ _ _ _ _, HB2.out⟩
  rw [may_yes hmay]
  have HMay := Lib.hid hmay
  have HE : Hid (toksL cf l = fltL cf.st (tmG cf (wordsL l) 0)) := Lib.hid (by rw [toks_flt]; unfold termsL; rw [if_pos hmay])
  have hcap1 : 1 ≤ cf.cap := hmay.2.1
  have HCAP := Lib.hid hcap1
  have C2 := Lib.hid (refWords_any T nt ct l w2 (HT.out.below HB2.out) htc (by omega) htc2)
  clear hmay hcap1
  go_wp2_with fail
  refine C2.out.mono ?_
  rintro e w3 ⟨lv, rfl, ho, hb⟩
  have HC3 := Lib.hid ((hb.block g (Array.getElem?_eq_some_iff.1 HC2.out).1).trans HC2.out)
  have HB3 := Lib.hid (HB2.out.trans (hb.mono HB2.out.size))
  obtain ⟨A6, cw, rfl, hlw⟩ := ho.byV
  have hwl := wordsL_len l
  have hval : ∀ wd ∈ wordsL l, ∀ r ∈ wd, r ≤ 1114111 := fun wd hw r hr => wdG_mem _ [] (fun r => r ≤ 1114111) (rns_le HT.out.byt) (fun r h => by cases h) wd hw r hr
  have hwlen : ∀ wd ∈ wordsL l, wd.length ≤ 1000000 := fun wd hw => by
    have h1 := wdG_wlen (rnsL l) [] wd hw
    have := rnsL_len l
    have := HLn.out
    simp at h1
    omega
  obtain ⟨ws, hws⟩ : ∃ ws, ws = wordsL l := ⟨_, rfl⟩
  rw [← hws] at ho hlw hwl hval hwlen HE
  rw [← hws]
  obtain ⟨nw, hnw⟩ : ∃ nw, nw = ws.length := ⟨_, rfl⟩
  rw [← hnw] at ho hlw
  rw [← hnw]
  have hnwb : nw ≤ 1000001 := by have := HLn.out; omega
  have HO := Lib.hid ho
  have HNW := Lib.hid hnw
  have HV := Lib.hid hval
  have HWL := Lib.hid hwlen
  clear ho hb hws hnw hwl hval hwlen C2 HC2 HB2
  go_wp2_with fail
  go_loopw [5, 7] (fun x y wr => ∃ ix : Nat, ix ≤ nw ∧ y = .int .i64 (ix : Nat) ∧ Hid (wr.heap[g]? = some (.cells #[.slice A n c, .slice B m d, .int .i64 cp] 25 (0, 0))) ∧ Hid (Below w.heap.size w wr ∧ WsD wr w2.heap.size (.slice A6 nw cw) ws ∧ OwnK encTk 2 160 wr w.heap.size x (fltL cf.st (tmG cf (ws.take ix) 0)))) (fun _ y _ => nw - (intOf y).toNat)
  case atStart => exact ⟨0, Nat.zero_le _, rfl, HC3, Lib.hid ⟨HB3.out, HO.out, OwnK.nil _ _ _ _ _⟩⟩
  case round =>
    obtain ⟨ix, hi, rfl, HC4, HI⟩ := hrel
    by_cases hlt : (ix : Int) < (nw : Int)
    · obtain ⟨ad, A8, n8, c8, wd, rfl, e0, HX⟩ := wsD_at HI.out.2.1 HNW.out (k := ix) (by omega)
      have hwm : wd ∈ ws := by
        obtain ⟨⟨hl, rfl⟩, _⟩ := HX.out
        exact List.getElem_mem hl
      have E0 := Lib.hid e0
      have G0 := Lib.hid (cells3 HC4.out)
      have hj1 : (ix : Int) < (nw : Int) := hlt
      have hj2 : ix < nw := by omega
      have hn8 := HX.out.2.len
      have h8 : n8 ≤ 1000000 := by have := HWL.out wd hwm; omega
      obtain ⟨s, hs⟩ : ∃ s, s = termS cf wd := ⟨_, rfl⟩
      have C25 : Hid (∀ w2, Below wr.heap.size wr w2 → Calls Tryz.prog 43 #[confV A n c B m d cp, .slice A8 n8 c8] w2 fun e w' => e = .returned (.string s) ∧ Below w2.heap.size w2 w') := Lib.hid fun w2 h2 => by
        rw [hs, HCP.out]
        exact refTerm_any A n c B m d cf A8 n8 c8 wd w2 (HR.out.below (Below.thn HI.out.1 h2)) (HX.out.2.below h2) (HV.out wd hwm) (by omega) HCAP.out
      have HST := Lib.hid (tmG_take cf HX.out.1)
      rw [← hs] at HST
      clear e0 hs hn8 h8 hwm
      go_wp2_with fail
      refine wp_region_flow (by kernel_rfl) (TkF A n c B m d cp g ad nw cw ix A8 n8 c8 s) (TkF.below A n c B m d cp g ad nw cw ix A8 n8 c8 s) (by kernel_rfl) (by kernel_rfl) ?_ ?_
      case refine_1 =>
        intro i o ho ρ y w2 hb2 hreg hn hf hyb hyn
        have hi := (Array.getElem?_eq_some_iff.1 ho).1
        rcases Nat.lt_or_ge i 7 with hi2 | hi2
        case inr => simp at hi; omega
        obtain rfl | rfl | rfl | rfl | rfl | rfl | rfl : i = 0 ∨ i = 1 ∨ i = 2 ∨ i = 3 ∨ i = 4 ∨ i = 5 ∨ i = 6 := by omega
        · cases ho
          rw [if_pos (show Region.wanted _ y = true from rfl)]
          have f2 : ρ (.tmp 2) = .pointer (some ⟨g, 0, none⟩) := hf 2 (by kernel_rfl)
          have k0 := cell_keep hb2 G0.out.1
          have k1 := cell_keep hb2 G0.out.2.1
          have k2 := cell_keep hb2 G0.out.2.2
          exact does_ok (v := confV A n c B m d cp) (w' := w2) (by simp [go_sem, hreg.const, f2, k0, k1, k2]) ⟨rfl, Below.refl _ _⟩
        · cases ho
          rw [if_pos (show Region.wanted _ y = true from rfl)]
          have f6 : ρ (.tmp 6) = .slice (some ad) nw cw := hf 6 (by kernel_rfl)
          exact ⟨f6, Below.refl _ _⟩
        · cases ho
          rw [if_pos (show Region.wanted _ y = true from rfl)]
          have f7 : ρ (.tmp 7) = .int .i64 (ix : Nat) := hf 7 (by kernel_rfl)
          exact ⟨f7, Below.refl _ _⟩
        · cases ho
          rw [if_pos (show Region.wanted _ y = true from rfl)]
          have f21 : ρ (.tmp 21) = .slice (some ad) nw cw := hn 1 _ 21 rfl (by kernel_rfl) rfl
          have f22 : ρ (.tmp 22) = .int .i64 (ix : Nat) := hn 2 _ 22 rfl (by kernel_rfl) rfl
          exact does_ok (v := .pointer (some (ad.add ix))) (w' := w2) (by simp [go_sem, hreg.const, f21, f22, hj1, hj2]) ⟨rfl, Below.refl _ _⟩
        · cases ho
          rw [if_pos (show Region.wanted _ y = true from rfl)]
          have f23 : ρ (.tmp 23) = .pointer (some (ad.add ix)) := hn 3 _ 23 rfl (by kernel_rfl) rfl
          have k0 := cell_keep hb2 E0.out
          exact does_ok (v := .slice A8 n8 c8) (w' := w2) (by simp [go_sem, hreg.const, f23, k0]) ⟨rfl, Below.refl _ _⟩
        · cases ho
          rw [if_pos (show Region.wanted _ y = true from rfl)]
          have f20 : ρ (.tmp 20) = confV A n c B m d cp := hn 0 _ 20 rfl (by kernel_rfl) rfl
          have f24 : ρ (.tmp 24) = .slice A8 n8 c8 := hn 4 _ 24 rfl (by kernel_rfl) rfl
          refine does_enter (f := 43) (args := #[confV A n c B m d cp, .slice A8 n8 c8]) (w' := w2) (by simp [go_sem, hreg.func, hreg.const, f20, f24]) ?_
          refine (C25.out w2 hb2).mono ?_
          rintro e w' ⟨rfl, hb⟩
          exact ⟨_, rfl, rfl, hb⟩
        · cases ho
          rw [if_pos (show Region.wanted _ y = true from rfl)]
          have f25 : ρ (.tmp 25) = .string s := hn 5 _ 25 rfl (by kernel_rfl) rfl
          exact ⟨f25, Below.refl _ _⟩
      case refine_2 =>
        intro a w5 hb2 hd hs hfacts hrest
        have q8 : a.tmps.getD 8 undef = .string s := hfacts 6 _ 8 rfl rfl
        have ha := frame_of hd hs hrest [8, 20, 21, 22, 23, 24, 25] (by kernel_rfl)
        simp only [q8, List.foldl, List.setIfInBounds_toArray, List.set_cons_succ, List.set_cons_zero] at ha
        clear q8 hd hs hfacts hrest
        generalize a.tmps.getD = gg at ha
        subst ha
        have HC5 := Lib.hid ((hb2.block g (Array.getElem?_eq_some_iff.1 HC4.out).1).trans HC4.out)
        have HB5 := Lib.hid (Below.thn HI.out.1 hb2)
        have HW5 := Lib.hid (HI.out.2.1.below hb2)
        have HO5 := Lib.hid (OwnK.below HI.out.2.2 hb2)
        have CS := Lib.hid (refStop_any A n c B m d cf s w5 (HR.out.below HB5.out) hm)
        rw [← HCP.out] at CS
        obtain ⟨c0, c1, c2⟩ := cells3 HC5.out
        clear hb2 C25
        go_wp2_with fail
        refine CS.out.mono ?_
        rintro e w6 ⟨⟨b, rfl, hbs⟩, hb⟩
        have HC6 := Lib.hid ((hb.block g (Array.getElem?_eq_some_iff.1 HC5.out).1).trans HC5.out)
        have HB6 := Lib.hid (Below.thn HB5.out hb)
        have HW6 := Lib.hid (HW5.out.below hb)
        have HO6 := Lib.hid (OwnK.below HO5.out hb)
        have HBS := Lib.hid hbs
        clear hb hbs CS c0 c1 c2 HC5 HB5 HW5 HO5
        cases b
        case true =>
          have HN : Hid (fltL cf.st (tmG cf (ws.take (ix + 1)) 0) = fltL cf.st (tmG cf (ws.take ix) 0)) := Lib.hid (by
            rw [HST.out]
            exact flt_yes ((HBS.out.1 (by simp)).1))
          go_wp2
          exact ⟨⟨ix + 1, by omega, by simp; try go_num, HC6, Lib.hid ⟨HB6.out, HW6.out, by rw [HN.out]; exact HO6.out⟩⟩, by simp [intOf]; try omega⟩
        case false =>
          have hin : inS cf.st s = false := by
            cases h : inS cf.st s with
            | false => rfl
            | true => exact absurd (HBS.out.2 ⟨h, HMay.out⟩) (by simp)
          have HN : Hid (fltL cf.st (tmG cf (ws.take (ix + 1)) 0) = fltL cf.st (tmG cf (ws.take ix) 0) ++ [(s, ix)]) := Lib.hid (by
            rw [HST.out]
            exact flt_no hin)
          have hfl : (fltL cf.st (tmG cf (ws.take ix) 0)).length ≤ 1000001 := by
            unfold fltL
            rw [List.length_map]
            refine Nat.le_trans (List.length_filter_le _ _) ?_
            rw [tmG_len, List.length_take]
            omega
          have hbA : Below w6.heap.size w6 (w6.alloc (.cells #[.string s, .int .i64 (ix : Nat)] 160)) := (Below.refl _ _).alloc (Nat.le_refl _) _
          have hA := OwnK.below HO6.out hbA
          have hrd := RdK.one (enc := encTk) (sz := 2) w6 160 (s, ix) #[.string s, .int .i64 (ix : Nat)] (0, 0) rfl rfl
          obtain ⟨v1, w7, r1, o1, g1, at1⟩ := run_append_rdK (P := Tryz.prog) (c := 1) w.heap.size 157 157 160 (.agg #[.string .empty, .int .i64 0]) 24 Tryz.underlying157 infoTk rfl (by decide) (by decide) encTk_len encTk_one hA hrd (by omega) (by have := HB6.out.size; simp; omega)
          have key : ∀ (j : Nat) (o : Obj), w6.heap[j]? = some o → (∀ C fr, o ≠ .cells C 160 fr) → w7.heap[j]? = some o := fun j o hj ho => by
            have h1 := (hbA.block j (Array.getElem?_eq_some_iff.1 hj).1).trans hj
            refine (g1.block j (Array.getElem?_eq_some_iff.1 h1).1 (fun e => ?_)).trans h1
            rcases hA.2 with ⟨e2, _⟩ | ⟨g', cap, cur, e2, _, hh, _⟩
            · rw [e2] at e; simp [Value.ownBlock] at e
            · rw [e2] at e
              simp only [Value.ownBlock, Option.some.injEq] at e
              subst e
              rw [h1] at hh
              cases hh
              exact ho _ _ rfl
          have hW7 : WsD w7 w2.heap.size (.slice (some ad) nw cw) ws := by
            obtain ⟨vs, h1, h2, h3, h4⟩ := HW6.out
            exact ⟨vs, (h1.below hbA).kept g1 (rows_apart (h1.below hbA) hA (by decide)), h2, h3, fun i hi hi' => ((h4 i hi hi').below hbA).kept g1 (rows_apart ((h4 i hi hi').below hbA) hA (by decide))⟩
          have HN7 : Hid (w7.heap[g]? = some (.cells #[.slice A n c, .slice B m d, .int .i64 cp] 25 (0, 0)) ∧ Below w.heap.size w w7 ∧ WsD w7 w2.heap.size (.slice (some ad) nw cw) ws ∧ OwnK encTk 2 160 w7 w.heap.size v1 (fltL cf.st (tmG cf (ws.take (ix + 1)) 0))) := Lib.hid
            ⟨key g _ HC6.out (fun C fr e => by cases e), (Below.thn HB6.out hbA).grown g1 (by have := HB6.out.size; simp; omega) (fun j hj => (OwnK.base hA j hj).1), hW7, by rw [HN.out]; exact o1⟩
          clear hbA hA hrd o1 g1 at1 key hW7 hfl hin
          go_wp2_with (at_builtin; refine wpl_append_run rfl _ _ _ rfl rfl rfl r1 ?_)
          exact ⟨⟨ix + 1, by omega, by simp; try go_num, Lib.hid HN7.out.1, Lib.hid HN7.out.2⟩, by simp [intOf]; try omega⟩
    · have HF : Hid (OwnK encTk 2 160 wr w.heap.size u5 (toksL cf l)) := Lib.hid (by
        have h := HI.out.2.2
        rw [List.take_of_length_le (by have := HNW.out; omega), ← HE.out] at h
        exact h)
      go_wp2
      go_ret
      exact ⟨_, rfl, HF.out, HI.out.1⟩
end Go.Proofs.YtkkeodlnejckjaaGreat
