/- Rows of words. -/
import Derived.Test.YtaaddckhldccjaaRowsA
import Derived.Test.YtaaddckhldccjaaLive
import Derived.Test.YtaaddckhldccjaaRowsL
namespace Go.Proofs.Ytaaddckhldccjaa
open Go.RowKit
set_option linter.unusedVariables false
set_option linter.unusedSimpArgs false

/-- The words' lists so far, their places, and what they are. -/
structure RwJ (w : World) (T : List TV) (n : Nat) (ws : List Nat) (sk : Nat → Bool) (k : Nat) (lv ov : Value) (L : List VV) (lo : List Int) (W : World) : Prop where
  r : RwI w lv ov L lo W
  eqL : L.map (·.l) = (ix sk k).map fun i => pstBy (wordAt T (ws.getD i 0)) n
  eqo : lo = (ix sk k).map Int.ofNat
theorem RwJ.lens {w : World} {T : List TV} {n : Nat} {ws : List Nat} {sk : Nat → Bool} {k : Nat} {lv ov : Value} {L : List VV} {lo : List Int} {W : World} (h : RwJ w T n ws sk k lv ov L lo W) : L.length ≤ k ∧ lo.length ≤ k := by
  have h1 := congrArg List.length h.eqL
  have h2 := congrArg List.length h.eqo
  rw [List.length_map, List.length_map] at h1
  rw [List.length_map] at h2
  have := ix_len sk k
  omega
set_option maxRecDepth 100000 in
set_option maxHeartbeats 16000000 in
theorem listRows_any (A : Option Addr) (n c : Nat) (T : List TV) (B : Option Addr) (m d : Nat) (ws : List Nat) (skip : Nat) (w : World) (hT : RdTT w A n T) (hW : RdB w B m ws) (hs : skip < 256) (hX : ∀ x ∈ T, x.n ≤ 1048576) :
    Calls Try.prog 3 #[.slice A n c, .slice B m d, .int .u8 (skip : Nat)] w fun e w' => e = .returned (.bool true) ∧ Below w.heap.size w w' := by
  have HT := Lib.hid hT
  have HW := Lib.hid hW
  have HX := Lib.hid hX
  have hmx := hW.max
  have hnx := hT.rd.max
  have C := Lib.hid (live_any w)
  clear hT hW hX
  go_enter Try.func3, Try.ntmps3
  go_wp2_with fail
  refine C.out.mono ?_
  rintro e0 w1 ⟨rfl, hb⟩
  have HB1 := Lib.hid hb
  have C2 := Lib.hid (live_any w1)
  clear C hb
  have done : ∀ (a : Bool), True := fun _ => trivial
  by_cases g1 : (n : Int) > 20
  · go_wp2_with fail
    refine C2.out.mono ?_
    rintro e1 w2 ⟨rfl, hb⟩
    have HB2 := Lib.hid (Below.thn HB1.out hb)
    clear hb
    go_wp2
    go_ret
    exact ⟨rfl, HB2.out⟩
  by_cases g2 : (m : Int) < 1
  · go_wp2_with fail
    refine C2.out.mono ?_
    rintro e1 w2 ⟨rfl, hb⟩
    have HB2 := Lib.hid (Below.thn HB1.out hb)
    clear hb
    go_wp2
    go_ret
    exact ⟨rfl, HB2.out⟩
  by_cases g3 : (m : Int) > 6
  · go_wp2_with fail
    refine C2.out.mono ?_
    rintro e1 w2 ⟨rfl, hb⟩
    have HB2 := Lib.hid (Below.thn HB1.out hb)
    clear hb
    go_wp2
    go_ret
    exact ⟨rfl, HB2.out⟩
  clear C2
  go_wp2_with fail
  go_loopw [7, 8, 41] (fun lv ov x wr => ∃ k : Nat, x = .int .i64 (k : Nat) ∧ k ≤ m ∧ Hid (∃ L lo, RwJ w T n ws (skB skip) k lv ov L lo wr)) (fun _ _ x _ => m - (intOf x).toNat)
  case atStart => exact ⟨0, rfl, Nat.zero_le _, Lib.hid ⟨[], [], ⟨HB1.out, OwnL.nil _ _ _ _, OwnL.nil _ _ _ _, fun x hx => by cases hx⟩, rfl, rfl⟩⟩
  case round =>
    obtain ⟨k, rfl, hk, HI⟩ := hrel
    obtain ⟨L, lo, h1⟩ := HI.out
    have HR := Lib.hid h1
    clear h1 HI
    by_cases hlt : (k : Int) < (m : Int)
    · obtain ⟨ae, wd, eB, HWD, hwd, c0⟩ := (HW.out.below HR.out.r.be).at (k := k) (by omega)
      subst eB
      by_cases k0 : (k : Int) > 0
      · by_cases hsk : skB skip k = true
        · have hq : (bits .and .u8 ((skip : Int) / 2 ^ k) 1 == 1) = true := hsk
          have HN : Hid (∃ L2 lo2, RwJ w T n ws (skB skip) (k + 1) u7 u8 L2 lo2 wr) := Lib.hid ⟨L, lo, HR.out.r, by rw [ix_no (by omega) hsk]; exact HR.out.eqL, by rw [ix_no (by omega) hsk]; exact HR.out.eqo⟩
          clear hsk
          go_wp2_with fail
          exact ⟨⟨k + 1, by simp; try go_num, by omega, HN⟩, by simp [intOf]; omega⟩
        have hsk2 : skB skip k = false := by simpa using hsk
        have hq : (bits .and .u8 ((skip : Int) / 2 ^ k) 1 == 1) = false := hsk2
        have HSK := Lib.hid hsk2
        clear hsk hsk2
        have C := Lib.hid (postings_any A n c T wd wr (HT.out.below HR.out.r.be) (by omega) HX.out hwd)
        have HIX : Hid (ix (skB skip) (k + 1) = ix (skB skip) k ++ [k]) := Lib.hid (ix_yes (.inr HSK.out))
        go_wp2_with fail
        refine C.out.mono ?_
        rintro e2 W1 ⟨v, rfl, ⟨os, hj, hje⟩, hb⟩
        obtain ⟨Av, cv, ev, l1, l2, _⟩ := OwnK.rd (enc := encD) (fun _ => rfl) hj.own
        subst ev
        have hos : os.length ≤ 20 := by
          have h1 := congrArg List.length hje
          rw [List.length_map] at h1
          have h2 := pstBy_len (wordAt T wd) n
          omega
        obtain ⟨hl1, hl2⟩ := HR.out.lens
        obtain ⟨A', c', W2, r1, hc1, hc2, B', d', W3, r3, hd1, hd2, hR⟩ := HR.out.r.push hb hj rfl hos (k : Int) (by omega) (by omega)
        have HN : Hid (∃ L2 lo2, RwJ w T n ws (skB skip) (k + 1) (.slice A' (L.length + 1) c') (.slice B' (lo.length + 1) d') L2 lo2 W3) := Lib.hid ⟨_, _, hR, by rw [HIX.out, List.map_append, List.map_append, HR.out.eqL, List.map_cons, List.map_nil, List.map_cons, List.map_nil, ← HWD.out, hje], by rw [HIX.out, List.map_append, ← HR.out.eqo]; rfl⟩
        obtain ⟨Ao, co, Bo, eo, e1, e2, _, _⟩ := HR.out.r.rd (Below.refl _ _)
        subst e1 e2
        clear hR hj hje C hb
        go_wp2_with (first | (at_builtin; refine wpl_append_run rfl _ _ _ rfl rfl rfl r1 ?_) | (at_builtin; refine wpl_append_run rfl _ _ _ rfl rfl rfl r3 ?_) | fail)
        exact ⟨⟨k + 1, by simp; try go_num, by omega, HN⟩, by simp [intOf]; omega⟩
      · obtain rfl : k = 0 := by omega
        rw [Addr.add_zero'] at c0
        have C := Lib.hid (postings_any A n c T wd wr (HT.out.below HR.out.r.be) (by omega) HX.out hwd)
        have HIX : Hid (ix (skB skip) (0 + 1) = ix (skB skip) 0 ++ [0]) := Lib.hid (ix_yes (.inl rfl))
        go_wp2_with fail
        refine C.out.mono ?_
        rintro e2 W1 ⟨v, rfl, ⟨os, hj, hje⟩, hb⟩
        obtain ⟨Av, cv, ev, l1, l2, _⟩ := OwnK.rd (enc := encD) (fun _ => rfl) hj.own
        subst ev
        have hos : os.length ≤ 20 := by
          have h1 := congrArg List.length hje
          rw [List.length_map] at h1
          have h2 := pstBy_len (wordAt T wd) n
          omega
        obtain ⟨hl1, hl2⟩ := HR.out.lens
        obtain ⟨A', c', W2, r1, hc1, hc2, B', d', W3, r3, hd1, hd2, hR⟩ := HR.out.r.push hb hj rfl hos ((0 : Nat) : Int) (by omega) (by omega)
        have HN : Hid (∃ L2 lo2, RwJ w T n ws (skB skip) (0 + 1) (.slice A' (L.length + 1) c') (.slice B' (lo.length + 1) d') L2 lo2 W3) := Lib.hid ⟨_, _, hR, by rw [HIX.out, List.map_append, List.map_append, HR.out.eqL, List.map_cons, List.map_nil, List.map_cons, List.map_nil, ← HWD.out, hje], by rw [HIX.out, List.map_append, ← HR.out.eqo]; rfl⟩
        obtain ⟨Ao, co, Bo, eo, e1, e2, _, _⟩ := HR.out.r.rd (Below.refl _ _)
        subst e1 e2
        clear hR hj hje C hb
        go_wp2_with (first | (at_builtin; refine wpl_append_run rfl _ _ _ rfl rfl rfl r1 ?_) | (at_builtin; refine wpl_append_run rfl _ _ _ rfl rfl rfl r3 ?_) | fail)
        exact ⟨⟨0 + 1, by simp; try go_num, by omega, HN⟩, by simp [intOf]; omega⟩
    · obtain rfl : m = k := by omega
      obtain ⟨Al, cl, Bo, do_, e1, e2, _, _⟩ := HR.out.r.rd (Below.refl _ _)
      subst e1 e2
      obtain ⟨nl, hnl⟩ : ∃ nl, nl = lo.length := ⟨_, rfl⟩
      obtain ⟨nL, hnL⟩ : ∃ nL, nL = L.length := ⟨_, rfl⟩
      have HNL := Lib.hid (And.intro hnl hnL)
      have hRlen := HR.out.lens
      have hnl9 : nl ≤ 6 := by omega
      have HRO : Hid (∀ W', Below wr.heap.size wr W' → RdVV W' Al nL L ∧ Rd encI W' Bo nl lo) := Lib.hid (fun W' hb => by
        obtain ⟨A5, c5, B5, d5, e5, e6, h5, h6⟩ := HR.out.r.rd hb
        cases e5; cases e6
        rw [hnl, hnL]
        exact ⟨h5, h6⟩)
      rw [← hnl, ← hnL]
      have HLO : Hid (lo = (ix (skB skip) m).map Int.ofNat) := Lib.hid HR.out.eqo
      have HLL : Hid (L.map (·.l) = (ix (skB skip) m).map fun i => pstBy (wordAt T (ws.getD i 0)) n) := Lib.hid HR.out.eqL
      have HN20 : Hid (∀ x ∈ L, x.n ≤ 20) := Lib.hid fun x hx => (HR.out.r.rob x hx).1
      have HB2 := Lib.hid HR.out.r.be
      obtain ⟨ixs, hixs⟩ : ∃ ixs, ixs = ix (skB skip) m := ⟨_, rfl⟩
      rw [← hixs] at HLO HLL
      have HIXS := Lib.hid hixs
      clear HR hnl hnL hRlen hixs
      obtain ⟨Wr, hWr⟩ : ∃ Wr, Wr = wr := ⟨_, rfl⟩
      subst hWr
      go_wp2_with fail
      go_loopw [11, 69] (fun o x wr => ∃ k : Nat, x = .int .i64 (k : Nat) ∧ k ≤ n ∧ Hid (∃ os, OutJ Wr.heap.size o os wr ∧ os.map (·.1) = pstBy (wantAt T ws ixs) k ∧ Below Wr.heap.size Wr wr) ∧ Hid (∀ i, i < k → (txA T i).length ≤ 200)) (fun _ x _ => n - (intOf x).toNat)
      case atStart => exact ⟨0, rfl, Nat.zero_le _, Lib.hid ⟨[], OutJ.nil _ _, rfl, Below.refl _ _⟩, Lib.hid (fun i hi => absurd hi (Nat.not_lt_zero _))⟩
      case round =>
        obtain ⟨k, rfl, hk, HI, HTX⟩ := hrel
        obtain ⟨os, h1, h2, h3⟩ := HI.out
        have HO := Lib.hid h1
        have HE := Lib.hid h2
        have HBR := Lib.hid h3
        have HB := Lib.hid (Below.thn HB2.out h3)
        clear h1 h2 h3
        by_cases hlt : (k : Int) < (n : Int)
        · obtain ⟨ad, x, rfl, HXX, HXO, hxn, x0⟩ := (HT.out.below HB.out).at (k := k) (by omega)
          by_cases h200 : (x.n : Int) > 200
          · go_wp2_with fail
            go_ret
            exact ⟨rfl, HB.out⟩
          have HTX2 : Hid (∀ i, i < k + 1 → (txA T i).length ≤ 200) := Lib.hid (fun i hi => by
            rcases Nat.lt_succ_iff_lt_or_eq.1 hi with h9 | rfl
            · exact HTX.out i h9
            · rw [HXX.out.2, HXO.out.rd.len]; omega)
          have hz : ∀ (W : World), (Instr.build 32 #[(0, .int .u32 ((k : Int) + 1))]).run Try.prog W = .ok (.agg #[.int .u32 ((k : Int) + 1), .slice none 0 0]) W := fun W => run_build W 32 _ _ (by kernel_rfl)
          obtain ⟨W1, hW1⟩ : ∃ W1, W1 = wr := ⟨_, rfl⟩
          subst hW1
          obtain ⟨gp, hgp⟩ : ∃ gp, gp = W1.heap.size := ⟨_, rfl⟩
          obtain ⟨wA, hwA⟩ : ∃ wA, wA = W1.alloc (.cells #[.int .u32 ((k : Int) + 1), .slice none 0 0] 32) := ⟨_, rfl⟩
          have hbA : Below W1.heap.size W1 wA := by rw [hwA]; exact (Below.refl _ _).alloc (Nat.le_refl _) _
          have hbx : Box2 wA gp 32 (.int .u32 ((k : Int) + 1)) (.slice none 0 0) := by rw [hwA, hgp]; exact Box2.new _ _ _ _
          have HI0 : Hid (∃ v, Box2 wA gp 32 (.int .u32 ((k : Int) + 1)) v ∧ OwnI wA W1.heap.size v (rowIn x.l ws ixs 0) ∧ Below W1.heap.size W1 wA) := Lib.hid ⟨_, hbx, OwnL.nil _ _ _ _, hbA⟩
          have HWA := Lib.hid hwA
          have HGP := Lib.hid hgp
          clear hwA hgp hbA hbx
          go_wp2_with fail
          rw [← HWA.out, ← HGP.out]
          clear x0 hz
          go_loopw [83] (fun y wq => ∃ j : Nat, y = .int .i64 (j : Nat) ∧ j ≤ x.n ∧ Hid (∃ v, Box2 wq gp 32 (.int .u32 ((k : Int) + 1)) v ∧ OwnI wq W1.heap.size v (rowIn x.l ws ixs j) ∧ Below W1.heap.size W1 wq)) (fun y _ => x.n - (intOf y).toNat)
          case atStart => exact ⟨0, rfl, Nat.zero_le _, HI0⟩
          case round =>
            obtain ⟨j, rfl, hj, HJ⟩ := hrel
            obtain ⟨v, h1, h2, h3⟩ := HJ.out
            have HX2 := Lib.hid h1
            have HV := Lib.hid h2
            have HBJ := Lib.hid h3
            clear h1 h2 h3 HJ
            by_cases hlj : (j : Int) < (x.n : Int)
            · obtain ⟨W5, hW5⟩ : ∃ W5, W5 = wr := ⟨_, rfl⟩
              subst hW5
              go_wp2_with fail
              go_loopw [16, 88] (fun z y wq => ∃ (q : Nat) (bb : Bool), y = .int .i64 (q : Nat) ∧ q ≤ nl ∧ z = .bool bb ∧ Hid (bb = (ixs.take q).all (frB x.l ws j) ∧ Below W5.heap.size W5 wq)) (fun _ y _ => nl - (intOf y).toNat)
              case atStart => exact ⟨0, true, rfl, Nat.zero_le _, rfl, Lib.hid ⟨by simp, Below.refl _ _⟩⟩
              case round =>
                obtain ⟨q, bb, rfl, hq, rfl, HQ⟩ := hrel
                have HBQ := Lib.hid (Below.thn HBR.out (Below.thn HBJ.out HQ.out.2))
                by_cases hlq : (q : Int) < (nl : Int)
                · obtain ⟨ao, oi, rfl, HOI, y0⟩ := rdI_at (HRO.out _ HBQ.out).2 (k := q) (by omega)
                  obtain ⟨o, ho, HOX⟩ : ∃ o : Nat, oi = (o : Int) ∧ Hid (∃ hl : q < ixs.length, ixs[q] = o) := by
                    obtain ⟨hl, e9⟩ := HOI.out
                    have hl2 : q < ixs.length := by have := hl; rw [HLO.out, List.length_map] at this; exact this
                    refine ⟨ixs[q], ?_, Lib.hid ⟨hl2, rfl⟩⟩
                    rw [← e9]
                    simp [HLO.out]
                  subst ho
                  have hom : o < m := by
                    obtain ⟨hl, e9⟩ := HOX.out
                    exact ix_lt (sk := skB skip) (by rw [← HIXS.out, ← e9]; exact List.getElem_mem hl)
                  cases bb
                  · have HN : Hid (false = (ixs.take (q + 1)).all (frB x.l ws j)) := Lib.hid (by rw [all_step HOX.out, ← HQ.out.1]; rfl)
                    go_upto_region 25 with fail
                    go_quiet (fail)
                    clear y0
                    go_wp2
                    exact ⟨⟨q + 1, false, by simp; try go_num, by omega, rfl, Lib.hid ⟨HN.out, below_drewN HQ.out.2 nq⟩⟩, by simp [intOf]; omega⟩
                  have hxl := HXO.out.rd.len
                  by_cases hin : (o : Int) < (x.n : Int) - (j : Int)
                  case neg =>
                    have hq1 : decide ((o : Int) < (x.n : Int) - (j : Int)) = false := decide_eq_false hin
                    have HN : Hid (false = (ixs.take (q + 1)).all (frB x.l ws j)) := Lib.hid (by rw [all_step HOX.out, ← HQ.out.1]; unfold frB; rw [decide_eq_false (show ¬ j + o < x.l.length by omega)]; rfl)
                    go_upto_region 25 with fail
                    go_quiet (fail)
                    clear y0
                    go_wp2
                    exact ⟨⟨q + 1, false, by simp; try go_num, by omega, rfl, Lib.hid ⟨HN.out, below_drewN HQ.out.2 nq⟩⟩, by simp [intOf]; omega⟩
                  have hq1 : decide ((o : Int) < (x.n : Int) - (j : Int)) = true := decide_eq_true hin
                  obtain ⟨fo, hfo⟩ : ∃ fo, fo = j + o := ⟨_, rfl⟩
                  have hfs : (j : Int) + (o : Int) = (fo : Int) := by omega
                  obtain ⟨at9, b, eA, HXB, hb256, c0⟩ := (HXO.out.rd.below (Below.thn HBJ.out HQ.out.2)).at (k := fo) (by omega)
                  obtain ⟨aw, wd, eB, HWD, hwd256, c1⟩ := (HW.out.below (Below.thn HB2.out HBQ.out)).at (k := o) hom
                  subst eB
                  rw [eA]
                  have HFO := Lib.hid hfo
                  have hfx : fo < x.n := by omega
                  clear hfo
                  by_cases hbw : b = wd
                  · have hbe : ((b : Int) == (wd : Int)) = true := by simp; omega
                    have HN : Hid (true = (ixs.take (q + 1)).all (frB x.l ws j)) := Lib.hid (by rw [all_step HOX.out, ← HQ.out.1]; unfold frB; rw [decide_eq_true (show j + o < x.l.length by omega), decide_eq_true (show x.l.getD (j + o) 0 = ws.getD o 0 by rw [← HFO.out, ← HXB.out, ← HWD.out, hbw])]; rfl)
                    clear hbw
                    go_upto_region 25 with fail
                    go_quiet (fail)
                    clear y0 c0 c1
                    go_wp2
                    exact ⟨⟨q + 1, true, by simp; try go_num, by omega, rfl, Lib.hid ⟨HN.out, below_drewN HQ.out.2 nq⟩⟩, by simp [intOf]; omega⟩
                  · have hbe : ((b : Int) == (wd : Int)) = false := by simp; omega
                    have HN : Hid (false = (ixs.take (q + 1)).all (frB x.l ws j)) := Lib.hid (by rw [all_step HOX.out, ← HQ.out.1]; unfold frB; rw [decide_eq_true (show j + o < x.l.length by omega), decide_eq_false (show ¬ x.l.getD (j + o) 0 = ws.getD o 0 by rw [← HFO.out, ← HXB.out, ← HWD.out]; exact hbw)]; rfl)
                    clear hbw
                    go_upto_region 25 with fail
                    go_quiet (fail)
                    clear y0 c0 c1
                    go_wp2
                    exact ⟨⟨q + 1, false, by simp; try go_num, by omega, rfl, Lib.hid ⟨HN.out, below_drewN HQ.out.2 nq⟩⟩, by simp [intOf]; omega⟩
                · have HFB : Hid (bb = fromB x.l ws ixs j) := Lib.hid (by
                    rw [HQ.out.1, List.take_of_length_le (by have := HNL.out.1; rw [HLO.out, List.length_map] at this; omega)]; rfl)
                  have HX3 := Lib.hid (HX2.out.below HQ.out.2)
                  have HV3 := Lib.hid (OwnL.below HV.out HQ.out.2)
                  have HBJ3 := Lib.hid (Below.thn HBJ.out HQ.out.2)
                  obtain ⟨g0, g1', g2', g3'⟩ := HX3.out.facts
                  cases bb
                  · have HN : Hid (∃ v, Box2 wr gp 32 (.int .u32 ((k : Int) + 1)) v ∧ OwnI wr W1.heap.size v (rowIn x.l ws ixs (j + 1)) ∧ Below W1.heap.size W1 wr) := Lib.hid ⟨v, HX3.out, by rw [rowIn_no HFB.out.symm]; exact HV3.out, HBJ3.out⟩
                    go_wp2
                    exact ⟨⟨j + 1, by simp; try go_num, by omega, HN⟩, by simp [intOf]; omega⟩
                  · obtain ⟨Av, cv, rfl, lo2, mo, _⟩ := OwnL.rd HV3.out
                    obtain ⟨A', c', w5, r5, o5, hb5, hc5, hc6, hg5⟩ := push_i (j : Int) HV3.out HBJ3.out (by have := rowIn_len x.l ws ixs j; omega)
                    have hn1 := Box2.not_row HX3.out (show 32 ≠ 3 by decide) HV3.out
                    have b5 := HX3.out.kept hg5 hn1
                    have hn2 := Box2.not_row b5 (show 32 ≠ 3 by decide) o5
                    obtain ⟨y0, y1, y2, y3⟩ := b5.facts
                    have hgw : W1.heap.size ≤ gp := by rw [HGP.out]; exact Nat.le_refl _
                    have HN : Hid (∃ v, Box2 (w5.setCell ⟨gp, 1, none⟩ (.slice A' ((rowIn x.l ws ixs j).length + 1) c')) gp 32 (.int .u32 ((k : Int) + 1)) v ∧ OwnI (w5.setCell ⟨gp, 1, none⟩ (.slice A' ((rowIn x.l ws ixs j).length + 1) c')) W1.heap.size v (rowIn x.l ws ixs (j + 1)) ∧ Below W1.heap.size W1 (w5.setCell ⟨gp, 1, none⟩ (.slice A' ((rowIn x.l ws ixs j).length + 1) c'))) := Lib.hid
                      ⟨_, b5.set1 _, by rw [rowIn_yes HFB.out.symm]; exact OwnL.kept o5 (grownBy_set _ _ _) (.inr hn2.symm), hb5.setCell hgw _⟩
                    clear hn1 hn2 b5 hgw o5 hb5 hg5
                    go_wp2_with (at_builtin; refine wpl_append_run rfl _ _ _ rfl rfl rfl r5 ?_)
                    exact ⟨⟨j + 1, by simp; try go_num, by omega, HN⟩, by simp [intOf]; omega⟩
            · obtain rfl : j = x.n := by omega
              have hwa : wantAt T ws ixs k = rowIn x.l ws ixs x.n := by unfold wantAt; rw [HXX.out.2, HXO.out.rd.len]
              have HV2 : Hid (OwnI wr Wr.heap.size v (rowIn x.l ws ixs x.n)) := Lib.hid (OwnL.mono HV.out HBR.out.size)
              have HBw := Lib.hid (Below.thn HB.out HBJ.out)
              have HBWr := Lib.hid (Below.thn HBR.out HBJ.out)
              have HOw := Lib.hid (HO.out.below HBJ.out)
              obtain ⟨f0, f1, _, _⟩ := HX2.out.facts
              obtain ⟨Av, cv, rfl, l1, l2, _⟩ := OwnL.rd HV2.out
              obtain ⟨np, hnp⟩ : ∃ np, np = (rowIn x.l ws ixs x.n).length := ⟨_, rfl⟩
              rw [← hnp] at l1 f1 HV2
              have HNP := Lib.hid hnp
              have HWAt := Lib.hid hwa
              clear hnp hwa HV HX2
              by_cases hnp0 : (np : Int) > 0
              · have hne : wantAt T ws ixs k ≠ [] := fun e9 => by rw [HWAt.out] at e9; have := HNP.out; rw [e9] at this; simp at this; omega
                obtain ⟨A', c', W4, r4, ho4, hb4, hc4, hc5⟩ := HOw.out.push HBWr.out ((k + 1, wantAt T ws ixs k), Av, np, cv) (by rw [HWAt.out]; exact HV2.out) (show k + 1 < 4294967296 by omega) (by
                  have h1 := pstBy_len (wantAt T ws ixs) k
                  rw [← HE.out, List.length_map] at h1
                  omega)
                dsimp only at r4
                rw [show ((k + 1 : Nat) : Int) = (k : Int) + 1 by omega] at r4
                obtain ⟨Ao, co, eo, lo1, mo1, _⟩ := OwnK.rd (enc := encD) (fun _ => rfl) HOw.out.own
                subst eo
                have HN : Hid (∃ os2, OutJ Wr.heap.size (.slice A' (os.length + 1) c') os2 W4 ∧ os2.map (·.1) = pstBy (wantAt T ws ixs) (k + 1) ∧ Below Wr.heap.size Wr W4) := Lib.hid ⟨_, ho4, by rw [pstBy_yes hne, List.map_append, HE.out]; rfl, hb4⟩
                clear hne ho4 hb4
                go_wp2_with (at_builtin; refine wpl_append_run rfl _ _ _ rfl rfl rfl r4 ?_)
                exact ⟨⟨k + 1, by simp; try go_num, by omega, HN, HTX2⟩, by simp [intOf]; omega⟩
              · have hno : wantAt T ws ixs k = [] := by rw [HWAt.out]; exact List.eq_nil_of_length_eq_zero (by have := HNP.out; omega)
                have HN : Hid (∃ os, OutJ Wr.heap.size u11 os wr ∧ os.map (·.1) = pstBy (wantAt T ws ixs) (k + 1) ∧ Below Wr.heap.size Wr wr) := Lib.hid ⟨os, HOw.out, by rw [pstBy_no hno]; exact HE.out, HBWr.out⟩
                clear hno
                go_wp2
                exact ⟨⟨k + 1, by simp; try go_num, by omega, HN, HTX2⟩, by simp [intOf]; omega⟩
        · obtain rfl : n = k := by omega
          have hlsw := HO.out.ls
          rw [HE.out] at hlsw
          obtain ⟨A5, n5, c5, e5, q1, q2, q3⟩ := hlsw
          subst e5
          have HS := Lib.hid q3
          obtain ⟨hrl, hro⟩ := HRO.out wr HBR.out
          obtain ⟨law1, law2⟩ := rows_law T n ws (skB skip) m L lo (by rw [← HIXS.out]; exact HLL.out) (by rw [← HIXS.out]; exact HLO.out) (by omega) (by omega) (by omega) HTX.out
          have C := Lib.hid (Phrase_any Bo nl do_ lo Al nL cl L wr hro hrl (by
            have h9 := HNL.out.2
            have h8 := congrArg List.length HLL.out
            rw [List.length_map, List.length_map, HIXS.out] at h8
            have := ix_len (skB skip) m
            omega) (fun x hx => by have := HN20.out x hx; omega))
          rw [law1, law2, ← HIXS.out] at C
          clear hrl hro law1 law2 q3
          go_wp2_with fail
          refine C.out.mono ?_
          rintro e9 W9 ⟨v, rfl, ⟨Ag, ng, cg, rfl, p1, p2, p3⟩, hb9⟩
          have C3 := Lib.hid (SameAll_any Ag A5 ng n5 cg c5 _ _ W9 p3 (HS.out.below hb9))
          rw [decide_eq_true rfl] at C3
          have HB9 := Lib.hid (Below.thn HB.out hb9)
          clear p3 hb9 C
          go_wp2_with fail
          refine C3.out.mono ?_
          rintro e8 W8 ⟨rfl, hb8⟩
          have HB8 := Lib.hid (Below.thn HB9.out hb8)
          clear hb8 C3
          go_wp2
          go_ret
          exact ⟨rfl, HB8.out⟩
end Go.Proofs.Ytaaddckhldccjaa
