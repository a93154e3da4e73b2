/- The words of a text, by the document: the walk. -/
import Derived.Test.YtbmdjmnjbflfeaaRefWd
import Derived.BigQuiet
namespace Go.Proofs.Ytbmdjmnjbflfeaa
open Go.RowKit Go.Shelf
set_option linter.unusedVariables false
set_option linter.unusedSimpArgs false

theorem WsD.byV {w : World} {base : Nat} {v : Value} {d : List (List Nat)} (h : WsD w base v d) : ∃ A c, v = .slice A d.length c ∧ d.length ≤ c := by
  obtain ⟨vs, h1, h2, _⟩ := h
  obtain ⟨A, c, e, h3, _⟩ := h1.rd
  exact ⟨A, c, by rw [e, h2], by omega⟩
/-- The runes of a text stand apart from a word that grows. -/
structure WdI (w : World) (base : Nat) (v lv : Value) (rs : List Nat) (i : Nat) (wr : World) : Prop where
  below : Below w.heap.size w wr
  runes : OwnL encR 21 wr w.heap.size lv rs
  apart : base ≤ wr.heap.size ∧ ∀ k, lv.ownBlock = some k → k < base
  out : ((wdF (rs.take i)).2 = [] → WsD wr base v (wdF (rs.take i)).1) ∧ ((wdF (rs.take i)).2 ≠ [] → WsL wr base v (wdF (rs.take i)).1 (wdF (rs.take i)).2)
theorem ws_sep {w : World} {base : Nat} {V lv : Value} {c rs : List Nat} {b' : Nat} (h : OwnL encR 21 w base V c) (hl : ∀ k, lv.ownBlock = some k → k < base) : ∀ k, V.ownBlock = some k → lv.ownBlock ≠ some k := by
  intro k hk e
  have := (h.base k hk).1
  have := hl k e
  omega
theorem wdF_len (rs : List Nat) : (wdF rs).1.length ≤ rs.length ∧ (wdF rs).2.length ≤ rs.length := by
  have key : ∀ (rs : List Nat) (d : List (List Nat)) (c : List Nat), (rs.foldl wdS (d, c)).1.length + (rs.foldl wdS (d, c)).2.length ≤ d.length + c.length + rs.length := by
    intro rs
    induction rs with
    | nil => intro d c; simp
    | cons r rs ih =>
      intro d c
      rw [List.foldl_cons]
      have h := ih (wdS (d, c) r).1 (wdS (d, c) r).2
      have h2 : (wdS (d, c) r).1.length + (wdS (d, c) r).2.length ≤ d.length + c.length + 1 := by
        unfold wdS
        split
        · simp; omega
        · split
          · simp <;> omega
          · simp <;> omega
      simp only [List.length_cons]
      have e : (wdS (d, c) r) = ((wdS (d, c) r).1, (wdS (d, c) r).2) := rfl
      rw [← e] at h
      omega
  have := key rs [] []
  simp only [List.length_nil] at this
  unfold wdF
  omega
set_option maxRecDepth 100000 in
set_option maxHeartbeats 8000000 in
theorem refWords_any (A : Option Addr) (n c : Nat) (l : List Nat) (w : World) (hl : RdB w A n l) (hc : n ≤ c) (hn : n ≤ 10000000) (hc2 : c ≤ 9223372036854775807) :
    Calls Try.prog 38 #[.slice A n c] w fun e w' => ∃ v, e = .returned v ∧ WsD w' w.heap.size v (wordsL l) ∧ Below w.heap.size w w' := by
  have C := Lib.hid (refRn_any A n c l w hl hc hn hc2)
  have hll := hl.len
  have hrl := rnsL_len l
  obtain ⟨rs, hrs⟩ : ∃ rs, rs = rnsL l := ⟨_, rfl⟩
  have HRS := Lib.hid hrs
  rw [← hrs] at C hrl
  have HRL := Lib.hid (show rs.length ≤ 10000000 by omega)
  clear hl hll hrl hrs
  go_enter Try.func38, Try.ntmps38
  go_wp2_with fail
  refine C.out.mono ?_
  rintro e w1 ⟨lv, rfl, ho, hb⟩
  obtain ⟨A4, c4, hlv, h41, h42, h43⟩ := ho.rd
  obtain ⟨n4, hn4⟩ : ∃ n4, n4 = rs.length := ⟨_, rfl⟩
  obtain ⟨bs, hbs⟩ : ∃ bs, bs = w1.heap.size := ⟨_, rfl⟩
  have HI1 : Hid (WdI w bs (.slice none 0 0) lv rs 0 w1) := Lib.hid ⟨hb, ho, ⟨by omega, fun k hk => by rw [hbs]; exact (ho.base k hk).2⟩, ⟨fun _ => ⟨[], OwnL.nil _ _ _ _, rfl, (fun u hu => by cases hu), fun i hi => by cases hi⟩, fun h => absurd rfl h⟩⟩
  have HBS : Hid (w.heap.size ≤ bs) := Lib.hid (by have := hb.size; omega)
  have HN4 := Lib.hid hn4
  rw [← hn4] at hlv h41
  have hn4b : n4 ≤ 10000000 := by have := HRL.out; omega
  subst hlv
  clear ho hb h43 C hn4 hbs
  go_wp2_with fail
  go_loopw [3, 5] (fun x y wr => ∃ ix : Nat, ix ≤ n4 ∧ y = .int .i64 (ix : Nat) ∧ Hid (WdI w bs x (.slice A4 n4 c4) rs ix wr)) (fun _ y _ => n4 - (intOf y).toNat)
  case atStart => exact ⟨0, Nat.zero_le _, rfl, HI1⟩
  case round =>
    obtain ⟨ix, hi, rfl, HI⟩ := hrel
    by_cases hlt : (ix : Int) < (n4 : Int)
    · have hrd : Rd encR wr A4 n4 rs := by
        obtain ⟨A5, c5, e, _, _, h⟩ := HI.out.runes.rd
        injection e with e1 e2 e3
        subst e1
        rw [HN4.out]
        exact h
      obtain ⟨ad, r, rfl, HX, k0⟩ := rdR_at hrd (k := ix) (by omega)
      have HST := Lib.hid (wdF_take HX.out)
      have hil : ix < n4 := by omega
      cases hlr : letB (r : Int)
      · have HNx : Hid (WdI w bs u3 (.slice (some ad) n4 c4) rs (ix + 1) wr) := Lib.hid ⟨HI.out.below, HI.out.runes, HI.out.apart, by
          rw [HST.out]
          unfold wdS
          rw [if_neg (by rw [hlr]; decide)]
          by_cases hc0 : (wdF (rs.take ix)).2 = []
          · rw [if_pos hc0]
            exact ⟨fun _ => HI.out.out.1 hc0, fun h => absurd rfl h⟩
          · rw [if_neg hc0]
            exact ⟨fun _ => (HI.out.out.2 hc0).done, fun h => absurd rfl h⟩⟩
        have C := Lib.hid (refLetter_f hlr)
        clear hlr hrd
        go_wp2_with fail
        refine (C.out wr).mono ?_
        rintro e w9 ⟨rfl, h9⟩
        obtain rfl := h9.symm
        clear k0 C
        go_wp2
        exact ⟨⟨ix + 1, by omega, by simp; try go_num, HNx⟩, by simp [intOf]; try omega⟩
      · have HLR := Lib.hid hlr
        have C := Lib.hid (refLetter_t hlr)
        have hdl := wdF_len (rs.take ix)
        rw [List.length_take] at hdl
        obtain ⟨d, hd⟩ : ∃ d, d = (wdF (rs.take ix)).1 := ⟨_, rfl⟩
        obtain ⟨cu, hcu⟩ : ∃ cu, cu = (wdF (rs.take ix)).2 := ⟨_, rfl⟩
        have hst := HST.out
        unfold wdS at hst
        rw [if_pos hlr, ← hd, ← hcu] at hst
        have HST2 := Lib.hid hst
        have HDL : Hid (d.length ≤ 10000000 ∧ cu.length ≤ 10000000) := Lib.hid (by rw [hd, hcu]; omega)
        have HOut := Lib.hid HI.out.out
        rw [← hd, ← hcu] at HOut
        have HCU := Lib.hid hcu
        clear hlr hrd hst hd hcu hdl
        by_cases hc0 : cu = []
        · -- a word begins
          have hprev : ix = 0 ∨ ∃ ix' r' : Nat, ix = ix' + 1 ∧ wr.cell? (ad.add ix') = some (.int .i32 (r' : Int)) ∧ letB (r' : Nat) = false := by
            rcases Nat.eq_zero_or_pos ix with h | h
            · exact .inl h
            · right
              obtain ⟨ix', rfl⟩ : ∃ ix', ix = ix' + 1 := ⟨ix - 1, by omega⟩
              have hrd : Rd encR wr (some ad) n4 rs := by
                obtain ⟨A5, c5, e, _, _, h⟩ := HI.out.runes.rd
                injection e with e1 e2 e3
                subst e1
                rw [HN4.out]
                exact h
              obtain ⟨ad', r', e, HX', k1⟩ := rdR_at hrd (k := ix') (by omega)
              injection e with e
              subst e
              exact ⟨ix', r', rfl, k1, (wdF_none HX'.out).1 (by rw [← HCU.out]; exact hc0)⟩
          have hD := HOut.out.1 hc0
          obtain ⟨v9, w9, r9, hL9, kp9, hb9⟩ := wsD_new hD HDL.out.1 HI.out.apart.1
          have HI9 : Hid (WsL w9 bs v9 d [] ∧ OwnL encR 21 w9 w.heap.size (.slice (some ad) n4 c4) rs ∧ Below w.heap.size w w9 ∧ bs ≤ w9.heap.size) := Lib.hid ⟨hL9, kp9 HI.out.runes, HI.out.below.trans (hb9.mono HBS.out), Nat.le_trans HI.out.apart.1 hb9.size⟩
          have HC0 := Lib.hid hc0
          clear hD hL9 kp9 hb9 hc0
          rcases hprev with h0 | ⟨ix', r', h0, k1, hnl⟩
          · have g0 : ((ix : Int) == 0) = true := by simp; omega
            have H0 := Lib.hid h0
            clear h0
            go_wp2_with fail
            refine (C.out wr).mono ?_
            rintro e wz ⟨rfl, h9⟩
            obtain rfl := h9.symm
            go_wp2_with (at_builtin; refine wpl_append_run rfl _ _ _ rfl rfl rfl r9 ?_)
            clear k0 C g0 r9
            obtain ⟨G, cG, V, v1, W2, hv9, hcG, kW0, kW1, r1, kF, kW2, hone, ⟨A', n', c', hv1⟩, ⟨A8, n8, c8, hV8⟩, hL2, hb2, kp2⟩ := wsL_grow (w := w9.drew) (HI9.out.1.below (Below.drew (Below.refl _ _))) r HDL.out.1 (by simp) (show bs ≤ w9.drew.heap.size from HI9.out.2.2.2)
            obtain ⟨nd, hnd⟩ : ∃ nd, nd = d.length := ⟨_, rfl⟩
            rw [← hnd] at hv9 hcG kW0 kW1 kF kW2 hL2 hb2 kp2
            have hsep : ∀ k, V.ownBlock = some k → (Value.slice (some ad) n4 c4).ownBlock ≠ some k := by
              obtain ⟨vs, V', h1, h2, h3, h4, h5, h6⟩ := HI9.out.1
              have e1 := (h1.cellAt' hv9 (by rw [hnd, h2])).symm.trans kW0
              have e2 : V' = V := by injection e1
              subst e2
              exact ws_sep (rs := rs) (b' := 0) h5 HI.out.apart.2
            have hro := kp2 (OwnL.below HI9.out.2.1 (Below.drew (Below.refl _ _))) hsep
            have hND : nd ≤ 10000000 := by have := HDL.out.1; omega
            obtain ⟨W1, hW1⟩ : ∃ W1, W1 = w9.drew.alloc (.cells #[.int .i32 (r : Int)] 21) := ⟨_, rfl⟩
            obtain ⟨n0, hn0⟩ : ∃ n0, n0 = w9.drew.heap.size := ⟨_, rfl⟩
            rw [← hW1] at kW1 r1
            rw [← hn0, hV8] at r1
            have hnd1 : (nd : Int) < (nd : Int) + 1 := by omega
            have hwr : IntKind.i64.wrap (nd : Int) = (nd : Int) := by rw [IntKind.wrap_i64]; omega
            have hnd2 : nd < nd + 1 := by omega
            have kR : w9.drew.cell? (ad.add ix) = some (.int .i32 (r : Int)) := by
              have hrd : Rd encR w9 (some ad) n4 rs := by
                obtain ⟨A5, c5, e, _, _, h⟩ := HI9.out.2.1.rd
                injection e with e1 e2 e3
                subst e1
                rw [HN4.out]
                exact h
              obtain ⟨ad', r', e, HX', k1⟩ := rdR_at hrd (k := ix) (by omega)
              injection e with e
              subst e
              obtain ⟨_, e1⟩ := HX.out
              obtain ⟨_, e2⟩ := HX'.out
              rw [← e1, e2]
              exact k1
            have hj1 : (ix : Int) < (n4 : Int) := hlt
            have hj2 : ix < n4 := hil
            have HFin : Hid (WdI w bs (.slice (some ⟨G, 0, none⟩) (nd + 1) cG) (.slice (some ad) n4 c4) rs (ix + 1) (W2.setCell ⟨G, nd, none⟩ v1)) := Lib.hid ⟨HI9.out.2.2.1.trans ((Below.drew (Below.refl _ _)).trans (hb2.mono HBS.out)), hro, ⟨Nat.le_trans HI9.out.2.2.2 hb2.size, HI.out.apart.2⟩, by
              rw [HST2.out]
              simp only
              refine ⟨fun h => absurd h (by simp), fun _ => ?_⟩
              rw [HC0.out]; exact hL2⟩
            have HV9 := Lib.hid hv9
            subst hv9
            clear hL2 hb2 kp2 hsep hro hone hnd
            refine wp_region_flowJ (by kernel_rfl) (WdF G nd cG ad n4 c4 ix r n0 V v1) (fun _ _ => True) (fun S wq => Det3 w9.drew W1 W2 (W2.setCell ⟨G, nd, none⟩ v1) S wq) (WdF.keep G nd cG ad n4 c4 ix r n0 V v1) ?_ (by kernel_rfl) (by kernel_rfl) ?_ ?_
            case refine_1 => exact ⟨fun _ => rfl, fun h => h.elim, fun h => h.elim, fun h => h.elim⟩
            case refine_2 =>
              intro i o ho ρ y w2 S hJ hnS hneeds hcl hreg hn hf hyb hyn
              have hi := (Array.getElem?_eq_some_iff.1 ho).1
              rcases Nat.lt_or_ge i 18 with hi2 | hi2
              case inr => simp at hi; omega
              obtain rfl | rfl | rfl | rfl | rfl | rfl | rfl | rfl | rfl | rfl | rfl | rfl | rfl | rfl | rfl | rfl | rfl | rfl : i = 0 ∨ i = 1 ∨ i = 2 ∨ i = 3 ∨ i = 4 ∨ i = 5 ∨ i = 6 ∨ i = 7 ∨ i = 8 ∨ i = 9 ∨ i = 10 ∨ i = 11 ∨ i = 12 ∨ i = 13 ∨ i = 14 ∨ i = 15 ∨ i = 16 ∨ i = 17 := by omega
              · cases ho
                rw [if_pos (show Region.wanted _ y = true from rfl)]
                have f3 : ρ (.tmp 3) = .slice (some ⟨G, 0, none⟩) (nd + 1) cG := hf 3 (by kernel_rfl)
                exact ⟨f3, trivial, hJ.next (by decide) (by decide) (by decide)⟩
              · cases ho
                rw [if_pos (show Region.wanted _ y = true from rfl)]
                have f3 : ρ (.tmp 3) = .slice (some ⟨G, 0, none⟩) (nd + 1) cG := hf 3 (by kernel_rfl)
                exact ⟨f3, trivial, hJ.next (by decide) (by decide) (by decide)⟩
              · cases ho
                rw [if_pos (show Region.wanted _ y = true from rfl)]
                have f35 : ρ (.tmp 35) = .slice (some ⟨G, 0, none⟩) (nd + 1) cG := hn 1 _ 35 rfl (by kernel_rfl) rfl
                exact does_ok (v := .int .i64 ((nd : Int) + 1)) (w' := w2) (by simp [go_sem, hreg.const, f35]) ⟨rfl, trivial, hJ.next (by decide) (by decide) (by decide)⟩
              · cases ho
                rw [if_pos (show Region.wanted _ y = true from rfl)]
                have f36 : ρ (.tmp 36) = .int .i64 ((nd : Int) + 1) := hn 2 _ 36 rfl (by kernel_rfl) rfl
                exact does_ok (v := .int .i64 (nd : Nat)) (w' := w2) (by simp [go_sem, hreg.const, f36, hwr]) ⟨rfl, trivial, hJ.next (by decide) (by decide) (by decide)⟩
              · cases ho
                rw [if_pos (show Region.wanted _ y = true from rfl)]
                have f3 : ρ (.tmp 3) = .slice (some ⟨G, 0, none⟩) (nd + 1) cG := hf 3 (by kernel_rfl)
                exact ⟨f3, trivial, hJ.next (by decide) (by decide) (by decide)⟩
              · cases ho
                rw [if_pos (show Region.wanted _ y = true from rfl)]
                have f3 : ρ (.tmp 3) = .slice (some ⟨G, 0, none⟩) (nd + 1) cG := hf 3 (by kernel_rfl)
                exact ⟨f3, trivial, hJ.next (by decide) (by decide) (by decide)⟩
              · cases ho
                rw [if_pos (show Region.wanted _ y = true from rfl)]
                have f39 : ρ (.tmp 39) = .slice (some ⟨G, 0, none⟩) (nd + 1) cG := hn 5 _ 39 rfl (by kernel_rfl) rfl
                exact does_ok (v := .int .i64 ((nd : Int) + 1)) (w' := w2) (by simp [go_sem, hreg.const, f39]) ⟨rfl, trivial, hJ.next (by decide) (by decide) (by decide)⟩
              · cases ho
                rw [if_pos (show Region.wanted _ y = true from rfl)]
                have f40 : ρ (.tmp 40) = .int .i64 ((nd : Int) + 1) := hn 6 _ 40 rfl (by kernel_rfl) rfl
                exact does_ok (v := .int .i64 (nd : Nat)) (w' := w2) (by simp [go_sem, hreg.const, f40, hwr]) ⟨rfl, trivial, hJ.next (by decide) (by decide) (by decide)⟩
              · cases ho
                rw [if_pos (show Region.wanted _ y = true from rfl)]
                have f38 : ρ (.tmp 38) = .slice (some ⟨G, 0, none⟩) (nd + 1) cG := hn 4 _ 38 rfl (by kernel_rfl) rfl
                have f41 : ρ (.tmp 41) = .int .i64 (nd : Nat) := hn 7 _ 41 rfl (by kernel_rfl) rfl
                exact does_ok (v := .pointer (some ⟨G, nd, none⟩)) (w' := w2) (by simp [go_sem, hreg.const, f38, f41, hnd1, hnd2, hcG]) ⟨rfl, trivial, hJ.next (by decide) (by decide) (by decide)⟩
              · cases ho
                rw [if_pos (show Region.wanted _ y = true from rfl)]
                have f42 : ρ (.tmp 42) = .pointer (some ⟨G, nd, none⟩) := hn 8 _ 42 rfl (by kernel_rfl) rfl
                have hn15 : ¬ S 15 := fun h => hnS (hcl 15 _ rfl h 9 (by kernel_rfl))
                have k0 : w2.cell? ⟨G, nd, none⟩ = some V := by
                  by_cases h14 : S 14
                  · rw [hJ.a h14 hn15]; exact kW1
                  · rw [hJ.z h14]; exact kW0
                exact does_ok (v := V) (w' := w2) (by simp [go_sem, hreg.const, f42, k0]) ⟨rfl, trivial, hJ.next (by decide) (by decide) (by decide)⟩
              · cases ho
                rw [if_pos (show Region.wanted _ y = true from rfl)]
                have f4 : ρ (.tmp 4) = .slice (some ad) n4 c4 := hf 4 (by kernel_rfl)
                exact ⟨f4, trivial, hJ.next (by decide) (by decide) (by decide)⟩
              · cases ho
                rw [if_pos (show Region.wanted _ y = true from rfl)]
                have f5 : ρ (.tmp 5) = .int .i64 (ix : Nat) := hf 5 (by kernel_rfl)
                exact ⟨f5, trivial, hJ.next (by decide) (by decide) (by decide)⟩
              · cases ho
                rw [if_pos (show Region.wanted _ y = true from rfl)]
                have f44 : ρ (.tmp 44) = .slice (some ad) n4 c4 := hn 10 _ 44 rfl (by kernel_rfl) rfl
                have f45 : ρ (.tmp 45) = .int .i64 (ix : Nat) := hn 11 _ 45 rfl (by kernel_rfl) rfl
                exact does_ok (v := .pointer (some (ad.add ix))) (w' := w2) (by simp [go_sem, hreg.const, f44, f45, hj1, hj2]) ⟨rfl, trivial, hJ.next (by decide) (by decide) (by decide)⟩
              · cases ho
                rw [if_pos (show Region.wanted _ y = true from rfl)]
                have f46 : ρ (.tmp 46) = .pointer (some (ad.add ix)) := hn 12 _ 46 rfl (by kernel_rfl) rfl
                have hn14 : ¬ S 14 := fun h => hnS (hcl 14 _ rfl h 13 (by kernel_rfl))
                have k0 : w2.cell? (ad.add ix) = some (.int .i32 (r : Int)) := by rw [hJ.z hn14]; exact kR
                exact does_ok (v := .int .i32 (r : Int)) (w' := w2) (by simp [go_sem, hreg.const, f46, k0]) ⟨rfl, trivial, hJ.next (by decide) (by decide) (by decide)⟩
              · cases ho
                rw [if_pos (show Region.wanted _ y = true from rfl)]
                have f47 : ρ (.tmp 47) = .int .i32 (r : Int) := hn 13 _ 47 rfl (by kernel_rfl) rfl
                have hn15 : ¬ S 15 := fun h => hnS (hcl 15 _ rfl h 14 (by kernel_rfl))
                have hn17 : ¬ S 17 := fun h => hn15 (hcl 17 _ rfl h 15 (by kernel_rfl))
                obtain rfl := hJ.z hnS
                exact does_ok (v := .slice (some ⟨n0, 0, none⟩) 1 1) (w' := W1) (by rw [hW1, hn0]; simp [go_sem, hreg.const, f47]) ⟨rfl, trivial, hJ.al hn15 hn17⟩
              · cases ho
                rw [if_pos (show Region.wanted _ y = true from rfl)]
                have f43 : ρ (.tmp 43) = V := hn 9 _ 43 rfl (by kernel_rfl) rfl
                have f48 : ρ (.tmp 48) = .slice (some ⟨n0, 0, none⟩) 1 1 := hn 14 _ 48 rfl (by kernel_rfl) rfl
                have h14 : S 14 := hneeds 14 (by kernel_rfl)
                have hn17 : ¬ S 17 := fun h => hnS (hcl 17 _ rfl h 15 (by kernel_rfl))
                obtain rfl := (hJ.a h14 hnS).symm
                exact does_ok (v := v1) (w' := W2) (by simp only [execOp, List.getElem_toArray, List.getElem_cons_succ, List.getElem_cons_zero, resolve, invoke, builtin, Sem.run_bind, Sem.run_pure, Result.andThen_ok, List.map_toArray, List.map_cons, List.map_nil, f43, f48, hV8, r1]) ⟨rfl, trivial, hJ.ap h14 hn17⟩
              · cases ho
                rw [if_pos (show Region.wanted _ y = true from rfl)]
                have f34 : ρ (.tmp 34) = .slice (some ⟨G, 0, none⟩) (nd + 1) cG := hn 0 _ 34 rfl (by kernel_rfl) rfl
                have f37 : ρ (.tmp 37) = .int .i64 (nd : Nat) := hn 3 _ 37 rfl (by kernel_rfl) rfl
                exact does_ok (v := .pointer (some ⟨G, nd, none⟩)) (w' := w2) (by simp [go_sem, hreg.const, f34, f37, hnd1, hnd2, hcG]) ⟨rfl, trivial, hJ.next (by decide) (by decide) (by decide)⟩
              · cases ho
                rw [if_pos (show Region.wanted _ y = true from rfl)]
                have f49 : ρ (.tmp 49) = v1 := hn 15 _ 49 rfl (by kernel_rfl) rfl
                have f50 : ρ (.tmp 50) = .pointer (some ⟨G, nd, none⟩) := hn 16 _ 50 rfl (by kernel_rfl) rfl
                have h15 : S 15 := hneeds 15 (by kernel_rfl)
                obtain rfl := (hJ.b h15 hnS).symm
                exact does_skip (w' := W2.setCell ⟨G, nd, none⟩ v1) (by simp [go_sem, f49, f50, kF, kW2, hv1]) ⟨rfl, trivial, hJ.st h15 (hcl 15 _ rfl h15 14 (by kernel_rfl))⟩
            case refine_3 =>
              intro a wz S hJ hall hd3 hs hfacts hrest
              have q36 : a.tmps.getD 36 undef = .int .i64 ((nd : Int) + 1) := hfacts 2 _ 36 rfl rfl
              have ha := frame_of hd3 hs hrest [34, 35, 36, 37, 38, 39, 40, 41, 42, 43, 44, 45, 46, 47, 48, 49, 50] (by kernel_rfl)
              simp only [q36, List.foldl, List.setIfInBounds_toArray, List.set_cons_succ, List.set_cons_zero] at ha
              clear q36 hd3 hs hfacts hrest
              generalize a.tmps.getD = gg at ha
              subst ha
              obtain rfl := hJ.c (hall 17 (by decide))
              clear hJ hall kW0 kW1 r1 kF kW2 kR hW1 hn0 hv1 hV8
              go_wp2
              exact ⟨⟨ix + 1, by omega, by simp; try go_num, HFin⟩, by simp [intOf]; try omega⟩
          · have g0 : ((ix : Int) == 0) = false := by simp; omega
            have gi : (ix : Int) - 1 = (ix' : Int) := by omega
            have him : ix' < n4 := by omega
            have him2 : (ix' : Int) < (n4 : Int) := by omega
            have C2 := Lib.hid (refLetter_f hnl)
            clear h0 hnl
            go_wp2_with fail
            refine (C.out wr).mono ?_
            rintro e wz ⟨rfl, h9⟩
            obtain rfl := h9.symm
            go_wp2_with fail
            refine (C2.out wr).mono ?_
            rintro e wz ⟨rfl, h9⟩
            obtain rfl := h9.symm
            go_wp2_with (at_builtin; refine wpl_append_run rfl _ _ _ rfl rfl rfl r9 ?_)
            clear k0 k1 C C2 g0 gi him him2 r9
            obtain ⟨G, cG, V, v1, W2, hv9, hcG, kW0, kW1, r1, kF, kW2, hone, ⟨A', n', c', hv1⟩, ⟨A8, n8, c8, hV8⟩, hL2, hb2, kp2⟩ := wsL_grow (w := w9.drew) (HI9.out.1.below (Below.drew (Below.refl _ _))) r HDL.out.1 (by simp) (show bs ≤ w9.drew.heap.size from HI9.out.2.2.2)
            obtain ⟨nd, hnd⟩ : ∃ nd, nd = d.length := ⟨_, rfl⟩
            rw [← hnd] at hv9 hcG kW0 kW1 kF kW2 hL2 hb2 kp2
            have hsep : ∀ k, V.ownBlock = some k → (Value.slice (some ad) n4 c4).ownBlock ≠ some k := by
              obtain ⟨vs, V', h1, h2, h3, h4, h5, h6⟩ := HI9.out.1
              have e1 := (h1.cellAt' hv9 (by rw [hnd, h2])).symm.trans kW0
              have e2 : V' = V := by injection e1
              subst e2
              exact ws_sep (rs := rs) (b' := 0) h5 HI.out.apart.2
            have hro := kp2 (OwnL.below HI9.out.2.1 (Below.drew (Below.refl _ _))) hsep
            have hND : nd ≤ 10000000 := by have := HDL.out.1; omega
            obtain ⟨W1, hW1⟩ : ∃ W1, W1 = w9.drew.alloc (.cells #[.int .i32 (r : Int)] 21) := ⟨_, rfl⟩
            obtain ⟨n0, hn0⟩ : ∃ n0, n0 = w9.drew.heap.size := ⟨_, rfl⟩
            rw [← hW1] at kW1 r1
            rw [← hn0, hV8] at r1
            have hnd1 : (nd : Int) < (nd : Int) + 1 := by omega
            have hwr : IntKind.i64.wrap (nd : Int) = (nd : Int) := by rw [IntKind.wrap_i64]; omega
            have hnd2 : nd < nd + 1 := by omega
            have kR : w9.drew.cell? (ad.add ix) = some (.int .i32 (r : Int)) := by
              have hrd : Rd encR w9 (some ad) n4 rs := by
                obtain ⟨A5, c5, e, _, _, h⟩ := HI9.out.2.1.rd
                injection e with e1 e2 e3
                subst e1
                rw [HN4.out]
                exact h
              obtain ⟨ad', r', e, HX', k1⟩ := rdR_at hrd (k := ix) (by omega)
              injection e with e
              subst e
              obtain ⟨_, e1⟩ := HX.out
              obtain ⟨_, e2⟩ := HX'.out
              rw [← e1, e2]
              exact k1
            have hj1 : (ix : Int) < (n4 : Int) := hlt
            have hj2 : ix < n4 := hil
            have HFin : Hid (WdI w bs (.slice (some ⟨G, 0, none⟩) (nd + 1) cG) (.slice (some ad) n4 c4) rs (ix + 1) (W2.setCell ⟨G, nd, none⟩ v1)) := Lib.hid ⟨HI9.out.2.2.1.trans ((Below.drew (Below.refl _ _)).trans (hb2.mono HBS.out)), hro, ⟨Nat.le_trans HI9.out.2.2.2 hb2.size, HI.out.apart.2⟩, by
              rw [HST2.out]
              simp only
              refine ⟨fun h => absurd h (by simp), fun _ => ?_⟩
              rw [HC0.out]; exact hL2⟩
            have HV9 := Lib.hid hv9
            subst hv9
            clear hL2 hb2 kp2 hsep hro hone hnd
            refine wp_region_flowJ (by kernel_rfl) (WdF G nd cG ad n4 c4 ix r n0 V v1) (fun _ _ => True) (fun S wq => Det3 w9.drew W1 W2 (W2.setCell ⟨G, nd, none⟩ v1) S wq) (WdF.keep G nd cG ad n4 c4 ix r n0 V v1) ?_ (by kernel_rfl) (by kernel_rfl) ?_ ?_
            case refine_1 => exact ⟨fun _ => rfl, fun h => h.elim, fun h => h.elim, fun h => h.elim⟩
            case refine_2 =>
              intro i o ho ρ y w2 S hJ hnS hneeds hcl hreg hn hf hyb hyn
              have hi := (Array.getElem?_eq_some_iff.1 ho).1
              rcases Nat.lt_or_ge i 18 with hi2 | hi2
              case inr => simp at hi; omega
              obtain rfl | rfl | rfl | rfl | rfl | rfl | rfl | rfl | rfl | rfl | rfl | rfl | rfl | rfl | rfl | rfl | rfl | rfl : i = 0 ∨ i = 1 ∨ i = 2 ∨ i = 3 ∨ i = 4 ∨ i = 5 ∨ i = 6 ∨ i = 7 ∨ i = 8 ∨ i = 9 ∨ i = 10 ∨ i = 11 ∨ i = 12 ∨ i = 13 ∨ i = 14 ∨ i = 15 ∨ i = 16 ∨ i = 17 := by omega
              · cases ho
                rw [if_pos (show Region.wanted _ y = true from rfl)]
                have f3 : ρ (.tmp 3) = .slice (some ⟨G, 0, none⟩) (nd + 1) cG := hf 3 (by kernel_rfl)
                exact ⟨f3, trivial, hJ.next (by decide) (by decide) (by decide)⟩
              · cases ho
                rw [if_pos (show Region.wanted _ y = true from rfl)]
                have f3 : ρ (.tmp 3) = .slice (some ⟨G, 0, none⟩) (nd + 1) cG := hf 3 (by kernel_rfl)
                exact ⟨f3, trivial, hJ.next (by decide) (by decide) (by decide)⟩
              · cases ho
                rw [if_pos (show Region.wanted _ y = true from rfl)]
                have f35 : ρ (.tmp 35) = .slice (some ⟨G, 0, none⟩) (nd + 1) cG := hn 1 _ 35 rfl (by kernel_rfl) rfl
                exact does_ok (v := .int .i64 ((nd : Int) + 1)) (w' := w2) (by simp [go_sem, hreg.const, f35]) ⟨rfl, trivial, hJ.next (by decide) (by decide) (by decide)⟩
              · cases ho
                rw [if_pos (show Region.wanted _ y = true from rfl)]
                have f36 : ρ (.tmp 36) = .int .i64 ((nd : Int) + 1) := hn 2 _ 36 rfl (by kernel_rfl) rfl
                exact does_ok (v := .int .i64 (nd : Nat)) (w' := w2) (by simp [go_sem, hreg.const, f36, hwr]) ⟨rfl, trivial, hJ.next (by decide) (by decide) (by decide)⟩
              · cases ho
                rw [if_pos (show Region.wanted _ y = true from rfl)]
                have f3 : ρ (.tmp 3) = .slice (some ⟨G, 0, none⟩) (nd + 1) cG := hf 3 (by kernel_rfl)
                exact ⟨f3, trivial, hJ.next (by decide) (by decide) (by decide)⟩
              · cases ho
                rw [if_pos (show Region.wanted _ y = true from rfl)]
                have f3 : ρ (.tmp 3) = .slice (some ⟨G, 0, none⟩) (nd + 1) cG := hf 3 (by kernel_rfl)
                exact ⟨f3, trivial, hJ.next (by decide) (by decide) (by decide)⟩
              · cases ho
                rw [if_pos (show Region.wanted _ y = true from rfl)]
                have f39 : ρ (.tmp 39) = .slice (some ⟨G, 0, none⟩) (nd + 1) cG := hn 5 _ 39 rfl (by kernel_rfl) rfl
                exact does_ok (v := .int .i64 ((nd : Int) + 1)) (w' := w2) (by simp [go_sem, hreg.const, f39]) ⟨rfl, trivial, hJ.next (by decide) (by decide) (by decide)⟩
              · cases ho
                rw [if_pos (show Region.wanted _ y = true from rfl)]
                have f40 : ρ (.tmp 40) = .int .i64 ((nd : Int) + 1) := hn 6 _ 40 rfl (by kernel_rfl) rfl
                exact does_ok (v := .int .i64 (nd : Nat)) (w' := w2) (by simp [go_sem, hreg.const, f40, hwr]) ⟨rfl, trivial, hJ.next (by decide) (by decide) (by decide)⟩
              · cases ho
                rw [if_pos (show Region.wanted _ y = true from rfl)]
                have f38 : ρ (.tmp 38) = .slice (some ⟨G, 0, none⟩) (nd + 1) cG := hn 4 _ 38 rfl (by kernel_rfl) rfl
                have f41 : ρ (.tmp 41) = .int .i64 (nd : Nat) := hn 7 _ 41 rfl (by kernel_rfl) rfl
                exact does_ok (v := .pointer (some ⟨G, nd, none⟩)) (w' := w2) (by simp [go_sem, hreg.const, f38, f41, hnd1, hnd2, hcG]) ⟨rfl, trivial, hJ.next (by decide) (by decide) (by decide)⟩
              · cases ho
                rw [if_pos (show Region.wanted _ y = true from rfl)]
                have f42 : ρ (.tmp 42) = .pointer (some ⟨G, nd, none⟩) := hn 8 _ 42 rfl (by kernel_rfl) rfl
                have hn15 : ¬ S 15 := fun h => hnS (hcl 15 _ rfl h 9 (by kernel_rfl))
                have k0 : w2.cell? ⟨G, nd, none⟩ = some V := by
                  by_cases h14 : S 14
                  · rw [hJ.a h14 hn15]; exact kW1
                  · rw [hJ.z h14]; exact kW0
                exact does_ok (v := V) (w' := w2) (by simp [go_sem, hreg.const, f42, k0]) ⟨rfl, trivial, hJ.next (by decide) (by decide) (by decide)⟩
              · cases ho
                rw [if_pos (show Region.wanted _ y = true from rfl)]
                have f4 : ρ (.tmp 4) = .slice (some ad) n4 c4 := hf 4 (by kernel_rfl)
                exact ⟨f4, trivial, hJ.next (by decide) (by decide) (by decide)⟩
              · cases ho
                rw [if_pos (show Region.wanted _ y = true from rfl)]
                have f5 : ρ (.tmp 5) = .int .i64 (ix : Nat) := hf 5 (by kernel_rfl)
                exact ⟨f5, trivial, hJ.next (by decide) (by decide) (by decide)⟩
              · cases ho
                rw [if_pos (show Region.wanted _ y = true from rfl)]
                have f44 : ρ (.tmp 44) = .slice (some ad) n4 c4 := hn 10 _ 44 rfl (by kernel_rfl) rfl
                have f45 : ρ (.tmp 45) = .int .i64 (ix : Nat) := hn 11 _ 45 rfl (by kernel_rfl) rfl
                exact does_ok (v := .pointer (some (ad.add ix))) (w' := w2) (by simp [go_sem, hreg.const, f44, f45, hj1, hj2]) ⟨rfl, trivial, hJ.next (by decide) (by decide) (by decide)⟩
              · cases ho
                rw [if_pos (show Region.wanted _ y = true from rfl)]
                have f46 : ρ (.tmp 46) = .pointer (some (ad.add ix)) := hn 12 _ 46 rfl (by kernel_rfl) rfl
                have hn14 : ¬ S 14 := fun h => hnS (hcl 14 _ rfl h 13 (by kernel_rfl))
                have k0 : w2.cell? (ad.add ix) = some (.int .i32 (r : Int)) := by rw [hJ.z hn14]; exact kR
                exact does_ok (v := .int .i32 (r : Int)) (w' := w2) (by simp [go_sem, hreg.const, f46, k0]) ⟨rfl, trivial, hJ.next (by decide) (by decide) (by decide)⟩
              · cases ho
                rw [if_pos (show Region.wanted _ y = true from rfl)]
                have f47 : ρ (.tmp 47) = .int .i32 (r : Int) := hn 13 _ 47 rfl (by kernel_rfl) rfl
                have hn15 : ¬ S 15 := fun h => hnS (hcl 15 _ rfl h 14 (by kernel_rfl))
                have hn17 : ¬ S 17 := fun h => hn15 (hcl 17 _ rfl h 15 (by kernel_rfl))
                obtain rfl := hJ.z hnS
                exact does_ok (v := .slice (some ⟨n0, 0, none⟩) 1 1) (w' := W1) (by rw [hW1, hn0]; simp [go_sem, hreg.const, f47]) ⟨rfl, trivial, hJ.al hn15 hn17⟩
              · cases ho
                rw [if_pos (show Region.wanted _ y = true from rfl)]
                have f43 : ρ (.tmp 43) = V := hn 9 _ 43 rfl (by kernel_rfl) rfl
                have f48 : ρ (.tmp 48) = .slice (some ⟨n0, 0, none⟩) 1 1 := hn 14 _ 48 rfl (by kernel_rfl) rfl
                have h14 : S 14 := hneeds 14 (by kernel_rfl)
                have hn17 : ¬ S 17 := fun h => hnS (hcl 17 _ rfl h 15 (by kernel_rfl))
                obtain rfl := (hJ.a h14 hnS).symm
                exact does_ok (v := v1) (w' := W2) (by simp only [execOp, List.getElem_toArray, List.getElem_cons_succ, List.getElem_cons_zero, resolve, invoke, builtin, Sem.run_bind, Sem.run_pure, Result.andThen_ok, List.map_toArray, List.map_cons, List.map_nil, f43, f48, hV8, r1]) ⟨rfl, trivial, hJ.ap h14 hn17⟩
              · cases ho
                rw [if_pos (show Region.wanted _ y = true from rfl)]
                have f34 : ρ (.tmp 34) = .slice (some ⟨G, 0, none⟩) (nd + 1) cG := hn 0 _ 34 rfl (by kernel_rfl) rfl
                have f37 : ρ (.tmp 37) = .int .i64 (nd : Nat) := hn 3 _ 37 rfl (by kernel_rfl) rfl
                exact does_ok (v := .pointer (some ⟨G, nd, none⟩)) (w' := w2) (by simp [go_sem, hreg.const, f34, f37, hnd1, hnd2, hcG]) ⟨rfl, trivial, hJ.next (by decide) (by decide) (by decide)⟩
              · cases ho
                rw [if_pos (show Region.wanted _ y = true from rfl)]
                have f49 : ρ (.tmp 49) = v1 := hn 15 _ 49 rfl (by kernel_rfl) rfl
                have f50 : ρ (.tmp 50) = .pointer (some ⟨G, nd, none⟩) := hn 16 _ 50 rfl (by kernel_rfl) rfl
                have h15 : S 15 := hneeds 15 (by kernel_rfl)
                obtain rfl := (hJ.b h15 hnS).symm
                exact does_skip (w' := W2.setCell ⟨G, nd, none⟩ v1) (by simp [go_sem, f49, f50, kF, kW2, hv1]) ⟨rfl, trivial, hJ.st h15 (hcl 15 _ rfl h15 14 (by kernel_rfl))⟩
            case refine_3 =>
              intro a wz S hJ hall hd3 hs hfacts hrest
              have q36 : a.tmps.getD 36 undef = .int .i64 ((nd : Int) + 1) := hfacts 2 _ 36 rfl rfl
              have ha := frame_of hd3 hs hrest [34, 35, 36, 37, 38, 39, 40, 41, 42, 43, 44, 45, 46, 47, 48, 49, 50] (by kernel_rfl)
              simp only [q36, List.foldl, List.setIfInBounds_toArray, List.set_cons_succ, List.set_cons_zero] at ha
              clear q36 hd3 hs hfacts hrest
              generalize a.tmps.getD = gg at ha
              subst ha
              obtain rfl := hJ.c (hall 17 (by decide))
              clear hJ hall kW0 kW1 r1 kF kW2 kR hW1 hn0 hv1 hV8
              go_wp2
              exact ⟨⟨ix + 1, by omega, by simp; try go_num, HFin⟩, by simp [intOf]; try omega⟩
        · -- it goes on
          have hprev : ∃ ix' r' : Nat, ix = ix' + 1 ∧ wr.cell? (ad.add ix') = some (.int .i32 (r' : Int)) ∧ letB (r' : Nat) = true := by
            have hpos : 0 < ix := by
              rcases Nat.eq_zero_or_pos ix with h | h
              · exact absurd (by rw [HCU.out, h]; rfl) hc0
              · exact h
            obtain ⟨ix', rfl⟩ : ∃ ix', ix = ix' + 1 := ⟨ix - 1, by omega⟩
            have hrd : Rd encR wr (some ad) n4 rs := by
              obtain ⟨A5, c5, e, _, _, h⟩ := HI.out.runes.rd
              injection e with e1 e2 e3
              subst e1
              rw [HN4.out]
              exact h
            obtain ⟨ad', r', e, HX', k1⟩ := rdR_at hrd (k := ix') (by omega)
            injection e with e
            subst e
            refine ⟨ix', r', rfl, k1, ?_⟩
            cases hb : letB (r' : Nat) with
            | true => rfl
            | false => exact absurd (by rw [HCU.out]; exact (wdF_none HX'.out).2 hb) hc0
          have HI9 : Hid (WsL wr bs u3 d cu ∧ OwnL encR 21 wr w.heap.size (.slice (some ad) n4 c4) rs ∧ Below w.heap.size w wr ∧ bs ≤ wr.heap.size) := Lib.hid ⟨HOut.out.2 hc0, HI.out.runes, HI.out.below, HI.out.apart.1⟩
          clear hc0
          obtain ⟨ix', r', h0, k1, hnl⟩ := hprev
          have g0 : ((ix : Int) == 0) = false := by simp; omega
          have gi : (ix : Int) - 1 = (ix' : Int) := by omega
          have him : ix' < n4 := by omega
          have him2 : (ix' : Int) < (n4 : Int) := by omega
          have C2 := Lib.hid (refLetter_t hnl)
          clear h0 hnl
          go_wp2_with fail
          refine (C.out wr).mono ?_
          rintro e wz ⟨rfl, h9⟩
          obtain rfl := h9.symm
          go_wp2_with fail
          refine (C2.out wr).mono ?_
          rintro e wz ⟨rfl, h9⟩
          obtain rfl := h9.symm
          go_wp2_with fail
          clear k0 k1 C C2 g0 gi him him2
          obtain ⟨G, cG, V, v1, W2, hv9, hcG, kW0, kW1, r1, kF, kW2, hone, ⟨A', n', c', hv1⟩, ⟨A8, n8, c8, hV8⟩, hL2, hb2, kp2⟩ := wsL_grow (w := wr.drew) (HI9.out.1.below (Below.drew (Below.refl _ _))) r HDL.out.1 HDL.out.2 (show bs ≤ wr.drew.heap.size from HI9.out.2.2.2)
          obtain ⟨nd, hnd⟩ : ∃ nd, nd = d.length := ⟨_, rfl⟩
          rw [← hnd] at hv9 hcG kW0 kW1 kF kW2 hL2 hb2 kp2
          have hsep : ∀ k, V.ownBlock = some k → (Value.slice (some ad) n4 c4).ownBlock ≠ some k := by
            obtain ⟨vs, V', h1, h2, h3, h4, h5, h6⟩ := HI9.out.1
            have e1 := (h1.cellAt' hv9 (by rw [hnd, h2])).symm.trans kW0
            have e2 : V' = V := by injection e1
            subst e2
            exact ws_sep (rs := rs) (b' := 0) h5 HI.out.apart.2
          have hro := kp2 (OwnL.below HI9.out.2.1 (Below.drew (Below.refl _ _))) hsep
          have hND : nd ≤ 10000000 := by have := HDL.out.1; omega
          obtain ⟨W1, hW1⟩ : ∃ W1, W1 = wr.drew.alloc (.cells #[.int .i32 (r : Int)] 21) := ⟨_, rfl⟩
          obtain ⟨n0, hn0⟩ : ∃ n0, n0 = wr.drew.heap.size := ⟨_, rfl⟩
          rw [← hW1] at kW1 r1
          rw [← hn0, hV8] at r1
          have hnd1 : (nd : Int) < (nd : Int) + 1 := by omega
          have hwr : IntKind.i64.wrap (nd : Int) = (nd : Int) := by rw [IntKind.wrap_i64]; omega
          have hnd2 : nd < nd + 1 := by omega
          have kR : wr.drew.cell? (ad.add ix) = some (.int .i32 (r : Int)) := by
            have hrd : Rd encR wr (some ad) n4 rs := by
              obtain ⟨A5, c5, e, _, _, h⟩ := HI9.out.2.1.rd
              injection e with e1 e2 e3
              subst e1
              rw [HN4.out]
              exact h
            obtain ⟨ad', r', e, HX', k1⟩ := rdR_at hrd (k := ix) (by omega)
            injection e with e
            subst e
            obtain ⟨_, e1⟩ := HX.out
            obtain ⟨_, e2⟩ := HX'.out
            rw [← e1, e2]
            exact k1
          have hj1 : (ix : Int) < (n4 : Int) := hlt
          have hj2 : ix < n4 := hil
          have HFin : Hid (WdI w bs (.slice (some ⟨G, 0, none⟩) (nd + 1) cG) (.slice (some ad) n4 c4) rs (ix + 1) (W2.setCell ⟨G, nd, none⟩ v1)) := Lib.hid ⟨HI9.out.2.2.1.trans ((Below.drew (Below.refl _ _)).trans (hb2.mono HBS.out)), hro, ⟨Nat.le_trans HI9.out.2.2.2 hb2.size, HI.out.apart.2⟩, by
            rw [HST2.out]
            simp only
            refine ⟨fun h => absurd h (by simp), fun _ => ?_⟩
            exact hL2⟩
          have HV9 := Lib.hid hv9
          subst hv9
          clear hL2 hb2 kp2 hsep hro hone hnd
          refine wp_region_flowJ (by kernel_rfl) (WdF G nd cG ad n4 c4 ix r n0 V v1) (fun _ _ => True) (fun S wq => Det3 wr.drew W1 W2 (W2.setCell ⟨G, nd, none⟩ v1) S wq) (WdF.keep G nd cG ad n4 c4 ix r n0 V v1) ?_ (by kernel_rfl) (by kernel_rfl) ?_ ?_
          case refine_1 => exact ⟨fun _ => rfl, fun h => h.elim, fun h => h.elim, fun h => h.elim⟩
          case refine_2 =>
            intro i o ho ρ y w2 S hJ hnS hneeds hcl hreg hn hf hyb hyn
            have hi := (Array.getElem?_eq_some_iff.1 ho).1
            rcases Nat.lt_or_ge i 18 with hi2 | hi2
            case inr => simp at hi; omega
            obtain rfl | rfl | rfl | rfl | rfl | rfl | rfl | rfl | rfl | rfl | rfl | rfl | rfl | rfl | rfl | rfl | rfl | rfl : i = 0 ∨ i = 1 ∨ i = 2 ∨ i = 3 ∨ i = 4 ∨ i = 5 ∨ i = 6 ∨ i = 7 ∨ i = 8 ∨ i = 9 ∨ i = 10 ∨ i = 11 ∨ i = 12 ∨ i = 13 ∨ i = 14 ∨ i = 15 ∨ i = 16 ∨ i = 17 := by omega
            · cases ho
              rw [if_pos (show Region.wanted _ y = true from rfl)]
              have f3 : ρ (.tmp 3) = .slice (some ⟨G, 0, none⟩) (nd + 1) cG := hf 3 (by kernel_rfl)
              exact ⟨f3, trivial, hJ.next (by decide) (by decide) (by decide)⟩
            · cases ho
              rw [if_pos (show Region.wanted _ y = true from rfl)]
              have f3 : ρ (.tmp 3) = .slice (some ⟨G, 0, none⟩) (nd + 1) cG := hf 3 (by kernel_rfl)
              exact ⟨f3, trivial, hJ.next (by decide) (by decide) (by decide)⟩
            · cases ho
              rw [if_pos (show Region.wanted _ y = true from rfl)]
              have f35 : ρ (.tmp 35) = .slice (some ⟨G, 0, none⟩) (nd + 1) cG := hn 1 _ 35 rfl (by kernel_rfl) rfl
              exact does_ok (v := .int .i64 ((nd : Int) + 1)) (w' := w2) (by simp [go_sem, hreg.const, f35]) ⟨rfl, trivial, hJ.next (by decide) (by decide) (by decide)⟩
            · cases ho
              rw [if_pos (show Region.wanted _ y = true from rfl)]
              have f36 : ρ (.tmp 36) = .int .i64 ((nd : Int) + 1) := hn 2 _ 36 rfl (by kernel_rfl) rfl
              exact does_ok (v := .int .i64 (nd : Nat)) (w' := w2) (by simp [go_sem, hreg.const, f36, hwr]) ⟨rfl, trivial, hJ.next (by decide) (by decide) (by decide)⟩
            · cases ho
              rw [if_pos (show Region.wanted _ y = true from rfl)]
              have f3 : ρ (.tmp 3) = .slice (some ⟨G, 0, none⟩) (nd + 1) cG := hf 3 (by kernel_rfl)
              exact ⟨f3, trivial, hJ.next (by decide) (by decide) (by decide)⟩
            · cases ho
              rw [if_pos (show Region.wanted _ y = true from rfl)]
              have f3 : ρ (.tmp 3) = .slice (some ⟨G, 0, none⟩) (nd + 1) cG := hf 3 (by kernel_rfl)
              exact ⟨f3, trivial, hJ.next (by decide) (by decide) (by decide)⟩
            · cases ho
              rw [if_pos (show Region.wanted _ y = true from rfl)]
              have f39 : ρ (.tmp 39) = .slice (some ⟨G, 0, none⟩) (nd + 1) cG := hn 5 _ 39 rfl (by kernel_rfl) rfl
              exact does_ok (v := .int .i64 ((nd : Int) + 1)) (w' := w2) (by simp [go_sem, hreg.const, f39]) ⟨rfl, trivial, hJ.next (by decide) (by decide) (by decide)⟩
            · cases ho
              rw [if_pos (show Region.wanted _ y = true from rfl)]
              have f40 : ρ (.tmp 40) = .int .i64 ((nd : Int) + 1) := hn 6 _ 40 rfl (by kernel_rfl) rfl
              exact does_ok (v := .int .i64 (nd : Nat)) (w' := w2) (by simp [go_sem, hreg.const, f40, hwr]) ⟨rfl, trivial, hJ.next (by decide) (by decide) (by decide)⟩
            · cases ho
              rw [if_pos (show Region.wanted _ y = true from rfl)]
              have f38 : ρ (.tmp 38) = .slice (some ⟨G, 0, none⟩) (nd + 1) cG := hn 4 _ 38 rfl (by kernel_rfl) rfl
              have f41 : ρ (.tmp 41) = .int .i64 (nd : Nat) := hn 7 _ 41 rfl (by kernel_rfl) rfl
              exact does_ok (v := .pointer (some ⟨G, nd, none⟩)) (w' := w2) (by simp [go_sem, hreg.const, f38, f41, hnd1, hnd2, hcG]) ⟨rfl, trivial, hJ.next (by decide) (by decide) (by decide)⟩
            · cases ho
              rw [if_pos (show Region.wanted _ y = true from rfl)]
              have f42 : ρ (.tmp 42) = .pointer (some ⟨G, nd, none⟩) := hn 8 _ 42 rfl (by kernel_rfl) rfl
              have hn15 : ¬ S 15 := fun h => hnS (hcl 15 _ rfl h 9 (by kernel_rfl))
              have k0 : w2.cell? ⟨G, nd, none⟩ = some V := by
                by_cases h14 : S 14
                · rw [hJ.a h14 hn15]; exact kW1
                · rw [hJ.z h14]; exact kW0
              exact does_ok (v := V) (w' := w2) (by simp [go_sem, hreg.const, f42, k0]) ⟨rfl, trivial, hJ.next (by decide) (by decide) (by decide)⟩
            · cases ho
              rw [if_pos (show Region.wanted _ y = true from rfl)]
              have f4 : ρ (.tmp 4) = .slice (some ad) n4 c4 := hf 4 (by kernel_rfl)
              exact ⟨f4, trivial, hJ.next (by decide) (by decide) (by decide)⟩
            · cases ho
              rw [if_pos (show Region.wanted _ y = true from rfl)]
              have f5 : ρ (.tmp 5) = .int .i64 (ix : Nat) := hf 5 (by kernel_rfl)
              exact ⟨f5, trivial, hJ.next (by decide) (by decide) (by decide)⟩
            · cases ho
              rw [if_pos (show Region.wanted _ y = true from rfl)]
              have f44 : ρ (.tmp 44) = .slice (some ad) n4 c4 := hn 10 _ 44 rfl (by kernel_rfl) rfl
              have f45 : ρ (.tmp 45) = .int .i64 (ix : Nat) := hn 11 _ 45 rfl (by kernel_rfl) rfl
              exact does_ok (v := .pointer (some (ad.add ix))) (w' := w2) (by simp [go_sem, hreg.const, f44, f45, hj1, hj2]) ⟨rfl, trivial, hJ.next (by decide) (by decide) (by decide)⟩
            · cases ho
              rw [if_pos (show Region.wanted _ y = true from rfl)]
              have f46 : ρ (.tmp 46) = .pointer (some (ad.add ix)) := hn 12 _ 46 rfl (by kernel_rfl) rfl
              have hn14 : ¬ S 14 := fun h => hnS (hcl 14 _ rfl h 13 (by kernel_rfl))
              have k0 : w2.cell? (ad.add ix) = some (.int .i32 (r : Int)) := by rw [hJ.z hn14]; exact kR
              exact does_ok (v := .int .i32 (r : Int)) (w' := w2) (by simp [go_sem, hreg.const, f46, k0]) ⟨rfl, trivial, hJ.next (by decide) (by decide) (by decide)⟩
            · cases ho
              rw [if_pos (show Region.wanted _ y = true from rfl)]
              have f47 : ρ (.tmp 47) = .int .i32 (r : Int) := hn 13 _ 47 rfl (by kernel_rfl) rfl
              have hn15 : ¬ S 15 := fun h => hnS (hcl 15 _ rfl h 14 (by kernel_rfl))
              have hn17 : ¬ S 17 := fun h => hn15 (hcl 17 _ rfl h 15 (by kernel_rfl))
              obtain rfl := hJ.z hnS
              exact does_ok (v := .slice (some ⟨n0, 0, none⟩) 1 1) (w' := W1) (by rw [hW1, hn0]; simp [go_sem, hreg.const, f47]) ⟨rfl, trivial, hJ.al hn15 hn17⟩
            · cases ho
              rw [if_pos (show Region.wanted _ y = true from rfl)]
              have f43 : ρ (.tmp 43) = V := hn 9 _ 43 rfl (by kernel_rfl) rfl
              have f48 : ρ (.tmp 48) = .slice (some ⟨n0, 0, none⟩) 1 1 := hn 14 _ 48 rfl (by kernel_rfl) rfl
              have h14 : S 14 := hneeds 14 (by kernel_rfl)
              have hn17 : ¬ S 17 := fun h => hnS (hcl 17 _ rfl h 15 (by kernel_rfl))
              obtain rfl := (hJ.a h14 hnS).symm
              exact does_ok (v := v1) (w' := W2) (by simp only [execOp, List.getElem_toArray, List.getElem_cons_succ, List.getElem_cons_zero, resolve, invoke, builtin, Sem.run_bind, Sem.run_pure, Result.andThen_ok, List.map_toArray, List.map_cons, List.map_nil, f43, f48, hV8, r1]) ⟨rfl, trivial, hJ.ap h14 hn17⟩
            · cases ho
              rw [if_pos (show Region.wanted _ y = true from rfl)]
              have f34 : ρ (.tmp 34) = .slice (some ⟨G, 0, none⟩) (nd + 1) cG := hn 0 _ 34 rfl (by kernel_rfl) rfl
              have f37 : ρ (.tmp 37) = .int .i64 (nd : Nat) := hn 3 _ 37 rfl (by kernel_rfl) rfl
              exact does_ok (v := .pointer (some ⟨G, nd, none⟩)) (w' := w2) (by simp [go_sem, hreg.const, f34, f37, hnd1, hnd2, hcG]) ⟨rfl, trivial, hJ.next (by decide) (by decide) (by decide)⟩
            · cases ho
              rw [if_pos (show Region.wanted _ y = true from rfl)]
              have f49 : ρ (.tmp 49) = v1 := hn 15 _ 49 rfl (by kernel_rfl) rfl
              have f50 : ρ (.tmp 50) = .pointer (some ⟨G, nd, none⟩) := hn 16 _ 50 rfl (by kernel_rfl) rfl
              have h15 : S 15 := hneeds 15 (by kernel_rfl)
              obtain rfl := (hJ.b h15 hnS).symm
              exact does_skip (w' := W2.setCell ⟨G, nd, none⟩ v1) (by simp [go_sem, f49, f50, kF, kW2, hv1]) ⟨rfl, trivial, hJ.st h15 (hcl 15 _ rfl h15 14 (by kernel_rfl))⟩
          case refine_3 =>
            intro a wz S hJ hall hd3 hs hfacts hrest
            have q36 : a.tmps.getD 36 undef = .int .i64 ((nd : Int) + 1) := hfacts 2 _ 36 rfl rfl
            have ha := frame_of hd3 hs hrest [34, 35, 36, 37, 38, 39, 40, 41, 42, 43, 44, 45, 46, 47, 48, 49, 50] (by kernel_rfl)
            simp only [q36, List.foldl, List.setIfInBounds_toArray, List.set_cons_succ, List.set_cons_zero] at ha
            clear q36 hd3 hs hfacts hrest
            generalize a.tmps.getD = gg at ha
            subst ha
            obtain rfl := hJ.c (hall 17 (by decide))
            clear hJ hall kW0 kW1 r1 kF kW2 kR hW1 hn0 hv1 hV8
            go_wp2
            exact ⟨⟨ix + 1, by omega, by simp; try go_num, HFin⟩, by simp [intOf]; try omega⟩
    · have HT : Hid (WsD wr w.heap.size u3 (wordsL l)) := Lib.hid (by
        have h := HI.out.out
        rw [List.take_of_length_le (by rw [← HN4.out]; omega)] at h
        have hw := wdF_words rs
        unfold wordsL
        rw [← HRS.out, ← hw]
        have mono : ∀ d, WsD wr bs u3 d → WsD wr w.heap.size u3 d := fun d ⟨vs, h1, h2, h3, h4⟩ => ⟨vs, h1.mono HBS.out, h2, h3, fun i hi hi' => (h4 i hi hi').mono HBS.out⟩
        by_cases hc0 : (wdF rs).2 = []
        · rw [if_pos hc0, List.append_nil]
          exact mono _ (h.1 hc0)
        · rw [if_neg hc0]
          exact mono _ (h.2 hc0).done)
      go_wp2
      go_ret
      exact ⟨_, rfl, HT.out, HI.out.below⟩
end Go.Proofs.Ytbmdjmnjbflfeaa
