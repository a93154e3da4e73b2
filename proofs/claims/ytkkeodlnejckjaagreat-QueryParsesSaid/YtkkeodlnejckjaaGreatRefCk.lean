/- Which ways may be, by the document. -/
import Derived.Test.YtkkeodlnejckjaaGreatRefRn
import Derived.Test.YtkkeodlnejckjaaGreatMay2
import Derived.Test.YtkkeodlnejckjaaGreatAdd
import Derived.BigQuiet
namespace Go.Proofs.YtkkeodlnejckjaaGreat
open Go.RowKit Go.Shelf
set_option linter.unusedVariables false
set_option linter.unusedSimpArgs false

/-- '[]byte(s)'. -/
theorem conv_s (s : ByteArray) (hs : s.size ≤ 1000000000) (w : World) : ∃ c w', (convert 9 26 (.string s)).run Tryz.prog w = .ok (.slice (some ⟨w.heap.size, 0, none⟩) s.size c) w' ∧ RdB w' (some ⟨w.heap.size, 0, none⟩) s.size (bsL s) ∧ Below w.heap.size w w' ∧ s.size ≤ c ∧ c ≤ 9223372036854775807 := by
  refine ⟨_, _, run_bytes_of_string w 9 26 5 s Tryz.underlying9 Tryz.underlying26 Tryz.underlying5, ⟨⟨bsL_len s, by omega, fun h0 => ⟨_, rfl, fun j hj => ?_⟩⟩, bsL_byt s⟩, (Below.drew (Below.refl _ _)).alloc (Nat.le_refl _) _, grownCap_ge _ _ _ _, ?_⟩
  · have hj' : j < s.data.toList.length := by rw [bsL, List.length_map] at hj; exact hj
    have hj2 : j < s.data.size := by simpa using hj'
    rw [add_lit0]
    have hnew := World.alloc_heap_new w.drew (.cells (bytesRow s (grownCap w s.size 0 5)) 5 ((bytesRow s (grownCap w s.size 0 5)).size, (bytesRow s (grownCap w s.size 0 5)).size + 1))
    have hsz : w.drew.heap.size = w.heap.size := rfl
    rw [hsz] at hnew
    simp only [World.cell?, hnew]
    simp [bytesRow, bsL, Array.getElem?_append, hj2]
    rw [if_pos (show j < s.size from hj2), Array.getElem?_eq_getElem hj2]
    rfl
  · have := grownCap_le_maxLen w s.size 0 5 (by unfold maxLen; omega)
    unfold maxLen at this
    exact this
open Classical in
noncomputable def mayE (cf : Cf) : Int := if mayC cf then 0 else 140
theorem may_yes {cf : Cf} (h : mayC cf) : mayE cf = 0 := if_pos h
theorem may_no {cf : Cf} (h : ¬ mayC cf) : mayE cf = 140 := if_neg h
def McE (cf : Cf) (w : World) (e : Ending) (w' : World) : Prop := e = .returned (.int .i64 (mayE cf)) ∧ Below w.heap.size w w'
theorem mcE_no {cf : Cf} {w w' : World} (h : ¬ mayC cf) (hb : Below w.heap.size w w') : McE cf w (.returned (.int .i64 140)) w' := ⟨by rw [may_no h], hb⟩
theorem mcE_yes {cf : Cf} {w w' : World} (h : mayC cf) (hb : Below w.heap.size w w') : McE cf w (.returned (.int .i64 0)) w' := ⟨by rw [may_yes h], hb⟩
theorem CheckW_any (A : Option Addr) (n c : Nat) (B : Option Addr) (m d : Nat) (cf : Cf) (w : World) (h : RdC w A n c B m d cf) :
    Calls Tryz.prog 29 #[confV A n c B m d cf.cap] w (McE cf w) := by
  have hbx := (Below.refl w.heap.size w).alloc (Nat.le_refl _) (.cells #[.slice A n c, .slice B m d, .int .i64 cf.cap] 25)
  have C := Lib.hid (may_any A n c B m d cf _ (h.below hbx))
  have HBX := Lib.hid hbx
  clear h hbx
  obtain ⟨cp, hcp⟩ : ∃ cp, cp = cf.cap := ⟨_, rfl⟩
  rw [← hcp] at C HBX ⊢
  clear hcp
  go_enter Tryz.func29, Tryz.ntmps29
  go_wp2_with fail
  refine C.out.mono ?_
  rintro e w1 ⟨⟨b, rfl, hbm⟩, hb⟩
  have HB := Lib.hid (HBX.out.trans (hb.mono HBX.out.size))
  have HBM := Lib.hid hbm
  clear hb hbm C
  cases b
  · go_wp2
    go_ret
    exact mcE_no (fun h => by have := HBM.out.2 h; simp at this) HB.out
  · go_wp2
    go_ret
    exact mcE_yes (HBM.out.1 (by simp)) HB.out
theorem refLetter_f {r : Int} (h : letB r = false) (w : World) : Calls Tryz.prog 58 #[.int .i32 r] w fun e w' => e = .returned (.bool false) ∧ w' = w :=
  (refLetter_any r w).mono fun e w' hh => ⟨by rw [← h]; exact hh.1, hh.2.symm⟩
theorem refLetter_t {r : Int} (h : letB r = true) (w : World) : Calls Tryz.prog 58 #[.int .i32 r] w fun e w' => e = .returned (.bool true) ∧ w' = w :=
  (refLetter_any r w).mono fun e w' hh => ⟨by rw [← h]; exact hh.1, hh.2.symm⟩
theorem rdR_at {w : World} {A : Option Addr} {n : Nat} {l : List Nat} (h : Rd encR w A n l) {k : Nat} (hk : k < n) : ∃ (ad : Addr) (x : Nat), A = some ad ∧ Hid (∃ hl : k < l.length, l[k] = x) ∧ w.cell? (ad.add k) = some (.int .i32 (x : Int)) := by
  obtain ⟨ad, e, hc⟩ := h.cell (by omega)
  have hl : k < l.length := by rw [h.len]; exact hk
  exact ⟨ad, l[k], e, Lib.hid ⟨hl, rfl⟩, hc k hl⟩
theorem mem_at {l : List Nat} {k x : Nat} (h : ∃ hl : k < l.length, l[k] = x) : x ∈ l := by
  obtain ⟨hl, rfl⟩ := h
  exact List.getElem_mem hl
def CkF (A : Option Addr) (n c g : Nat) (ad4 : Addr) (N4 c4 j r : Nat) (q : Int) (nb : Bool) : Nat → Value → World → Prop
  | 0 => fun v w => v = .slice (some ad4) N4 c4
  | 1 => fun v w => v = .int .i64 (j : Nat)
  | 2 => fun v w => v = .pointer (some (ad4.add j))
  | 3 => fun v w => v = .int .i32 (r : Int)
  | 4 => fun v w => v = .bool true
  | 5 => fun v w => v = .bool false
  | 6 => fun v w => v = .bool false
  | 7 => fun v w => v = .pointer (some ⟨g, 0, none⟩)
  | 8 => fun v w => v = .slice A n c
  | 9 => fun v w => v = .slice (some ad4) N4 c4
  | 10 => fun v w => v = .int .i64 (j : Nat)
  | 11 => fun v w => v = .pointer (some (ad4.add j))
  | 12 => fun v w => v = .int .i32 (r : Int)
  | 13 => fun v w => v = .int .i32 q
  | 14 => fun v w => v = .slice (some ad4) N4 c4
  | 15 => fun v w => v = .int .i64 (j : Nat)
  | 16 => fun v w => v = .pointer (some (ad4.add j))
  | 17 => fun v w => v = .int .i32 (r : Int)
  | 18 => fun v w => v = .bool nb
  | 19 => fun v w => v = .bool nb
  | _ => fun _ _ => True
theorem CkF.below (A : Option Addr) (n c g : Nat) (ad4 : Addr) (N4 c4 j r : Nat) (q : Int) (nb : Bool) : ∀ i v w w', Below w.heap.size w w' → CkF A n c g ad4 N4 c4 j r q nb i v w → CkF A n c g ad4 N4 c4 j r q nb i v w'
  | 0, _, _, _, _, h => h
  | 1, _, _, _, _, h => h
  | 2, _, _, _, _, h => h
  | 3, _, _, _, _, h => h
  | 4, _, _, _, _, h => h
  | 5, _, _, _, _, h => h
  | 6, _, _, _, _, h => h
  | 7, _, _, _, _, h => h
  | 8, _, _, _, _, h => h
  | 9, _, _, _, _, h => h
  | 10, _, _, _, _, h => h
  | 11, _, _, _, _, h => h
  | 12, _, _, _, _, h => h
  | 13, _, _, _, _, h => h
  | 14, _, _, _, _, h => h
  | 15, _, _, _, _, h => h
  | 16, _, _, _, _, h => h
  | 17, _, _, _, _, h => h
  | 18, _, _, _, _, h => h
  | 19, _, _, _, _, h => h
  | _ + 20, _, _, _, _, _ => trivial

set_option maxRecDepth 100000 in
set_option maxHeartbeats 8000000 in
theorem refCkW_any (A : Option Addr) (n c : Nat) (B : Option Addr) (m d : Nat) (cf : Cf) (w : World) (h : RdC w A n c B m d cf) :
    Calls Tryz.prog 34 #[confV A n c B m d cf.cap] w (McE cf w) := by
  have HR := Lib.hid h
  have hml := h.st.len
  have hmd := h.md
  have hd2 := h.d2
  obtain ⟨cp, hcp⟩ : ∃ cp, cp = cf.cap := ⟨_, rfl⟩
  have hbx := (Below.refl w.heap.size w).alloc (Nat.le_refl _) (.cells #[.slice A n c, .slice B m d, .int .i64 cp] 25)
  have hcell := World.alloc_heap_new w (.cells #[.slice A n c, .slice B m d, .int .i64 cp] 25)
  obtain ⟨w1, hw1⟩ : ∃ w1, w1 = w.alloc (.cells #[.slice A n c, .slice B m d, .int .i64 cp] 25) := ⟨_, rfl⟩
  obtain ⟨g, hg⟩ : ∃ g, g = w.heap.size := ⟨_, rfl⟩
  rw [← hw1] at hbx hcell
  rw [← hg] at hcell
  have HW1 := Lib.hid hw1
  have HG := Lib.hid hg
  have HCP := Lib.hid hcp
  have HB1 := Lib.hid hbx
  have HML := Lib.hid hml
  rw [← hcp]
  have C1 := Lib.hid (refCheck_any A n c cf.fo w1 (HR.out.fo.below HB1.out) HR.out.wf)
  obtain ⟨c0, c1, c2⟩ := cells3 hcell
  have HC := Lib.hid hcell
  clear h hw1 hg hcp hbx hcell hml
  go_enter Tryz.func34, Tryz.ntmps34
  go_wp2_with fail
  rw [← HW1.out, ← HG.out]
  clear HW1
  go_wp2_with fail
  refine C1.out.mono ?_
  rintro e w2 ⟨rfl, hb⟩
  have hcell2 := (hb.block g (Array.getElem?_eq_some_iff.1 HC.out).1).trans HC.out
  have HB2 := Lib.hid (HB1.out.trans (hb.mono HB1.out.size))
  clear hb c0 c1 c2 HC HB1 C1
  obtain ⟨c0, c1, c2⟩ := cells3 hcell2
  have HC := Lib.hid hcell2
  clear hcell2
  by_cases hok : okTb cf.fo
  case neg =>
    rw [chk_no hok]
    have HN := Lib.hid hok
    clear hok
    go_wp2
    go_ret
    exact mcE_no (fun hm => HN.out hm.1) HB2.out
  rw [chk_yes hok]
  have HOK := Lib.hid hok
  clear hok
  by_cases hcp1 : cp < 1
  case pos =>
    go_wp2
    go_ret
    exact mcE_no (fun hm => (by have := hm.2.1; rw [← HCP.out] at this; omega)) HB2.out
  by_cases hcp2 : cp > 12
  case pos =>
    go_wp2
    go_ret
    exact mcE_no (fun hm => (by have := hm.2.2.1; rw [← HCP.out] at this; omega)) HB2.out
  by_cases hm32 : (m : Int) > 32
  case pos =>
    go_wp2
    go_ret
    exact mcE_no (fun hm => (by have := hm.2.2.2.1; rw [HML.out] at this; omega)) HB2.out
  have HCP12 := Lib.hid (show 1 ≤ cp ∧ cp ≤ 12 by omega)
  have HM32 := Lib.hid (show m ≤ 32 by omega)
  go_wp2_with fail
  clear hcp1 hcp2 hm32 c0 c1 c2
  go_loopw [3] (fun x wr => ∃ i : Nat, i ≤ m ∧ x = .int .i64 (i : Nat) ∧ Hid (wr.heap[g]? = some (.cells #[.slice A n c, .slice B m d, .int .i64 cp] 25 (0, 0))) ∧ Hid (Below w.heap.size w wr ∧ ∀ j, j < i → (0 < j → ltB (stAt cf.st (j - 1)) (stAt cf.st j)) ∧ ownS cf (stAt cf.st j))) (fun x _ => m - (intOf x).toNat)
  case atStart => exact ⟨0, Nat.zero_le _, rfl, HC, Lib.hid ⟨HB2.out, fun j hj => by omega⟩⟩
  case round =>
    obtain ⟨i, hi, rfl, HC2, HI⟩ := hrel
    obtain ⟨c0, c1, c2⟩ := cells3 HC2.out
    by_cases hlt : (i : Int) < (m : Int)
    · obtain ⟨ad, s, rfl, HX, e0⟩ := rdS_at (HR.out.st.below HI.out.1) (k := i) (by omega)
      have HsA := Lib.hid (stAt_of HX.out)
      have hil : i < cf.st.length := by rw [HML.out]; omega
      have hsz : s.size ≤ 1000000 := by
        obtain ⟨hl, rfl⟩ := HX.out
        exact HR.out.sz _ (List.getElem_mem hl)
      obtain ⟨cc, W3, hcv, hrb, hb3, hc1, hc2⟩ := conv_s s (by omega) wr
      have HB3 := Lib.hid (Below.thn HI.out.1 hb3)
      have HC3 := Lib.hid ((hb3.block g (Array.getElem?_eq_some_iff.1 HC2.out).1).trans HC2.out)
      have C := Lib.hid (refRn_any _ s.size cc (bsL s) W3 hrb hc1 (by omega) hc2)
      have HIL := Lib.hid hil
      have HSZ := Lib.hid hsz
      have e03 := cell_keep hb3 e0
      clear hrb hb3 hc1 hc2 hil hsz
      go_wp2_with fail
      refine C.out.mono ?_
      rintro e W4 ⟨v, rfl, ho, hb4⟩
      obtain ⟨A4, c4, rfl, h41, h42, h43⟩ := ho.rd
      obtain ⟨N4, hN4⟩ : ∃ N4, N4 = (rnsL (bsL s)).length := ⟨_, rfl⟩
      rw [← hN4] at h41 h43 ⊢
      have hN4b : N4 ≤ 1000000 := by
        have := rnsL_len (bsL s)
        rw [bsL_len] at this
        have := HSZ.out
        omega
      have HN4 := Lib.hid hN4
      have HB4 := Lib.hid (Below.thn HB3.out hb4)
      have HC4 := Lib.hid ((hb4.block g (Array.getElem?_eq_some_iff.1 HC3.out).1).trans HC3.out)
      have HL4 := Lib.hid h43
      have e0 := cell_keep hb4 e03
      obtain ⟨c0, c1, c2⟩ := cells3 HC4.out
      clear ho hb4 h43 hN4 C HB3 HC3 hcv e03
      -- the two lengths
      by_cases hn1 : (N4 : Int) < 1
      · have g1 : decide ((N4 : Int) < 1) = true := decide_eq_true hn1
        have HNo : Hid (¬ mayC cf) := Lib.hid (no_may_at HIL.out fun h => (by have := h.2.2.1; rw [HsA.out, ← HN4.out] at this; omega))
        go_upto_region 7 with fail
        go_quiet (fail)
        clear c0 c1 c2 e0
        go_wp2
        go_ret
        exact mcE_no HNo.out (below_drewN HB4.out nq)
      have g1 : decide ((N4 : Int) < 1) = false := decide_eq_false hn1
      by_cases hn2 : (N4 : Int) > cp
      · have g2 : decide (cp < (N4 : Int)) = true := decide_eq_true hn2
        have HNo : Hid (¬ mayC cf) := Lib.hid (no_may_at HIL.out fun h => (by have := h.2.2.2; rw [HsA.out, ← HN4.out, ← HCP.out] at this; omega))
        go_upto_region 7 with fail
        go_quiet (fail)
        clear c0 c1 c2 e0
        go_wp2
        go_ret
        exact mcE_no HNo.out (below_drewN HB4.out nq)
      have g2 : decide (cp < (N4 : Int)) = false := decide_eq_false hn2
      have HNN := Lib.hid (show 1 ≤ N4 ∧ (N4 : Int) ≤ cp by omega)
      -- the one ahead
      have key : ∀ (bad : Bool), (bad = true → ¬ mayC cf) → (bad = false → (0 < i → ltB (stAt cf.st (i - 1)) (stAt cf.st i))) → True := fun _ _ _ => trivial
      clear key
      by_cases h0 : i = 0
      · have g3 : decide ((0 : Int) < (i : Int)) = false := by rw [h0]; rfl
        have g4 : decide (0 < i) = false := by rw [h0]; rfl
        have H0 := Lib.hid h0
        clear h0 hn1 hn2
        have HOr : Hid (0 < i → ltB (stAt cf.st (i - 1)) (stAt cf.st i)) := Lib.hid fun h => (by have := H0.out; omega)
        go_upto_region 7 with fail
        go_quiet (fail)
        obtain ⟨W5, hW5⟩ : ∃ W5, W5 = W4.drewN nq := ⟨_, rfl⟩
        have hb5 : Below W4.heap.size W4 W5 := by rw [hW5]; exact Below.drewN W4 _
        rw [← hW5]
        have HB5 := Lib.hid (Below.thn HB4.out hb5)
        have HC5 := Lib.hid ((hb5.block g (Array.getElem?_eq_some_iff.1 HC4.out).1).trans HC4.out)
        have HL5 := Lib.hid (HL4.out.below hb5)
        clear hW5 hb5 HB4 HC4 HL4 c0 c1 c2 e0 g1 g2 g3 g4
        go_wp2_with fail
        go_loopw [5] (fun x wy => ∃ j : Nat, j ≤ N4 ∧ x = .int .i64 (j : Nat) ∧ Hid (wy.heap[g]? = some (.cells #[.slice A n c, .slice (some ad) m d, .int .i64 cp] 25 (0, 0))) ∧ Hid (Below w.heap.size w wy ∧ Rd encR wy A4 N4 (rnsL (bsL s)) ∧ ∀ r ∈ (rnsL (bsL s)).take j, okR cf.fo r)) (fun x _ => N4 - (intOf x).toNat)
        case atStart => exact ⟨0, Nat.zero_le _, rfl, HC5, Lib.hid ⟨HB5.out, HL5.out, fun r h => by simp at h⟩⟩
        case round =>
          obtain ⟨j, hj, rfl, HC6, HJ⟩ := hrel
          obtain ⟨c0, c1, c2⟩ := cells3 HC6.out
          by_cases hjl : (j : Int) < (N4 : Int)
          · obtain ⟨ad4, r, rfl, HX4, k0⟩ := rdR_at HJ.out.2.1 (k := j) (by omega)
            have hrm := mem_at HX4.out
            have hrr : (r : Int) ≤ 1114111 := (rns_valid _ _ (Nat.le_refl _) (bsL_byt s) r hrm).2.1
            cases hlt2 : letB (r : Int)
            · have HNo : Hid (¬ mayC cf) := Lib.hid (no_may_at HIL.out fun h => (by have := (h.2.1 r (by rw [HsA.out]; exact hrm)).1; rw [hlt2] at this; cases this))
              clear hrm hrr
              go_upto_region 12 with fail
              go_quiet ((go_at_call 58; refine Calls.quiet_of_same (refLetter_f hlt2 _)))
              clear c0 c1 c2 k0
              go_wp2
              go_ret
              exact mcE_no HNo.out (below_drewN HJ.out.1 nq)
            · have HLT := Lib.hid hlt2
              have HRM := Lib.hid hrm
              have E0 := Lib.hid k0
              have G0 := Lib.hid c0
              have hj1 : (j : Int) < (N4 : Int) := hjl
              have hj2 : j < N4 := by omega
              obtain ⟨q, hq⟩ : ∃ q, q = oneR (eff cf.fo) (r : Int) := ⟨_, rfl⟩
              have C87 : Hid (∀ w2, Below wr.heap.size wr w2 → Calls Tryz.prog 59 #[.slice A n c, .int .i32 (r : Int)] w2 fun e w' => e = .returned (.int .i32 q) ∧ Below w2.heap.size w2 w') := Lib.hid fun w2 h2 => by
                rw [hq]
                exact refRune_any A n c cf.fo (r : Int) w2 (HR.out.fo.below (Below.thn HJ.out.1 h2)) HR.out.wf (by omega) (by omega)
              obtain ⟨nb, hnb⟩ : ∃ nb, nb = (q != (r : Int)) := ⟨_, rfl⟩
              have HNB : Hid ((q != (r : Int)) = nb) := Lib.hid hnb.symm
              have HQ := Lib.hid hq
              clear hlt2 hrm hrr hq hnb k0 c0 c1 c2
              go_wp2_with fail
              rename_i K1 hK1
              refine wp_region_flow (by kernel_rfl) (CkF A n c g ad4 N4 c4 j r q nb) (CkF.below A n c g ad4 N4 c4 j r q nb) (by kernel_rfl) (by kernel_rfl) ?_ ?_
              case refine_1 =>
                intro i o ho ρ y w2 hb2 hreg hn hf hyb hyn
                have hi := (Array.getElem?_eq_some_iff.1 ho).1
                rcases Nat.lt_or_ge i 20 with hi2 | hi2
                case inr => simp at hi; omega
                obtain rfl | rfl | rfl | rfl | rfl | rfl | rfl | rfl | rfl | rfl | rfl | rfl | rfl | rfl | rfl | rfl | rfl | rfl | rfl | rfl : i = 0 ∨ i = 1 ∨ i = 2 ∨ i = 3 ∨ i = 4 ∨ i = 5 ∨ i = 6 ∨ i = 7 ∨ i = 8 ∨ i = 9 ∨ i = 10 ∨ i = 11 ∨ i = 12 ∨ i = 13 ∨ i = 14 ∨ i = 15 ∨ i = 16 ∨ i = 17 ∨ i = 18 ∨ i = 19 := by omega
                · cases ho
                  rw [if_pos (show Region.wanted _ y = true from rfl)]
                  have f4 : ρ (.tmp 4) = .slice (some ad4) N4 c4 := hf 4 (by kernel_rfl)
                  exact ⟨f4, Below.refl _ _⟩
                · cases ho
                  rw [if_pos (show Region.wanted _ y = true from rfl)]
                  have f5 : ρ (.tmp 5) = .int .i64 (j : Nat) := hf 5 (by kernel_rfl)
                  exact ⟨f5, Below.refl _ _⟩
                · cases ho
                  rw [if_pos (show Region.wanted _ y = true from rfl)]
                  have f74 : ρ (.tmp 74) = .slice (some ad4) N4 c4 := hn 0 _ 74 rfl (by kernel_rfl) rfl
                  have f75 : ρ (.tmp 75) = .int .i64 (j : Nat) := hn 1 _ 75 rfl (by kernel_rfl) rfl
                  exact does_ok (v := .pointer (some (ad4.add j))) (w' := w2) (by simp [go_sem, hreg.const, f74, f75, hj1, hj2]) ⟨rfl, Below.refl _ _⟩
                · cases ho
                  rw [if_pos (show Region.wanted _ y = true from rfl)]
                  have f76 : ρ (.tmp 76) = .pointer (some (ad4.add j)) := hn 2 _ 76 rfl (by kernel_rfl) rfl
                  have k0 := cell_keep hb2 E0.out
                  exact does_ok (v := .int .i32 (r : Int)) (w' := w2) (by simp [go_sem, hreg.const, f76, k0]) ⟨rfl, Below.refl _ _⟩
                · cases ho
                  rw [if_pos (show Region.wanted _ y = true from rfl)]
                  have f77 : ρ (.tmp 77) = .int .i32 (r : Int) := hn 3 _ 77 rfl (by kernel_rfl) rfl
                  refine does_enter (f := 58) (args := #[.int .i32 (r : Int)]) (w' := w2) (by simp [go_sem, hreg.func, hreg.const, f77]) ?_
                  refine (refLetter_t HLT.out w2).mono ?_
                  rintro e w' ⟨rfl, rfl⟩
                  exact ⟨_, rfl, rfl, Below.refl _ _⟩
                · cases ho
                  rw [if_pos (show Region.wanted _ y = true from rfl)]
                  have f78 : ρ (.tmp 78) = .bool true := hn 4 _ 78 rfl (by kernel_rfl) rfl
                  exact does_ok (v := .bool false) (w' := w2) (by simp [go_sem, hreg.const, f78]) ⟨rfl, Below.refl _ _⟩
                · cases ho
                  rw [if_pos (show Region.wanted _ y = true from rfl)]
                  have f79 : ρ (.tmp 79) = .bool false := hn 5 _ 79 rfl (by kernel_rfl) rfl
                  exact ⟨f79, Below.refl _ _⟩
                · cases ho
                  rw [if_pos (show Region.wanted _ y = true from by simp [Region.wanted, hyb 6 _ _ _ rfl rfl (hn 6 _ _ rfl (by kernel_rfl) rfl)])]
                  have f1 : ρ (.tmp 1) = .pointer (some ⟨g, 0, none⟩) := hf 1 (by kernel_rfl)
                  exact does_ok (v := .pointer (some ⟨g, 0, none⟩)) (w' := w2) (by simp [go_sem, hreg.const, f1]) ⟨rfl, Below.refl _ _⟩
                · cases ho
                  rw [if_pos (show Region.wanted _ y = true from by simp [Region.wanted, hyb 6 _ _ _ rfl rfl (hn 6 _ _ rfl (by kernel_rfl) rfl)])]
                  have f81 : ρ (.tmp 81) = .pointer (some ⟨g, 0, none⟩) := hn 7 _ 81 rfl (by kernel_rfl) rfl
                  have k0 := cell_keep hb2 G0.out
                  exact does_ok (v := .slice A n c) (w' := w2) (by simp [go_sem, hreg.const, f81, k0]) ⟨rfl, Below.refl _ _⟩
                · cases ho
                  rw [if_pos (show Region.wanted _ y = true from by simp [Region.wanted, hyb 6 _ _ _ rfl rfl (hn 6 _ _ rfl (by kernel_rfl) rfl)])]
                  have f4 : ρ (.tmp 4) = .slice (some ad4) N4 c4 := hf 4 (by kernel_rfl)
                  exact ⟨f4, Below.refl _ _⟩
                · cases ho
                  rw [if_pos (show Region.wanted _ y = true from by simp [Region.wanted, hyb 6 _ _ _ rfl rfl (hn 6 _ _ rfl (by kernel_rfl) rfl)])]
                  have f5 : ρ (.tmp 5) = .int .i64 (j : Nat) := hf 5 (by kernel_rfl)
                  exact ⟨f5, Below.refl _ _⟩
                · cases ho
                  rw [if_pos (show Region.wanted _ y = true from by simp [Region.wanted, hyb 6 _ _ _ rfl rfl (hn 6 _ _ rfl (by kernel_rfl) rfl)])]
                  have f83 : ρ (.tmp 83) = .slice (some ad4) N4 c4 := hn 9 _ 83 rfl (by kernel_rfl) rfl
                  have f84 : ρ (.tmp 84) = .int .i64 (j : Nat) := hn 10 _ 84 rfl (by kernel_rfl) rfl
                  exact does_ok (v := .pointer (some (ad4.add j))) (w' := w2) (by simp [go_sem, hreg.const, f83, f84, hj1, hj2]) ⟨rfl, Below.refl _ _⟩
                · cases ho
                  rw [if_pos (show Region.wanted _ y = true from by simp [Region.wanted, hyb 6 _ _ _ rfl rfl (hn 6 _ _ rfl (by kernel_rfl) rfl)])]
                  have f85 : ρ (.tmp 85) = .pointer (some (ad4.add j)) := hn 11 _ 85 rfl (by kernel_rfl) rfl
                  have k0 := cell_keep hb2 E0.out
                  exact does_ok (v := .int .i32 (r : Int)) (w' := w2) (by simp [go_sem, hreg.const, f85, k0]) ⟨rfl, Below.refl _ _⟩
                · cases ho
                  rw [if_pos (show Region.wanted _ y = true from by simp [Region.wanted, hyb 6 _ _ _ rfl rfl (hn 6 _ _ rfl (by kernel_rfl) rfl)])]
                  have f82 : ρ (.tmp 82) = .slice A n c := hn 8 _ 82 rfl (by kernel_rfl) rfl
                  have f86 : ρ (.tmp 86) = .int .i32 (r : Int) := hn 12 _ 86 rfl (by kernel_rfl) rfl
                  refine does_enter (f := 59) (args := #[.slice A n c, .int .i32 (r : Int)]) (w' := w2) (by simp [go_sem, hreg.func, hreg.const, f82, f86]) ?_
                  refine (C87.out w2 hb2).mono ?_
                  rintro e w' ⟨rfl, hb⟩
                  exact ⟨_, rfl, rfl, hb⟩
                · cases ho
                  rw [if_pos (show Region.wanted _ y = true from by simp [Region.wanted, hyb 6 _ _ _ rfl rfl (hn 6 _ _ rfl (by kernel_rfl) rfl)])]
                  have f4 : ρ (.tmp 4) = .slice (some ad4) N4 c4 := hf 4 (by kernel_rfl)
                  exact ⟨f4, Below.refl _ _⟩
                · cases ho
                  rw [if_pos (show Region.wanted _ y = true from by simp [Region.wanted, hyb 6 _ _ _ rfl rfl (hn 6 _ _ rfl (by kernel_rfl) rfl)])]
                  have f5 : ρ (.tmp 5) = .int .i64 (j : Nat) := hf 5 (by kernel_rfl)
                  exact ⟨f5, Below.refl _ _⟩
                · cases ho
                  rw [if_pos (show Region.wanted _ y = true from by simp [Region.wanted, hyb 6 _ _ _ rfl rfl (hn 6 _ _ rfl (by kernel_rfl) rfl)])]
                  have f88 : ρ (.tmp 88) = .slice (some ad4) N4 c4 := hn 14 _ 88 rfl (by kernel_rfl) rfl
                  have f89 : ρ (.tmp 89) = .int .i64 (j : Nat) := hn 15 _ 89 rfl (by kernel_rfl) rfl
                  exact does_ok (v := .pointer (some (ad4.add j))) (w' := w2) (by simp [go_sem, hreg.const, f88, f89, hj1, hj2]) ⟨rfl, Below.refl _ _⟩
                · cases ho
                  rw [if_pos (show Region.wanted _ y = true from by simp [Region.wanted, hyb 6 _ _ _ rfl rfl (hn 6 _ _ rfl (by kernel_rfl) rfl)])]
                  have f90 : ρ (.tmp 90) = .pointer (some (ad4.add j)) := hn 16 _ 90 rfl (by kernel_rfl) rfl
                  have k0 := cell_keep hb2 E0.out
                  exact does_ok (v := .int .i32 (r : Int)) (w' := w2) (by simp [go_sem, hreg.const, f90, k0]) ⟨rfl, Below.refl _ _⟩
                · cases ho
                  rw [if_pos (show Region.wanted _ y = true from by simp [Region.wanted, hyb 6 _ _ _ rfl rfl (hn 6 _ _ rfl (by kernel_rfl) rfl)])]
                  have f87 : ρ (.tmp 87) = .int .i32 q := hn 13 _ 87 rfl (by kernel_rfl) rfl
                  have f91 : ρ (.tmp 91) = .int .i32 (r : Int) := hn 17 _ 91 rfl (by kernel_rfl) rfl
                  exact does_ok (v := .bool nb) (w' := w2) (by simp [go_sem, hreg.const, f87, f91, HNB.out]) ⟨rfl, Below.refl _ _⟩
                · cases ho
                  rw [if_pos (show Region.wanted _ y = true from rfl)]
                  have f80 : ρ (.tmp 80) = .bool false := hn 6 _ 80 rfl (by kernel_rfl) rfl
                  have f92 : ρ (.tmp 92) = .bool nb := hn 18 _ 92 rfl (by kernel_rfl) rfl
                  exact does_ok (v := .bool nb) (w' := w2) (by simp [go_sem, hreg.const, f80, f92]) ⟨rfl, Below.refl _ _⟩
              case refine_2 =>
                intro a w2 hb2 hd hs hfacts hrest
                have q93 : a.tmps.getD 93 undef = .bool nb := hfacts 19 _ 93 rfl rfl
                have ha := frame_of hd hs hrest [74, 75, 76, 77, 78, 79, 80, 81, 82, 83, 84, 85, 86, 87, 88, 89, 90, 91, 92, 93] (by kernel_rfl)
                simp only [q93, List.foldl, List.setIfInBounds_toArray, List.set_cons_succ, List.set_cons_zero] at ha
                clear q93 hd hs hfacts hrest
                generalize a.tmps.getD = gg at ha
                subst ha
                have HB7 := Lib.hid (Below.thn HJ.out.1 hb2)
                have HC7 := Lib.hid ((hb2.block g (Array.getElem?_eq_some_iff.1 HC6.out).1).trans HC6.out)
                have HL7 := Lib.hid (HJ.out.2.1.below hb2)
                clear hb2 C87
                refine hK1 _ _ ?_
                cases nb
                · have HOkr : Hid (okR cf.fo r) := Lib.hid ⟨HLT.out, by have := HNB.out; rw [HQ.out] at this; simpa using this⟩
                  go_wp2
                  refine ⟨⟨j + 1, by omega, by simp; try go_num, HC7, Lib.hid ⟨HB7.out, HL7.out, fun x hx => ?_⟩⟩, by simp [intOf]; try omega⟩
                  obtain ⟨hl, e⟩ := HX4.out
                  rw [List.take_succ_eq_append_getElem hl, e] at hx
                  rcases List.mem_append.1 hx with hx | hx
                  · exact HJ.out.2.2 x hx
                  · simp at hx
                    subst hx
                    exact HOkr.out
                · have HNo : Hid (¬ mayC cf) := Lib.hid (no_may_at HIL.out fun h => (by
                    have h1 := (h.2.1 r (by rw [HsA.out]; exact HRM.out)).2
                    have h2 := HNB.out
                    rw [HQ.out, h1] at h2
                    simp at h2))
                  go_wp2
                  go_ret
                  exact mcE_no HNo.out HB7.out
          · have HOw : Hid (ownS cf (stAt cf.st i)) := Lib.hid (by
              rw [HsA.out]
              have h := HJ.out.2.2
              rw [List.take_of_length_le (by rw [← HN4.out]; omega)] at h
              exact ⟨h, by rw [← HN4.out]; exact HNN.out.1, by rw [← HN4.out, ← HCP.out]; exact HNN.out.2⟩)
            clear c0 c1 c2
            go_wp2
            refine ⟨⟨i + 1, by omega, by simp; try go_num, HC6, Lib.hid ⟨HJ.out.1, fun j' hj' => ?_⟩⟩, by simp [intOf]; try omega⟩
            rcases Nat.lt_or_ge j' i with h | h
            · exact HI.out.2 j' h
            · obtain rfl : j' = i := by omega
              exact ⟨HOr.out, HOw.out⟩
      · obtain ⟨i', hi'⟩ : ∃ i', i = i' + 1 := ⟨i - 1, by omega⟩
        have g3 : decide ((0 : Int) < (i : Int)) = true := decide_eq_true (by omega)
        have g4 : decide (0 < i) = true := decide_eq_true (by omega)
        have gi : (i : Int) - 1 = (i' : Int) := by omega
        have gi2 : 0 < i := by omega
        have him : i' < m := by omega
        have him2 : (i' : Int) < (m : Int) := by omega
        obtain ⟨ad', s', had, HX', e1⟩ := rdS_at (HR.out.st.below HB4.out) (k := i') (by omega)
        obtain rfl : ad = ad' := by injection had
        have HsA' : Hid (stAt cf.st (i - 1) = s') := Lib.hid (by rw [hi', Nat.add_sub_cancel]; exact stAt_of HX'.out)
        clear h0 hn1 hn2 hi' had
        by_cases hls : ltB s' s
        · have hge : Op.bytesLess s'.toList s.toList = true := by rw [blS]; exact decide_eq_true hls
          have HLS := Lib.hid hls
          clear hls
          have HOr : Hid (0 < i → ltB (stAt cf.st (i - 1)) (stAt cf.st i)) := Lib.hid fun _ => (by rw [HsA.out, HsA'.out]; exact HLS.out)
          go_upto_region 7 with fail
          go_quiet (fail)
          obtain ⟨W5, hW5⟩ : ∃ W5, W5 = W4.drewN nq := ⟨_, rfl⟩
          have hb5 : Below W4.heap.size W4 W5 := by rw [hW5]; exact Below.drewN W4 _
          rw [← hW5]
          have HB5 := Lib.hid (Below.thn HB4.out hb5)
          have HC5 := Lib.hid ((hb5.block g (Array.getElem?_eq_some_iff.1 HC4.out).1).trans HC4.out)
          have HL5 := Lib.hid (HL4.out.below hb5)
          clear hW5 hb5 HB4 HC4 HL4 c0 c1 c2 e0 g1 g2 g3 g4 gi gi2 him him2 e1 hge
          go_wp2_with fail
          go_loopw [5] (fun x wy => ∃ j : Nat, j ≤ N4 ∧ x = .int .i64 (j : Nat) ∧ Hid (wy.heap[g]? = some (.cells #[.slice A n c, .slice (some ad) m d, .int .i64 cp] 25 (0, 0))) ∧ Hid (Below w.heap.size w wy ∧ Rd encR wy A4 N4 (rnsL (bsL s)) ∧ ∀ r ∈ (rnsL (bsL s)).take j, okR cf.fo r)) (fun x _ => N4 - (intOf x).toNat)
          case atStart => exact ⟨0, Nat.zero_le _, rfl, HC5, Lib.hid ⟨HB5.out, HL5.out, fun r h => by simp at h⟩⟩
          case round =>
            obtain ⟨j, hj, rfl, HC6, HJ⟩ := hrel
            obtain ⟨c0, c1, c2⟩ := cells3 HC6.out
            by_cases hjl : (j : Int) < (N4 : Int)
            · obtain ⟨ad4, r, rfl, HX4, k0⟩ := rdR_at HJ.out.2.1 (k := j) (by omega)
              have hrm := mem_at HX4.out
              have hrr : (r : Int) ≤ 1114111 := (rns_valid _ _ (Nat.le_refl _) (bsL_byt s) r hrm).2.1
              cases hlt2 : letB (r : Int)
              · have HNo : Hid (¬ mayC cf) := Lib.hid (no_may_at HIL.out fun h => (by have := (h.2.1 r (by rw [HsA.out]; exact hrm)).1; rw [hlt2] at this; cases this))
                clear hrm hrr
                go_upto_region 12 with fail
                go_quiet ((go_at_call 58; refine Calls.quiet_of_same (refLetter_f hlt2 _)))
                clear c0 c1 c2 k0
                go_wp2
                go_ret
                exact mcE_no HNo.out (below_drewN HJ.out.1 nq)
              · have HLT := Lib.hid hlt2
                have HRM := Lib.hid hrm
                have E0 := Lib.hid k0
                have G0 := Lib.hid c0
                have hj1 : (j : Int) < (N4 : Int) := hjl
                have hj2 : j < N4 := by omega
                obtain ⟨q, hq⟩ : ∃ q, q = oneR (eff cf.fo) (r : Int) := ⟨_, rfl⟩
                have C87 : Hid (∀ w2, Below wr.heap.size wr w2 → Calls Tryz.prog 59 #[.slice A n c, .int .i32 (r : Int)] w2 fun e w' => e = .returned (.int .i32 q) ∧ Below w2.heap.size w2 w') := Lib.hid fun w2 h2 => by
                  rw [hq]
                  exact refRune_any A n c cf.fo (r : Int) w2 (HR.out.fo.below (Below.thn HJ.out.1 h2)) HR.out.wf (by omega) (by omega)
                obtain ⟨nb, hnb⟩ : ∃ nb, nb = (q != (r : Int)) := ⟨_, rfl⟩
                have HNB : Hid ((q != (r : Int)) = nb) := Lib.hid hnb.symm
                have HQ := Lib.hid hq
                clear hlt2 hrm hrr hq hnb k0 c0 c1 c2
                go_wp2_with fail
                rename_i K1 hK1
                refine wp_region_flow (by kernel_rfl) (CkF A n c g ad4 N4 c4 j r q nb) (CkF.below A n c g ad4 N4 c4 j r q nb) (by kernel_rfl) (by kernel_rfl) ?_ ?_
                case refine_1 =>
                  intro i o ho ρ y w2 hb2 hreg hn hf hyb hyn
                  have hi := (Array.getElem?_eq_some_iff.1 ho).1
                  rcases Nat.lt_or_ge i 20 with hi2 | hi2
                  case inr => simp at hi; omega
                  obtain rfl | rfl | rfl | rfl | rfl | rfl | rfl | rfl | rfl | rfl | rfl | rfl | rfl | rfl | rfl | rfl | rfl | rfl | rfl | rfl : i = 0 ∨ i = 1 ∨ i = 2 ∨ i = 3 ∨ i = 4 ∨ i = 5 ∨ i = 6 ∨ i = 7 ∨ i = 8 ∨ i = 9 ∨ i = 10 ∨ i = 11 ∨ i = 12 ∨ i = 13 ∨ i = 14 ∨ i = 15 ∨ i = 16 ∨ i = 17 ∨ i = 18 ∨ i = 19 := by omega
                  · cases ho
                    rw [if_pos (show Region.wanted _ y = true from rfl)]
                    have f4 : ρ (.tmp 4) = .slice (some ad4) N4 c4 := hf 4 (by kernel_rfl)
                    exact ⟨f4, Below.refl _ _⟩
                  · cases ho
                    rw [if_pos (show Region.wanted _ y = true from rfl)]
                    have f5 : ρ (.tmp 5) = .int .i64 (j : Nat) := hf 5 (by kernel_rfl)
                    exact ⟨f5, Below.refl _ _⟩
                  · cases ho
                    rw [if_pos (show Region.wanted _ y = true from rfl)]
                    have f74 : ρ (.tmp 74) = .slice (some ad4) N4 c4 := hn 0 _ 74 rfl (by kernel_rfl) rfl
                    have f75 : ρ (.tmp 75) = .int .i64 (j : Nat) := hn 1 _ 75 rfl (by kernel_rfl) rfl
                    exact does_ok (v := .pointer (some (ad4.add j))) (w' := w2) (by simp [go_sem, hreg.const, f74, f75, hj1, hj2]) ⟨rfl, Below.refl _ _⟩
                  · cases ho
                    rw [if_pos (show Region.wanted _ y = true from rfl)]
                    have f76 : ρ (.tmp 76) = .pointer (some (ad4.add j)) := hn 2 _ 76 rfl (by kernel_rfl) rfl
                    have k0 := cell_keep hb2 E0.out
                    exact does_ok (v := .int .i32 (r : Int)) (w' := w2) (by simp [go_sem, hreg.const, f76, k0]) ⟨rfl, Below.refl _ _⟩
                  · cases ho
                    rw [if_pos (show Region.wanted _ y = true from rfl)]
                    have f77 : ρ (.tmp 77) = .int .i32 (r : Int) := hn 3 _ 77 rfl (by kernel_rfl) rfl
                    refine does_enter (f := 58) (args := #[.int .i32 (r : Int)]) (w' := w2) (by simp [go_sem, hreg.func, hreg.const, f77]) ?_
                    refine (refLetter_t HLT.out w2).mono ?_
                    rintro e w' ⟨rfl, rfl⟩
                    exact ⟨_, rfl, rfl, Below.refl _ _⟩
                  · cases ho
                    rw [if_pos (show Region.wanted _ y = true from rfl)]
                    have f78 : ρ (.tmp 78) = .bool true := hn 4 _ 78 rfl (by kernel_rfl) rfl
                    exact does_ok (v := .bool false) (w' := w2) (by simp [go_sem, hreg.const, f78]) ⟨rfl, Below.refl _ _⟩
                  · cases ho
                    rw [if_pos (show Region.wanted _ y = true from rfl)]
                    have f79 : ρ (.tmp 79) = .bool false := hn 5 _ 79 rfl (by kernel_rfl) rfl
                    exact ⟨f79, Below.refl _ _⟩
                  · cases ho
                    rw [if_pos (show Region.wanted _ y = true from by simp [Region.wanted, hyb 6 _ _ _ rfl rfl (hn 6 _ _ rfl (by kernel_rfl) rfl)])]
                    have f1 : ρ (.tmp 1) = .pointer (some ⟨g, 0, none⟩) := hf 1 (by kernel_rfl)
                    exact does_ok (v := .pointer (some ⟨g, 0, none⟩)) (w' := w2) (by simp [go_sem, hreg.const, f1]) ⟨rfl, Below.refl _ _⟩
                  · cases ho
                    rw [if_pos (show Region.wanted _ y = true from by simp [Region.wanted, hyb 6 _ _ _ rfl rfl (hn 6 _ _ rfl (by kernel_rfl) rfl)])]
                    have f81 : ρ (.tmp 81) = .pointer (some ⟨g, 0, none⟩) := hn 7 _ 81 rfl (by kernel_rfl) rfl
                    have k0 := cell_keep hb2 G0.out
                    exact does_ok (v := .slice A n c) (w' := w2) (by simp [go_sem, hreg.const, f81, k0]) ⟨rfl, Below.refl _ _⟩
                  · cases ho
                    rw [if_pos (show Region.wanted _ y = true from by simp [Region.wanted, hyb 6 _ _ _ rfl rfl (hn 6 _ _ rfl (by kernel_rfl) rfl)])]
                    have f4 : ρ (.tmp 4) = .slice (some ad4) N4 c4 := hf 4 (by kernel_rfl)
                    exact ⟨f4, Below.refl _ _⟩
                  · cases ho
                    rw [if_pos (show Region.wanted _ y = true from by simp [Region.wanted, hyb 6 _ _ _ rfl rfl (hn 6 _ _ rfl (by kernel_rfl) rfl)])]
                    have f5 : ρ (.tmp 5) = .int .i64 (j : Nat) := hf 5 (by kernel_rfl)
                    exact ⟨f5, Below.refl _ _⟩
                  · cases ho
                    rw [if_pos (show Region.wanted _ y = true from by simp [Region.wanted, hyb 6 _ _ _ rfl rfl (hn 6 _ _ rfl (by kernel_rfl) rfl)])]
                    have f83 : ρ (.tmp 83) = .slice (some ad4) N4 c4 := hn 9 _ 83 rfl (by kernel_rfl) rfl
                    have f84 : ρ (.tmp 84) = .int .i64 (j : Nat) := hn 10 _ 84 rfl (by kernel_rfl) rfl
                    exact does_ok (v := .pointer (some (ad4.add j))) (w' := w2) (by simp [go_sem, hreg.const, f83, f84, hj1, hj2]) ⟨rfl, Below.refl _ _⟩
                  · cases ho
                    rw [if_pos (show Region.wanted _ y = true from by simp [Region.wanted, hyb 6 _ _ _ rfl rfl (hn 6 _ _ rfl (by kernel_rfl) rfl)])]
                    have f85 : ρ (.tmp 85) = .pointer (some (ad4.add j)) := hn 11 _ 85 rfl (by kernel_rfl) rfl
                    have k0 := cell_keep hb2 E0.out
                    exact does_ok (v := .int .i32 (r : Int)) (w' := w2) (by simp [go_sem, hreg.const, f85, k0]) ⟨rfl, Below.refl _ _⟩
                  · cases ho
                    rw [if_pos (show Region.wanted _ y = true from by simp [Region.wanted, hyb 6 _ _ _ rfl rfl (hn 6 _ _ rfl (by kernel_rfl) rfl)])]
                    have f82 : ρ (.tmp 82) = .slice A n c := hn 8 _ 82 rfl (by kernel_rfl) rfl
                    have f86 : ρ (.tmp 86) = .int .i32 (r : Int) := hn 12 _ 86 rfl (by kernel_rfl) rfl
                    refine does_enter (f := 59) (args := #[.slice A n c, .int .i32 (r : Int)]) (w' := w2) (by simp [go_sem, hreg.func, hreg.const, f82, f86]) ?_
                    refine (C87.out w2 hb2).mono ?_
                    rintro e w' ⟨rfl, hb⟩
                    exact ⟨_, rfl, rfl, hb⟩
                  · cases ho
                    rw [if_pos (show Region.wanted _ y = true from by simp [Region.wanted, hyb 6 _ _ _ rfl rfl (hn 6 _ _ rfl (by kernel_rfl) rfl)])]
                    have f4 : ρ (.tmp 4) = .slice (some ad4) N4 c4 := hf 4 (by kernel_rfl)
                    exact ⟨f4, Below.refl _ _⟩
                  · cases ho
                    rw [if_pos (show Region.wanted _ y = true from by simp [Region.wanted, hyb 6 _ _ _ rfl rfl (hn 6 _ _ rfl (by kernel_rfl) rfl)])]
                    have f5 : ρ (.tmp 5) = .int .i64 (j : Nat) := hf 5 (by kernel_rfl)
                    exact ⟨f5, Below.refl _ _⟩
                  · cases ho
                    rw [if_pos (show Region.wanted _ y = true from by simp [Region.wanted, hyb 6 _ _ _ rfl rfl (hn 6 _ _ rfl (by kernel_rfl) rfl)])]
                    have f88 : ρ (.tmp 88) = .slice (some ad4) N4 c4 := hn 14 _ 88 rfl (by kernel_rfl) rfl
                    have f89 : ρ (.tmp 89) = .int .i64 (j : Nat) := hn 15 _ 89 rfl (by kernel_rfl) rfl
                    exact does_ok (v := .pointer (some (ad4.add j))) (w' := w2) (by simp [go_sem, hreg.const, f88, f89, hj1, hj2]) ⟨rfl, Below.refl _ _⟩
                  · cases ho
                    rw [if_pos (show Region.wanted _ y = true from by simp [Region.wanted, hyb 6 _ _ _ rfl rfl (hn 6 _ _ rfl (by kernel_rfl) rfl)])]
                    have f90 : ρ (.tmp 90) = .pointer (some (ad4.add j)) := hn 16 _ 90 rfl (by kernel_rfl) rfl
                    have k0 := cell_keep hb2 E0.out
                    exact does_ok (v := .int .i32 (r : Int)) (w' := w2) (by simp [go_sem, hreg.const, f90, k0]) ⟨rfl, Below.refl _ _⟩
                  · cases ho
                    rw [if_pos (show Region.wanted _ y = true from by simp [Region.wanted, hyb 6 _ _ _ rfl rfl (hn 6 _ _ rfl (by kernel_rfl) rfl)])]
                    have f87 : ρ (.tmp 87) = .int .i32 q := hn 13 _ 87 rfl (by kernel_rfl) rfl
                    have f91 : ρ (.tmp 91) = .int .i32 (r : Int) := hn 17 _ 91 rfl (by kernel_rfl) rfl
                    exact does_ok (v := .bool nb) (w' := w2) (by simp [go_sem, hreg.const, f87, f91, HNB.out]) ⟨rfl, Below.refl _ _⟩
                  · cases ho
                    rw [if_pos (show Region.wanted _ y = true from rfl)]
                    have f80 : ρ (.tmp 80) = .bool false := hn 6 _ 80 rfl (by kernel_rfl) rfl
                    have f92 : ρ (.tmp 92) = .bool nb := hn 18 _ 92 rfl (by kernel_rfl) rfl
                    exact does_ok (v := .bool nb) (w' := w2) (by simp [go_sem, hreg.const, f80, f92]) ⟨rfl, Below.refl _ _⟩
                case refine_2 =>
                  intro a w2 hb2 hd hs hfacts hrest
                  have q93 : a.tmps.getD 93 undef = .bool nb := hfacts 19 _ 93 rfl rfl
                  have ha := frame_of hd hs hrest [74, 75, 76, 77, 78, 79, 80, 81, 82, 83, 84, 85, 86, 87, 88, 89, 90, 91, 92, 93] (by kernel_rfl)
                  simp only [q93, List.foldl, List.setIfInBounds_toArray, List.set_cons_succ, List.set_cons_zero] at ha
                  clear q93 hd hs hfacts hrest
                  generalize a.tmps.getD = gg at ha
                  subst ha
                  have HB7 := Lib.hid (Below.thn HJ.out.1 hb2)
                  have HC7 := Lib.hid ((hb2.block g (Array.getElem?_eq_some_iff.1 HC6.out).1).trans HC6.out)
                  have HL7 := Lib.hid (HJ.out.2.1.below hb2)
                  clear hb2 C87
                  refine hK1 _ _ ?_
                  cases nb
                  · have HOkr : Hid (okR cf.fo r) := Lib.hid ⟨HLT.out, by have := HNB.out; rw [HQ.out] at this; simpa using this⟩
                    go_wp2
                    refine ⟨⟨j + 1, by omega, by simp; try go_num, HC7, Lib.hid ⟨HB7.out, HL7.out, fun x hx => ?_⟩⟩, by simp [intOf]; try omega⟩
                    obtain ⟨hl, e⟩ := HX4.out
                    rw [List.take_succ_eq_append_getElem hl, e] at hx
                    rcases List.mem_append.1 hx with hx | hx
                    · exact HJ.out.2.2 x hx
                    · simp at hx
                      subst hx
                      exact HOkr.out
                  · have HNo : Hid (¬ mayC cf) := Lib.hid (no_may_at HIL.out fun h => (by
                      have h1 := (h.2.1 r (by rw [HsA.out]; exact HRM.out)).2
                      have h2 := HNB.out
                      rw [HQ.out, h1] at h2
                      simp at h2))
                    go_wp2
                    go_ret
                    exact mcE_no HNo.out HB7.out
            · have HOw : Hid (ownS cf (stAt cf.st i)) := Lib.hid (by
                rw [HsA.out]
                have h := HJ.out.2.2
                rw [List.take_of_length_le (by rw [← HN4.out]; omega)] at h
                exact ⟨h, by rw [← HN4.out]; exact HNN.out.1, by rw [← HN4.out, ← HCP.out]; exact HNN.out.2⟩)
              clear c0 c1 c2
              go_wp2
              refine ⟨⟨i + 1, by omega, by simp; try go_num, HC6, Lib.hid ⟨HJ.out.1, fun j' hj' => ?_⟩⟩, by simp [intOf]; try omega⟩
              rcases Nat.lt_or_ge j' i with h | h
              · exact HI.out.2 j' h
              · obtain rfl : j' = i := by omega
                exact ⟨HOr.out, HOw.out⟩
        · have hge : Op.bytesLess s'.toList s.toList = false := by rw [blS]; exact decide_eq_false hls
          have HNo : Hid (¬ mayC cf) := Lib.hid (no_may_at HIL.out fun h => hls (by have := h.1 gi2; rw [HsA.out, HsA'.out] at this; exact this))
          clear hls
          go_upto_region 7 with fail
          go_quiet (fail)
          clear c0 c1 c2 e0 e1
          go_wp2
          go_ret
          exact mcE_no HNo.out (below_drewN HB4.out nq)
    · go_wp2
      go_ret
      refine mcE_yes ⟨HOK.out, by rw [← HCP.out]; exact HCP12.out.1, by rw [← HCP.out]; exact HCP12.out.2, by rw [HML.out]; exact HM32.out, fun j hj => HI.out.2 j (by rw [HML.out] at hj; omega)⟩ HI.out.1
end Go.Proofs.YtkkeodlnejckjaaGreat
