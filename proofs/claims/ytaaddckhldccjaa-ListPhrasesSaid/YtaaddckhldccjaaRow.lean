/- Words in a row. -/
import Derived.Test.YtaaddckhldccjaaFnd
import Derived.Test.YtaaddckhldccjaaRefAN
namespace Go.Proofs.Ytaaddckhldccjaa
open Go.RowKit
set_option linter.unusedVariables false
set_option linter.unusedSimpArgs false

theorem push_i {w w1 : World} {v : Value} {L : List Int} (x : Int) (h : OwnI w1 w.heap.size v L) (hb : Below w.heap.size w w1) (hl : L.length ≤ 100000000) :
    ∃ A' c' w', (Builtin.append_ #[26, 26] 26 #[v, .slice (some ⟨w1.heap.size, 0, none⟩) 1 1]).run Try.prog (w1.alloc (.cells #[.int .i64 x] 3)) = .ok (.slice A' (L.length + 1) c') w' ∧
      OwnI w' w.heap.size (.slice A' (L.length + 1) c') (L ++ [x]) ∧ Below w.heap.size w w' ∧ L.length + 1 ≤ c' ∧ c' ≤ 9223372036854775807 ∧ w1.grownBy w' v.ownBlock := by
  have hbT : Below w1.heap.size w1 (w1.alloc (.cells #[.int .i64 x] 3)) := (Below.refl _ _).alloc (Nat.le_refl _) _
  have hA := h.below hbT
  have hrd := Rd.new w1 3 [x] #[.int .i64 x] 1 (0, 0) (enc := encI) rfl rfl (by decide)
  obtain ⟨v1, w', r, o, g, _⟩ := run_append_rd (P := Try.prog) (c := 1) w.heap.size 26 26 3 (.int .i64 0) 8 Try.underlying26 infoI rfl (by decide) encI_one hA hrd (by omega) (by have := hb.size; simp; omega)
  obtain ⟨A', c', e, h1, h2, _⟩ := OwnL.rd o
  have hlen : (L ++ [x]).length = L.length + 1 := by simp
  rw [hlen] at e h1
  subst e
  exact ⟨A', c', w', r, o, (hb.trans (hbT.mono hb.size)).grown g (by have := hb.size; simp; omega) (fun j hj => (OwnL.base hA j hj).1), h1, h2, (grown_below hbT _).trans g⟩
/-- The positions of a list's posting. -/
def posOf (ls : List Po) (i : Nat) : List Int := (ls.getD i (0, [])).2
theorem posOf_at {ls : List Po} {i d : Nat} {l : List Int} (h : ∃ hl : i < ls.length, ls[i] = (d, l)) : posOf ls i = l := by unfold posOf; rw [getD_of h]
/-- The first words stand so. -/
def stand (lo : List Int) (ls : List Po) (p : Int) (k : Nat) : Prop := ∀ i, i < k → p + lo.getD i 0 ∈ posOf ls i
theorem stand_step {lo : List Int} {ls : List Po} {p : Int} {k : Nat} (h : stand lo ls p k) (h2 : p + lo.getD k 0 ∈ posOf ls k) : stand lo ls p (k + 1) := fun i hi => by
  rcases Nat.lt_succ_iff_lt_or_eq.1 hi with h1 | rfl
  · exact h i h1
  · exact h2
open Classical in
noncomputable def rowOf (lo : List Int) (ls : List Po) (l : List Int) : List Int := l.filter fun p => decide (stand lo ls p ls.length)
/-- Where the words stand in a row. -/
noncomputable def rowL (lo : List Int) (ls : List Po) : List Int := rowOf lo ls (posOf ls 0)
theorem row_no {lo : List Int} {ls : List Po} {l : List Int} {k : Nat} {x : Int} (h : ∃ hl : k < l.length, l[k] = x) (hx : ¬ stand lo ls x ls.length) : rowOf lo ls (l.take (k + 1)) = rowOf lo ls (l.take k) := by
  obtain ⟨hl, rfl⟩ := h
  rw [List.take_succ_eq_append_getElem hl]
  unfold rowOf
  rw [List.filter_append]
  simp [hx]
theorem row_yes {lo : List Int} {ls : List Po} {l : List Int} {k : Nat} {x : Int} (h : ∃ hl : k < l.length, l[k] = x) (hx : stand lo ls x ls.length) : rowOf lo ls (l.take (k + 1)) = rowOf lo ls (l.take k) ++ [x] := by
  obtain ⟨hl, rfl⟩ := h
  rw [List.take_succ_eq_append_getElem hl]
  unfold rowOf
  rw [List.filter_append]
  simp [hx]
theorem rowOf_len (lo : List Int) (ls : List Po) (l : List Int) : (rowOf lo ls l).length ≤ l.length := List.length_filter_le _ _
/-- Positions that may be. -/
def PosOk (ls : List Po) : Prop := ∀ i, i < ls.length → okPos (posOf ls i) ∧ (posOf ls i).length ≤ 2000
theorem okPos_up {l : List Int} (h : okPos l) : ∀ j i, i < j → j < l.length → ltB (stAt l i) (stAt l j)
  | 0, i, hij, _ => by omega
  | j + 1, i, hij, hj => by
    have h1 : stAt l j < stAt l (j + 1) := (h (j + 1) hj).2.2 (by omega)
    rcases Nat.lt_or_ge i j with h2 | h2
    · exact Int.lt_trans (okPos_up h j i h2 (by omega)) h1
    · obtain rfl : i = j := by omega
      exact h1
set_option maxRecDepth 100000 in
set_option maxHeartbeats 8000000 in
theorem row_any (A : Option Addr) (n c : Nat) (lo : List Int) (D : Option Addr) (m e : Nat) (ls : List Po) (w : World) (h : Rd encI w A n lo) (hw : RdPo w D m ls) (hm : 1 ≤ m) (hmn : m ≤ n) (hpos : PosOk ls) (hoff : ∀ i, i < m → 0 ≤ lo.getD i 0 ∧ lo.getD i 0 ≤ 1048576) :
    Calls Try.prog 39 #[.slice A n c, .slice D m e] w fun e w' => ∃ v, e = .returned v ∧ OwnI w' w.heap.size v (rowL lo ls) ∧ Below w.heap.size w w' := by
  have HR := Lib.hid h
  have HW := Lib.hid hw
  have HP := Lib.hid hpos
  have HO := Lib.hid hoff
  have hmx := hw.max
  have hnx := h.max
  have HLn := Lib.hid (And.intro h.len hw.len)
  obtain ⟨ad, B, m0, c0, d0, l0, rfl, HX, x0, x1, hm1, hm2, HRI, hd0⟩ := hw.at (k := 0) (by omega)
  have HX0 := Lib.hid (posOf_at HX.out)
  have hp0 : Hid (okPos l0 ∧ m0 ≤ 2000 ∧ l0.length = m0) := Lib.hid (by
    have h1 := hpos 0 (by rw [hw.len]; omega)
    rw [HX0.out] at h1
    exact ⟨h1.1, by rw [← HRI.out.len]; exact h1.2, HRI.out.len⟩)
  have hm20 : m0 ≤ 2000 := hp0.out.2.1
  rw [Nat.zero_mul, Addr.add_zero'] at x0 x1
  clear h hw hpos hoff
  go_enter Try.func39, Try.ntmps39
  go_wp2_with fail
  go_step3
  go_wp2_with fail
  go_step3
  go_wp2_with fail
  clear x0 x1
  go_loopw [5, 17] (fun o x wr => ∃ k : Nat, x = .int .i64 (k : Nat) ∧ k ≤ m0 ∧ Hid (OwnI wr w.heap.size o (rowOf lo ls (l0.take k))) ∧ Hid (Below w.heap.size w wr)) (fun _ x _ => m0 - (intOf x).toNat)
  case atStart => exact ⟨0, rfl, Nat.zero_le _, Lib.hid (OwnL.nil _ _ _ _), Lib.hid (Below.refl _ _)⟩
  case round =>
    obtain ⟨k, rfl, hk, HOo, HBs⟩ := hrel
    by_cases hlt : (k : Int) < (m0 : Int)
    · obtain ⟨ax, p, rfl, HPX, y0⟩ := rdI_at (HRI.out.below HBs.out) (k := k) (by omega)
      have HPB : Hid (0 ≤ p ∧ p ≤ 1048576) := Lib.hid (by
        have h1 := hp0.out.1 k (by rw [hp0.out.2.2]; omega)
        unfold okAt at h1
        rw [posAt HPX.out] at h1
        exact ⟨h1.1, h1.2.1⟩)
      go_wp2_with fail
      clear y0
      go_loopw [23] (fun z wq => ∃ i : Nat, z = .int .i64 (i : Nat) ∧ i ≤ m ∧ Hid (stand lo ls p i) ∧ Hid (Below wr.heap.size wr wq)) (fun z _ => m - (intOf z).toNat)
      case atStart => exact ⟨0, rfl, Nat.zero_le _, Lib.hid (fun i hi => absurd hi (Nat.not_lt_zero _)), Lib.hid (Below.refl _ _)⟩
      case round =>
        obtain ⟨i, rfl, hi, HS, HBq⟩ := hrel
        have HBw := Lib.hid (Below.thn HBs.out HBq.out)
        by_cases hli : (i : Int) < (m : Int)
        · obtain ⟨ad', B2, m2, c2, d2, l2, ee, HX2, x0, x1, hq1, hq2, HRI2, hd2⟩ := (HW.out.below HBw.out).at (k := i) (by omega)
          cases ee
          obtain ⟨wB, hwB⟩ : ∃ wB, wB = wr.alloc (.cells #[.int .u32 (d2 : Nat), .slice B2 m2 c2] 32) := ⟨_, rfl⟩
          have hbB : Below wr.heap.size wr wB := by rw [hwB]; exact (Below.refl _ _).alloc (Nat.le_refl _) _
          obtain ⟨z0, z1, _, _⟩ := (show Box2 wB wr.heap.size 32 (.int .u32 (d2 : Nat)) (.slice B2 m2 c2) by rw [hwB]; exact Box2.new _ _ _ _).facts
          have HBB := Lib.hid (Below.thn HBw.out hbB)
          have HBqB := Lib.hid (Below.thn HBq.out hbB)
          have HWB := Lib.hid hwB
          obtain ⟨ao, o, rfl, HOX, y0⟩ := rdI_at (HR.out.below HBB.out) (k := i) (by omega)
          have HOE := Lib.hid (posAt HOX.out)
          have hob : 0 ≤ o ∧ o ≤ 1048576 := by have := HO.out i (by omega); rwa [HOE.out] at this
          obtain ⟨ho1, ho2⟩ := hob
          obtain ⟨hp1, hp2⟩ := HPB.out
          have HPE := Lib.hid (posOf_at HX2.out)
          have HIN : Hid (inZ l2 (p + o) = true ↔ p + lo.getD i 0 ∈ posOf ls i) := Lib.hid (by rw [inZ_iff, HOE.out, HPE.out])
          have CH := Lib.hid (fun q : Nat => Calls.quiet_of_same (SearchI_any B2 m2 c2 l2 (p + o) (wB.drewN q) (HRI2.out.below (below_drewN hbB q)) (by
            have h1 := (HP.out i (by have := HLn.out.2; omega)).2
            rw [HPE.out, HRI2.out.len] at h1; omega) (by
            have h1 := (HP.out i (by have := HLn.out.2; omega)).1
            rw [HPE.out] at h1
            exact okPos_up h1)))
          obtain ⟨ct, hct⟩ : ∃ ct, ct = cntZ l2 (p + o) := ⟨_, rfl⟩
          obtain ⟨bb, hbb⟩ : ∃ bb, bb = inZ l2 (p + o) := ⟨_, rfl⟩
          rw [← hct, ← hbb] at CH
          rw [← hbb] at HIN
          clear hct hbb hbB
          go_upto_region 8 with fail
          clear x0 x1
          rw [← hwB]
          clear hwB
          go_quiet (first | (go_at_call 66; exact CH.out _))
          clear z0 z1 y0 CH
          have HB9 := Lib.hid (below_drewN HBqB.out nq)
          cases bb
          · have HNS : Hid (¬ stand lo ls p ls.length) := Lib.hid (fun hs => by
              have := HIN.out.2 (hs i (by have := HLn.out.2; omega))
              cases this)
            have HN : Hid (OwnI (wB.drewN nq) w.heap.size u5 (rowOf lo ls (l0.take (k + 1)))) := Lib.hid (by rw [row_no HPX.out HNS.out]; exact HOo.out.below HB9.out)
            have HB8 := Lib.hid (Below.thn HBs.out HB9.out)
            go_wp2
            exact ⟨⟨k + 1, by simp; try go_num, by omega, HN, HB8⟩, by simp [intOf]; omega⟩
          · have HN : Hid (stand lo ls p (i + 1)) := Lib.hid (stand_step HS.out (HIN.out.1 rfl))
            go_wp2
            exact ⟨⟨i + 1, by simp; try go_num, by omega, HN, HB9⟩, by simp [intOf]; omega⟩
        · have HNS : Hid (stand lo ls p ls.length) := Lib.hid (by have h0 := HS.out; rw [show i = m from by omega] at h0; rw [HLn.out.2]; exact h0)
          obtain ⟨Ao, co, rfl, lo2, mo, _⟩ := OwnL.rd HOo.out
          have HO2 := Lib.hid (HOo.out.below HBq.out)
          obtain ⟨A', c', w', r', o', hb', hc1, hc2, _⟩ := push_i p HO2.out HBw.out (by have := rowOf_len lo ls (l0.take k); simp at this; omega)
          have HN : Hid (OwnI w' w.heap.size (.slice A' ((rowOf lo ls (l0.take k)).length + 1) c') (rowOf lo ls (l0.take (k + 1)))) := Lib.hid (by rw [row_yes HPX.out HNS.out]; exact o')
          obtain ⟨no, hno2⟩ : ∃ no, no = (rowOf lo ls (l0.take k)).length := ⟨_, rfl⟩
          rw [← hno2] at lo2 r' hc1 HN ⊢
          have HBN := Lib.hid hb'
          clear o' hb' hno2
          go_wp2_with (at_builtin; refine wpl_append_run rfl _ _ _ rfl rfl rfl r' ?_)
          exact ⟨⟨k + 1, by simp; try go_num, by omega, HN, HBN⟩, by simp [intOf]; omega⟩
    · obtain ⟨Ao, co, rfl, lo2, mo, _⟩ := OwnL.rd HOo.out
      have hF : Hid (rowOf lo ls (l0.take k) = rowL lo ls) := Lib.hid (by unfold rowL; rw [HX0.out, List.take_of_length_le (by have := hp0.out.2.2; omega)])
      obtain ⟨no, hno⟩ : ∃ no, no = (rowOf lo ls (l0.take k)).length := ⟨_, rfl⟩
      rw [← hno] at lo2 HOo ⊢
      clear hno
      go_wp2
      refine bodyPost_ret (v := .slice Ao no co) (by simp [results, Try.results39, go_sem]) rfl ⟨_, rfl, ?_, HBs.out⟩
      rw [← hF.out]
      exact HOo.out
end Go.Proofs.Ytaaddckhldccjaa
