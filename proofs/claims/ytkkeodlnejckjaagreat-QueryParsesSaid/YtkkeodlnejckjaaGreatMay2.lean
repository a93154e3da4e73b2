import Derived.Test.YtkkeodlnejckjaaGreatOwnW
import Derived.WalkSpells

/- Which ways to take texts apart may be. -/
namespace Go.Proofs.YtkkeodlnejckjaaGreat
open Go.RowKit Go.Shelf Go.Maps
set_option linter.unusedVariables false
set_option linter.unusedSimpArgs false

abbrev encS : ByteArray → Value := fun s => .string s
theorem rdS_at {w : World} {A : Option Addr} {n : Nat} {l : List ByteArray} (h : Rd encS w A n l) {k : Nat} (hk : k < n) : ∃ (ad : Addr) (x : ByteArray), A = some ad ∧ Hid (∃ hl : k < l.length, l[k] = x) ∧ w.cell? (ad.add k) = some (.string x) := by
  obtain ⟨ad, e, hc⟩ := h.cell (by omega)
  have hl : k < l.length := by rw [h.len]; exact hk
  exact ⟨ad, l[k], e, Lib.hid ⟨hl, rfl⟩, hc k hl⟩
theorem run_geqS (a b : ByteArray) (W : World) : (binOp .geq 9 (.string a) (.string b)).run Tryz.prog W = .ok (.bool (!decide (ltB a b))) W := by
  have e : Op.bytesLess a.toList b.toList = decide (ltB a b) := by rw [bytesLess_eq, Lib.toList_data, Lib.toList_data]; rfl
  simp [binOp, Op.stringOp, e, go_sem]
theorem blS (a b : ByteArray) : Op.bytesLess a.toList b.toList = decide (ltB a b) := by rw [bytesLess_eq, Lib.toList_data, Lib.toList_data]; rfl
/-- A way, read. -/
structure RdC (w : World) (A : Option Addr) (n c : Nat) (B : Option Addr) (m d : Nat) (cf : Cf) : Prop where
  fo : RdT w A n cf.fo
  st : Rd encS w B m cf.st
  nc : n ≤ c
  c2 : c ≤ 9223372036854775807
  md : m ≤ d
  d2 : d ≤ 9223372036854775807
  wf : wfT cf.fo
  sz : ∀ s ∈ cf.st, s.size ≤ 1000000
theorem RdC.below {w w' : World} {A : Option Addr} {n c : Nat} {B : Option Addr} {m d : Nat} {cf : Cf} (h : RdC w A n c B m d cf) (hb : Below w.heap.size w w') : RdC w' A n c B m d cf :=
  ⟨h.fo.below hb, h.st.below hb, h.nc, h.c2, h.md, h.d2, h.wf, h.sz⟩
theorem cells3 {w : World} {f : Nat} {x y z : Value} {t : TypeId} {fr : Nat × Nat} (h : w.heap[f]? = some (.cells #[x, y, z] t fr)) : w.cell? ⟨f, 0, none⟩ = some x ∧ w.cell? ⟨f, 1, none⟩ = some y ∧ w.cell? ⟨f, 2, none⟩ = some z := by simp [World.cell?, h]
set_option maxRecDepth 100000 in
set_option maxHeartbeats 2000000 in
theorem folds_any' (A : Option Addr) (n c : Nat) (B : Option Addr) (m d : Nat) (cf : Cf) (lo : Nat) (w : World) (h : TabAt w lo A n cf.fo) (hlo : lo ≤ w.heap.size) :
    Calls Tryz.prog 73 #[confV A n c B m d cf.cap] w fun e w' => ∃ f M, e = .returned (.pointer (some ⟨f, 0, none⟩)) ∧ Fol w' lo f M cf.fo 0 ∧ w.heap.size ≤ f ∧ w.heap.size ≤ M ∧ Below w.heap.size w w' := by
  have HT := Lib.hid h
  clear h
  obtain ⟨cp, hcp⟩ : ∃ cp, cp = cf.cap := ⟨_, rfl⟩
  rw [← hcp]
  clear hcp
  go_enter Tryz.func73, Tryz.ntmps73
  have hmm := @run_makeMap Tryz.prog
  go_wp2
  go_ret
  refine ⟨w.heap.size + 1 + 1, w.heap.size + 1, by simp [results], ⟨⟨A, n, c, .map [], ?_, ?_, ?_, OkD.empty _⟩, by decide, by omega, by omega⟩, by omega, by omega, ?_⟩
  · have := World.alloc_heap_new ((w.alloc (.cells #[.slice A n c, .slice B m d, .int .i64 cp] 25)).alloc (.map #[] 0)) (.cells #[.slice A n c, .map (some (w.heap.size + 1))] 139)
    simp only [World.size_alloc] at this
    exact this
  · exact HT.out.below (((Below.refl _ _).alloc (Nat.le_refl _) _ |>.alloc (by simp) _).alloc (by simp; omega) _)
  · have h1 := World.ownsMap_made (H := Unit) (w.alloc (.cells #[.slice A n c, .slice B m d, .int .i64 cp] 25)) Tryz.prog 21 (plainElem Tryz.prog 21)
    have h2 := h1.alloc (.cells #[.slice A n c, .map (some (w.heap.size + 1))] 139)
    simp only [World.size_alloc] at h2
    exact h2
  · exact ((Below.refl _ _).alloc (Nat.le_refl _) _ |>.alloc (by simp) _).alloc (by simp; omega) _
end Go.Proofs.YtkkeodlnejckjaaGreat

/- Which ways to take texts apart may be: the walk. -/
namespace Go.Proofs.YtkkeodlnejckjaaGreat
open Go.RowKit Go.Shelf Go.Maps
set_option linter.unusedVariables false
set_option linter.unusedSimpArgs false

theorem no_may_at {cf : Cf} {i : Nat} (hi : i < cf.st.length) (h : ¬ ((0 < i → ltB (stAt cf.st (i - 1)) (stAt cf.st i)) ∧ ownS cf (stAt cf.st i))) : ¬ mayC cf := fun hm => h (hm.2.2.2.2 i hi)
set_option maxRecDepth 100000 in
set_option maxHeartbeats 4000000 in
theorem may_any (A : Option Addr) (n c : Nat) (B : Option Addr) (m d : Nat) (cf : Cf) (w : World) (h : RdC w A n c B m d cf) :
    Calls Tryz.prog 51 #[confV A n c B m d cf.cap] w fun e w' => TellB (mayC cf) e ∧ Below w.heap.size w w' := by
  have HR := Lib.hid h
  have hml := h.st.len
  have hmd := h.md
  have hd2 := h.d2
  obtain ⟨cp, hcp⟩ : ∃ cp, cp = cf.cap := ⟨_, rfl⟩
  have hbx := (Below.refl w.heap.size w).alloc (Nat.le_refl _) (.cells #[.slice A n c, .slice B m d, .int .i64 cp] 25)
  have hcell := World.alloc_heap_new w (.cells #[.slice A n c, .slice B m d, .int .i64 cp] 25)
  obtain ⟨w1, hw1⟩ : ∃ w1, w1 = w.alloc (.cells #[.slice A n c, .slice B m d, .int .i64 cp] 25) := ⟨_, rfl⟩
  obtain ⟨g, hg⟩ : ∃ g, g = w.heap.size := ⟨_, rfl⟩
  rw [← hw1] at hbx hcell
  rw [← hg] at hcell
  have HW1 := Lib.hid hw1
  have HG := Lib.hid hg
  have HCP := Lib.hid hcp
  have HB1 := Lib.hid hbx
  have HML := Lib.hid hml
  rw [← hcp]
  have C1 := Lib.hid (Check_any A n c cf.fo w1 (HR.out.fo.below HB1.out))
  obtain ⟨c0, c1, c2⟩ := cells3 hcell
  have HC := Lib.hid hcell
  clear h hw1 hg hcp hbx hcell hml
  go_enter Tryz.func51, Tryz.ntmps51
  go_wp2_with fail
  rw [← HW1.out, ← HG.out]
  clear HW1
  go_wp2_with fail
  refine C1.out.mono ?_
  rintro e w2 ⟨rfl, hb⟩
  have hcell2 := (hb.block g (Array.getElem?_eq_some_iff.1 HC.out).1).trans HC.out
  have HB2 := Lib.hid (HB1.out.trans (hb.mono HB1.out.size))
  clear hb c0 c1 c2 HC HB1 C1
  obtain ⟨c0, c1, c2⟩ := cells3 hcell2
  have HC := Lib.hid hcell2
  clear hcell2
  by_cases hok : okTb cf.fo
  case neg =>
    rw [chk_no hok]
    have HN := Lib.hid hok
    clear hok
    go_wp2
    go_ret
    exact ⟨tell_f fun hm => HN.out hm.1, HB2.out⟩
  rw [chk_yes hok]
  have HOK := Lib.hid hok
  clear hok
  by_cases hcp1 : cp < 1
  case pos =>
    go_wp2
    go_ret
    exact ⟨tell_f fun hm => (by have := hm.2.1; rw [← HCP.out] at this; omega), HB2.out⟩
  by_cases hcp2 : cp > 12
  case pos =>
    go_wp2
    go_ret
    exact ⟨tell_f fun hm => (by have := hm.2.2.1; rw [← HCP.out] at this; omega), HB2.out⟩
  by_cases hm32 : (m : Int) > 32
  case pos =>
    go_wp2
    go_ret
    exact ⟨tell_f fun hm => (by have := hm.2.2.2.1; rw [HML.out] at this; omega), HB2.out⟩
  have HCP12 := Lib.hid (show 1 ≤ cp ∧ cp ≤ 12 by omega)
  have HM32 := Lib.hid (show m ≤ 32 by omega)
  have C2 := Lib.hid (folds_any' A n c B m d cf w2.heap.size w2 ⟨w2, HR.out.fo.below HB2.out, Below.refl _ _, Nat.le_refl _⟩ (Nat.le_refl _))
  rw [← HCP.out] at C2
  go_wp2_with fail
  clear hcp1 hcp2 hm32
  refine C2.out.mono ?_
  rintro e w3 ⟨f, M, rfl, hF, hf, hM, hb⟩
  have hcell3 := (hb.block g (Array.getElem?_eq_some_iff.1 HC.out).1).trans HC.out
  have HB3 := Lib.hid (HB2.out.trans (hb.mono HB2.out.size))
  have HF3 := Lib.hid hF
  have HgM : Hid (g < M ∧ g ≠ M) := Lib.hid (by have := HG.out; have := HB2.out.size; have := (Array.getElem?_eq_some_iff.1 HC.out).1; omega)
  have HMw : Hid (w.heap.size ≤ M) := Lib.hid (by have := HB2.out.size; omega)
  clear hb hf hM hF c0 c1 c2 HC HB2 C2
  have HC := Lib.hid hcell3
  obtain ⟨c0, c1, c2⟩ := cells3 hcell3
  clear hcell3 c0 c2
  go_wp2_with fail
  clear c1
  go_loopw [31] (fun x wr => ∃ i : Nat, i ≤ m ∧ x = .int .i64 (i : Nat) ∧ Hid (wr.heap[g]? = some (.cells #[.slice A n c, .slice B m d, .int .i64 cp] 25 (0, 0))) ∧ Hid (Below w.heap.size w wr ∧ Fol wr w2.heap.size f M cf.fo (i * 1000000) ∧ ∀ j, j < i → (0 < j → ltB (stAt cf.st (j - 1)) (stAt cf.st j)) ∧ ownS cf (stAt cf.st j))) (fun x _ => m - (intOf x).toNat)
  case atStart => exact ⟨0, Nat.zero_le _, rfl, HC, Lib.hid ⟨HB3.out, by rw [Nat.zero_mul]; exact HF3.out, fun j hj => by omega⟩⟩
  case round =>
    obtain ⟨i, hi, rfl, HC2, HI⟩ := hrel
    by_cases hlt : (i : Int) < (m : Int)
    · obtain ⟨ad, s, rfl, HX, e0⟩ := rdS_at (HR.out.st.below HI.out.1) (k := i) (by omega)
      have HsA := Lib.hid (stAt_of HX.out)
      have hil : i < cf.st.length := by rw [HML.out]; omega
      have hsz : s.size ≤ 1000000 := by
        obtain ⟨hl, rfl⟩ := HX.out
        exact HR.out.sz _ (List.getElem_mem hl)
      have hkk : i * 1000000 + s.size < 1000000000 := by have := HM32.out; omega
      have CO := Lib.hid (own_any A n c (some ad) m d cf w2.heap.size f M (i * 1000000) s wr HI.out.2.1 hkk)
      rw [← HCP.out] at CO
      have HIL := Lib.hid hil
      have HSZ := Lib.hid hsz
      obtain ⟨c0, c1, c2⟩ := cells3 HC2.out
      clear hil hsz hkk
      -- the stop word ahead
      by_cases h0 : i = 0
      · have H0 := Lib.hid h0
        have g0 : decide ((0 : Int) < (i : Int)) = false := by rw [h0]; rfl
        have g1 : decide (0 < i) = false := by rw [h0]; rfl
        clear h0
        go_wp2_with fail
        refine CO.out.mono ?_
        rintro e w4 ⟨⟨b, rfl, hbo⟩, hbut, hF⟩
        have HBU := Lib.hid hbut
        have HF4 := Lib.hid hF
        have HB4 : Hid (Below w.heap.size w w4) := Lib.hid (HI.out.1.trans ⟨hbut.os, hbut.tape, hbut.output, hbut.size, fun k hk => hbut.block k (by have := HI.out.1.size; omega) (by have := HMw.out; omega)⟩)
        have HBO := Lib.hid hbo
        clear hbut hF CO hbo e0 c0 c1 c2
        cases b
        · go_wp2
          go_ret
          exact ⟨tell_f (no_may_at HIL.out fun h => (by have := HBO.out.2 (by rw [← HsA.out]; exact h.2); simp at this)), HB4.out⟩
        · go_wp2
          refine ⟨⟨i + 1, by omega, by simp; try go_num, Lib.hid ((HBU.out.block g (Array.getElem?_eq_some_iff.1 HC2.out).1 HgM.out.2).trans HC2.out), Lib.hid ⟨HB4.out, HF4.out.le (by have := HSZ.out; omega) (by have := HM32.out; omega), fun j hj => ?_⟩⟩, by simp [intOf]; try omega⟩
          have h0 := H0.out
          obtain rfl : j = i := by omega
          exact ⟨fun h => by omega, by rw [HsA.out]; exact HBO.out.1 (by simp)⟩
      · obtain ⟨i', hi'⟩ : ∃ i', i = i' + 1 := ⟨i - 1, by omega⟩
        have g0 : decide ((0 : Int) < (i : Int)) = true := decide_eq_true (by omega)
        have g1 : decide (0 < i) = true := decide_eq_true (by omega)
        have gi : (i : Int) - 1 = (i' : Int) := by omega
        have gi2 : 0 < i := by omega
        have him : i' < m := by omega
        clear h0
        obtain ⟨ad', s', had, HX', e1⟩ := rdS_at (HR.out.st.below HI.out.1) (k := i') (by omega)
        obtain rfl : ad = ad' := by injection had
        clear had
        have HsA' : Hid (stAt cf.st (i - 1) = s') := Lib.hid (by rw [hi', Nat.add_sub_cancel]; exact stAt_of HX'.out)
        have HI' := Lib.hid hi'
        clear hi'
        by_cases hls : ltB s' s
        · have hge : Op.bytesLess s'.toList s.toList = true := by rw [blS]; exact decide_eq_true hls
          have HLS := Lib.hid hls
          clear hls
          go_wp2_with fail
          refine CO.out.mono ?_
          rintro e w4 ⟨⟨b, rfl, hbo⟩, hbut, hF⟩
          have HBU := Lib.hid hbut
          have HF4 := Lib.hid hF
          have HB4 : Hid (Below w.heap.size w w4) := Lib.hid (HI.out.1.trans ⟨hbut.os, hbut.tape, hbut.output, hbut.size, fun k hk => hbut.block k (by have := HI.out.1.size; omega) (by have := HMw.out; omega)⟩)
          have HBO := Lib.hid hbo
          clear hbut hF CO hbo e0 e1 c0 c1 c2 hge
          cases b
          · go_wp2
            go_ret
            exact ⟨tell_f (no_may_at HIL.out fun h => (by have := HBO.out.2 (by rw [← HsA.out]; exact h.2); simp at this)), HB4.out⟩
          · go_wp2
            refine ⟨⟨i + 1, by omega, by simp; try go_num, Lib.hid ((HBU.out.block g (Array.getElem?_eq_some_iff.1 HC2.out).1 HgM.out.2).trans HC2.out), Lib.hid ⟨HB4.out, HF4.out.le (by have := HSZ.out; omega) (by have := HM32.out; omega), fun j hj => ?_⟩⟩, by simp [intOf]; try omega⟩
            rcases Nat.lt_or_ge j i with hj' | hj'
            · exact HI.out.2.2 j hj'
            · obtain rfl : j = i := by omega
              refine ⟨fun _ => ?_, by rw [HsA.out]; exact HBO.out.1 (by simp)⟩
              rw [HsA.out, HsA'.out]
              exact HLS.out
        · have hge : Op.bytesLess s'.toList s.toList = false := by rw [blS]; exact decide_eq_false hls
          have HLS := Lib.hid hls
          clear hls
          go_wp2
          go_ret
          exact ⟨tell_f (no_may_at HIL.out fun h => HLS.out (by have := h.1 (by have := HI'.out; omega); rw [HsA.out, HsA'.out] at this; exact this)), HI.out.1⟩
    · go_wp2
      go_ret
      refine ⟨tell_t ⟨HOK.out, by rw [← HCP.out]; exact HCP12.out.1, by rw [← HCP.out]; exact HCP12.out.2, by rw [HML.out]; exact HM32.out, fun j hj => HI.out.2.2 j (by rw [HML.out] at hj; omega)⟩, HI.out.1⟩
end Go.Proofs.YtkkeodlnejckjaaGreat
