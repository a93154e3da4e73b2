import Derived.Test.YtkkeodlnejckjaaGreatCut
import Derived.Test.YtkkeodlnejckjaaGreatRefTk
import Derived.Test.YtkkeodlnejckjaaGreatReg
import Derived.Test.YtkkeodlnejckjaaGreatBox
import Derived.Deep.LoopGhost
import Derived.WalkSpells

/- What a row of bytes is. -/
namespace Go.Proofs.YtkkeodlnejckjaaGreat
open Go.RowKit Go.Shelf
set_option linter.unusedVariables false
set_option linter.unusedSimpArgs false

theorem str_is {b k : List Nat} {s t : ByteArray} (hb : Byt b) (hk : Byt k) (hs : s = strL b) (ht : t = strL k) : (s.toList == t.toList) = decide (b = k) := by
  rw [str_eqB]
  subst hs
  subst ht
  by_cases h : b = k
  · subst h; simp
  · rw [decide_eq_false h, decide_eq_false fun e => h (strL_inj hb hk e)]
set_option maxRecDepth 100000 in
set_option maxHeartbeats 2000000 in
theorem word_any (A : Option Addr) (n c : Nat) (b : List Nat) (w : World) (h : RdB w A n b) (hc : n ≤ c) :
    Calls Tryz.prog 77 #[.slice A n c] w fun e w' => e = .returned (.int .i64 (wordK b : Nat)) ∧ w' = w := by
  have hstr := run_str w A n c b h hc
  obtain ⟨s, hs⟩ : ∃ s, s = strL b := ⟨_, rfl⟩
  rw [← hs] at hstr
  have e1 : (s.toList == ([65, 78, 68] : List UInt8)) = decide (b = [65, 78, 68]) := by
    have h9 := str_is (t := ⟨#[65, 78, 68]⟩) h.byt (k := [65, 78, 68]) (by intro x hx; simp at hx; omega) hs rfl
    rw [Lib.toList_data (⟨#[65, 78, 68]⟩ : ByteArray)] at h9
    exact h9
  have e2 : (s.toList == ([79, 82] : List UInt8)) = decide (b = [79, 82]) := by
    have h9 := str_is (t := ⟨#[79, 82]⟩) h.byt (k := [79, 82]) (by intro x hx; simp at hx; omega) hs rfl
    rw [Lib.toList_data (⟨#[79, 82]⟩ : ByteArray)] at h9
    exact h9
  have e3 : (s.toList == ([78, 79, 84] : List UInt8)) = decide (b = [78, 79, 84]) := by
    have h9 := str_is (t := ⟨#[78, 79, 84]⟩) h.byt (k := [78, 79, 84]) (by intro x hx; simp at hx; omega) hs rfl
    rw [Lib.toList_data (⟨#[78, 79, 84]⟩ : ByteArray)] at h9
    exact h9
  clear h
  by_cases h1 : b = [65, 78, 68]
  · have HK : Hid (wordK b = 5) := Lib.hid (if_pos h1)
    rw [decide_eq_true h1] at e1
    clear hs e2 e3 h1
    go_enter Tryz.func77, Tryz.ntmps77
    go_wp2
    go_ret
    exact ⟨by rw [HK.out]; rfl, rfl⟩
  rw [decide_eq_false h1] at e1
  by_cases h2 : b = [79, 82]
  · have HK : Hid (wordK b = 6) := Lib.hid (by unfold wordK; rw [if_neg h1, if_pos h2])
    rw [decide_eq_true h2] at e2
    clear hs e3 h1 h2
    go_enter Tryz.func77, Tryz.ntmps77
    go_wp2
    go_ret
    exact ⟨by rw [HK.out]; rfl, rfl⟩
  rw [decide_eq_false h2] at e2
  by_cases h3 : b = [78, 79, 84]
  · have HK : Hid (wordK b = 7) := Lib.hid (by unfold wordK; rw [if_neg h1, if_neg h2, if_pos h3])
    rw [decide_eq_true h3] at e3
    clear hs h1 h2 h3
    go_enter Tryz.func77, Tryz.ntmps77
    go_wp2
    go_ret
    exact ⟨by rw [HK.out]; rfl, rfl⟩
  · have HK : Hid (wordK b = 8) := Lib.hid (by unfold wordK; rw [if_neg h1, if_neg h2, if_neg h3])
    rw [decide_eq_false h3] at e3
    clear hs h1 h2 h3
    go_enter Tryz.func77, Tryz.ntmps77
    go_wp2
    go_ret
    exact ⟨by rw [HK.out]; rfl, rfl⟩
end Go.Proofs.YtkkeodlnejckjaaGreat

/- The piece that begins a text: the code. -/
namespace Go.Proofs.YtkkeodlnejckjaaGreat
open Go.RowKit Go.Shelf
set_option linter.unusedVariables false
set_option linter.unusedSimpArgs false

def CuF (ix nn nr c1 gb kw : Nat) (a1 : Addr) : Nat → Value → World → Prop
  | 0 => fun v w => v = .slice (some a1) nr c1
  | 1 => fun v w => v = .int .i64 (nn : Nat)
  | 2 => fun v w => v = .slice (some a1) nn c1
  | 3 => fun v w => v = .int .i64 (kw : Nat)
  | 4 => fun v w => v = .int .i64 (ix : Nat)
  | 5 => fun v w => v = .slice (some a1) nr c1
  | 6 => fun v w => v = .int .i64 (nn : Nat)
  | 7 => fun v w => v = .slice (some a1) nn c1
  | 8 => fun v w => v = .agg #[.int .i64 (kw : Nat), .int .i64 (ix : Nat), .slice (some a1) nn c1]
  | _ => fun _ _ => True
theorem CuF.below (ix nn nr c1 gb kw : Nat) (a1 : Addr) : ∀ i v w w', Below w.heap.size w w' → CuF ix nn nr c1 gb kw a1 i v w → CuF ix nn nr c1 gb kw a1 i v w'
  | 0, _, _, _, _, h => h
  | 1, _, _, _, _, h => h
  | 2, _, _, _, _, h => h
  | 3, _, _, _, _, h => h
  | 4, _, _, _, _, h => h
  | 5, _, _, _, _, h => h
  | 6, _, _, _, _, h => h
  | 7, _, _, _, _, h => h
  | 8, _, _, _, _, h => h
  | _ + 9, _, _, _, _, _ => trivial

def CutE (w0 : World) (l : List Nat) (ix : Nat) (w : World) (e : Ending) (w' : World) : Prop := ∃ (A' : Option Addr) (m c' : Nat), e = .returned (.agg #[.int .i64 ((cutK (l.drop ix)).1 : Nat), .int .i64 (ix : Nat), .slice A' m c']) ∧ m = (cutK (l.drop ix)).2 ∧ m ≤ c' ∧ c' ≤ 9223372036854775807 ∧ RdB w0 A' m ((l.drop ix).take m) ∧ Below w.heap.size w w'
theorem item_at {r : List Nat} {j c : Nat} (hl : j < r.length) (h : c = r.getD j 0) : itemN (r.drop j) = if endsB c = true then 0 else itemN (r.drop (j + 1)) + 1 := by
  rw [List.getD_eq_getElem?_getD, List.getElem?_eq_getElem hl] at h
  have h' : c = r[j] := h
  subst h'
  conv => lhs; rw [List.drop_eq_getElem_cons hl, itemN]
set_option maxRecDepth 100000 in
set_option maxHeartbeats 8000000 in
theorem cut_any (A : Option Addr) (n c : Nat) (l : List Nat) (ix : Nat) (w0 w : World) (h0 : RdB w0 A n l) (hb0 : Below w0.heap.size w0 w) (hc : n ≤ c) (hc2 : c ≤ 9223372036854775807) (hi : ix < n) (hn : n ≤ 1000000) :
    Calls Tryz.prog 53 #[.slice A n c, .int .i64 (ix : Nat)] w (CutE w0 l ix w) := by
  have h := h0.below hb0
  have hrd0 := h0.cut (Nat.le_of_lt hi) hc
  obtain ⟨nr, hnr⟩ : ∃ nr, nr = n - ix := ⟨_, rfl⟩
  obtain ⟨c1, hc1⟩ : ∃ c1, c1 = c - ix := ⟨_, rfl⟩
  have hrd := h.cut (Nat.le_of_lt hi) hc
  have hcut := run_cut_l A n c ix (Nat.le_of_lt hi) hc
  rw [← hnr] at hrd hcut hrd0
  rw [← hc1] at hcut
  have hnr0 : 0 < nr := by omega
  have hnc1 : nr ≤ c1 := by omega
  have hc12 : c1 ≤ 9223372036854775807 := by omega
  obtain ⟨a1, c0, hA1, HX, hc256, x0⟩ := hrd.at (k := 0) hnr0
  rw [hA1] at hrd hcut hrd0
  rw [Addr.add_zero'] at x0
  obtain ⟨R, hR⟩ : ∃ R, R = l.drop ix := ⟨_, rfl⟩
  rw [← hR] at hrd HX hrd0
  have HRR := Lib.hid hR
  have HRL : Hid (R = c0 :: R.drop 1) := Lib.hid (by
    have hl : 0 < R.length := by rw [hrd.len]; exact hnr0
    have h1 := HX.out
    rw [List.getD_eq_getElem?_getD, List.getElem?_eq_getElem hl] at h1
    have h2 : c0 = R[0] := h1
    rw [h2]
    exact List.drop_eq_getElem_cons hl)
  have HRd := Lib.hid hrd
  have HRd0 := Lib.hid hrd0
  have HNR := Lib.hid hrd.len
  have hnrm : nr ≤ 1000000 := by omega
  have HB1 : ∀ v0 v1 v2 : Value, Below w.heap.size w (w.alloc (.cells #[v0, v1, v2] 66)) := fun v0 v1 v2 => (Below.refl _ _).alloc (Nat.le_refl _) _
  have x1 := cell_keep (HB1 (.int .i64 0) (.int .i64 0) (.slice none 0 0)) x0
  have HEnd : ∀ (k m c' : Nat) (A' : Option Addr), cutK R = (k, m) → m ≤ c' → c' ≤ 9223372036854775807 → RdB w0 A' m (R.take m) → CutE w0 l ix w (.returned (.agg #[.int .i64 (k : Nat), .int .i64 (ix : Nat), .slice A' m c'])) (w.alloc (.cells #[.int .i64 (k : Nat), .int .i64 (ix : Nat), .slice A' m c'] 66)) := fun k m c' A' hk h1 h2 h3 => by
    rw [HRR.out] at hk h3
    exact ⟨A', m, c', by rw [hk], by rw [hk], h1, h2, h3, HB1 _ _ _⟩
  have HEN := Lib.hid HEnd
  clear h hrd h0 hb0 hrd0 hnr hc1 hA1 hR x0 hi hc hc2 hn HEnd
  have hrun1 := run_cut_h (some a1) nr c1 1 (by omega)
  by_cases h40 : c0 = 40
  · subst h40
    have hbd : ∀ W : World, (Instr.build 66 #[(0, .int .i64 1), (1, .int .i64 (ix : Nat)), (2, .slice (some a1) 1 c1)]).run Tryz.prog W = .ok (.agg #[.int .i64 1, .int .i64 (ix : Nat), .slice (some a1) 1 c1]) W := fun W => run_build W 66 _ _ (by kernel_rfl)
    have HE := Lib.hid (HEN.out 1 1 c1 (some a1) (by rw [HRL.out, cutK_cons, if_pos rfl]) (by omega) hc12 (HRd0.out.take 1 (by omega)))
    have hq : (((40 : Nat) : Int) == 40) = true := by decide
    clear HB1
    go_enter Tryz.func53, Tryz.ntmps53
    go_wp2
    refine bodyPost_ret (v := .agg #[.int .i64 1, .int .i64 (ix : Nat), .slice (some a1) 1 c1]) (by simp [results, Tryz.results53, go_sem]) rfl HE.out
  by_cases h41 : c0 = 41
  · subst h41
    have hbd : ∀ W : World, (Instr.build 66 #[(0, .int .i64 2), (1, .int .i64 (ix : Nat)), (2, .slice (some a1) 1 c1)]).run Tryz.prog W = .ok (.agg #[.int .i64 2, .int .i64 (ix : Nat), .slice (some a1) 1 c1]) W := fun W => run_build W 66 _ _ (by kernel_rfl)
    have HE := Lib.hid (HEN.out 2 1 c1 (some a1) (by rw [HRL.out, cutK_cons, if_neg (by decide), if_pos rfl]) (by omega) hc12 (HRd0.out.take 1 (by omega)))
    have hq : (((41 : Nat) : Int) == 40) = false := by decide
    have hq2 : (((41 : Nat) : Int) == 41) = true := by decide
    clear HB1
    go_enter Tryz.func53, Tryz.ntmps53
    go_wp2
    refine bodyPost_ret (v := .agg #[.int .i64 2, .int .i64 (ix : Nat), .slice (some a1) 1 c1]) (by simp [results, Tryz.results53, go_sem]) rfl HE.out
  have hq40 : ((c0 : Int) == 40) = false := by simp; omega
  have hq41 : ((c0 : Int) == 41) = false := by simp; omega
  clear hrun1
  by_cases h34 : c0 = 34
  · subst h34
    have hq34 : (((34 : Nat) : Int) == 34) = true := by decide
    clear hq40 hq41
    have hq40 : (((34 : Nat) : Int) == 40) = false := by decide
    have hq41 : (((34 : Nat) : Int) == 41) = false := by decide
    have hA2 : ∃ a2, cutAt (some a1) c1 1 = some a2 := by unfold cutAt; split <;> exact ⟨_, rfl⟩
    obtain ⟨a2, hA2⟩ := hA2
    have hcut2 : ∀ W : World, (Instr.slice 26 (.slice (some a1) nr c1) (some (.int .i64 1)) none none).run Tryz.prog W = .ok (.slice (cutAt (some a1) c1 1) (nr - 1) (c1 - 1)) W := run_cut_l (some a1) nr c1 1 (by omega) hnc1
    have hrd2 := HRd.out.cut (k := 1) (by omega) hnc1
    rw [hA2] at hcut2 hrd2
    obtain ⟨n2, hn2⟩ : ∃ n2, n2 = nr - 1 := ⟨_, rfl⟩
    obtain ⟨c2, hc2⟩ : ∃ c2, c2 = c1 - 1 := ⟨_, rfl⟩
    rw [← hn2] at hcut2 hrd2
    rw [← hc2] at hcut2
    have hrl : (R.drop 1).length = n2 := hrd2.len
    have hKK : cutK R = _ := (congrArg cutK HRL.out).trans (cutK_cons _ _)
    rw [if_neg (by decide), if_neg (by decide), if_pos rfl] at hKK
    have CI := Lib.hid (index_any a2 n2 c2 (R.drop 1) (w.alloc (.cells #[.int .i64 0, .int .i64 0, .slice none 0 0] 66)) (hrd2.below (HB1 _ _ _)))
    cases hq : quoteN (R.drop 1) with
    | none =>
      have hqi : quoteI (R.drop 1) = -1 := by unfold quoteI; rw [hq]
      rw [hqi] at CI
      rw [hq] at hKK
      have hbd : ∀ W : World, (Instr.build 66 #[(0, .int .i64 4), (1, .int .i64 (ix : Nat)), (2, .slice (some a1) nr c1)]).run Tryz.prog W = .ok (.agg #[.int .i64 4, .int .i64 (ix : Nat), .slice (some a1) nr c1]) W := fun W => run_build W 66 _ _ (by kernel_rfl)
      have HE := Lib.hid (HEN.out 4 nr c1 (some a1) (by rw [hKK, hrl, hn2]; simp; omega) hnc1 hc12 (by rw [List.take_of_length_le (by rw [HNR.out]; exact Nat.le_refl _)]; exact HRd0.out))
      clear hA2 hrd2 hn2 hc2 hrl hKK hq hqi HB1
      go_enter Tryz.func53, Tryz.ntmps53
      go_wp2_with fail
      refine CI.out.mono ?_
      rintro e w2 ⟨rfl, rfl⟩
      clear CI
      go_wp2
      refine bodyPost_ret (v := .agg #[.int .i64 4, .int .i64 (ix : Nat), .slice (some a1) nr c1]) (by simp [results, Tryz.results53, go_sem]) rfl HE.out
    | some k =>
      have hqi : quoteI (R.drop 1) = (k : Int) := by unfold quoteI; rw [hq]
      have hkl := quoteN_lt hq
      rw [hqi] at CI
      rw [hq] at hKK
      obtain ⟨nn, hnn⟩ : ∃ nn, nn = k + 2 := ⟨_, rfl⟩
      have hnl : nn ≤ nr := by omega
      have hge : ¬ ((k : Int) < 0) := by omega
      have hk2 : k + 2 ≤ nr := by omega
      have hrun : ∀ W : World, (Instr.slice 26 (.slice (some a1) nr c1) none (some (.int .i64 ((k : Int) + 2))) none).run Tryz.prog W = .ok (.slice (some a1) nn c1) W := by
        have h := run_cut_h (some a1) nr c1 nn (by omega)
        rw [show ((nn : Nat) : Int) = (k : Int) + 2 by omega] at h
        exact h
      have hbd : ∀ W : World, (Instr.build 66 #[(0, .int .i64 3), (1, .int .i64 (ix : Nat)), (2, .slice (some a1) nn c1)]).run Tryz.prog W = .ok (.agg #[.int .i64 3, .int .i64 (ix : Nat), .slice (some a1) nn c1]) W := fun W => run_build W 66 _ _ (by kernel_rfl)
      have HE := Lib.hid (HEN.out 3 nn c1 (some a1) (by rw [hKK, hnn]) (by omega) hc12 (HRd0.out.take nn hnl))
      clear hA2 hrd2 hn2 hc2 hrl hKK hq hqi HB1 hkl hnn hnl
      go_enter Tryz.func53, Tryz.ntmps53
      go_wp2_with fail
      refine CI.out.mono ?_
      rintro e w2 ⟨rfl, rfl⟩
      clear CI
      go_wp2
      refine bodyPost_ret (v := .agg #[.int .i64 3, .int .i64 (ix : Nat), .slice (some a1) nn c1]) (by simp [results, Tryz.results53, go_sem]) rfl HE.out
  have hKK : cutK R = _ := (congrArg cutK HRL.out).trans (cutK_cons _ _)
  rw [if_neg h40, if_neg h41, if_neg h34, ← HRL.out] at hKK
  have hq34 : ((c0 : Int) == 34) = false := by simp; omega
  have HKK := Lib.hid hKK
  have HBZ := Lib.hid HB1
  have HBX : Hid (BoxA (w.alloc (.cells #[.int .i64 0, .int .i64 0, .slice none 0 0] 66)) w.heap.size 66 [.int .i64 0, .int .i64 0, .slice none 0 0]) := Lib.hid (BoxA.new _ _ _)
  clear h40 h41 h34 hKK HB1
  go_enter Tryz.func53, Tryz.ntmps53
  go_wp2_with fail
  go_loopw [7] (fun x wr => ∃ nn : Nat, x = .int .i64 (nn : Nat) ∧ 1 ≤ nn ∧ nn ≤ nr ∧ Hid (itemN (R.drop 1) + 1 = nn + itemN (R.drop nn)) ∧ wr = w.alloc (.cells #[.int .i64 0, .int .i64 0, .slice none 0 0] 66)) (fun x _ => nr - (intOf x).toNat)
  case atStart => exact ⟨1, rfl, Nat.le_refl _, hnr0, Lib.hid (by omega), rfl⟩
  case round =>
    obtain ⟨nn, rfl, hn1, hn2, HI, rfl⟩ := hrel
    by_cases hlt : (nn : Int) < (nr : Int)
    · obtain ⟨ad', ch, hA, HX2, hc2, x2⟩ := (HRd.out.below (HBZ.out (.int .i64 0) (.int .i64 0) (.slice none 0 0))).at (k := nn) (by omega)
      cases hA
      have CE := Lib.hid (ends_any ch (w.alloc (.cells #[.int .i64 0, .int .i64 0, .slice none 0 0] 66)))
      obtain ⟨be, hbe⟩ : ∃ be, be = endsB ch := ⟨_, rfl⟩
      rw [← hbe] at CE
      have HBE := Lib.hid hbe
      clear hbe
      go_wp2_with fail
      refine CE.out.mono ?_
      rintro e w2 ⟨rfl, rfl⟩
      clear CE
      cases be
      · have HI2 : Hid (itemN (R.drop 1) + 1 = (nn + 1) + itemN (R.drop (nn + 1))) := Lib.hid (by
          have h1 := item_at (by rw [HNR.out]; omega) HX2.out
          rw [← HBE.out, if_neg (by decide)] at h1
          have := HI.out
          omega)
        go_wp2
        exact ⟨⟨nn + 1, by simp, by omega, by omega, HI2, trivial⟩, by simp [intOf]; omega⟩
      · have HIE : Hid (itemN (R.drop 1) + 1 = nn) := Lib.hid (by
          have h1 := item_at (by rw [HNR.out]; omega) HX2.out
          rw [← HBE.out, if_pos rfl] at h1
          have := HI.out
          omega)
        clear x2
        obtain ⟨kw, hkw⟩ : ∃ kw, kw = wordK (R.take nn) := ⟨_, rfl⟩
        have hcutn := run_cut_h (some a1) nr c1 nn (by omega)
        have CW : Hid (∀ w9, Below (w.alloc (.cells #[.int .i64 0, .int .i64 0, .slice none 0 0] 66)).heap.size (w.alloc (.cells #[.int .i64 0, .int .i64 0, .slice none 0 0] 66)) w9 → Calls Tryz.prog 77 #[.slice (some a1) nn c1] w9 fun e w' => e = .returned (.int .i64 (kw : Nat)) ∧ w' = w9) := Lib.hid fun w9 h9 => by
          rw [hkw]
          exact word_any (some a1) nn c1 (R.take nn) w9 (((HRd.out.take nn hn2).below (HBZ.out _ _ _)).below h9) (by omega)
        have hbd : ∀ W : World, (Instr.build 66 #[(0, .int .i64 (kw : Nat)), (1, .int .i64 (ix : Nat)), (2, .slice (some a1) nn c1)]).run Tryz.prog W = .ok (.agg #[.int .i64 (kw : Nat), .int .i64 (ix : Nat), .slice (some a1) nn c1]) W := fun W => run_build W 66 _ _ (by kernel_rfl)
        have HKN : Hid (cutK R = (kw, nn)) := Lib.hid (by rw [HKK.out, hkw, show itemN (R.drop 1) + 1 = nn from HIE.out])
        have hnc : nn ≤ c1 := by omega
        clear hkw x1
        go_wp2_with fail
        rename_i K1 hK1
        refine wp_region_flowT 9 (by kernel_rfl) (by kernel_rfl) (CuF ix nn nr c1 w.heap.size kw a1) (CuF.below ix nn nr c1 w.heap.size kw a1) (by kernel_rfl) (by kernel_rfl) ?_ ?_
        case refine_1 =>
          intro i o hit ho ρ y w2 hb2 hreg hn hf hyb hyn
          obtain rfl | rfl | rfl | rfl | rfl | rfl | rfl | rfl | rfl : i = 0 ∨ i = 1 ∨ i = 2 ∨ i = 3 ∨ i = 4 ∨ i = 5 ∨ i = 6 ∨ i = 7 ∨ i = 8 := by omega
          · cases ho
            rw [if_pos (show Region.wanted _ y = true from rfl)]
            have f5 : ρ (.tmp 5) = .slice (some a1) nr c1 := hf 5 (by kernel_rfl)
            exact ⟨f5, Below.refl _ _⟩
          · cases ho
            rw [if_pos (show Region.wanted _ y = true from rfl)]
            have f7 : ρ (.tmp 7) = .int .i64 (nn : Nat) := hf 7 (by kernel_rfl)
            exact ⟨f7, Below.refl _ _⟩
          · cases ho
            rw [if_pos (show Region.wanted _ y = true from rfl)]
            have f56 : ρ (.tmp 56) = .slice (some a1) nr c1 := hn 0 _ 56 rfl (by kernel_rfl) rfl
            have f57 : ρ (.tmp 57) = .int .i64 (nn : Nat) := hn 1 _ 57 rfl (by kernel_rfl) rfl
            exact does_ok (v := .slice (some a1) nn c1) (w' := w2) (by simp [go_sem, hreg.const, f56, f57, hcutn]) ⟨rfl, Below.refl _ _⟩
          · cases ho
            rw [if_pos (show Region.wanted _ y = true from rfl)]
            have f58 : ρ (.tmp 58) = .slice (some a1) nn c1 := hn 2 _ 58 rfl (by kernel_rfl) rfl
            refine does_enter (f := 77) (args := #[.slice (some a1) nn c1]) (w' := w2) (by simp [go_sem, hreg.func, hreg.const, f58]) ?_
            refine (CW.out w2 hb2).mono ?_
            rintro e w' ⟨rfl, rfl⟩
            exact ⟨_, rfl, rfl, (Below.refl _ _)⟩
          · cases ho
            rw [if_pos (show Region.wanted _ y = true from rfl)]
            have f1 : ρ (.tmp 1) = .int .i64 (ix : Nat) := hf 1 (by kernel_rfl)
            exact ⟨f1, Below.refl _ _⟩
          · cases ho
            rw [if_pos (show Region.wanted _ y = true from rfl)]
            have f5 : ρ (.tmp 5) = .slice (some a1) nr c1 := hf 5 (by kernel_rfl)
            exact ⟨f5, Below.refl _ _⟩
          · cases ho
            rw [if_pos (show Region.wanted _ y = true from rfl)]
            have f7 : ρ (.tmp 7) = .int .i64 (nn : Nat) := hf 7 (by kernel_rfl)
            exact ⟨f7, Below.refl _ _⟩
          · cases ho
            rw [if_pos (show Region.wanted _ y = true from rfl)]
            have f61 : ρ (.tmp 61) = .slice (some a1) nr c1 := hn 5 _ 61 rfl (by kernel_rfl) rfl
            have f62 : ρ (.tmp 62) = .int .i64 (nn : Nat) := hn 6 _ 62 rfl (by kernel_rfl) rfl
            exact does_ok (v := .slice (some a1) nn c1) (w' := w2) (by simp [go_sem, hreg.const, f61, f62, hcutn]) ⟨rfl, Below.refl _ _⟩
          · cases ho
            rw [if_pos (show Region.wanted _ y = true from rfl)]
            have f59 : ρ (.tmp 59) = .int .i64 (kw : Nat) := hn 3 _ 59 rfl (by kernel_rfl) rfl
            have f60 : ρ (.tmp 60) = .int .i64 (ix : Nat) := hn 4 _ 60 rfl (by kernel_rfl) rfl
            have f63 : ρ (.tmp 63) = .slice (some a1) nn c1 := hn 7 _ 63 rfl (by kernel_rfl) rfl
            exact does_ok (v := .agg #[.int .i64 (kw : Nat), .int .i64 (ix : Nat), .slice (some a1) nn c1]) (w' := w2) (by simp [go_sem, hreg.const, f59, f60, f63, hbd]) ⟨rfl, Below.refl _ _⟩
        case refine_2 =>
          intro a w2 hb2 hd hs hfacts hrest
          have q64 : a.tmps.getD 64 undef = .agg #[.int .i64 (kw : Nat), .int .i64 (ix : Nat), .slice (some a1) nn c1] := hfacts 8 _ 64 (by decide) rfl rfl
          have ha := frame_ofP hd hs hrest [56, 57, 58, 59, 60, 61, 62, 63, 64] (by kernel_rfl)
          simp only [q64, List.foldl, List.setIfInBounds_toArray, List.set_cons_succ, List.set_cons_zero] at ha
          clear q64 hd hs hfacts hrest
          generalize a.tmps.getD = gg at ha
          subst ha
          obtain ⟨hz, hzg⟩ := (HBX.out.below hb2).set3 (.int .i64 (kw : Nat)) (.int .i64 (ix : Nat)) (.slice (some a1) nn c1)
          obtain ⟨z0, z1, z2, z3, z4, z5⟩ := (HBX.out.below hb2).three
          obtain ⟨y0, y1, y2, _, _, _⟩ := hz.three
          have hb5 := (Below.thn (HBZ.out (.int .i64 0) (.int .i64 0) (.slice none 0 0)) hb2).grown hzg (by have := hb2.size; simp at this; omega) (fun k hk => by injection hk with hk; omega)
          have HE : Hid (CutE w0 l ix w (.returned (.agg #[.int .i64 (kw : Nat), .int .i64 (ix : Nat), .slice (some a1) nn c1])) (((w2.setCell ⟨w.heap.size, 0, none⟩ (.int .i64 (kw : Nat))).setCell ⟨w.heap.size, 1, none⟩ (.int .i64 (ix : Nat))).setCell ⟨w.heap.size, 2, none⟩ (.slice (some a1) nn c1))) := Lib.hid (by
            have hk := HKN.out
            have hr := HRd0.out.take nn hn2
            rw [HRR.out] at hk hr
            exact ⟨some a1, nn, c1, by rw [hk], by rw [hk], hnc, hc12, hr, hb5⟩)
          clear hz hzg hb5 hb2
          simp only [List.drop_succ_cons, List.drop_zero]
          go_wp2
          refine bodyPost_ret (v := .agg #[.int .i64 (kw : Nat), .int .i64 (ix : Nat), .slice (some a1) nn c1]) (by simp [results, Tryz.results53, go_sem, y0, y1, y2]) rfl HE.out
    · have HIE : Hid (itemN (R.drop 1) + 1 = nn) := Lib.hid (by
        have := HI.out
        rw [List.drop_of_length_le (l := R) (i := nn) (by rw [HNR.out]; omega)] at this
        simpa [itemN] using this)
      obtain ⟨kw, hkw⟩ : ∃ kw, kw = wordK (R.take nn) := ⟨_, rfl⟩
      have hcutn := run_cut_h (some a1) nr c1 nn (by omega)
      have CW : Hid (∀ w9, Below (w.alloc (.cells #[.int .i64 0, .int .i64 0, .slice none 0 0] 66)).heap.size (w.alloc (.cells #[.int .i64 0, .int .i64 0, .slice none 0 0] 66)) w9 → Calls Tryz.prog 77 #[.slice (some a1) nn c1] w9 fun e w' => e = .returned (.int .i64 (kw : Nat)) ∧ w' = w9) := Lib.hid fun w9 h9 => by
        rw [hkw]
        exact word_any (some a1) nn c1 (R.take nn) w9 (((HRd.out.take nn hn2).below (HBZ.out _ _ _)).below h9) (by omega)
      have hbd : ∀ W : World, (Instr.build 66 #[(0, .int .i64 (kw : Nat)), (1, .int .i64 (ix : Nat)), (2, .slice (some a1) nn c1)]).run Tryz.prog W = .ok (.agg #[.int .i64 (kw : Nat), .int .i64 (ix : Nat), .slice (some a1) nn c1]) W := fun W => run_build W 66 _ _ (by kernel_rfl)
      have HKN : Hid (cutK R = (kw, nn)) := Lib.hid (by rw [HKK.out, hkw, show itemN (R.drop 1) + 1 = nn from HIE.out])
      have hnc : nn ≤ c1 := by omega
      clear hkw x1
      go_wp2_with fail
      rename_i K1 hK1
      refine wp_region_flowT 9 (by kernel_rfl) (by kernel_rfl) (CuF ix nn nr c1 w.heap.size kw a1) (CuF.below ix nn nr c1 w.heap.size kw a1) (by kernel_rfl) (by kernel_rfl) ?_ ?_
      case refine_1 =>
        intro i o hit ho ρ y w2 hb2 hreg hn hf hyb hyn
        obtain rfl | rfl | rfl | rfl | rfl | rfl | rfl | rfl | rfl : i = 0 ∨ i = 1 ∨ i = 2 ∨ i = 3 ∨ i = 4 ∨ i = 5 ∨ i = 6 ∨ i = 7 ∨ i = 8 := by omega
        · cases ho
          rw [if_pos (show Region.wanted _ y = true from rfl)]
          have f5 : ρ (.tmp 5) = .slice (some a1) nr c1 := hf 5 (by kernel_rfl)
          exact ⟨f5, Below.refl _ _⟩
        · cases ho
          rw [if_pos (show Region.wanted _ y = true from rfl)]
          have f7 : ρ (.tmp 7) = .int .i64 (nn : Nat) := hf 7 (by kernel_rfl)
          exact ⟨f7, Below.refl _ _⟩
        · cases ho
          rw [if_pos (show Region.wanted _ y = true from rfl)]
          have f56 : ρ (.tmp 56) = .slice (some a1) nr c1 := hn 0 _ 56 rfl (by kernel_rfl) rfl
          have f57 : ρ (.tmp 57) = .int .i64 (nn : Nat) := hn 1 _ 57 rfl (by kernel_rfl) rfl
          exact does_ok (v := .slice (some a1) nn c1) (w' := w2) (by simp [go_sem, hreg.const, f56, f57, hcutn]) ⟨rfl, Below.refl _ _⟩
        · cases ho
          rw [if_pos (show Region.wanted _ y = true from rfl)]
          have f58 : ρ (.tmp 58) = .slice (some a1) nn c1 := hn 2 _ 58 rfl (by kernel_rfl) rfl
          refine does_enter (f := 77) (args := #[.slice (some a1) nn c1]) (w' := w2) (by simp [go_sem, hreg.func, hreg.const, f58]) ?_
          refine (CW.out w2 hb2).mono ?_
          rintro e w' ⟨rfl, rfl⟩
          exact ⟨_, rfl, rfl, (Below.refl _ _)⟩
        · cases ho
          rw [if_pos (show Region.wanted _ y = true from rfl)]
          have f1 : ρ (.tmp 1) = .int .i64 (ix : Nat) := hf 1 (by kernel_rfl)
          exact ⟨f1, Below.refl _ _⟩
        · cases ho
          rw [if_pos (show Region.wanted _ y = true from rfl)]
          have f5 : ρ (.tmp 5) = .slice (some a1) nr c1 := hf 5 (by kernel_rfl)
          exact ⟨f5, Below.refl _ _⟩
        · cases ho
          rw [if_pos (show Region.wanted _ y = true from rfl)]
          have f7 : ρ (.tmp 7) = .int .i64 (nn : Nat) := hf 7 (by kernel_rfl)
          exact ⟨f7, Below.refl _ _⟩
        · cases ho
          rw [if_pos (show Region.wanted _ y = true from rfl)]
          have f61 : ρ (.tmp 61) = .slice (some a1) nr c1 := hn 5 _ 61 rfl (by kernel_rfl) rfl
          have f62 : ρ (.tmp 62) = .int .i64 (nn : Nat) := hn 6 _ 62 rfl (by kernel_rfl) rfl
          exact does_ok (v := .slice (some a1) nn c1) (w' := w2) (by simp [go_sem, hreg.const, f61, f62, hcutn]) ⟨rfl, Below.refl _ _⟩
        · cases ho
          rw [if_pos (show Region.wanted _ y = true from rfl)]
          have f59 : ρ (.tmp 59) = .int .i64 (kw : Nat) := hn 3 _ 59 rfl (by kernel_rfl) rfl
          have f60 : ρ (.tmp 60) = .int .i64 (ix : Nat) := hn 4 _ 60 rfl (by kernel_rfl) rfl
          have f63 : ρ (.tmp 63) = .slice (some a1) nn c1 := hn 7 _ 63 rfl (by kernel_rfl) rfl
          exact does_ok (v := .agg #[.int .i64 (kw : Nat), .int .i64 (ix : Nat), .slice (some a1) nn c1]) (w' := w2) (by simp [go_sem, hreg.const, f59, f60, f63, hbd]) ⟨rfl, Below.refl _ _⟩
      case refine_2 =>
        intro a w2 hb2 hd hs hfacts hrest
        have q64 : a.tmps.getD 64 undef = .agg #[.int .i64 (kw : Nat), .int .i64 (ix : Nat), .slice (some a1) nn c1] := hfacts 8 _ 64 (by decide) rfl rfl
        have ha := frame_ofP hd hs hrest [56, 57, 58, 59, 60, 61, 62, 63, 64] (by kernel_rfl)
        simp only [q64, List.foldl, List.setIfInBounds_toArray, List.set_cons_succ, List.set_cons_zero] at ha
        clear q64 hd hs hfacts hrest
        generalize a.tmps.getD = gg at ha
        subst ha
        obtain ⟨hz, hzg⟩ := (HBX.out.below hb2).set3 (.int .i64 (kw : Nat)) (.int .i64 (ix : Nat)) (.slice (some a1) nn c1)
        obtain ⟨z0, z1, z2, z3, z4, z5⟩ := (HBX.out.below hb2).three
        obtain ⟨y0, y1, y2, _, _, _⟩ := hz.three
        have hb5 := (Below.thn (HBZ.out (.int .i64 0) (.int .i64 0) (.slice none 0 0)) hb2).grown hzg (by have := hb2.size; simp at this; omega) (fun k hk => by injection hk with hk; omega)
        have HE : Hid (CutE w0 l ix w (.returned (.agg #[.int .i64 (kw : Nat), .int .i64 (ix : Nat), .slice (some a1) nn c1])) (((w2.setCell ⟨w.heap.size, 0, none⟩ (.int .i64 (kw : Nat))).setCell ⟨w.heap.size, 1, none⟩ (.int .i64 (ix : Nat))).setCell ⟨w.heap.size, 2, none⟩ (.slice (some a1) nn c1))) := Lib.hid (by
          have hk := HKN.out
          have hr := HRd0.out.take nn hn2
          rw [HRR.out] at hk hr
          exact ⟨some a1, nn, c1, by rw [hk], by rw [hk], hnc, hc12, hr, hb5⟩)
        clear hz hzg hb5 hb2
        simp only [List.drop_succ_cons, List.drop_zero]
        go_wp2
        refine bodyPost_ret (v := .agg #[.int .i64 (kw : Nat), .int .i64 (ix : Nat), .slice (some a1) nn c1]) (by simp [results, Tryz.results53, go_sem, y0, y1, y2]) rfl HE.out
end Go.Proofs.YtkkeodlnejckjaaGreat

/- A text's pieces. -/
namespace Go.Proofs.YtkkeodlnejckjaaGreat
open Go.RowKit Go.Shelf
set_option linter.unusedVariables false
set_option linter.unusedSimpArgs false

/-- A piece, and its bytes' slice. -/
abbrev PcM := Pc × Option Addr × Nat × Nat
abbrev encP : PcM → List Value := fun x => [.int .i64 (x.1.1 : Nat), .int .i64 (x.1.2.1 : Nat), .slice x.2.1 x.2.2.1 x.2.2.2]
theorem encP_len (x : PcM) : (encP x).length = 3 := rfl
theorem encP_one (x : PcM) : ∀ u ∈ encP x, u.oneCell' = true := by
  intro u hu
  simp at hu
  rcases hu with rfl | rfl | rfl <;> rfl
theorem infoP : (Tryz.prog.info? 66).map (fun i => (i.zero, i.size, i.bytes)) = some (some (.agg #[.int .i64 0, .int .i64 0, .slice none 0 0]), 3, 40) := by kernel_rfl
/-- The pieces' bytes lie in the text. -/
def PcOk (w : World) (x : PcM) : Prop := x.2.2.1 ≤ x.2.2.2 ∧ x.2.2.2 ≤ 9223372036854775807 ∧ x.2.2.1 ≤ 1000000 ∧ RdB w x.2.1 x.2.2.1 x.1.2.2
theorem PcOk.below {w w' : World} {x : PcM} (h : PcOk w x) (hb : Below w.heap.size w w') : PcOk w' x := ⟨h.1, h.2.1, h.2.2.1, h.2.2.2.below hb⟩
def PcsL (l : List Nat) : List Pc := piecesL l ++ [(0, l.length, [])]
def PcsE (l : List Nat) (w : World) (e : Ending) (w' : World) : Prop := ∃ v L, e = .returned v ∧ OwnK encP 3 66 w' w.heap.size v L ∧ (∀ x ∈ L, PcOk w x) ∧ L.map (fun x : PcM => x.1) = PcsL l ∧ L.length ≤ l.length + 1 ∧ Below w.heap.size w w'
set_option maxRecDepth 100000 in
set_option maxHeartbeats 8000000 in
theorem pieces_any (A : Option Addr) (n c : Nat) (l : List Nat) (w : World) (h : RdB w A n l) (hc : n ≤ c) (hc2 : c ≤ 9223372036854775807) (hn : n ≤ 100000) :
    Calls Tryz.prog 30 #[.slice A n c] w (PcsE l w) := by
  have HR := Lib.hid h
  have HLn := Lib.hid h.len
  clear h
  go_enter Tryz.func30, Tryz.ntmps30
  go_wp2_with fail
  go_step3
  go_wp2_with fail
  go_step3
  go_wp2_with fail
  go_loopw [3, 4] (fun v x wr => ∃ (ix : Nat) (L : List PcM), x = .int .i64 (ix : Nat) ∧ ix ≤ n ∧ L.length ≤ ix ∧ Hid (OwnK encP 3 66 wr w.heap.size v L) ∧ Hid (∀ x ∈ L, PcOk w x) ∧ Hid (L.map (fun x : PcM => x.1) ++ pcs (l.length + 1) ix (l.drop ix) = piecesL l) ∧ Hid (Below w.heap.size w wr)) (fun _ x _ => n - (intOf x).toNat)
  case atStart => exact ⟨0, [], rfl, Nat.zero_le _, Nat.le_refl _, Lib.hid (OwnK.nil _ _ _ _ _), Lib.hid (fun x hx => by cases hx), Lib.hid rfl, Lib.hid (Below.refl _ _)⟩
  case round =>
    obtain ⟨ix, L, rfl, hix, hLx, HO, HP, HS, HB⟩ := hrel
    by_cases hlt : (ix : Int) < (n : Int)
    · obtain ⟨ad, ch, rfl, HX, hc256, x0⟩ := (HR.out.below HB.out).at (k := ix) (by omega)
      have CB := Lib.hid (blank_any ch wr)
      obtain ⟨bb, hbb⟩ : ∃ bb, bb = blankB ch := ⟨_, rfl⟩
      rw [← hbb] at CB
      have HBB := Lib.hid hbb
      have HXX : Hid (∃ hl : ix < l.length, l[ix] = ch) := Lib.hid (by
        have hl : ix < l.length := by rw [HLn.out]; omega
        have h1 := HX.out
        rw [List.getD_eq_getElem?_getD, List.getElem?_eq_getElem hl] at h1
        exact ⟨hl, h1.symm⟩)
      clear hbb
      go_wp2_with fail
      refine CB.out.mono ?_
      rintro e w2 ⟨rfl, rfl⟩
      clear CB x0
      cases bb
      · have HCut := Lib.hid (cut_any (some ad) n c l ix w w2 HR.out HB.out hc hc2 (by omega) (by omega))
        have HST := Lib.hid (pcs_cut HXX.out HBB.out.symm)
        go_wp2_with fail
        refine HCut.out.mono ?_
        rintro e w3 ⟨A', m, c', rfl, hm, hmc, hcc, hrd, hb3⟩
        have hm0 : 1 ≤ m ∧ ix + m ≤ n := by
          have h1 := hrd.len
          rw [List.length_take, List.length_drop, HLn.out] at h1
          obtain ⟨hl, e⟩ := HXX.out
          have h2 := cutK_pos l[ix] (l.drop (ix + 1))
          rw [← List.drop_eq_getElem_cons hl, ← hm] at h2
          omega
        obtain ⟨hm1, hm2⟩ := hm0
        obtain ⟨kk, hkk⟩ : ∃ kk, kk = (cutK (l.drop ix)).1 := ⟨_, rfl⟩
        rw [← hkk]
        obtain ⟨W4, hW4⟩ : ∃ W4, W4 = w3.alloc (.cells #[.int .i64 (kk : Nat), .int .i64 (ix : Nat), .slice A' m c'] 66) := ⟨_, rfl⟩
        have hbx4 : BoxA W4 w3.heap.size 66 [.int .i64 (kk : Nat), .int .i64 (ix : Nat), .slice A' m c'] := by rw [hW4]; exact BoxA.new _ _ _
        have hb4 : Below w3.heap.size w3 W4 := by rw [hW4]; exact (Below.refl _ _).alloc (Nat.le_refl _) _
        have hB4 := Below.thn (Below.thn HB.out hb3) hb4
        have ho4 := (HO.out.below hb3).below hb4
        obtain ⟨A6, c6, w6, r6, o6, h61, h62, g6⟩ := push_K (P := Tryz.prog) w.heap.size 60 66 _ 40 Tryz.underlying60 infoP rfl (by decide) (by decide) (by decide) encP_len encP_one ((kk, ix, (l.drop ix).take m), A', m, c') #[.int .i64 (kk : Nat), .int .i64 (ix : Nat), .slice A' m c'] rfl ho4 hB4.size (by omega)
        have hB6 : Below w.heap.size w w6 := hB4.grown g6 hB4.size (fun k hk => (HO.out.base k hk).1)
        have hbx6 := hbx4.kept g6 (fun e => by
          have h1 := (HO.out.base _ e.symm).2
          have h2 := hb3.size
          omega)
        have HP6 : Hid (∀ x ∈ L ++ [((kk, ix, (l.drop ix).take m), A', m, c')], PcOk w x) := Lib.hid (fun x hx => by
          rcases List.mem_append.1 hx with h | h
          · exact HP.out x h
          · simp only [List.mem_singleton] at h
            subst h
            exact ⟨hmc, hcc, by show m ≤ 1000000; omega, hrd⟩)
        have HS6 : Hid ((L ++ [((kk, ix, (l.drop ix).take m), A', m, c')]).map (fun x : PcM => x.1) ++ pcs (l.length + 1) (ix + m) (l.drop (ix + m)) = piecesL l) := Lib.hid (by
          have h1 := HS.out
          rw [HST.out, ← hm, ← hkk] at h1
          rw [List.map_append, List.append_assoc]
          exact h1)
        have HO6 := Lib.hid o6
        have HBB6 := Lib.hid hB6
        have HW4 := Lib.hid hW4
        obtain ⟨y0, y1, y2, _, _, _⟩ := hbx4.three
        obtain ⟨z0, z1, z2, _, _, _⟩ := hbx6.three
        clear HST HCut hm hkk hW4 hbx4 hbx6 hb4 hB4 ho4 hrd hb3 o6 hB6 g6
        have hcv : ((L.length : Nat) : Int) + 1 ≤ 9223372036854775807 := by omega
        go_upto_region 7 with fail
        rw [← HW4.out]
        go_wp2_with (at_builtin; refine wpl_append_run rfl _ _ _ rfl rfl rfl r6 ?_)
        exact ⟨⟨ix + m, _, by simp, hm2, by simp; omega, HO6, HP6, HS6, HBB6⟩, by simp [intOf]; omega⟩
      · have HN : Hid (L.map (fun x : PcM => x.1) ++ pcs (l.length + 1) (ix + 1) (l.drop (ix + 1)) = piecesL l) := Lib.hid (by rw [← pcs_blank HXX.out HBB.out.symm]; exact HS.out)
        go_wp2
        exact ⟨⟨ix + 1, L, by simp, by omega, by omega, HO, HP, HN, HB⟩, by simp [intOf]; omega⟩
    · have hE : ix = n := by omega
      subst hE
      have ho4 := HO.out
      obtain ⟨A6, c6, w6, r6, o6, h61, h62, g6⟩ := push_K (P := Tryz.prog) w.heap.size 60 66 _ 40 Tryz.underlying60 infoP rfl (by decide) (by decide) (by decide) encP_len encP_one ((0, ix, []), none, 0, 0) #[.int .i64 0, .int .i64 (ix : Nat), .slice none 0 0] rfl ho4 HB.out.size (by omega)
      have hB6 : Below w.heap.size w w6 := HB.out.grown g6 HB.out.size (fun k hk => (HO.out.base k hk).1)
      have HE : Hid (PcsE l w (.returned (.slice A6 (L.length + 1) c6)) w6) := Lib.hid ⟨_, _, rfl, o6, fun x hx => by
        rcases List.mem_append.1 hx with h | h
        · exact HP.out x h
        · simp only [List.mem_singleton] at h
          subst h
          exact ⟨Nat.le_refl _, Nat.zero_le _, Nat.zero_le _, Rd.empty w, fun x hx => by cases hx⟩, by
        have h1 := HS.out
        rw [List.drop_of_length_le (by rw [HLn.out]; exact Nat.le_refl _), pcs_end, List.append_nil] at h1
        unfold PcsL
        rw [List.map_append, h1, HLn.out]
        rfl, by simp; rw [HLn.out]; exact hLx, hB6⟩
      have hbd : ∀ W : World, (Instr.build 66 #[(0, .int .i64 0), (1, .int .i64 (ix : Nat))]).run Tryz.prog W = .ok (.agg #[.int .i64 0, .int .i64 (ix : Nat), .slice none 0 0]) W := fun W => run_build W 66 _ _ (by kernel_rfl)
      clear ho4 o6 hB6 g6 HO
      go_wp2_with (at_builtin; refine wpl_append_run rfl _ _ _ rfl rfl rfl r6 ?_)
      go_ret
      exact HE.out
end Go.Proofs.YtkkeodlnejckjaaGreat
