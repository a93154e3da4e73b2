import Derived.Test.YtkkeodlnejckjaaGreatOps
import Derived.Test.YtkkeodlnejckjaaGreatRdr
import Derived.Deep.LoopGhost
import Derived.WalkSpells
import Derived.Test.YtkkeodlnejckjaaGreatOpenC
import Derived.Test.YtkkeodlnejckjaaGreatRunes
import Derived.Test.YtkkeodlnejckjaaGreatBox

/- The document's Same at queries that have the same parts. -/
namespace Go.Proofs.YtkkeodlnejckjaaGreat
open Go.RowKit Go.Shelf
set_option linter.unusedVariables false
set_option linter.unusedSimpArgs false

theorem rdOp_at {w : World} {A : Option Addr} {n : Nat} {o : List QOp} (h : RdO w A n o) {i : Nat} (hi : i < n) : ∃ (ad : Addr) (k : Int) (ts : List ByteArray) (os : List Int) (A1 : Option Addr) (n1 c1 : Nat) (A2 : Option Addr) (n2 c2 : Nat), A = some ad ∧ o[i]? = some (k, ts, os) ∧
    w.cell? (ad.add (i * 3)) = some (.int .i64 k) ∧ w.cell? ⟨(ad.add (i * 3)).block, (ad.add (i * 3)).off + 1, none⟩ = some (.slice A1 n1 c1) ∧ w.cell? ⟨(ad.add (i * 3)).block, (ad.add (i * 3)).off + 2, none⟩ = some (.slice A2 n2 c2) ∧ (n1 ≤ c1 ∧ c1 ≤ 9223372036854775807 ∧ Rd encS w A1 n1 ts) ∧ (n2 ≤ c2 ∧ c2 ≤ 9223372036854775807 ∧ Rd encI w A2 n2 os) := by
  obtain ⟨es, h1, h2, h3⟩ := h
  obtain ⟨ad, x, e, HX, c0, c1, c2⟩ := h1.at3 (k := i) hi
  obtain ⟨hl, ex⟩ := HX.out
  have hx := h3 x (by rw [← ex]; exact List.getElem_mem hl)
  obtain ⟨⟨k, ts, os⟩, ⟨A1, n1, d1⟩, A2, n2, d2⟩ := x
  refine ⟨ad, k, ts, os, A1, n1, d1, A2, n2, d2, e, ?_, c0, c1, c2, hx.1, hx.2⟩
  rw [← h2, List.getElem?_map, List.getElem?_eq_getElem hl, ex]
  rfl
theorem RdO.len {w : World} {A : Option Addr} {n : Nat} {o : List QOp} (h : RdO w A n o) : o.length = n := by
  obtain ⟨es, h1, h2, h3⟩ := h
  rw [← h2, List.length_map, h1.len]
set_option maxRecDepth 100000 in
set_option maxHeartbeats 4000000 in
theorem rsame_eq (A : Option Addr) (n c : Nat) (B : Option Addr) (m d : Nat) (o : List QOp) (w : World) (h1 : RdO w A n o) (h2 : RdO w B m o) :
    Calls Tryz.prog 10 #[.agg #[.slice A n c], .agg #[.slice B m d]] w fun e w' => e = .returned (.bool true) ∧ Below w.heap.size w w' := by
  have hm : m = n := by rw [← h1.len, ← h2.len]
  subst hm
  have hmx : m ≤ 9223372036854775807 := by
    obtain ⟨es, h3, _⟩ := h1
    exact h3.max
  obtain ⟨w1, hw1⟩ : ∃ w1, w1 = w.alloc (.cells #[.slice A m c] 31) := ⟨_, rfl⟩
  obtain ⟨g2, hg2⟩ : ∃ g2, g2 = w.heap.size := ⟨_, rfl⟩
  have hb1 : Below w.heap.size w w1 := by rw [hw1]; exact (Below.refl _ _).alloc (Nat.le_refl _) _
  obtain ⟨w2, hw2⟩ : ∃ w2, w2 = w1.alloc (.cells #[.slice B m d] 31) := ⟨_, rfl⟩
  obtain ⟨g3, hg3⟩ : ∃ g3, g3 = w.heap.size + 1 := ⟨_, rfl⟩
  have hs1 : g3 = w1.heap.size := by rw [hw1, hg3]; simp
  have hb2 : Below w1.heap.size w1 w2 := by rw [hw2]; exact (Below.refl _ _).alloc (Nat.le_refl _) _
  have HX2 := Lib.hid ((show BoxA w1 g2 31 [.slice A m c] by rw [hw1, hg2]; exact BoxA.new _ _ _).below hb2)
  have HX3 := Lib.hid (show BoxA w2 g3 31 [.slice B m d] by rw [hw2, hs1]; exact BoxA.new _ _ _)
  have HB2 := Lib.hid (Below.thn hb1 hb2)
  have HR1 := Lib.hid h1
  have HR2 := Lib.hid h2
  have HW1 := Lib.hid hw1
  have HW2 := Lib.hid hw2
  have HG2 := Lib.hid hg2
  have HG3 := Lib.hid hg3
  have x2 := HX2.out.cell 0 _ rfl
  have x3 := HX3.out.cell 0 _ rfl
  clear h1 h2 hw1 hg2 hb1 hw2 hg3 hs1 hb2
  go_enter Tryz.func10, Tryz.ntmps10
  go_upto_region 1 with fail
  rw [← HW1.out, ← HW2.out, ← HG3.out, ← HG2.out]
  go_wp2_with fail
  clear x2 x3
  go_loopw [5] (fun x wr => ∃ ix : Nat, x = .int .i64 (ix : Nat) ∧ ix ≤ m ∧ Hid (Below w2.heap.size w2 wr)) (fun x _ => m - (intOf x).toNat)
  case atStart => exact ⟨0, rfl, Nat.zero_le _, Lib.hid (Below.refl _ _)⟩
  case round =>
    obtain ⟨ix, rfl, hix, HI⟩ := hrel
    have x2 := (HX2.out.below HI.out).cell 0 _ rfl
    have x3 := (HX3.out.below HI.out).cell 0 _ rfl
    by_cases hlt : (ix : Int) < (m : Int)
    · have hb := HB2.out.trans (HI.out.mono HB2.out.size)
      obtain ⟨ad, k, ts, os, A1, n1, c1, A2, n2, c2, rfl, hoi, u0, u1, u2, ⟨_, _, hr1⟩, _, _, hr2⟩ := rdOp_at (HR1.out.below hb) (i := ix) (by omega)
      obtain ⟨be, k', ts', os', B1, m1, d1, B2, m2, d2, rfl, hoi', v0, v1, v2, ⟨_, _, hs1⟩, _, _, hs2⟩ := rdOp_at (HR2.out.below hb) (i := ix) (by omega)
      rw [hoi] at hoi'
      injection hoi' with hoi'
      injection hoi' with e1 e2
      injection e2 with e2 e3
      subst e1 e2 e3
      have hm1 : m1 = n1 := by rw [← hr1.len, ← hs1.len]
      have hm2 : m2 = n2 := by rw [← hr2.len, ← hs2.len]
      subst hm1 hm2
      obtain ⟨w3, hw3⟩ : ∃ w3, w3 = wr.alloc (.cells #[.int .i64 k, .slice A1 m1 c1, .slice A2 m2 c2] 76) := ⟨_, rfl⟩
      obtain ⟨g6, hg6⟩ : ∃ g6, g6 = wr.heap.size := ⟨_, rfl⟩
      have hb3 : Below wr.heap.size wr w3 := by rw [hw3]; exact (Below.refl _ _).alloc (Nat.le_refl _) _
      obtain ⟨w4, hw4⟩ : ∃ w4, w4 = w3.alloc (.cells #[.int .i64 k, .slice B1 m1 d1, .slice B2 m2 d2] 76) := ⟨_, rfl⟩
      obtain ⟨g7, hg7⟩ : ∃ g7, g7 = wr.heap.size + 1 := ⟨_, rfl⟩
      have hs3 : g7 = w3.heap.size := by rw [hw3, hg7]; simp
      have hb4 : Below w3.heap.size w3 w4 := by rw [hw4]; exact (Below.refl _ _).alloc (Nat.le_refl _) _
      have HX6 := Lib.hid ((show BoxA w3 g6 76 [.int .i64 k, .slice A1 m1 c1, .slice A2 m2 c2] by rw [hw3, hg6]; exact BoxA.new _ _ _).below hb4)
      have HX7 := Lib.hid (show BoxA w4 g7 76 [.int .i64 k, .slice B1 m1 d1, .slice B2 m2 d2] by rw [hw4, hs3]; exact BoxA.new _ _ _)
      have hb34 := Below.thn hb3 hb4
      have HB4 := Lib.hid (HI.out.trans (hb34.mono HI.out.size))
      have HT1 := Lib.hid (hr1.below hb34)
      have HT2 := Lib.hid (hs1.below hb34)
      have HO1 := Lib.hid (hr2.below hb34)
      have HO2 := Lib.hid (hs2.below hb34)
      have x3' := cell_keep hb3 x3
      have v0' := cell_keep hb3 v0
      have v1' := cell_keep hb3 v1
      have v2' := cell_keep hb3 v2
      obtain ⟨y0, y1, y2, _⟩ := HX6.out.three
      obtain ⟨z0, z1, z2, _⟩ := HX7.out.three
      have HW3 := Lib.hid hw3
      have HW4 := Lib.hid hw4
      have HG6 := Lib.hid hg6
      have HG7 := Lib.hid hg7
      clear hb hoi hr1 hr2 hs1 hs2 hw3 hg6 hg7 hb3 hw4 hs3 hb4 hb34
      go_upto_region 7 with fail
      rw [← HW3.out, ← HG6.out]
      have HS3 : Hid (w3.heap.size = g7) := Lib.hid (by rw [HW3.out, HG7.out]; simp)
      go_upto_region 8 with fail
      rw [← HW4.out, HS3.out]
      clear u0 u1 u2 v0 v1 v2 x2 x3 x3' v0' v1' v2'
      go_wp2_with fail
      clear y0 y1 y2 z0 z1 z2
      go_loopw [8] (fun x wr9 => ∃ j : Nat, x = .int .i64 (j : Nat) ∧ j ≤ m1 ∧ Hid (Below w4.heap.size w4 wr9)) (fun x _ => m1 - (intOf x).toNat)
      case atStart => exact ⟨0, rfl, Nat.zero_le _, Lib.hid (Below.refl _ _)⟩
      case round =>
        obtain ⟨j, rfl, hj, HJ⟩ := hrel
        have y1 := (HX6.out.below HJ.out).cell 1 _ rfl
        have z1 := (HX7.out.below HJ.out).cell 1 _ rfl
        by_cases hlt2 : (j : Int) < (m1 : Int)
        · obtain ⟨a1, rfl, hc1⟩ := (HT1.out.below HJ.out).cell (by omega)
          obtain ⟨b1, rfl, hd1⟩ := (HT2.out.below HJ.out).cell (by omega)
          have hl := HT1.out.len
          have u0 := hc1 j (by omega)
          have v0 := hd1 j (by omega)
          obtain ⟨s, hs⟩ : ∃ s, s = ts[j]'(by omega) := ⟨_, rfl⟩
          have u0' : wr.cell? (a1.add j) = some (.string s) := by rw [hs]; exact u0
          have v0' : wr.cell? (b1.add j) = some (.string s) := by rw [hs]; exact v0
          clear hc1 hd1 u0 v0 hs
          go_wp2_with fail
          go_quiet (fail)
          obtain ⟨w9, hw9⟩ : ∃ w9, w9 = wr.drewN nq := ⟨_, rfl⟩
          have hb9 : Below wr.heap.size wr w9 := by rw [hw9]; exact Below.drewN wr _
          rw [← hw9]
          have HJ2 := Lib.hid (HJ.out.trans (hb9.mono HJ.out.size))
          clear hw9 hb9 u0' v0' y1 z1
          go_wp2
          exact ⟨⟨j + 1, by simp, by omega, HJ2⟩, by simp [intOf]; omega⟩
        · go_wp2_with fail
          clear y1 z1
          go_loopw [9] (fun x wr9 => ∃ j : Nat, x = .int .i64 (j : Nat) ∧ j ≤ m2 ∧ Hid (Below w4.heap.size w4 wr9)) (fun x _ => m2 - (intOf x).toNat)
          case atStart => exact ⟨0, rfl, Nat.zero_le _, HJ⟩
          case round =>
            obtain ⟨j, rfl, hj, HJ⟩ := hrel
            have y1 := (HX6.out.below HJ.out).cell 2 _ rfl
            have z1 := (HX7.out.below HJ.out).cell 2 _ rfl
            by_cases hlt2 : (j : Int) < (m2 : Int)
            · obtain ⟨a1, rfl, hc1⟩ := (HO1.out.below HJ.out).cell (by omega)
              obtain ⟨b1, rfl, hd1⟩ := (HO2.out.below HJ.out).cell (by omega)
              have hl := HO1.out.len
              have u0 := hc1 j (by omega)
              have v0 := hd1 j (by omega)
              obtain ⟨s, hs⟩ : ∃ s, s = os[j]'(by omega) := ⟨_, rfl⟩
              have u0' : wr.cell? (a1.add j) = some (.int .i64 s) := by rw [hs]; exact u0
              have v0' : wr.cell? (b1.add j) = some (.int .i64 s) := by rw [hs]; exact v0
              clear hc1 hd1 u0 v0 hs
              go_wp2_with fail
              go_quiet (fail)
              obtain ⟨w9, hw9⟩ : ∃ w9, w9 = wr.drewN nq := ⟨_, rfl⟩
              have hb9 : Below wr.heap.size wr w9 := by rw [hw9]; exact Below.drewN wr _
              rw [← hw9]
              have HJ2 := Lib.hid (HJ.out.trans (hb9.mono HJ.out.size))
              clear hw9 hb9 u0' v0' y1 z1
              go_wp2
              exact ⟨⟨j + 1, by simp, by omega, HJ2⟩, by simp [intOf]; omega⟩
            · have HN := Lib.hid (HB4.out.trans (HJ.out.mono HB4.out.size))
              go_wp2
              exact ⟨⟨ix + 1, by simp, by omega, HN⟩, by simp [intOf]; omega⟩
    · have HE := Lib.hid (HB2.out.trans (HI.out.mono HB2.out.size))
      go_wp2
      go_ret
      exact ⟨rfl, HE.out⟩
end Go.Proofs.YtkkeodlnejckjaaGreat

/- Whether a way has little. -/
namespace Go.Proofs.YtkkeodlnejckjaaGreat
open Go.RowKit Go.Shelf
set_option linter.unusedVariables false
set_option linter.unusedSimpArgs false

def fewQ (n m : Nat) (cf : Cf) : Prop := n ≤ 40 ∧ m ≤ 100 ∧ ∀ s ∈ cf.st, s.size ≤ 200
theorem len_str (s : ByteArray) (W : World) : (Builtin.len_ #[9] 3 #[.string s]).run Tryz.prog W = .ok (.int .i64 (s.size : Nat)) W := by
  simp [Builtin.len_, run_underlying Tryz.underlying9, go_sem]
set_option maxRecDepth 100000 in
set_option maxHeartbeats 4000000 in
theorem qfew_any (A : Option Addr) (n c : Nat) (B : Option Addr) (m d : Nat) (cf : Cf) (w : World) (h : RdC0 w A n c B m d cf) :
    Calls Tryz.prog 7 #[confV A n c B m d cf.cap] w fun e w' => TellB (fewQ n m cf) e ∧ Below w.heap.size w w' := by
  have HR := Lib.hid h
  obtain ⟨cp, hcp⟩ : ∃ cp, cp = cf.cap := ⟨_, rfl⟩
  rw [← hcp]
  obtain ⟨w1, hw1⟩ : ∃ w1, w1 = w.alloc (.cells #[.slice A n c, .slice B m d, .int .i64 cp] 25) := ⟨_, rfl⟩
  obtain ⟨g, hg⟩ : ∃ g, g = w.heap.size := ⟨_, rfl⟩
  have hb1 : Below w.heap.size w w1 := by rw [hw1]; exact (Below.refl _ _).alloc (Nat.le_refl _) _
  have hB : BoxA w1 g 25 [.slice A n c, .slice B m d, .int .i64 cp] := by rw [hw1, hg]; exact BoxA.new _ _ _
  obtain ⟨y0, y1, y2, _⟩ := hB.three
  have HW1 := Lib.hid hw1
  have HG := Lib.hid hg
  have HB1 := Lib.hid hb1
  have HST := Lib.hid (h.st.below hb1)
  clear h hcp hw1 hg hb1 hB
  go_enter Tryz.func7, Tryz.ntmps7
  go_upto_region 1 with fail
  rw [← HW1.out, ← HG.out]
  by_cases h1 : (n : Int) > 40
  · have HNo : Hid (¬ fewQ n m cf) := Lib.hid fun h => (by have := h.1; omega)
    go_wp2
    go_ret
    exact ⟨tell_f HNo.out, HB1.out⟩
  by_cases h2 : (m : Int) > 100
  · have HNo : Hid (¬ fewQ n m cf) := Lib.hid fun h => (by have := h.2.1; omega)
    go_wp2
    go_ret
    exact ⟨tell_f HNo.out, HB1.out⟩
  have HNM := Lib.hid (show n ≤ 40 ∧ m ≤ 100 by omega)
  have hm100 : m ≤ 100 := by omega
  go_wp2_with fail
  clear y0 y1 y2 h1 h2
  go_loopw [18] (fun x wy => ∃ j : Nat, j ≤ m ∧ x = .int .i64 (j : Nat) ∧ w1 = wy ∧ Hid (∀ i (hi : i < cf.st.length), i < j → cf.st[i].size ≤ 200)) (fun x _ => m - (intOf x).toNat)
  case atStart => exact ⟨0, by omega, rfl, rfl, Lib.hid fun i hi h => absurd h (Nat.not_lt_zero _)⟩
  case round =>
    obtain ⟨j, hj, rfl, rfl, HJ⟩ := hrel
    by_cases hjl : (j : Int) < (m : Int)
    · obtain ⟨ae, s, rfl, HY, e0⟩ := rdS_at HST.out (k := j) (by omega)
      have hls := len_str s
      by_cases h3 : (s.size : Int) > 200
      · have HNo : Hid (¬ fewQ n m cf) := Lib.hid fun h => (by
          obtain ⟨hl, e⟩ := HY.out
          have := h.2.2 s (by rw [← e]; exact List.getElem_mem hl)
          omega)
        go_wp2
        go_ret
        exact ⟨tell_f HNo.out, HB1.out⟩
      · have h4 : s.size ≤ 200 := by omega
        have H4 := Lib.hid h4
        clear h4
        go_wp2
        refine ⟨⟨j + 1, by omega, by go_num, by simp, Lib.hid fun i hi hij => ?_⟩, by simp [intOf]; omega⟩
        rcases Nat.lt_or_ge i j with h | h
        · exact HJ.out i hi h
        · obtain rfl : i = j := by omega
          obtain ⟨hl, e⟩ := HY.out
          rw [e]
          exact H4.out
    · have HYes : Hid (fewQ n m cf) := Lib.hid ⟨HNM.out.1, HNM.out.2, fun s (hs : s ∈ cf.st) => by
        obtain ⟨i, hi, rfl⟩ := List.getElem_of_mem hs
        exact HJ.out i hi (by have := HST.out.len; omega)⟩
      go_wp2
      go_ret
      exact ⟨tell_t HYes.out, HB1.out⟩
end Go.Proofs.YtkkeodlnejckjaaGreat

/- Which queries may be: those that may are told. -/
namespace Go.Proofs.YtkkeodlnejckjaaGreat
open Go.RowKit Go.Shelf
set_option linter.unusedVariables false
set_option linter.unusedSimpArgs false

def TermOk (s : ByteArray) : Prop := 1 ≤ s.size ∧ s.size ≤ 24
instance (s : ByteArray) : Decidable (TermOk s) := by unfold TermOk; exact inferInstance
def OffsOk (os : List Int) : Prop := os ≠ [] ∧ os.getD 0 1 = 0 ∧ (∀ i, 1 ≤ i → i < os.length → os.getD (i - 1) 0 < os.getD i 0 ∧ os.getD i 0 ≤ 200)
def PartOk (x : QOp) : Prop := ((x.1 = 1 ∨ x.1 = 3) ∧ x.2.1.length = 1 ∧ (∀ s ∈ x.2.1, TermOk s) ∧ x.2.2 = []) ∨ (x.1 = 2 ∧ x.2.1.length ≤ 16 ∧ (∀ s ∈ x.2.1, TermOk s) ∧ x.2.2.length = x.2.1.length ∧ OffsOk x.2.2) ∨ ((x.1 = 4 ∨ x.1 = 5 ∨ x.1 = 6 ∨ x.1 = 7) ∧ x.2.1 = [] ∧ x.2.2 = [])
/-- How many are counted behind a part. -/
def cntS (n : Int) (x : QOp) : Int × Bool := if x.1 = 5 ∨ x.1 = 6 then (n - 1, decide (n ≥ 2)) else if x.1 = 7 then (n, decide (n ≥ 1)) else (n + 1, true)
def cntL : Int → List QOp → Option Int
  | n, [] => some n
  | n, x :: o => if (cntS n x).2 = true then cntL (cntS n x).1 o else none
def MayOk (o : List QOp) : Prop := 1 ≤ o.length ∧ o.length ≤ 256 ∧ cntL 0 o = some 1 ∧ ∀ x ∈ o, PartOk x
set_option maxRecDepth 100000 in
set_option maxHeartbeats 1000000 in
theorem isTerm_any (s : ByteArray) (w : World) : Calls Tryz.prog 84 #[.string s] w fun e w' => e = .returned (.bool (decide (TermOk s))) ∧ w' = w := by
  have hls := len_str s
  by_cases h1 : (s.size : Int) ≥ 1
  · have HE : Hid (decide (TermOk s) = decide ((s.size : Int) ≤ 24)) := Lib.hid (by
      by_cases h : (s.size : Int) ≤ 24
      · rw [decide_eq_true h]; exact decide_eq_true ⟨by omega, by omega⟩
      · rw [decide_eq_false h]; exact decide_eq_false fun hh => h (by have := hh.2; omega))
    go_enter Tryz.func84, Tryz.ntmps84
    go_wp2
    go_ret
    exact ⟨by rw [HE.out]; rfl, rfl⟩
  · have HE : Hid (decide (TermOk s) = false) := Lib.hid (decide_eq_false fun hh => h1 (by have := hh.1; omega))
    go_enter Tryz.func84, Tryz.ntmps84
    go_wp2
    go_ret
    exact ⟨by rw [HE.out]; rfl, rfl⟩
set_option maxRecDepth 100000 in
set_option maxHeartbeats 1000000 in
theorem part1_any (s : ByteArray) (w : World) : Calls Tryz.prog 83 #[.string s] w fun e w' => e = .returned (.bool (!decide (TermOk s))) ∧ w' = w := by
  have C := Lib.hid (isTerm_any s w)
  obtain ⟨b, hb⟩ : ∃ b, b = decide (TermOk s) := ⟨_, rfl⟩
  rw [← hb] at C ⊢
  clear hb
  go_enter Tryz.func83, Tryz.ntmps83
  go_wp2_with fail
  refine C.out.mono ?_
  rintro e w2 ⟨rfl, rfl⟩
  go_wp2
  go_ret
  exact ⟨rfl, rfl⟩
theorem callPart1 (args : Array Value) (W : World) : (callFunc 83 args).run Tryz.prog W = .ok (.enter 83 args) W := by
  have := Tryz.func83
  simp [callFunc, this, Tryz.f83]
set_option maxRecDepth 100000 in
set_option maxHeartbeats 1000000 in
theorem indexF_any (A : Option Addr) (n c : Nat) (ts : List ByteArray) (w : World) (h : Rd encS w A n ts) (ht : ∀ s ∈ ts, TermOk s) :
    Calls Tryz.prog 102 #[.slice A n c, .func (.func 83) #[] #[]] w fun e w' => e = .returned (.int .i64 (-1)) ∧ w' = w := by
  have HR := Lib.hid h
  have HT := Lib.hid ht
  have hmx := h.max
  clear h ht
  have hcf := callPart1
  go_enter Tryz.func102, Tryz.ntmps102
  go_wp2_with fail
  go_loopw [8] (fun x wr => ∃ j : Nat, x = .int .i64 (j : Nat) ∧ j ≤ n ∧ w = wr) (fun x _ => n - (intOf x).toNat)
  case atStart => exact ⟨0, rfl, Nat.zero_le _, rfl⟩
  case round =>
    obtain ⟨j, rfl, hj, rfl⟩ := hrel
    by_cases hlt : (j : Int) < (n : Int)
    · obtain ⟨ad, s, rfl, HY, e0⟩ := rdS_at HR.out (k := j) (by omega)
      have C := Lib.hid (part1_any s w)
      rw [decide_eq_true (HT.out s (by obtain ⟨hl, e⟩ := HY.out; rw [← e]; exact List.getElem_mem hl))] at C
      go_wp2_with fail
      refine C.out.mono ?_
      rintro e w2 ⟨rfl, rfl⟩
      clear C
      go_wp2
      exact ⟨⟨j + 1, by simp, by omega, trivial⟩, by simp [intOf]; omega⟩
    · go_wp2
      go_ret
      exact ⟨rfl, rfl⟩
set_option maxRecDepth 100000 in
set_option maxHeartbeats 1000000 in
theorem containsF_any (A : Option Addr) (n c : Nat) (ts : List ByteArray) (w : World) (h : Rd encS w A n ts) (ht : ∀ s ∈ ts, TermOk s) :
    Calls Tryz.prog 82 #[.slice A n c, .func (.func 83) #[] #[]] w fun e w' => e = .returned (.bool false) ∧ w' = w := by
  have C := Lib.hid (indexF_any A n c ts w h ht)
  clear h ht
  go_enter Tryz.func82, Tryz.ntmps82
  go_wp2_with fail
  refine C.out.mono ?_
  rintro e w2 ⟨rfl, rfl⟩
  clear C
  go_wp2
  go_ret
  exact ⟨rfl, rfl⟩
/-- What a part has in memory. -/
def PtV (w : World) (k : Int) (A1 : Option Addr) (n1 c1 : Nat) (A2 : Option Addr) (n2 c2 : Nat) (x : QOp) : Prop := x.1 = k ∧ Rd encS w A1 n1 x.2.1 ∧ Rd encI w A2 n2 x.2.2
abbrev opV (k : Int) (A1 : Option Addr) (n1 c1 : Nat) (A2 : Option Addr) (n2 c2 : Nat) : Value := .agg #[.int .i64 k, .slice A1 n1 c1, .slice A2 n2 c2]
set_option maxRecDepth 100000 in
set_option maxHeartbeats 1000000 in
theorem counts_any (n : Int) (k : Int) (A1 : Option Addr) (n1 c1 : Nat) (A2 : Option Addr) (n2 c2 : Nat) (x : QOp) (w : World) (hk : x.1 = k) (hn : -1000 ≤ n ∧ n ≤ 1000) :
    Calls Tryz.prog 64 #[.int .i64 n, opV k A1 n1 c1 A2 n2 c2] w fun e w' => e = .returned (.tuple #[.int .i64 (cntS n x).1, .bool (cntS n x).2]) ∧ Below w.heap.size w w' := by
  have hb1 : Below w.heap.size w (w.alloc (.cells #[.int .i64 k, .slice A1 n1 c1, .slice A2 n2 c2] 76)) := (Below.refl _ _).alloc (Nat.le_refl _) _
  have HB := Lib.hid hb1
  obtain ⟨hn1, hn2⟩ := hn
  clear hb1
  by_cases h5 : k = 5
  · have q : (k == 5) = true := by rw [h5]; rfl
    have HE : Hid (cntS n x = (n - 1, decide (n ≥ 2))) := Lib.hid (if_pos (.inl (hk.trans h5)))
    rw [HE.out]
    clear HE h5 hk
    go_enter Tryz.func64, Tryz.ntmps64
    go_wp2
    refine bodyPost_ret (v := .tuple #[.int .i64 (n - 1), .bool (decide (n ≥ 2))]) (by simp [results, Tryz.results64, go_sem]) rfl ⟨rfl, HB.out⟩
  have q5 : (k == 5) = false := by simp; exact h5
  by_cases h6 : k = 6
  · have q : (k == 6) = true := by rw [h6]; rfl
    have HE : Hid (cntS n x = (n - 1, decide (n ≥ 2))) := Lib.hid (if_pos (.inr (hk.trans h6)))
    rw [HE.out]
    clear HE h6 hk h5
    go_enter Tryz.func64, Tryz.ntmps64
    go_wp2
    refine bodyPost_ret (v := .tuple #[.int .i64 (n - 1), .bool (decide (n ≥ 2))]) (by simp [results, Tryz.results64, go_sem]) rfl ⟨rfl, HB.out⟩
  have q6 : (k == 6) = false := by simp; exact h6
  have hno : ¬ (x.1 = 5 ∨ x.1 = 6) := by rw [hk]; intro h; rcases h with h | h; exact h5 h; exact h6 h
  by_cases h7 : k = 7
  · have q : (k == 7) = true := by rw [h7]; rfl
    have HE : Hid (cntS n x = (n, decide (n ≥ 1))) := Lib.hid (by unfold cntS; rw [if_neg hno, if_pos (hk.trans h7)])
    rw [HE.out]
    clear HE h7 hk h5 h6 hno
    go_enter Tryz.func64, Tryz.ntmps64
    go_wp2
    refine bodyPost_ret (v := .tuple #[.int .i64 n, .bool (decide (n ≥ 1))]) (by simp [results, Tryz.results64, go_sem]) rfl ⟨rfl, HB.out⟩
  have q7 : (k == 7) = false := by simp; exact h7
  have HE : Hid (cntS n x = (n + 1, true)) := Lib.hid (by unfold cntS; rw [if_neg hno, if_neg (by rw [hk]; exact h7)])
  rw [HE.out]
  clear HE h7 hk h5 h6 hno
  go_enter Tryz.func64, Tryz.ntmps64
  go_wp2
  refine bodyPost_ret (v := .tuple #[.int .i64 (n + 1), .bool true]) (by simp [results, Tryz.results64, go_sem]) rfl ⟨rfl, HB.out⟩
end Go.Proofs.YtkkeodlnejckjaaGreat

/- Which queries may be: those that may are told; the parts, and the whole. -/
namespace Go.Proofs.YtkkeodlnejckjaaGreat
open Go.RowKit Go.Shelf
set_option linter.unusedVariables false
set_option linter.unusedSimpArgs false

set_option maxRecDepth 100000 in
set_option maxHeartbeats 1000000 in
theorem offs_any (A : Option Addr) (n c : Nat) (os : List Int) (w : World) (h : Rd encI w A n os) (hok : OffsOk os) :
    Calls Tryz.prog 85 #[.slice A n c] w fun e w' => e = .returned (.bool true) ∧ Below w.heap.size w w' := by
  obtain ⟨hne, h0, hr⟩ := hok
  have hlen := h.len
  have hmx := h.max
  have hn : 0 < n := by
    rw [← hlen]
    exact List.length_pos_iff.2 hne
  obtain ⟨ad, rfl, hc⟩ := h.cell hn
  have x0 : w.cell? ad = some (.int .i64 0) := by
    have h1 := hc 0 (by omega)
    rw [Addr.add_zero'] at h1
    have h2 : os[0]'(by omega) = 0 := by
      rw [List.getD_eq_getElem?_getD, List.getElem?_eq_getElem (by omega)] at h0
      exact h0
    rw [h1, h2]
  have HR : Hid (∀ i, i < n → w.cell? (ad.add i) = some (.int .i64 (os.getD i 0))) := Lib.hid fun i hi => by
    have h1 := hc i (by omega)
    rw [h1, List.getD_eq_getElem?_getD, List.getElem?_eq_getElem (by omega)]
    rfl
  have HO : Hid (∀ i, 1 ≤ i → i < n → os.getD (i - 1) 0 < os.getD i 0 ∧ os.getD i 0 ≤ 200) := Lib.hid fun i h1 h2 => hr i h1 (by omega)
  have hnf : ((n : Int) == 0) = false := by simp; omega
  clear h hne h0 hr hc hlen
  go_enter Tryz.func85, Tryz.ntmps85
  go_wp2_with fail
  go_loopw [3] (fun x wr => ∃ j : Nat, x = .int .i64 (j : Nat) ∧ 1 ≤ j ∧ j ≤ n ∧ Hid (Below w.heap.size w wr)) (fun x _ => n - (intOf x).toNat)
  case atStart => exact ⟨1, rfl, Nat.le_refl _, hn, Lib.hid (Below.refl _ _)⟩
  case round =>
    obtain ⟨j, rfl, hj1, hj2, HB⟩ := hrel
    by_cases hlt : (j : Int) < (n : Int)
    · obtain ⟨i, hi⟩ : ∃ i, i = j - 1 := ⟨_, rfl⟩
      obtain ⟨v1, hv1⟩ : ∃ v, v = os.getD j 0 := ⟨_, rfl⟩
      obtain ⟨v0, hv0⟩ : ∃ v, v = os.getD i 0 := ⟨_, rfl⟩
      have u1 := cell_keep HB.out (HR.out j (by omega))
      have u0 := cell_keep HB.out (HR.out i (by omega))
      obtain ⟨o1, o2⟩ := HO.out j hj1 (by omega)
      rw [← hi, ← hv0, ← hv1] at o1
      rw [← hv1] at o2 u1
      rw [← hv0] at u0
      have hwj : IntKind.i64.wrap ((j : Int) - 1) = (i : Int) := by rw [IntKind.wrap_i64]; omega
      have hi0 : (i : Int) < (n : Int) := by omega
      clear hv1 hv0 hi
      have hle : ¬ (v1 ≤ v0) := by omega
      have hgt : ¬ (v1 > 200) := by omega
      clear o1 o2
      have hg1 : decide (v1 ≤ v0) = false := decide_eq_false hle
      go_wp2_with fail
      go_quiet (fail)
      obtain ⟨w2, hw2⟩ : ∃ w2, w2 = wr.drewN nq := ⟨_, rfl⟩
      have hb2 : Below wr.heap.size wr w2 := by rw [hw2]; exact Below.drewN wr _
      rw [← hw2]
      have HB2 := Lib.hid (Below.thn HB.out hb2)
      clear hw2 hb2 u0 u1
      go_wp2
      exact ⟨⟨j + 1, by simp, by omega, by omega, HB2⟩, by simp [intOf]; omega⟩
    · go_wp2
      go_ret
      exact ⟨rfl, HB.out⟩
set_option maxRecDepth 100000 in
set_option maxHeartbeats 2000000 in
theorem part_any (k : Int) (A1 : Option Addr) (n1 c1 : Nat) (A2 : Option Addr) (n2 c2 : Nat) (x : QOp) (w : World) (hv : PtV w k A1 n1 c1 A2 n2 c2 x) (hok : PartOk x) :
    Calls Tryz.prog 65 #[opV k A1 n1 c1 A2 n2 c2] w fun e w' => e = .returned (.bool true) ∧ Below w.heap.size w w' := by
  obtain ⟨k', ts, os⟩ := x
  obtain ⟨rfl, h1, h2⟩ := hv
  simp only at h1 h2 ⊢
  have hl1 := h1.len
  have hl2 := h2.len
  obtain ⟨w1, hw1⟩ : ∃ w1, w1 = w.alloc (.cells #[.int .i64 k', .slice A1 n1 c1, .slice A2 n2 c2] 76) := ⟨_, rfl⟩
  obtain ⟨g, hg⟩ : ∃ g, g = w.heap.size := ⟨_, rfl⟩
  have hb1 : Below w.heap.size w w1 := by rw [hw1]; exact (Below.refl _ _).alloc (Nat.le_refl _) _
  have hB : BoxA w1 g 76 [.int .i64 k', .slice A1 n1 c1, .slice A2 n2 c2] := by rw [hw1, hg]; exact BoxA.new _ _ _
  obtain ⟨y0, y1, y2, _⟩ := hB.three
  have HW1 := Lib.hid hw1
  have HG := Lib.hid hg
  rcases hok with ⟨hk, hts, ht, hos⟩ | ⟨hk, hts, ht, hlo, hoo⟩ | ⟨hk, hts, hos⟩
  · simp only at hk hts ht hos
    have e1 : n1 = 1 := by rw [← hl1]; exact hts
    have e2 : n2 = 0 := by rw [← hl2, hos]; rfl
    subst e1 e2
    clear hl1 hl2 hts hos hw1 hg
    rcases hk with rfl | rfl
    ·
      have HB1 := Lib.hid hb1
      have C := Lib.hid (containsF_any A1 _ c1 ts w1 (h1.below hb1) ht)
      clear hb1 h1 h2 ht hB
      go_enter Tryz.func65, Tryz.ntmps65
      go_upto_region 1 with fail
      rw [← HW1.out, ← HG.out]
      go_wp2_with fail
      refine C.out.mono ?_
      rintro e w2 ⟨rfl, rfl⟩
      clear C
      go_wp2
      go_ret
      exact ⟨rfl, HB1.out⟩
    ·
      have HB1 := Lib.hid hb1
      have C := Lib.hid (containsF_any A1 _ c1 ts w1 (h1.below hb1) ht)
      clear hb1 h1 h2 ht hB
      go_enter Tryz.func65, Tryz.ntmps65
      go_upto_region 1 with fail
      rw [← HW1.out, ← HG.out]
      go_wp2_with fail
      refine C.out.mono ?_
      rintro e w2 ⟨rfl, rfl⟩
      clear C
      go_wp2
      go_ret
      exact ⟨rfl, HB1.out⟩
  · simp only at hk hts ht hlo hoo
    have e1 : n2 = n1 := by rw [← hl1, ← hl2]; exact hlo
    have e2 : n1 ≤ 16 := by rw [← hl1]; exact hts
    subst e1
    subst hk
    have CO := Lib.hid (offs_any A2 n2 c2 os w1 (h2.below hb1) hoo)
    have hle : (n2 : Int) ≤ 16 := by omega
    clear hl1 hl2 hts hlo hoo hw1 hg
    have HB1 := Lib.hid hb1
    have C := Lib.hid (containsF_any A1 _ c1 ts w1 (h1.below hb1) ht)
    clear hb1 h1 h2 ht hB
    go_enter Tryz.func65, Tryz.ntmps65
    go_upto_region 1 with fail
    rw [← HW1.out, ← HG.out]
    go_wp2_with fail
    refine C.out.mono ?_
    rintro e w2 ⟨rfl, rfl⟩
    clear C
    go_wp2_with fail
    refine CO.out.mono ?_
    rintro e w3 ⟨rfl, hb3⟩
    have HB3 := Lib.hid (Below.thn HB1.out hb3)
    clear CO hb3 y0 y1 y2
    go_wp2
    go_ret
    exact ⟨rfl, HB3.out⟩
  · simp only at hk hts hos
    have e1 : n1 = 0 := by rw [← hl1, hts]; rfl
    have e2 : n2 = 0 := by rw [← hl2, hos]; rfl
    subst e1 e2
    have ht : ∀ s ∈ ts, TermOk s := by rw [hts]; intro s hs; cases hs
    clear hl1 hl2 hts hos hw1 hg
    rcases hk with rfl | rfl | rfl | rfl
    ·
      have HB1 := Lib.hid hb1
      have C := Lib.hid (containsF_any A1 _ c1 ts w1 (h1.below hb1) ht)
      clear hb1 h1 h2 ht hB
      go_enter Tryz.func65, Tryz.ntmps65
      go_upto_region 1 with fail
      rw [← HW1.out, ← HG.out]
      go_wp2_with fail
      refine C.out.mono ?_
      rintro e w2 ⟨rfl, rfl⟩
      clear C
      go_wp2
      go_ret
      exact ⟨rfl, HB1.out⟩
    ·
      have HB1 := Lib.hid hb1
      have C := Lib.hid (containsF_any A1 _ c1 ts w1 (h1.below hb1) ht)
      clear hb1 h1 h2 ht hB
      go_enter Tryz.func65, Tryz.ntmps65
      go_upto_region 1 with fail
      rw [← HW1.out, ← HG.out]
      go_wp2_with fail
      refine C.out.mono ?_
      rintro e w2 ⟨rfl, rfl⟩
      clear C
      go_wp2
      go_ret
      exact ⟨rfl, HB1.out⟩
    ·
      have HB1 := Lib.hid hb1
      have C := Lib.hid (containsF_any A1 _ c1 ts w1 (h1.below hb1) ht)
      clear hb1 h1 h2 ht hB
      go_enter Tryz.func65, Tryz.ntmps65
      go_upto_region 1 with fail
      rw [← HW1.out, ← HG.out]
      go_wp2_with fail
      refine C.out.mono ?_
      rintro e w2 ⟨rfl, rfl⟩
      clear C
      go_wp2
      go_ret
      exact ⟨rfl, HB1.out⟩
    ·
      have HB1 := Lib.hid hb1
      have C := Lib.hid (containsF_any A1 _ c1 ts w1 (h1.below hb1) ht)
      clear hb1 h1 h2 ht hB
      go_enter Tryz.func65, Tryz.ntmps65
      go_upto_region 1 with fail
      rw [← HW1.out, ← HG.out]
      go_wp2_with fail
      refine C.out.mono ?_
      rintro e w2 ⟨rfl, rfl⟩
      clear C
      go_wp2
      go_ret
      exact ⟨rfl, HB1.out⟩
end Go.Proofs.YtkkeodlnejckjaaGreat

/- Which queries may be: those that may are told; the whole. -/
namespace Go.Proofs.YtkkeodlnejckjaaGreat
open Go.RowKit Go.Shelf
set_option linter.unusedVariables false
set_option linter.unusedSimpArgs false

theorem cntL_bound : ∀ (o : List QOp) (n : Int), ∀ x, x ∈ o → True
  | _, _, _, _ => trivial
theorem cntS_rng (n : Int) (x : QOp) : n - 1 ≤ (cntS n x).1 ∧ (cntS n x).1 ≤ n + 1 := by
  unfold cntS
  split
  · constructor <;> simp <;> omega
  · split
    · constructor <;> simp <;> omega
    · constructor <;> simp <;> omega
set_option maxRecDepth 100000 in
set_option maxHeartbeats 4000000 in
theorem may_yesQ (A : Option Addr) (n c : Nat) (o : List QOp) (w : World) (h : RdO w A n o) (hok : MayOk o) :
    Calls Tryz.prog 40 #[.agg #[.slice A n c]] w fun e w' => e = .returned (.bool true) ∧ Below w.heap.size w w' := by
  obtain ⟨hl1, hl2, hcn, hpt⟩ := hok
  rw [h.len] at hl1 hl2
  obtain ⟨w1, hw1⟩ : ∃ w1, w1 = w.alloc (.cells #[.slice A n c] 31) := ⟨_, rfl⟩
  obtain ⟨g, hg⟩ : ∃ g, g = w.heap.size := ⟨_, rfl⟩
  have hb1 : Below w.heap.size w w1 := by rw [hw1]; exact (Below.refl _ _).alloc (Nat.le_refl _) _
  have hB : BoxA w1 g 31 [.slice A n c] := by rw [hw1, hg]; exact BoxA.new _ _ _
  have y0 := hB.cell 0 _ rfl
  have HW1 := Lib.hid hw1
  have HG := Lib.hid hg
  have HB1 := Lib.hid hb1
  have HR := Lib.hid h
  have HLn := Lib.hid h.len
  have HP := Lib.hid hpt
  have HC := Lib.hid hcn
  clear h hcn hpt hw1 hg hb1 hB
  go_enter Tryz.func40, Tryz.ntmps40
  go_upto_region 1 with fail
  rw [← HW1.out, ← HG.out]
  go_wp2_with fail
  clear y0
  go_loopw [3, 20] (fun y x wr => ∃ (ix : Nat) (q : Int), x = .int .i64 (ix : Nat) ∧ y = .int .i64 q ∧ ix ≤ n ∧ -(ix : Int) ≤ q ∧ q ≤ (ix : Int) ∧ Hid (cntL q (o.drop ix) = some 1) ∧ Hid (Below w.heap.size w wr)) (fun _ x _ => n - (intOf x).toNat)
  case atStart => exact ⟨0, 0, rfl, rfl, Nat.zero_le _, by omega, by omega, HC, HB1⟩
  case round =>
    obtain ⟨ix, q, rfl, rfl, hix, hq1, hq2, HQ, HB⟩ := hrel
    by_cases hlt : (ix : Int) < (n : Int)
    · obtain ⟨ad, k, ts, os, A1, n1, c1, A2, n2, c2, rfl, hoi, u0, u1, u2, ⟨_, _, hr1⟩, _, _, hr2⟩ := rdOp_at (HR.out.below HB.out) (i := ix) (by omega)
      obtain ⟨x, hx⟩ : ∃ x : QOp, x = (k, ts, os) := ⟨_, rfl⟩
      have hxl : ix < o.length := by rw [HLn.out]; omega
      have hox : o[ix] = x := by
        rw [List.getElem?_eq_getElem hxl] at hoi
        injection hoi with hoi
        rw [hoi, hx]
      have hdr : o.drop ix = x :: o.drop (ix + 1) := by rw [List.drop_eq_getElem_cons hxl, hox]
      have hstep : (cntS q x).2 = true ∧ cntL (cntS q x).1 (o.drop (ix + 1)) = some 1 := by
        have h1 := HQ.out
        rw [hdr, cntL] at h1
        split at h1
        · rename_i h2; exact ⟨h2, h1⟩
        · cases h1
      have hrg := cntS_rng q x
      have hpo := HP.out x (by rw [← hox]; exact List.getElem_mem hxl)
      have hpv : ∀ W, Below wr.heap.size wr W → PtV W k A1 n1 c1 A2 n2 c2 x := fun W hW => ⟨by rw [hx], by rw [hx]; exact hr1.below hW, by rw [hx]; exact hr2.below hW⟩
      obtain ⟨w3, hw3⟩ : ∃ w3, w3 = wr.alloc (.cells #[.int .i64 k, .slice A1 n1 c1, .slice A2 n2 c2] 76) := ⟨_, rfl⟩
      obtain ⟨g5, hg5⟩ : ∃ g5, g5 = wr.heap.size := ⟨_, rfl⟩
      have hb3 : Below wr.heap.size wr w3 := by rw [hw3]; exact (Below.refl _ _).alloc (Nat.le_refl _) _
      have HX5 := Lib.hid (show BoxA w3 g5 76 [.int .i64 k, .slice A1 n1 c1, .slice A2 n2 c2] by rw [hw3, hg5]; exact BoxA.new _ _ _)
      have HB3 := Lib.hid hb3
      have CC := Lib.hid (counts_any q k A1 n1 c1 A2 n2 c2 x w3 (by rw [hx]) (by omega))
      obtain ⟨q', hq'⟩ : ∃ q', q' = (cntS q x).1 := ⟨_, rfl⟩
      rw [hstep.1, ← hq'] at CC
      have HQ2 : Hid (cntL q' (o.drop (ix + 1)) = some 1) := Lib.hid (by rw [hq']; exact hstep.2)
      rw [← hq'] at hrg
      obtain ⟨hrg1, hrg2⟩ := hrg
      have CP : Hid (∀ W, Below wr.heap.size wr W → Calls Tryz.prog 65 #[opV k A1 n1 c1 A2 n2 c2] W fun e w' => e = .returned (.bool true) ∧ Below W.heap.size W w') := Lib.hid fun W hW => part_any k A1 n1 c1 A2 n2 c2 x W (hpv W hW) hpo
      obtain ⟨z0, z1, z2, _⟩ := HX5.out.three
      have HW3 := Lib.hid hw3
      have HG5 := Lib.hid hg5
      clear hoi hr1 hr2 hx hxl hox hdr hstep hpo hpv hw3 hg5 hb3 hq' HQ
      go_upto_region 7 with fail
      rw [← HW3.out, ← HG5.out]
      clear u0 u1 u2
      go_wp2_with fail
      refine CC.out.mono ?_
      rintro e w4 ⟨rfl, hb4⟩
      obtain ⟨v0, v1, v2, _⟩ := (HX5.out.below hb4).three
      have hb34 := Below.thn HB3.out hb4
      have CP4 := Lib.hid (CP.out w4 hb34)
      have HB4 := Lib.hid (HB.out.trans (hb34.mono HB.out.size))
      clear CC hb4 hb34 CP z0 z1 z2
      go_wp2_with fail
      refine CP4.out.mono ?_
      rintro e w5 ⟨rfl, hb5⟩
      have HB5 := Lib.hid (HB4.out.trans (hb5.mono HB4.out.size))
      clear CP4 hb5 v0 v1 v2
      go_wp2
      exact ⟨⟨ix + 1, q', by simp, rfl, by omega, by omega, by omega, HQ2, HB5⟩, by simp [intOf]; omega⟩
    · have hE : ix = n := by omega
      subst hE
      have hq1' : q = 1 := by
        have h1 := HQ.out
        rw [List.drop_of_length_le (by rw [HLn.out]; exact Nat.le_refl _), cntL] at h1
        injection h1
      subst hq1'
      go_wp2
      go_ret
      exact ⟨rfl, HB.out⟩
end Go.Proofs.YtkkeodlnejckjaaGreat
