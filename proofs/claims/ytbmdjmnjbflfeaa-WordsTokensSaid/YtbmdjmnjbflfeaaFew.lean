/- Whether ways have little. -/
import Derived.Test.YtbmdjmnjbflfeaaOpenC
import Derived.Test.YtbmdjmnjbflfeaaRunes
namespace Go.Proofs.Ytbmdjmnjbflfeaa
open Go.RowKit Go.Shelf
set_option linter.unusedVariables false
set_option linter.unusedSimpArgs false

/-- A way's value, and what it reads as. -/
structure CV where
  A : Option Addr
  n : Nat
  c : Nat
  B : Option Addr
  m : Nat
  d : Nat
  cf : Cf
abbrev encC : CV → List Value := fun x => [.slice x.A x.n x.c, .slice x.B x.m x.d, .int .i64 x.cf.cap]
abbrev CV.v (x : CV) : Value := confV x.A x.n x.c x.B x.m x.d x.cf.cap
def CV.rd (x : CV) (w : World) : Prop := RdC0 w x.A x.n x.c x.B x.m x.d x.cf
def fewC (x : CV) : Prop := x.n ≤ 40 ∧ x.m ≤ 100 ∧ ∀ s ∈ x.cf.st, s.size ≤ 200
theorem len_str (s : ByteArray) (W : World) : (Builtin.len_ #[9] 3 #[.string s]).run Try.prog W = .ok (.int .i64 (s.size : Nat)) W := by
  simp [Builtin.len_, run_underlying Try.underlying9, go_sem]
set_option maxRecDepth 100000 in
set_option maxHeartbeats 4000000 in
theorem few_any (ad : Addr) (n c : Nat) (ls : List CV) (w : World) (h : RdK encC 3 w (some ad) n ls) (hr : ∀ x ∈ ls, x.rd w) (hn : n ≤ 10) :
    Calls Try.prog 11 #[.slice (some ad) n c] w fun e w' => TellB (∀ x ∈ ls, fewC x) e ∧ Below w.heap.size w w' := by
  have HK := Lib.hid h
  have HR := Lib.hid hr
  have HLn := Lib.hid h.len
  clear h hr
  go_enter Try.func11, Try.ntmps11
  go_wp2_with fail
  go_loopw [9] (fun x wr => ∃ k : Nat, k ≤ n ∧ x = .int .i64 (k : Nat) ∧ Hid (Below w.heap.size w wr ∧ ∀ j (hj : j < ls.length), j < k → fewC ls[j])) (fun x _ => n - (intOf x).toNat)
  case atStart => exact ⟨0, by omega, rfl, Lib.hid ⟨Below.refl _ _, fun j hj h => absurd h (Nat.not_lt_zero _)⟩⟩
  case round =>
    obtain ⟨k, hk, rfl, HI⟩ := hrel
    by_cases hlt : (k : Int) < (n : Int)
    · obtain ⟨ad', x, had, HX, x0, x1, x2⟩ := (HK.out.below HI.out.1).at3 (k := k) (by omega)
      injection had with had
      subst had
      have hxm : x ∈ ls := by
        obtain ⟨hl, rfl⟩ := HX.out
        exact List.getElem_mem hl
      have HXR := Lib.hid (HR.out x hxm)
      have HXM := Lib.hid hxm
      obtain ⟨A, n1, c1, B, m1, d1, cf⟩ := x
      simp only at x0 x1 x2
      obtain ⟨cp, hcp⟩ : ∃ cp, cp = cf.cap := ⟨_, rfl⟩
      rw [← hcp] at x2
      have hbx := (Below.refl wr.heap.size wr).alloc (Nat.le_refl _) (.cells #[.slice A n1 c1, .slice B m1 d1, .int .i64 cp] 25)
      have hcell := World.alloc_heap_new wr (.cells #[.slice A n1 c1, .slice B m1 d1, .int .i64 cp] 25)
      obtain ⟨q0, q1, q2⟩ := cells3 hcell
      have HBx := Lib.hid (HI.out.1.trans (hbx.mono HI.out.1.size))
      have HXS : Hid (Rd encS wr B m1 cf.st) := Lib.hid (HXR.out.st.below HI.out.1)
      have HBX := Lib.hid hbx
      clear hxm hcp hbx hcell
      by_cases h1 : (n1 : Int) > 40
      · have HNo : Hid (¬ ∀ x ∈ ls, fewC x) := Lib.hid fun h => (by have := (h _ HXM.out).1; simp only at this; omega)
        go_wp2
        go_ret
        exact ⟨tell_f HNo.out, HBx.out⟩
      by_cases h2 : (m1 : Int) > 100
      · have HNo : Hid (¬ ∀ x ∈ ls, fewC x) := Lib.hid fun h => (by have := (h _ HXM.out).2.1; simp only at this; omega)
        go_wp2
        go_ret
        exact ⟨tell_f HNo.out, HBx.out⟩
      have HNM := Lib.hid (show n1 ≤ 40 ∧ m1 ≤ 100 by omega)
      have hm100 : m1 ≤ 100 := by omega
      go_wp2_with fail
      obtain ⟨wB, hwB⟩ : ∃ wB, wB = wr.alloc (.cells #[.slice A n1 c1, .slice B m1 d1, .int .i64 cp] 25) := ⟨_, rfl⟩
      obtain ⟨g, hg⟩ : ∃ g, g = wr.heap.size := ⟨_, rfl⟩
      rw [← hwB, ← hg]
      rw [← hwB] at HBx HBX
      have HSt := Lib.hid (HXS.out.below HBX.out)
      clear x0 x1 x2 q0 q1 q2 h1 h2 hwB hg
      go_loopw [26] (fun x wy => ∃ j : Nat, j ≤ m1 ∧ x = .int .i64 (j : Nat) ∧ wB = wy ∧ Hid (∀ i (hi : i < cf.st.length), i < j → cf.st[i].size ≤ 200)) (fun x _ => m1 - (intOf x).toNat)
      case atStart => exact ⟨0, by omega, rfl, rfl, Lib.hid fun i hi h => absurd h (Nat.not_lt_zero _)⟩
      case round =>
        obtain ⟨j, hj, rfl, rfl, HJ⟩ := hrel
        by_cases hjl : (j : Int) < (m1 : Int)
        · obtain ⟨ae, s, rfl, HY, e0⟩ := rdS_at HSt.out (k := j) (by omega)
          have hls := len_str s
          by_cases h3 : (s.size : Int) > 200
          · have HNo : Hid (¬ ∀ x ∈ ls, fewC x) := Lib.hid fun h => (by
              obtain ⟨hl, e⟩ := HY.out
              have := (h _ HXM.out).2.2 s (by rw [← e]; exact List.getElem_mem hl)
              omega)
            go_wp2
            go_ret
            exact ⟨tell_f HNo.out, HBx.out⟩
          · have h4 : s.size ≤ 200 := by omega
            have H4 := Lib.hid h4
            clear h4
            go_wp2
            refine ⟨⟨j + 1, by omega, by go_num, by simp, Lib.hid fun i hi hij => ?_⟩, by simp [intOf]; omega⟩
            rcases Nat.lt_or_ge i j with h | h
            · exact HJ.out i hi h
            · obtain rfl : i = j := by omega
              obtain ⟨hl, e⟩ := HY.out
              rw [e]
              exact H4.out
        · have HF : Hid (fewC ⟨A, n1, c1, B, m1, d1, cf⟩) := Lib.hid ⟨HNM.out.1, HNM.out.2, fun s (hs : s ∈ cf.st) => by
            obtain ⟨i, hi, rfl⟩ := List.getElem_of_mem hs
            exact HJ.out i hi (by have := HSt.out.len; omega)⟩
          go_wp2
          refine ⟨⟨k + 1, by omega, by simp; try go_num, Lib.hid ⟨HBx.out, fun i hi hik => ?_⟩⟩, by simp [intOf]; try omega⟩
          rcases Nat.lt_or_ge i k with h | h
          · exact HI.out.2 i hi h
          · obtain rfl : i = k := by omega
            obtain ⟨hl, e⟩ := HX.out
            rw [e]
            exact HF.out
    · have HYes : Hid (∀ x ∈ ls, fewC x) := Lib.hid fun x hx => (by
        obtain ⟨i, hi, rfl⟩ := List.getElem_of_mem hx
        exact HI.out.2 i hi (by have := HLn.out; omega))
      go_wp2
      go_ret
      exact ⟨tell_t HYes.out, HI.out.1⟩
end Go.Proofs.Ytbmdjmnjbflfeaa
