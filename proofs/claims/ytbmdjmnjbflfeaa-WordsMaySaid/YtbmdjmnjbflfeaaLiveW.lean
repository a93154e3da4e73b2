import Derived.Test.YtbmdjmnjbflfeaaTold
import Derived.Test.YtbmdjmnjbflfeaaRunes
import Derived.WalkSpells
import Derived.BigQuiet
import Derived.Test.YtbmdjmnjbflfeaaAll
import Derived.Test.YtbmdjmnjbflfeaaMS
import Derived.Test.YtbmdjmnjbflfeaaOpenC
import Derived.Lib.SmallJoins

/- Tokens compared. -/
namespace Go.Proofs.Ytbmdjmnjbflfeaa
open Go.RowKit Go.Shelf
set_option linter.unusedVariables false
set_option linter.unusedSimpArgs false

theorem str_eq {a b : ByteArray} : (a.toList == b.toList) = decide (a = b) := by
  by_cases h : a = b
  · subst h; simp
  · have : ¬ a.toList = b.toList := fun e => h (by
      rw [Lib.toList_data, Lib.toList_data] at e
      cases a; cases b
      congr 1
      exact Array.toList_inj.1 e)
    simp [h, this]
theorem run_neqTk (p q : ByteArray) (r s : Int) (W : World) : (binOp .neq 33 (.agg #[.string p, .int .i64 r]) (.agg #[.string q, .int .i64 s])).run Try.prog W = .ok (.bool (!(decide (p = q) && r == s))) W := by
  simp only [binOp]
  simp [Op.equal, Op.maxDepth, run_equalIn_struct (P := Try.prog) W 9999 33 _ _ (by kernel_rfl) (by kernel_rfl), Program.fieldsOf, Try.underlying33, Op.eqFields, go_sem]
  rw [← str_eq]
  by_cases h1 : p.toList = q.toList <;> by_cases h2 : r = s <;> simp [h1, h2]
theorem run_neqTk_yes (x y : Tok) (h : x = y) (W : World) : (binOp .neq 33 (.agg #[.string x.1, .int .i64 x.2]) (.agg #[.string y.1, .int .i64 y.2])).run Try.prog W = .ok (.bool false) W := by
  subst h; rw [run_neqTk]; simp
theorem run_neqTk_no (x y : Tok) (h : x ≠ y) (W : World) : (binOp .neq 33 (.agg #[.string x.1, .int .i64 x.2]) (.agg #[.string y.1, .int .i64 y.2])).run Try.prog W = .ok (.bool true) W := by
  rw [run_neqTk]
  have : ¬ (x.1 = y.1 ∧ x.2 = y.2) := fun e => h (Prod.ext e.1 e.2)
  have h2 : (decide (x.1 = y.1) && (x.2 : Int) == (y.2 : Int)) = false := by
    rw [Bool.eq_false_iff]
    intro h3
    simp at h3
    exact this ⟨h3.1, by have := h3.2; omega⟩
  rw [h2]
  rfl
set_option maxRecDepth 100000 in
set_option maxHeartbeats 2000000 in
theorem equalTk_any (A B : Option Addr) (n m c d : Nat) (a b : List Tok) (w : World) (ha : RdK encTk 2 w A n a) (hb : RdK encTk 2 w B m b) :
    Calls Try.prog 13 #[.slice A n c, .slice B m d] w fun e w' => e = .returned (.bool (decide (a = b))) ∧ Below w.heap.size w w' := by
  obtain ⟨R, hR⟩ : ∃ R, R = decide (a = b) := ⟨_, rfl⟩
  rw [← hR]
  have HR := Lib.hid hR
  have HA := Lib.hid ha
  have HB := Lib.hid hb
  have hn := ha.max
  have hm := hb.max
  clear ha hb hR
  by_cases hnm : n = m
  · subst hnm
    go_enter Try.func13, Try.ntmps13
    go_wp2_with fail
    go_loopw [13] (fun x wr => ∃ k : Nat, k ≤ n ∧ x = .int .i64 k ∧ Hid (a.take k = b.take k ∧ Below w.heap.size w wr)) (fun x _ => n - (intOf x).toNat)
    case atStart => exact ⟨0, by omega, rfl, Lib.hid ⟨by simp, Below.refl _ _⟩⟩
    case round =>
      obtain ⟨k, hk, rfl, HI⟩ := hrel
      by_cases hlt : (k : Int) < (n : Int)
      · obtain ⟨ad, x, rfl, HX, x0, x1⟩ := (HA.out.below HI.out.2).at2 (k := k) (by omega)
        obtain ⟨ae, y, rfl, HY, y0, y1⟩ := (HB.out.below HI.out.2).at2 (k := k) (by omega)
        by_cases hxy : x = y
        · have hq := run_neqTk_yes x y hxy
          have HXY := Lib.hid hxy
          clear hxy
          go_upto_region 6 with fail
          go_quiet (fail)
          clear hq x0 x1 y0 y1
          go_wp2
          refine ⟨⟨k + 1, by omega, by go_num, Lib.hid ⟨?_, below_drewN HI.out.2 nq⟩⟩, by simp [intOf]; omega⟩
          obtain ⟨_, e1⟩ := HX.out
          obtain ⟨_, e2⟩ := HY.out
          exact (take_stepG _ _).2 ⟨HI.out.1, by rw [e1, e2, HXY.out]⟩
        · have hq := run_neqTk_no x y hxy
          have HF : Hid (R = false) := Lib.hid (by rw [HR.out]; exact decide_eq_false (ne_of_at HX.out HY.out hxy))
          clear hxy
          go_upto_region 6 with fail
          go_quiet (fail)
          clear hq x0 x1 y0 y1
          go_wp2
          go_ret
          exact ⟨by rw [HF.out]; rfl, below_drewN HI.out.2 nq⟩
      · have HT : Hid (R = true) := Lib.hid (by
          rw [HR.out]
          have h := HI.out.1
          have h1 := HA.out.len
          have h2 := HB.out.len
          rw [List.take_of_length_le (by omega), List.take_of_length_le (by omega)] at h
          exact decide_eq_true h)
        go_wp2
        go_ret
        exact ⟨by rw [HT.out]; rfl, HI.out.2⟩
  · have g0 : ((n : Int) == (m : Int)) = false := by simp; omega
    have g1 : ((n : Int) != (m : Int)) = true := by simp; omega
    have HF : Hid (R = false) := Lib.hid (by
      rw [HR.out]
      refine decide_eq_false fun e => hnm ?_
      rw [← HA.out.len, ← HB.out.len, e])
    clear hnm
    go_enter Try.func13, Try.ntmps13
    go_wp2
    go_ret
    exact ⟨by rw [HF.out]; rfl, Below.refl _ _⟩
/-- Two values that read as tokens. -/
theorem equalTk_ts {w : World} {u v : Value} {a b : List Tok} (ha : TS w u a) (hb : TS w v b) :
    Calls Try.prog 13 #[u, v] w fun e w' => e = .returned (.bool (decide (a = b))) ∧ Below w.heap.size w w' := by
  obtain ⟨A, n, c, rfl, h1, h2, h3⟩ := ha
  obtain ⟨B, m, d, rfl, h4, h5, h6⟩ := hb
  exact equalTk_any A B n m c d a b w h3 h6
end Go.Proofs.Ytbmdjmnjbflfeaa

/- The tokens of a text; how many words it has. -/
namespace Go.Proofs.Ytbmdjmnjbflfeaa
open Go.RowKit Go.Shelf Go.Maps
set_option linter.unusedVariables false
set_option linter.unusedSimpArgs false
attribute [local go_sem] Oper.semAt_some

theorem okS33 : okS S33 := ⟨rfl, rfl, rfl, rfl, rfl, rfl, rfl⟩
theorem toks_len (cf : Cf) (l : List Nat) : (toksL cf l).length ≤ l.length + 1 := by
  unfold toksL
  rw [List.length_map]
  refine Nat.le_trans (List.length_filter_le _ _) ?_
  unfold termsL
  split
  · rw [tmG_len]; exact wordsL_len l
  · exact Nat.zero_le _
/-- The closure of All, its boxes being laid. -/
theorem all_seq' (A : Option Addr) (na c : Nat) (B : Option Addr) (m d : Nat) (cf : Cf) (T : Option Addr) (nt ct : Nat) (l : List Nat) (S : TypeId → Bool) (hS : okS S) (w0 w : World) (hb : Below w0.heap.size w0 w) (hR : RdC w0 A na c B m d cf) (ht : RdB w0 T nt l) (htc : nt ≤ ct) (htl : l.length ≤ 10000000) (hm : m ≤ 1000000) :
    SeqQ Fence.wide 9 Try.prog 41 #[.pointer (some ⟨w.heap.size, 0, none⟩), .pointer (some ⟨w.heap.size + 1, 0, none⟩)] encK w0.heap.size S (toksL cf l) ((w.alloc (.cells #[.slice A na c, .slice B m d, .int .i64 cf.cap] 25)).alloc (.cells #[.slice T nt ct] 26)) := by
  have h4 : ((w.alloc (.cells #[.slice A na c, .slice B m d, .int .i64 cf.cap] 25)).alloc (.cells #[.slice T nt ct] 26)).heap[w.heap.size]? = some (.cells #[.slice A na c, .slice B m d, .int .i64 cf.cap] 25 (0, 0)) :=
    (Lib.alloc_old _ _ _ (by simp)).trans (World.alloc_heap_new w _)
  have h5 := World.alloc_heap_new (w.alloc (.cells #[.slice A na c, .slice B m d, .int .i64 cf.cap] 25)) (.cells #[.slice T nt ct] 26)
  rw [World.size_alloc] at h5
  exact all_seq 9 _ _ (by omega) A na c B m d cf T nt ct l S hS w0 _ h4 h5 ((hb.alloc hb.size _).alloc (by have := hb.size; simp; omega) _) hR ht htc htl hm
set_option maxRecDepth 100000 in
set_option maxHeartbeats 1000000 in
theorem Tokens_any (A : Option Addr) (na c : Nat) (B : Option Addr) (m d : Nat) (cf : Cf) (T : Option Addr) (nt ct : Nat) (l : List Nat) (w : World) (hR : RdC w A na c B m d cf) (ht : RdB w T nt l) (htc : nt ≤ ct) (htl : l.length ≤ 10000000) (hm : m ≤ 1000000) :
    Calls Try.prog 14 #[confV A na c B m d cf.cap, .slice T nt ct] w fun e w' => ∃ v, e = .returned v ∧ OwnK encTk 2 33 w' w.heap.size v (toksL cf l) ∧ Below w.heap.size w w' := by
  have hb1 := (Below.refl w.heap.size w).alloc (Nat.le_refl _) (.cells #[.slice A na c, .slice B m d, .int .i64 cf.cap] 25)
  obtain ⟨w1, hw1⟩ : ∃ w1, w1 = w.alloc (.cells #[.slice A na c, .slice B m d, .int .i64 cf.cap] 25) := ⟨_, rfl⟩
  rw [← hw1] at hb1
  have HSQ := Lib.hid (all_seq' A na c B m d cf T nt ct l S33 okS33 w w1 hb1 hR ht htc htl hm)
  have C1 := Lib.hid (All_any A na c B m d cf.cap T nt ct w1)
  have HB2 := Lib.hid ((hb1.alloc hb1.size (.cells #[.slice A na c, .slice B m d, .int .i64 cf.cap] 25)).alloc (by have := hb1.size; simp; omega) (.cells #[.slice T nt ct] 26))
  have HL := Lib.hid (toks_len cf l)
  obtain ⟨w2, hw2⟩ : ∃ w2, w2 = (w1.alloc (.cells #[.slice A na c, .slice B m d, .int .i64 cf.cap] 25)).alloc (.cells #[.slice T nt ct] 26) := ⟨_, rfl⟩
  rw [← hw2] at HSQ C1 HB2
  have HTL := Lib.hid htl
  have HW1 := Lib.hid hw1
  clear hw1 hw2 hR ht htc hm hb1 htl
  go_enter Try.func14, Try.ntmps14
  go_wp2_with fail
  rw [← HW1.out]
  refine C1.out.mono ?_
  rintro e w9 ⟨rfl, h9⟩
  obtain rfl := h9.symm
  clear C1 HW1
  go_wp2_with fail
  refine (Collect_seq _ _ (enters_of Try.func41 (by kernel_rfl) rfl) w.heap.size (toksL cf l) w2 HSQ.out HB2.out.size (by have := HL.out; have := HTL.out; omega)).mono ?_
  rintro e w3 ⟨v, rfl, ho, hb⟩
  have HO := Lib.hid (OwnK.mono ho HB2.out.size)
  have HB := Lib.hid (HB2.out.trans (hb.mono HB2.out.size))
  clear ho hb HSQ
  go_wp2
  go_ret
  exact ⟨v, rfl, HO.out, HB.out⟩
end Go.Proofs.Ytbmdjmnjbflfeaa

/- Whether ways have little. -/
namespace Go.Proofs.Ytbmdjmnjbflfeaa
open Go.RowKit Go.Shelf
set_option linter.unusedVariables false
set_option linter.unusedSimpArgs false

/-- A way's value, and what it reads as. -/
structure CV where
  A : Option Addr
  n : Nat
  c : Nat
  B : Option Addr
  m : Nat
  d : Nat
  cf : Cf
abbrev encC : CV → List Value := fun x => [.slice x.A x.n x.c, .slice x.B x.m x.d, .int .i64 x.cf.cap]
abbrev CV.v (x : CV) : Value := confV x.A x.n x.c x.B x.m x.d x.cf.cap
def CV.rd (x : CV) (w : World) : Prop := RdC0 w x.A x.n x.c x.B x.m x.d x.cf
def fewC (x : CV) : Prop := x.n ≤ 40 ∧ x.m ≤ 100 ∧ ∀ s ∈ x.cf.st, s.size ≤ 200
theorem len_str (s : ByteArray) (W : World) : (Builtin.len_ #[9] 3 #[.string s]).run Try.prog W = .ok (.int .i64 (s.size : Nat)) W := by
  simp [Builtin.len_, run_underlying Try.underlying9, go_sem]
set_option maxRecDepth 100000 in
set_option maxHeartbeats 4000000 in
theorem few_any (ad : Addr) (n c : Nat) (ls : List CV) (w : World) (h : RdK encC 3 w (some ad) n ls) (hr : ∀ x ∈ ls, x.rd w) (hn : n ≤ 10) :
    Calls Try.prog 11 #[.slice (some ad) n c] w fun e w' => TellB (∀ x ∈ ls, fewC x) e ∧ Below w.heap.size w w' := by
  have HK := Lib.hid h
  have HR := Lib.hid hr
  have HLn := Lib.hid h.len
  clear h hr
  go_enter Try.func11, Try.ntmps11
  go_wp2_with fail
  go_loopw [9] (fun x wr => ∃ k : Nat, k ≤ n ∧ x = .int .i64 (k : Nat) ∧ Hid (Below w.heap.size w wr ∧ ∀ j (hj : j < ls.length), j < k → fewC ls[j])) (fun x _ => n - (intOf x).toNat)
  case atStart => exact ⟨0, by omega, rfl, Lib.hid ⟨Below.refl _ _, fun j hj h => absurd h (Nat.not_lt_zero _)⟩⟩
  case round =>
    obtain ⟨k, hk, rfl, HI⟩ := hrel
    by_cases hlt : (k : Int) < (n : Int)
    · obtain ⟨ad', x, had, HX, x0, x1, x2⟩ := (HK.out.below HI.out.1).at3 (k := k) (by omega)
      injection had with had
      subst had
      have hxm : x ∈ ls := by
        obtain ⟨hl, rfl⟩ := HX.out
        exact List.getElem_mem hl
      have HXR := Lib.hid (HR.out x hxm)
      have HXM := Lib.hid hxm
      obtain ⟨A, n1, c1, B, m1, d1, cf⟩ := x
      simp only at x0 x1 x2
      obtain ⟨cp, hcp⟩ : ∃ cp, cp = cf.cap := ⟨_, rfl⟩
      rw [← hcp] at x2
      have hbx := (Below.refl wr.heap.size wr).alloc (Nat.le_refl _) (.cells #[.slice A n1 c1, .slice B m1 d1, .int .i64 cp] 25)
      have hcell := World.alloc_heap_new wr (.cells #[.slice A n1 c1, .slice B m1 d1, .int .i64 cp] 25)
      obtain ⟨q0, q1, q2⟩ := cells3 hcell
      have HBx := Lib.hid (HI.out.1.trans (hbx.mono HI.out.1.size))
      have HXS : Hid (Rd encS wr B m1 cf.st) := Lib.hid (HXR.out.st.below HI.out.1)
      have HBX := Lib.hid hbx
      clear hxm hcp hbx hcell
      by_cases h1 : (n1 : Int) > 40
      · have HNo : Hid (¬ ∀ x ∈ ls, fewC x) := Lib.hid fun h => (by have := (h _ HXM.out).1; simp only at this; omega)
        go_wp2
        go_ret
        exact ⟨tell_f HNo.out, HBx.out⟩
      by_cases h2 : (m1 : Int) > 100
      · have HNo : Hid (¬ ∀ x ∈ ls, fewC x) := Lib.hid fun h => (by have := (h _ HXM.out).2.1; simp only at this; omega)
        go_wp2
        go_ret
        exact ⟨tell_f HNo.out, HBx.out⟩
      have HNM := Lib.hid (show n1 ≤ 40 ∧ m1 ≤ 100 by omega)
      have hm100 : m1 ≤ 100 := by omega
      go_wp2_with fail
      obtain ⟨wB, hwB⟩ : ∃ wB, wB = wr.alloc (.cells #[.slice A n1 c1, .slice B m1 d1, .int .i64 cp] 25) := ⟨_, rfl⟩
      obtain ⟨g, hg⟩ : ∃ g, g = wr.heap.size := ⟨_, rfl⟩
      rw [← hwB, ← hg]
      rw [← hwB] at HBx HBX
      have HSt := Lib.hid (HXS.out.below HBX.out)
      clear x0 x1 x2 q0 q1 q2 h1 h2 hwB hg
      go_loopw [26] (fun x wy => ∃ j : Nat, j ≤ m1 ∧ x = .int .i64 (j : Nat) ∧ wB = wy ∧ Hid (∀ i (hi : i < cf.st.length), i < j → cf.st[i].size ≤ 200)) (fun x _ => m1 - (intOf x).toNat)
      case atStart => exact ⟨0, by omega, rfl, rfl, Lib.hid fun i hi h => absurd h (Nat.not_lt_zero _)⟩
      case round =>
        obtain ⟨j, hj, rfl, rfl, HJ⟩ := hrel
        by_cases hjl : (j : Int) < (m1 : Int)
        · obtain ⟨ae, s, rfl, HY, e0⟩ := rdS_at HSt.out (k := j) (by omega)
          have hls := len_str s
          by_cases h3 : (s.size : Int) > 200
          · have HNo : Hid (¬ ∀ x ∈ ls, fewC x) := Lib.hid fun h => (by
              obtain ⟨hl, e⟩ := HY.out
              have := (h _ HXM.out).2.2 s (by rw [← e]; exact List.getElem_mem hl)
              omega)
            go_wp2
            go_ret
            exact ⟨tell_f HNo.out, HBx.out⟩
          · have h4 : s.size ≤ 200 := by omega
            have H4 := Lib.hid h4
            clear h4
            go_wp2
            refine ⟨⟨j + 1, by omega, by go_num, by simp, Lib.hid fun i hi hij => ?_⟩, by simp [intOf]; omega⟩
            rcases Nat.lt_or_ge i j with h | h
            · exact HJ.out i hi h
            · obtain rfl : i = j := by omega
              obtain ⟨hl, e⟩ := HY.out
              rw [e]
              exact H4.out
        · have HF : Hid (fewC ⟨A, n1, c1, B, m1, d1, cf⟩) := Lib.hid ⟨HNM.out.1, HNM.out.2, fun s (hs : s ∈ cf.st) => by
            obtain ⟨i, hi, rfl⟩ := List.getElem_of_mem hs
            exact HJ.out i hi (by have := HSt.out.len; omega)⟩
          go_wp2
          refine ⟨⟨k + 1, by omega, by simp; try go_num, Lib.hid ⟨HBx.out, fun i hi hik => ?_⟩⟩, by simp [intOf]; try omega⟩
          rcases Nat.lt_or_ge i k with h | h
          · exact HI.out.2 i hi h
          · obtain rfl : i = k := by omega
            obtain ⟨hl, e⟩ := HX.out
            rw [e]
            exact HF.out
    · have HYes : Hid (∀ x ∈ ls, fewC x) := Lib.hid fun x hx => (by
        obtain ⟨i, hi, rfl⟩ := List.getElem_of_mem hx
        exact HI.out.2 i hi (by have := HLn.out; omega))
      go_wp2
      go_ret
      exact ⟨tell_t HYes.out, HI.out.1⟩
end Go.Proofs.Ytbmdjmnjbflfeaa

/- The chapter's example. -/
namespace Go.Proofs.Ytbmdjmnjbflfeaa
open Go.RowKit Go.Shelf
set_option linter.unusedVariables false
set_option linter.unusedSimpArgs false

def someC : Cf := ⟨[(65, 97, 26)], [⟨#[116, 104, 101]⟩], 4⟩
theorem some_key : ∀ k : Fin 26, (letB (65 + ((k.1 : Nat) : Int)) = true ∧ letB (97 + ((k.1 : Nat) : Int)) = true) := by decide
theorem some_ok : okTb someC.fo := by
  refine ⟨by decide, fun i h => ?_, fun i h k hk => ?_⟩
  · have h0 : i = 0 := by
      have : someC.fo.length = 1 := rfl
      omega
    subst h0
    refine ⟨?_, fun h => absurd h (by decide)⟩
    show 1 ≤ (26 : Int) ∧ (26 : Int) ≤ 256 ∧ ∀ k : Nat, (k : Int) < 26 → letB 65 = true ∧ letB 97 = true ∧ letB (65 + (k : Int)) = true ∧ letB (97 + (k : Int)) = true
    exact ⟨by decide, by decide, fun k hk => ⟨by decide, by decide, (some_key ⟨k, by omega⟩).1, (some_key ⟨k, by omega⟩).2⟩⟩
  · have h0 : i = 0 := by
      have : someC.fo.length = 1 := rfl
      omega
    subst h0
    have hk2 : (k : Int) < 26 := hk
    show fnd [(65, 97, 26)] (97 + (k : Int)) = none
    have e : hit (97 + (k : Int)) (65, 97, 26) = false := by
      unfold hit
      simp only
      have h1 : wrap32 (97 + (k : Int) - 65) = 32 + (k : Int) := by
        unfold wrap32
        omega
      rw [h1, show wrap32 26 = 26 from by unfold wrap32; omega]
      simp
      omega
    simp [fnd, e]
theorem some_may : mayC someC := by
  refine ⟨some_ok, by decide, by decide, by decide, fun i h => ?_⟩
  have h0 : i = 0 := by
    have : someC.st.length = 1 := rfl
    omega
  subst h0
  refine ⟨fun h => absurd h (by decide), ?_⟩
  have e : rnsL (bsL (stAt someC.st 0)) = [116, 104, 101] := by kernel_rfl
  refine ⟨fun r hr => ?_, by rw [e]; decide, by rw [e]; decide⟩
  rw [e] at hr
  unfold okR
  rw [eff_yes some_ok]
  simp at hr
  rcases hr with rfl | rfl | rfl <;> exact ⟨by decide, by kernel_rfl⟩
/-- The terms by a table that may be. -/
def tmB (c : Cf) : List (List Nat) → Nat → List (Nat × ByteArray)
  | [], _ => []
  | w :: ws, k => (k, strL (encsL ((w.take c.cap.toNat).map fun r : Nat => oneR c.fo (r : Int)))) :: tmB c ws (k + 1)
theorem tmB_eq (c : Cf) (h : okTb c.fo) : ∀ (ws : List (List Nat)) (k : Nat), tmG c ws k = tmB c ws k
  | [], _ => rfl
  | w :: ws, k => by
    unfold tmG tmB termS termL
    rw [eff_yes h, tmB_eq c h ws (k + 1)]
abbrev liveB : List Nat := [84, 104, 101, 32, 67, 97, 116, 115, 44, 32, 116, 104, 101, 32, 67, 65, 84, 83, 39, 32, 49, 50]
theorem live_toks : toksL someC liveB = [(⟨#[99, 97, 116, 115]⟩, 1), (⟨#[99, 97, 116, 115]⟩, 3), (⟨#[49, 50]⟩, 4)] := by
  unfold toksL termsL
  rw [if_pos some_may, tmB_eq someC some_ok]
  have e : tmB someC (wordsL liveB) 0 = [(0, ⟨#[116, 104, 101]⟩), (1, ⟨#[99, 97, 116, 115]⟩), (2, ⟨#[116, 104, 101]⟩), (3, ⟨#[99, 97, 116, 115]⟩), (4, ⟨#[49, 50]⟩)] := by kernel_rfl
  rw [e]
  have i1 : inS someC.st ⟨#[116, 104, 101]⟩ = true := by decide
  have i2 : inS someC.st ⟨#[99, 97, 116, 115]⟩ = false := by decide
  have i3 : inS someC.st ⟨#[49, 50]⟩ = false := by decide
  simp [i1, i2, i3]
set_option maxRecDepth 100000 in
set_option maxHeartbeats 2000000 in
theorem some_any (w : World) : Calls Try.prog 37 #[] w fun e w' => ∃ g, e = .returned (confV (some ⟨g, 0, none⟩) 1 1 (some ⟨g + 1, 0, none⟩) 1 1 someC.cap) ∧ RdC w' (some ⟨g, 0, none⟩) 1 1 (some ⟨g + 1, 0, none⟩) 1 1 someC ∧ Below w.heap.size w w' := by
  go_enter Try.func37, Try.ntmps37
  go_wp2
  obtain ⟨s, hs⟩ : ∃ s, s = w.heap.size := ⟨_, rfl⟩
  have h0 := World.alloc_heap_new w (.cells #[.slice (some ⟨s + 1, 0, none⟩) 1 1, .slice (some ⟨s + 1 + 1, 0, none⟩) 1 1, .int .i64 4] 25)
  have h1 := World.alloc_heap_new (w.alloc (.cells #[.slice (some ⟨s + 1, 0, none⟩) 1 1, .slice (some ⟨s + 1 + 1, 0, none⟩) 1 1, .int .i64 4] 25)) (.cells #[.int .i32 65, .int .i32 97, .int .i64 26] 84)
  have h2 := World.alloc_heap_new ((w.alloc (.cells #[.slice (some ⟨s + 1, 0, none⟩) 1 1, .slice (some ⟨s + 1 + 1, 0, none⟩) 1 1, .int .i64 4] 25)).alloc (.cells #[.int .i32 65, .int .i32 97, .int .i64 26] 84)) (.cells #[.string ⟨#[116, 104, 101]⟩] 9)
  have b1 : Below w.heap.size w (w.alloc (.cells #[.slice (some ⟨s + 1, 0, none⟩) 1 1, .slice (some ⟨s + 1 + 1, 0, none⟩) 1 1, .int .i64 4] 25)) := (Below.refl _ _).alloc (Nat.le_refl _) _
  obtain ⟨w1, hw1⟩ : ∃ w1, w1 = w.alloc (.cells #[.slice (some ⟨s + 1, 0, none⟩) 1 1, .slice (some ⟨s + 1 + 1, 0, none⟩) 1 1, .int .i64 4] 25) := ⟨_, rfl⟩
  have s1 : w1.heap.size = s + 1 := by rw [hw1, hs]; simp
  rw [← hw1] at h0 h1 h2 b1
  have b2 : Below w1.heap.size w1 (w1.alloc (.cells #[.int .i32 65, .int .i32 97, .int .i64 26] 84)) := (Below.refl _ _).alloc (Nat.le_refl _) _
  obtain ⟨w2, hw2⟩ : ∃ w2, w2 = w1.alloc (.cells #[.int .i32 65, .int .i32 97, .int .i64 26] 84) := ⟨_, rfl⟩
  have s2 : w2.heap.size = s + 1 + 1 := by rw [hw2]; simp; omega
  rw [← hw2] at h1 h2 b2
  have b3 : Below w2.heap.size w2 (w2.alloc (.cells #[.string ⟨#[116, 104, 101]⟩] 9)) := (Below.refl _ _).alloc (Nat.le_refl _) _
  rw [← hs, ← hw1, ← hw2]
  obtain ⟨w3, hw3⟩ : ∃ w3, w3 = w2.alloc (.cells #[.string ⟨#[116, 104, 101]⟩] 9) := ⟨_, rfl⟩
  rw [← hw3] at h2 b3 ⊢
  rw [← hs] at h0
  rw [s1] at h1
  rw [s2] at h2
  have h0' := (b3.block s (by omega)).trans ((b2.block s (by omega)).trans h0)
  have h1' := (b3.block (s + 1) (by omega)).trans h1
  obtain ⟨y0, y1, y2⟩ := cells3 h0'
  obtain ⟨z0, z1, z2⟩ := cells3 h1'
  have x0 : w3.cell? ⟨s + 1 + 1, 0, none⟩ = some (.string ⟨#[116, 104, 101]⟩) := by simp [World.cell?, h2]
  refine bodyPost_ret (v := confV (some ⟨s + 1, 0, none⟩) 1 1 (some ⟨s + 1 + 1, 0, none⟩) 1 1 someC.cap) (by simp [results, Try.results37, go_sem, y0, y1, y2, someC]) rfl ?_
  refine ⟨s + 1, rfl, ⟨⟨rfl, by decide, fun _ => ⟨_, rfl, fun j hj => ?_⟩⟩, ⟨rfl, by decide, fun _ => ⟨_, rfl, fun j hj => ?_⟩⟩, by decide, by decide, by decide, by decide, ?_, ?_⟩, by rw [hs]; exact Below.thn (Below.thn b1 b2) b3⟩
  · obtain rfl : j = 0 := by simp [someC] at hj; omega
    exact ⟨z0, z1, z2⟩
  · obtain rfl : j = 0 := by simp [someC] at hj; omega
    exact x0
  · intro x hx
    simp [someC] at hx
    subst hx
    exact ⟨by decide, by decide, by decide⟩
  · intro x hx
    simp [someC] at hx
    subst hx
    decide
theorem markC (C : Array Value) (n c : Nat) (w : World) : (convert 26 26 (.slice (some ⟨w.heap.size, 0, none⟩) n c)).run Try.prog (w.alloc (.cells C 5)) = .ok (.slice (some ⟨w.heap.size, 0, none⟩) n c) (w.alloc (.cells C 5 (C.size, C.size + 1))) :=
  Lib.run_convert_bytes_const (P := Try.prog) w 26 5 C n c Try.underlying26 Try.underlying5
theorem equalTk_same {w : World} {u v : Value} {a : List Tok} (ha : TS w u a) (hb : TS w v a) :
    Calls Try.prog 13 #[u, v] w fun e w' => e = .returned (.bool true) ∧ Below w.heap.size w w' :=
  (equalTk_ts ha hb).mono fun e w' h => ⟨h.1.trans (by rw [decide_eq_true rfl]), h.2⟩
set_option maxRecDepth 100000 in
set_option maxHeartbeats 4000000 in
theorem live_any (w : World) : Calls Try.prog 10 #[] w fun e w' => e = .returned (.bool true) ∧ Below w.heap.size w w' := by
  go_enter Try.func10, Try.ntmps10
  go_wp2_with fail
  refine (some_any w).mono ?_
  rintro e w1 ⟨g, rfl, hC, hb⟩
  have km := fun (C : Array Value) (n c : Nat) => markC C n c w1
  have hbA : Below w1.heap.size w1 (w1.alloc (.cells #[.int .u8 84, .int .u8 104, .int .u8 101, .int .u8 32, .int .u8 67, .int .u8 97, .int .u8 116, .int .u8 115, .int .u8 44, .int .u8 32, .int .u8 116, .int .u8 104, .int .u8 101, .int .u8 32, .int .u8 67, .int .u8 65, .int .u8 84, .int .u8 83, .int .u8 39, .int .u8 32, .int .u8 49, .int .u8 50] 5 (22, 23))) := (Below.refl _ _).alloc (Nat.le_refl _) _
  have hR : RdB (w1.alloc (.cells #[.int .u8 84, .int .u8 104, .int .u8 101, .int .u8 32, .int .u8 67, .int .u8 97, .int .u8 116, .int .u8 115, .int .u8 44, .int .u8 32, .int .u8 116, .int .u8 104, .int .u8 101, .int .u8 32, .int .u8 67, .int .u8 65, .int .u8 84, .int .u8 83, .int .u8 39, .int .u8 32, .int .u8 49, .int .u8 50] 5 (22, 23))) (some ⟨w1.heap.size, 0, none⟩) 22 liveB := ⟨Rd.new w1 5 liveB #[.int .u8 84, .int .u8 104, .int .u8 101, .int .u8 32, .int .u8 67, .int .u8 97, .int .u8 116, .int .u8 115, .int .u8 44, .int .u8 32, .int .u8 116, .int .u8 104, .int .u8 101, .int .u8 32, .int .u8 67, .int .u8 65, .int .u8 84, .int .u8 83, .int .u8 39, .int .u8 32, .int .u8 49, .int .u8 50] 22 (22, 23) (enc := encB) rfl rfl (by decide), by
    intro c hc
    simp [liveB] at hc
    omega⟩
  have CT := Lib.hid (Tokens_any _ 1 1 _ 1 1 someC (some ⟨w1.heap.size, 0, none⟩) 22 22 liveB _ (hC.below hbA) hR (Nat.le_refl _) (by decide) (by decide))
  rw [live_toks] at CT
  have HB1 := Lib.hid (Below.thn hb hbA)
  clear hb hC hR hbA
  go_wp2_with fail
  refine CT.out.mono ?_
  rintro e w2 ⟨v, rfl, ho, hb⟩
  have HB2 := Lib.hid (Below.thn HB1.out hb)
  have HT := Lib.hid (OwnK.ts ho)
  clear ho hb CT km
  have hk : RdK encTk 2 (w2.alloc (.cells #[.string ⟨#[99, 97, 116, 115]⟩, .int .i64 1, .string ⟨#[99, 97, 116, 115]⟩, .int .i64 3, .string ⟨#[49, 50]⟩, .int .i64 4] 33)) (some ⟨w2.heap.size, 0, none⟩) 3 [(⟨#[99, 97, 116, 115]⟩, 1), (⟨#[99, 97, 116, 115]⟩, 3), (⟨#[49, 50]⟩, 4)] := by
    obtain ⟨A, c, e, _, _, h⟩ := OwnK.rd encTk_len (OwnK.lit encTk_len w2 w2.heap.size 33 [(⟨#[99, 97, 116, 115]⟩, 1), (⟨#[99, 97, 116, 115]⟩, 3), (⟨#[49, 50]⟩, 4)] #[.string ⟨#[99, 97, 116, 115]⟩, .int .i64 1, .string ⟨#[99, 97, 116, 115]⟩, .int .i64 3, .string ⟨#[49, 50]⟩, .int .i64 4] 3 rfl rfl (Nat.le_refl _) (by decide))
    injection e with e1 e2 e3
    subst e1
    exact h
  have hbB : Below w2.heap.size w2 (w2.alloc (.cells #[.string ⟨#[99, 97, 116, 115]⟩, .int .i64 1, .string ⟨#[99, 97, 116, 115]⟩, .int .i64 3, .string ⟨#[49, 50]⟩, .int .i64 4] 33)) := (Below.refl _ _).alloc (Nat.le_refl _) _
  have CE := Lib.hid (equalTk_same (HT.out.below hbB) (show TS _ (.slice (some ⟨w2.heap.size, 0, none⟩) 3 3) [(⟨#[99, 97, 116, 115]⟩, 1), (⟨#[99, 97, 116, 115]⟩, 3), (⟨#[49, 50]⟩, 4)] from ⟨_, 3, 3, rfl, Nat.le_refl _, by decide, hk⟩))
  have HB3 := Lib.hid (Below.thn HB2.out hbB)
  clear hk hbB
  go_wp2_with fail
  refine CE.out.mono ?_
  rintro e w3 ⟨rfl, hb⟩
  have HB4 := Lib.hid (Below.thn HB3.out hb)
  clear hb CE
  go_wp2
  go_ret
  exact ⟨rfl, HB4.out⟩
end Go.Proofs.Ytbmdjmnjbflfeaa
