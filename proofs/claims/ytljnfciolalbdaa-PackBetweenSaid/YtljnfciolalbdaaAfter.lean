/- What stands behind all that begin with bytes: the program's and the document's. -/
import Derived.Test.YtljnfciolalbdaaJoin
import Derived.Test.YtljnfciolalbdaaAfterMath
namespace Go.Proofs.Ytljnfciolalbdaa
open Go.RowKit
set_option linter.unusedVariables false
set_option linter.unusedSimpArgs false

theorem trimN_step {l : List Nat} {n : Nat} (h : l.getD n 0 = 255) : trimN l (n + 1) = trimN l n := by rw [trimN, if_pos h]
theorem trimN_stop {l : List Nat} {n : Nat} (h : l.getD n 0 ≠ 255) : trimN l (n + 1) = n + 1 := by rw [trimN, if_neg h]
theorem grown_bs (k : Nat) (A : Option Addr) (n c : Nat) (l : List Nat) (w : World) (hl : RdB w A n l) (hb : n ≤ 70368744177664) :
    Calls Try.prog 44 #[.slice A n c, .int .i64 0] w fun e w' => ∃ r r2, e = .returned (.tuple #[r, r2]) ∧ OwnB w' w.heap.size r l ∧ Below w.heap.size w w' := by
  refine (grown_any A n c 0 l w hl (by omega)).mono ?_
  rintro e w1 ⟨rfl, ho, hb⟩
  rw [List.replicate_zero, List.append_nil] at ho
  exact ⟨_, _, rfl, ho, hb⟩
theorem wrap_inc (x : Nat) (h : x < 255) : IntKind.u8.wrap ((x : Int) + 1) = ((x + 1 : Nat) : Int) := by rw [IntKind.wrap_u8]; omega

set_option maxRecDepth 100000 in
set_option maxHeartbeats 2000000 in
theorem After_any (A : Option Addr) (n c : Nat) (l : List Nat) (w : World) (h : RdB w A n l) (hnc : n ≤ c) (hc : c ≤ 9223372036854775807) (hn : n ≤ 70368744177600) :
    Calls Try.prog 16 #[.slice A n c] w fun e w' => ∃ r, e = .returned (.tuple #[r, .bool (decide (trimN l l.length ≠ 0))]) ∧ BS w' r (afterL l) ∧ Below w.heap.size w w' := by
  have HR := Lib.hid h
  have hlen := Lib.hid h.len
  clear h
  go_enter Try.func16, Try.ntmps16
  go_wp2_with fail
  go_loop [4] (fun x => ∃ k : Nat, x = .int .i64 k ∧ k ≤ n ∧ Hid (trimN l l.length = trimN l k)) (fun x => (intOf x).toNat)
  case atStart => exact ⟨n, rfl, Nat.le_refl _, Lib.hid (by rw [hlen.out])⟩
  case round =>
    rename_i hwr
    clear hwr
    obtain ⟨k, rfl, hk, HK⟩ := hrel
    cases k with
    | zero =>
      have h0 : Hid (trimN l l.length = 0) := HK
      have b0 : decide ((0 : Int) < ((0 : Nat) : Int)) = false := by decide
      clear HK
      go_wp2
      go_ret2
      refine ⟨.slice none 0 0, ?_, ?_, Below.refl _ _⟩
      · rw [h0.out]; rfl
      · unfold afterL; rw [if_pos h0.out]; exact BS.nil _
    | succ k =>
      obtain ⟨ad, x, rfl, HX, hxb, hcell⟩ := HR.out.at (k := k) (by omega)
      have e1 : ((k + 1 : Nat) : Int) - 1 = (k : Int) := by omega
      have q0 : (0 : Int) < ((k + 1 : Nat) : Int) := by omega
      have q1 : (k : Int) < (n : Int) := by omega
      have q2 : k < n := by omega
      by_cases hx : x = 255
      · have b1 : ((x : Int) == 255) = true := by simp [hx]
        have HK2 : Hid (trimN l l.length = trimN l k) := Lib.hid (HK.out.trans (trimN_step (by rw [← HX.out]; exact hx)))
        clear hx HK
        go_wp2
        refine ⟨⟨k, by go_num, by omega, HK2⟩, by simp [intOf] <;> omega⟩
      · have b1 : ((x : Int) == 255) = false := by simp; omega
        have hT : trimN l l.length = k + 1 := HK.out.trans (trimN_stop (by rw [← HX.out]; exact hx))
        have HT := Lib.hid hT
        have hx2 : x < 255 := by omega
        have hw := wrap_inc x hx2
        have hsl := run_cut_h (some ad) n c (k + 1) (by omega)
        have HRt : Hid (RdB w (some ad) (k + 1) (l.take (k + 1))) := Lib.hid (HR.out.take (k + 1) (by omega))
        have hAL : Hid (afterL l = (l.take (k + 1)).set k (x + 1)) := Lib.hid <| by
          unfold afterL
          rw [if_neg (by omega), hT, Nat.add_sub_cancel, HX.out]
        clear hx HK hT
        go_wp2_with fail
        refine (grown_bs k (some ad) (k + 1) c _ w HRt.out (by omega)).mono ?_
        rintro e w1 ⟨r, r2, rfl, ho, hb⟩
        obtain ⟨g, C, rfl, hg1, hg2, hC1, hC2⟩ := ho.op (n := k + 1) (by rw [List.length_take, hlen.out]; omega) (by omega)
        obtain ⟨hget, _⟩ := ho.get (i := k) (by rw [List.length_take, hlen.out]; omega) (by omega)
        have hgx : (l.take (k + 1)).getD k 0 = x := by rw [HX.out, List.getD_eq_getElem?_getD, List.getElem?_take, if_pos (by omega), ← List.getD_eq_getElem?_getD]
        rw [hgx] at hget
        obtain ⟨⟨cv, _, hc2⟩, hs1, hs2⟩ := ho.put (i := k) (x := x + 1) (by rw [List.length_take, hlen.out]; omega) (by omega) (by omega)
        rw [← hAL.out] at hs1
        have HS := Lib.hid hs1
        have HB1 := Lib.hid (below_grown hb hs2 hg1)
        clear hgx ho hb hs1 hs2 HRt hcell
        go_wp2
        go_ret2
        exact ⟨_, by rw [HT.out]; rfl, HS.out.bs, HB1.out⟩

set_option maxRecDepth 100000 in
set_option maxHeartbeats 2000000 in
theorem refAfter_any (A : Option Addr) (n c : Nat) (l : List Nat) (w : World) (h : RdB w A n l) (hnc : n ≤ c) (hc : c ≤ 9223372036854775807) (hn : n ≤ 70368744177600) :
    Calls Try.prog 17 #[.slice A n c] w fun e w' => ∃ r, e = .returned (.tuple #[r, .bool (decide (trimN l l.length ≠ 0))]) ∧ BS w' r (afterL l) ∧ Below w.heap.size w w' := by
  have HR := Lib.hid h
  have hlen := Lib.hid h.len
  clear h
  go_enter Try.func17, Try.ntmps17
  go_wp2_with fail
  go_loop [4] (fun x => ∃ k : Nat, x = .int .i64 k ∧ k ≤ n ∧ Hid (trimN l l.length = trimN l k)) (fun x => (intOf x).toNat)
  case atStart => exact ⟨n, rfl, Nat.le_refl _, Lib.hid (by rw [hlen.out])⟩
  case round =>
    rename_i hwr
    clear hwr
    obtain ⟨k, rfl, hk, HK⟩ := hrel
    cases k with
    | zero =>
      have h0 : Hid (trimN l l.length = 0) := HK
      have b0 : decide ((0 : Int) < ((0 : Nat) : Int)) = false := by decide
      clear HK
      go_wp2
      go_ret2
      refine ⟨.slice none 0 0, ?_, ?_, Below.refl _ _⟩
      · rw [h0.out]; rfl
      · unfold afterL; rw [if_pos h0.out]; exact BS.nil _
    | succ k =>
      obtain ⟨ad, x, rfl, HX, hxb, hcell⟩ := HR.out.at (k := k) (by omega)
      have e1 : ((k + 1 : Nat) : Int) - 1 = (k : Int) := by omega
      have q0 : (0 : Int) < ((k + 1 : Nat) : Int) := by omega
      have q1 : (k : Int) < (n : Int) := by omega
      have q2 : k < n := by omega
      by_cases hx : x = 255
      · have b1 : ((x : Int) == 255) = true := by simp [hx]
        have HK2 : Hid (trimN l l.length = trimN l k) := Lib.hid (HK.out.trans (trimN_step (by rw [← HX.out]; exact hx)))
        clear hx HK
        go_wp2
        refine ⟨⟨k, by go_num, by omega, HK2⟩, by simp [intOf] <;> omega⟩
      · have b1 : ((x : Int) == 255) = false := by simp; omega
        have hT : trimN l l.length = k + 1 := HK.out.trans (trimN_stop (by rw [← HX.out]; exact hx))
        have HT := Lib.hid hT
        have hx2 : x < 255 := by omega
        have hw := wrap_inc x hx2
        have hsl := run_cut_h (some ad) n c (k + 1) (by omega)
        have HRt : Hid (RdB w (some ad) (k + 1) (l.take (k + 1))) := Lib.hid (HR.out.take (k + 1) (by omega))
        have hAL : Hid (afterL l = (l.take (k + 1)).set k (x + 1)) := Lib.hid <| by
          unfold afterL
          rw [if_neg (by omega), hT, Nat.add_sub_cancel, HX.out]
        clear hx HK hT
        go_wp2_with fail
        refine (Join_bs w (BS.nil w) (HRt.out.bs (by omega) hc) (by rw [List.length_take]; simp; omega)).mono ?_
        rintro e w1 ⟨r, rfl, ho, hb⟩
        rw [List.nil_append] at ho
        obtain ⟨g, C, rfl, hg1, hg2, hC1, hC2⟩ := ho.op (n := k + 1) (by rw [List.length_take, hlen.out]; omega) (by omega)
        obtain ⟨hget, _⟩ := ho.get (i := k) (by rw [List.length_take, hlen.out]; omega) (by omega)
        have hgx : (l.take (k + 1)).getD k 0 = x := by rw [HX.out, List.getD_eq_getElem?_getD, List.getElem?_take, if_pos (by omega), ← List.getD_eq_getElem?_getD]
        rw [hgx] at hget
        obtain ⟨⟨cv, _, hc2⟩, hs1, hs2⟩ := ho.put (i := k) (x := x + 1) (by rw [List.length_take, hlen.out]; omega) (by omega) (by omega)
        rw [← hAL.out] at hs1
        have HS := Lib.hid hs1
        have HB1 := Lib.hid (below_grown hb hs2 hg1)
        clear hgx ho hb hs1 hs2 HRt hcell
        go_wp2
        go_ret2
        exact ⟨_, by rw [HT.out]; rfl, HS.out.bs, HB1.out⟩

theorem After_bs {vb : Value} {l : List Nat} (w : World) (h : BS w vb l) (hn : l.length ≤ 70368744177600) :
    Calls Try.prog 16 #[vb] w fun e w' => ∃ r, e = .returned (.tuple #[r, .bool (decide (trimN l l.length ≠ 0))]) ∧ BS w' r (afterL l) ∧ Below w.heap.size w w' := by
  obtain ⟨A, n, c, rfl, h1, h2, h3⟩ := h
  exact After_any A n c l w h3 h1 h2 (by rw [h3.len] at hn; exact hn)

theorem refAfter_bs {vb : Value} {l : List Nat} (w : World) (h : BS w vb l) (hn : l.length ≤ 70368744177600) :
    Calls Try.prog 17 #[vb] w fun e w' => ∃ r, e = .returned (.tuple #[r, .bool (decide (trimN l l.length ≠ 0))]) ∧ BS w' r (afterL l) ∧ Below w.heap.size w w' := by
  obtain ⟨A, n, c, rfl, h1, h2, h3⟩ := h
  exact refAfter_any A n c l w h3 h1 h2 (by rw [h3.len] at hn; exact hn)
end Go.Proofs.Ytljnfciolalbdaa
