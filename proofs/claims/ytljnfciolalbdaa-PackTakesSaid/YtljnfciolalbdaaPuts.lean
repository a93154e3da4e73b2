/- A text behind bytes, the document's numbers. -/
import Derived.Test.YtljnfciolalbdaaJoin
namespace Go.Proofs.Ytljnfciolalbdaa
open Go.RowKit
set_option linter.unusedVariables false
set_option linter.unusedSimpArgs false

def textL (b t : List Nat) : List Nat := if t.length ≤ 255 then b ++ (t.length :: t) else []
def textE (t : List Nat) : Int := if t.length ≤ 255 then 0 else 3

set_option maxRecDepth 100000 in
set_option maxHeartbeats 2000000 in
theorem Text_bs {vb vt : Value} {b t : List Nat} (w : World) (hb : BS w vb b) (ht : BS w vt t) (hn : b.length ≤ 70368744177300) :
    Calls Try.prog 23 #[vb, vt] w fun e w' => ∃ r, e = .returned (.tuple #[r, .int .i64 (textE t)]) ∧ OwnB w' w.heap.size r (textL b t) ∧ Below w.heap.size w w' := by
  obtain ⟨A, n, c, rfl, _, _, h1⟩ := hb
  obtain ⟨B, m, c', rfl, hc1, hc2, h2⟩ := ht
  have HA := Lib.hid h1
  have HB := Lib.hid h2
  have hla := Lib.hid h1.len
  have hlb := Lib.hid h2.len
  rw [h1.len] at hn
  have hm := h2.max
  clear h1 h2
  by_cases hbig : 255 < m
  · have q1 : (255 : Int) < (m : Int) := by omega
    have e1 := Lib.hid (show textL b t = [] from if_neg (by rw [hlb.out]; omega))
    have e2 := Lib.hid (show textE t = 3 from if_neg (by rw [hlb.out]; omega))
    clear hbig
    go_enter Try.func23, Try.ntmps23
    go_wp2
    go_ret2
    exact ⟨.slice none 0 0, by rw [e2.out]; rfl, by rw [e1.out]; exact OwnB.nil _ _, Below.refl _ _⟩
  · have q1 : ¬ (255 : Int) < (m : Int) := by omega
    have e1 := Lib.hid (show textL b t = b ++ (m :: t) by unfold textL; rw [if_pos (by rw [hlb.out]; omega), hlb.out])
    have e2 := Lib.hid (show textE t = 0 from if_pos (by rw [hlb.out]; omega))
    have hcm : m = 0 ∨ 0 < m := by omega
    rcases hcm with hm0 | hm0
    · subst hm0
      have C := Lib.hid (grown_any A n c 1 b w HA.out (by omega))
      rw [cutAt_own (g := w.heap.size) (c := n + 1) (k := n) (by omega)] at C
      have ht0 : t = [] := List.eq_nil_of_length_eq_zero hlb.out
      have e1' : Hid (textL b t = (b ++ List.replicate 1 0).set n 0) := Lib.hid <| by
        rw [e1.out, ht0, List.set_append_right _ _ (by rw [hla.out]; omega), hla.out, Nat.sub_self]; rfl
      have HN : Hid ((b ++ List.replicate 1 0).length = n + 1) := Lib.hid (by rw [List.length_append, List.length_replicate, hla.out])
      have hcp : ∀ W : World, (Builtin.copy_ #[26, 26] 3 #[.slice (some ⟨w.heap.size, n, none⟩) 0 0, .slice B 0 c']).run Try.prog W = .ok (.int .i64 0) W := fun W => run_copy_none W 26 26 3 5 _ B 0 0 0 c' Try.underlying26 (by kernel_rfl) (by simp)
      clear hbig e1 ht0
      go_enter Try.func23, Try.ntmps23
      go_wp2_with fail
      refine C.out.mono ?_
      rintro e w1 ⟨rfl, ho, hb⟩
      obtain ⟨⟨cv, hc3, hc4⟩, hs1, hs2⟩ := ho.put HN.out (i := n) (x := 0) (by omega) (by omega)
      have HBB := Lib.hid (below_grown hb hs2 (Nat.le_refl _))
      rw [← e1'.out] at hs1
      have HS := Lib.hid hs1
      clear ho hb hs1 hs2
      go_wp2
      go_ret2
      exact ⟨_, by rw [e2.out]; rfl, HS.out, HBB.out⟩
    · have C := Lib.hid (grown_any A n c (1 + m) b w HA.out (by omega))
      rw [cutAt_own (g := w.heap.size) (c := n + (1 + m)) (k := n) (by omega)] at C
      obtain ⟨L, hL⟩ : ∃ L, L = 1 + m := ⟨_, rfl⟩
      have q2 : 1 + (m : Int) = (L : Int) := by omega
      have q3 : 1 ≤ L := by omega
      have q4 : L - 1 = m := by omega
      have hm2 : m ≤ 255 := by omega
      rw [← hL] at C
      obtain ⟨N, hN⟩ : ∃ N, N = n + L := ⟨_, rfl⟩
      rw [← hN] at C
      have hwb : IntKind.u8.wrap (m : Int) = (m : Int) := by rw [IntKind.wrap_u8]; omega
      have HL := Lib.hid hL
      have HN := Lib.hid hN
      have Q4 := Lib.hid q4
      clear hbig hL hN q4
      go_enter Try.func23, Try.ntmps23
      go_wp2_with fail
      refine C.out.mono ?_
      rintro e w1 ⟨rfl, ho, hb⟩
      have hL := HL.out
      have hN := HN.out
      have q4 := Q4.out
      have hlenl : (b ++ List.replicate L 0).length = N := by rw [List.length_append, List.length_replicate, hla.out, hN]
      obtain ⟨⟨cv, hc3, hc4⟩, hs1, hs2⟩ := ho.put hlenl (i := n) (x := m) (by omega) (by omega)
      have hb2 := below_grown hb hs2 (Nat.le_refl _)
      have hlens : ((b ++ List.replicate L 0).set n m).length = N := by rw [List.length_set]; exact hlenl
      obtain ⟨w3, hcp, hs3, hs4⟩ := run_copy_own _ w.heap.size 3 w.heap.size (n + 1) N N (L - 1) (L - 1) _ t B m c' hs1 hlens (HB.out.below hb2) (by omega) (by omega)
      rw [setR_eq _ _ _ (by rw [hlens, hlb.out]; omega)] at hs3
      have hfin : ((b ++ List.replicate L 0).set n m).take (n + 1) ++ t ++ ((b ++ List.replicate L 0).set n m).drop (n + 1 + t.length) = textL b t := by
        rw [e1.out]
        have hset : (b ++ List.replicate L 0).set n m = b ++ (m :: List.replicate m 0) := by
          rw [List.set_append_right _ _ (by rw [hla.out]; omega), hla.out, Nat.sub_self, show L = m + 1 by omega, List.replicate_succ]
          rfl
        rw [hset]
        have e3 : (b ++ (m :: List.replicate m 0)).take (n + 1) = b ++ [m] := by
          rw [List.take_append, List.take_of_length_le (by rw [hla.out]; omega), hla.out, Nat.add_sub_cancel_left]
          rfl
        have e4 : (b ++ (m :: List.replicate m 0)).drop (n + 1 + t.length) = [] := by
          rw [List.drop_eq_nil_iff]
          simp [hla.out, hlb.out]
          omega
        rw [e3, e4]
        simp
      rw [hfin] at hs3
      have HS := Lib.hid hs3
      have HBB := Lib.hid (below_grown hb2 hs4 (Nat.le_refl _))
      have hcut := run_cut_l (some ⟨w.heap.size, n, none⟩) L L 1 q3 (Nat.le_refl _)
      clear hL hN q4 ho hb hs1 hs2 hb2 hs3 hs4 hlenl hlens hfin
      have hL1 : ¬ L = 1 := by have := HL.out; omega
      go_wp2
      go_ret2
      exact ⟨_, by rw [e2.out]; rfl, HS.out, HBB.out⟩

set_option maxRecDepth 100000 in
set_option maxHeartbeats 2000000 in
theorem refText_bs {vb vt : Value} {b t : List Nat} (w : World) (hb : BS w vb b) (ht : BS w vt t) (hn : b.length ≤ 70368744177300) :
    Calls Try.prog 24 #[vb, vt] w fun e w' => ∃ r, e = .returned (.tuple #[r, .int .i64 (textE t)]) ∧ OwnB w' w.heap.size r (textL b t) ∧ Below w.heap.size w w' := by
  obtain ⟨B, m, c', rfl, hc1, hc2, h2⟩ := ht
  have HA := Lib.hid hb
  have HB := Lib.hid (h2.bs hc1 hc2)
  have hlb := Lib.hid h2.len
  have hn' := Lib.hid hn
  have hm := h2.max
  clear h2 hb hn
  by_cases hbig : 255 < m
  · have q1 : (255 : Int) < (m : Int) := by omega
    have e1 := Lib.hid (show textL b t = [] from if_neg (by rw [hlb.out]; omega))
    have e2 := Lib.hid (show textE t = 3 from if_neg (by rw [hlb.out]; omega))
    clear hbig
    go_enter Try.func24, Try.ntmps24
    go_wp2
    go_ret2
    exact ⟨.slice none 0 0, by rw [e2.out]; rfl, by rw [e1.out]; exact OwnB.nil _ _, Below.refl _ _⟩
  · have q1 : ¬ (255 : Int) < (m : Int) := by omega
    have e1 := Lib.hid (show textL b t = (b ++ [m]) ++ t by unfold textL; rw [if_pos (by rw [hlb.out]; omega), hlb.out]; simp)
    have e2 := Lib.hid (show textE t = 0 from if_pos (by rw [hlb.out]; omega))
    have hwb : IntKind.u8.wrap (m : Int) = (m : Int) := by rw [IntKind.wrap_u8]; omega
    have hm2 : m ≤ 255 := by omega
    clear hbig
    have HBl := Lib.hid ((Below.refl w.heap.size w).alloc (Nat.le_refl _) (.cells #[.int .u8 (m : Int)] 5))
    have HL1 := Lib.hid (BS.lit w [m] #[.int .u8 (m : Int)] 1 rfl rfl (Byt.cons (by omega) Byt.nil) (by decide))
    go_enter Try.func24, Try.ntmps24
    go_wp2_with fail
    refine (Join_bs _ (HA.out.below HBl.out) HL1.out (by have := hn'.out; simp; omega)).mono ?_
    rintro e w1 ⟨r, rfl, ho, hb⟩
    have HO := Lib.hid ho
    have KB := Lib.hid (HBl.out.trans (hb.mono HBl.out.size))
    clear ho hb
    go_wp2_with fail
    refine (Join_bs _ HO.out.bs (HB.out.below KB.out) (by have := hn'.out; rw [hlb.out]; simp; omega)).mono ?_
    rintro e w2 ⟨r', rfl, ho, hb⟩
    rw [← e1.out] at ho
    have HO2 := Lib.hid (ho.mono KB.out.size)
    have KB2 := Lib.hid (Below.thn KB.out hb)
    clear ho hb
    go_wp2
    go_ret2
    exact ⟨_, by rw [e2.out]; rfl, HO2.out, KB2.out⟩

theorem be_set2 (k j v : Nat) (h : j < k) : (List.replicate (k - j) 0 ++ be j v).set (k - 1 - j) (v / 256 ^ j % 256) = List.replicate (k - (j + 1)) 0 ++ be (j + 1) v := by
  have := be_set [] k j (v / 256 ^ j % 256) (be j v) h (be_length j v)
  simpa [be] using this

set_option maxRecDepth 100000 in
set_option maxHeartbeats 2000000 in
theorem Number_bs (v k : Nat) (w : World) (hv : v < 18446744073709551616) (hk : 1 ≤ k ∧ k ≤ 8) :
    Calls Try.prog 26 #[.int .u64 v, .int .i64 k] w fun e w' => ∃ r, e = .returned r ∧ OwnB w' w.heap.size r (be k v) ∧ Below w.heap.size w w' := by
  have HO : Hid (OwnB (w.alloc (.cells (madeCells #[.int .u8 0] k) 5)) w.heap.size (.slice (some ⟨w.heap.size, 0, none⟩) k k) (List.replicate k 0)) :=
    Lib.hid ⟨OwnL.made w w.heap.size 5 0 k (Nat.le_refl _) (by omega), Byt.replicate _ _ (by decide)⟩
  have HB := Lib.hid ((Below.refl w.heap.size w).alloc (Nat.le_refl _) (.cells (madeCells #[.int .u8 0] k) 5))
  have hmk := run_makeB k (by omega)
  obtain ⟨g, hg⟩ : ∃ g, g = w.heap.size := ⟨_, rfl⟩
  rw [← hg] at HO HB ⊢
  have HG := Lib.hid hg
  have HV : Hid (v < 18446744073709551616) := hv
  clear hg hv
  go_enter Try.func26, Try.ntmps26
  go_wp2_with fail
  rw [← HG.out]
  go_loopw [0, 6] (fun x y wr => ∃ j u : Nat, x = .int .u64 u ∧ y = .int .i64 ((k : Int) - 1 - (j : Int)) ∧ j ≤ k ∧ u < 18446744073709551616 ∧ Hid (u = v / 256 ^ j) ∧ Hid (OwnB wr g (.slice (some ⟨g, 0, none⟩) k k) (List.replicate (k - j) 0 ++ be j v)) ∧ Hid (Below g w wr)) (fun _ y _ => (intOf y + 1).toNat)
  case atStart => exact ⟨0, v, rfl, by simp, Nat.zero_le _, HV.out, Lib.hid (by simp), Lib.hid (by simpa [be] using HO.out), HB⟩
  case round =>
    obtain ⟨j, u, rfl, rfl, hj, hu, HU, HI, HBr⟩ := hrel
    by_cases hlt : j < k
    · have q1 : 0 ≤ (k : Int) - 1 - (j : Int) := by omega
      have q2 : (k : Int) - 1 - (j : Int) < (k : Int) := by omega
      obtain ⟨x, hx⟩ : ∃ x, x = u % 256 := ⟨_, rfl⟩
      have hlenl : (List.replicate (k - j) 0 ++ be j v).length = k := by rw [List.length_append, List.length_replicate, be_length]; omega
      obtain ⟨⟨cv, hc1, hc2⟩, hs1, hs2⟩ := HI.out.put hlenl (i := k - 1 - j) (x := x) (by omega) (by omega)
      have hset := be_set2 k j v hlt
      rw [← HU.out, ← hx] at hset
      rw [hset] at hs1
      have HS := Lib.hid hs1
      have HX := Lib.hid hx
      have HLT := Lib.hid hlt
      clear hs1 hs2 hset hlenl hx hlt
      go_wp2
      have hx := HX.out
      have hlt := HLT.out
      have e8 : (u : Int) % 256 = (x : Int) := by omega
      rw [e8]
      refine ⟨⟨j + 1, u / 256, by simp, by congr 1; omega, by omega, by omega, Lib.hid (by rw [HU.out, Nat.div_div_eq_div_mul, Nat.pow_succ]), HS, HBr.out.setCell (Nat.le_refl _) _⟩, by simp [intOf]; omega⟩
    · have q1 : ¬ 0 ≤ (k : Int) - 1 - (j : Int) := by omega
      have HI' : Hid (OwnB wr g (.slice (some ⟨g, 0, none⟩) k k) (be k v)) := Lib.hid <| by
        have h := HI.out
        rw [show j = k by omega, Nat.sub_self] at h
        simpa using h
      clear HI hlt
      go_wp2
      go_ret
      exact ⟨_, rfl, HI'.out, HBr.out⟩

set_option maxRecDepth 100000 in
set_option maxHeartbeats 2000000 in
theorem refVar_bs (v : Nat) (w : World) (hv : v < 4294967296) :
    Calls Try.prog 27 #[.int .u32 v] w fun e w' => ∃ r, e = .returned r ∧ OwnB w' w.heap.size r (varL v) ∧ Below w.heap.size w w' := by
  have HO : Hid (OwnB (w.alloc (.cells #[] 5)) w.heap.size (.slice (some ⟨w.heap.size, 0, none⟩) 0 0) []) := Lib.hid ⟨OwnL.lit w w.heap.size 5 [] _ 0 rfl rfl (Nat.le_refl _) (by decide), Byt.nil⟩
  have HB := Lib.hid ((Below.refl w.heap.size w).alloc (Nat.le_refl _) (.cells #[] 5))
  have HLn := Lib.hid (varL_len hv)
  have HV : Hid (v < 4294967296) := hv
  clear hv
  go_enter Try.func27, Try.ntmps27
  go_wp2_with fail
  go_loopw [0, 3] (fun x y wr => ∃ (u : Nat) (o : List Nat), x = .int .u32 u ∧ u < 4294967296 ∧ Hid (varL v = o ++ varL u) ∧ Hid (OwnB wr w.heap.size y o) ∧ Hid (Below w.heap.size w wr)) (fun x _ _ => (intOf x).toNat)
  case atStart => exact ⟨v, [], rfl, HV.out, Lib.hid rfl, HO, HB⟩
  case round =>
    obtain ⟨u, o, rfl, hu, HU, HI, HBr⟩ := hrel
    have hol : o.length ≤ 5 := by have h1 := HLn.out; rw [HU.out] at h1; simp at h1; omega
    by_cases hlt : (128 : Int) ≤ (u : Int)
    · obtain ⟨x, hx⟩ : ∃ x, x = u % 128 + 128 := ⟨_, rfl⟩
      have HBl := (Below.refl wr.heap.size wr).alloc (Nat.le_refl _) (.cells #[.int .u8 (x : Int)] 5)
      have hrd := Rd.new (enc := encB) wr 5 [x] #[.int .u8 (x : Int)] 1 (0, 0) rfl rfl (by decide)
      obtain ⟨v1, w1, r1, o1, g1, at1⟩ := run_append_rd (P := Try.prog) (c := 1) w.heap.size 26 26 5 (.int .u8 0) 1 Try.underlying26 infoB rfl (by decide) encB_one (HI.out.1.below HBl) hrd (by simp; omega) (by have := HBr.out.size; simp; omega)
      have HB1 : Hid (Below w.heap.size w w1) := Lib.hid ((HBr.out.trans (HBl.mono HBr.out.size)).grown g1 (by have := HBr.out.size; simp; omega) (fun k hk => ((HI.out.1.below HBl).base k hk).1))
      have HO1 : Hid (OwnB w1 w.heap.size v1 (o ++ [x])) := Lib.hid ⟨o1, HI.out.2.append (Byt.cons (by omega) Byt.nil)⟩
      have HU2 : Hid (varL v = (o ++ [x]) ++ varL (u / 128)) := Lib.hid (by rw [HU.out, varL_ge (by omega), hx]; simp)
      have e1 : 128 + (u : Int) % 128 = (x : Int) := by omega
      have e2 : IntKind.u8.wrap (x : Int) = (x : Int) := by rw [IntKind.wrap_u8]; omega
      have hxl : x < 256 := by omega
      clear hx o1 g1 at1 HBl hrd
      go_wp2_with (first | (at_builtin; refine wpl_append_run rfl _ _ _ rfl rfl rfl r1 ?_))
      exact ⟨⟨u / 128, _, by simp, by omega, HU2, HO1, HB1⟩, by simp [intOf]; omega⟩
    · have HBl := (Below.refl wr.heap.size wr).alloc (Nat.le_refl _) (.cells #[.int .u8 (u : Int)] 5)
      have hrd := Rd.new (enc := encB) wr 5 [u] #[.int .u8 (u : Int)] 1 (0, 0) rfl rfl (by decide)
      obtain ⟨v1, w1, r1, o1, g1, at1⟩ := run_append_rd (P := Try.prog) (c := 1) w.heap.size 26 26 5 (.int .u8 0) 1 Try.underlying26 infoB rfl (by decide) encB_one (HI.out.1.below HBl) hrd (by simp; omega) (by have := HBr.out.size; simp; omega)
      have HB1 : Hid (Below w.heap.size w w1) := Lib.hid ((HBr.out.trans (HBl.mono HBr.out.size)).grown g1 (by have := HBr.out.size; simp; omega) (fun k hk => ((HI.out.1.below HBl).base k hk).1))
      have HO1 : Hid (OwnB w1 w.heap.size v1 (varL v)) := Lib.hid <| by
        rw [HU.out, varL_lt (show u < 128 by omega)]
        exact ⟨o1, HI.out.2.append (Byt.cons (by omega) Byt.nil)⟩
      have e2 : IntKind.u8.wrap (u : Int) = (u : Int) := by rw [IntKind.wrap_u8]; omega
      clear o1 g1 at1 HBl hrd
      go_wp2_with (first | (at_builtin; refine wpl_append_run rfl _ _ _ rfl rfl rfl r1 ?_))
      go_ret
      exact ⟨_, rfl, HO1.out, HB1.out⟩
end Go.Proofs.Ytljnfciolalbdaa
