/- The document's runes of bytes. -/
import Derived.Test.YtkkeodlnejckjaaGreatMS
import Derived.Test.YtkkeodlnejckjaaGreatRefText
import Derived.Test.YtkkeodlnejckjaaGreatWoMath
namespace Go.Proofs.YtkkeodlnejckjaaGreat
open Go.RowKit Go.Shelf
set_option linter.unusedVariables false
set_option linter.unusedSimpArgs false

abbrev encR : Nat → Value := fun r => .int .i32 (r : Int)
theorem encR_one (x : Nat) : (encR x).oneCell' = true := rfl
theorem infoR : (Tryz.prog.info? 21).map (fun i => (i.zero, i.size, i.bytes)) = some (some (.int .i32 0), 1, 4) := by kernel_rfl
abbrev OwnR (w : World) (base : Nat) (v : Value) (l : List Nat) : Prop := OwnL encR 21 w base v l
theorem rdM_at {w : World} {A : Option Addr} {n : Nat} {M : List (Nat × Nat)} (h : RdM w A n M) {k : Nat} (hk : k < n) : ∃ (ad : Addr) (x : Nat × Nat), A = some ad ∧ Hid (∃ hl : k < M.length, M[k] = x) ∧ w.cell? ⟨(ad.add (k * 2)).block, (ad.add (k * 2)).off + 1, none⟩ = some (.int .i32 (x.2 : Int)) := by
  obtain ⟨ad, x, e, HX, x0, x1⟩ := h.at2 hk
  exact ⟨ad, x, e, HX, x1⟩
set_option maxRecDepth 100000 in
set_option maxHeartbeats 2000000 in
theorem refRn_any (A : Option Addr) (n c : Nat) (l : List Nat) (w : World) (hl : RdB w A n l) (hc : n ≤ c) (hn : n ≤ 10000000) (hc2 : c ≤ 9223372036854775807) :
    Calls Tryz.prog 57 #[.slice A n c] w fun e w' => ∃ v, e = .returned v ∧ OwnR w' w.heap.size v (rnsL l) ∧ Below w.heap.size w w' := by
  have HLn := Lib.hid hl.len
  have C := Lib.hid (refRunes_any A n c l w hl hc (by omega) hc2)
  clear hl
  go_enter Tryz.func57, Tryz.ntmps57
  go_wp2_with fail
  refine C.out.mono ?_
  rintro e w1 ⟨v, rfl, ho, hb⟩
  obtain ⟨A6, n6, c6, rfl, h61, h62, h63⟩ := OwnK.ms ho
  obtain ⟨M, hM⟩ : ∃ M, M = marksL l := ⟨_, rfl⟩
  rw [← hM] at h63
  have hn6 : n6 ≤ 10000000 := by
    have := h63.len
    have := marksL_len l
    have := HLn.out
    rw [hM] at *
    omega
  have HM := Lib.hid h63
  have HOM : Hid (OwnM w1 w.heap.size (.slice A6 n6 c6) M) := Lib.hid (by rw [hM]; exact ho)
  have HMe := Lib.hid hM
  have HB1 := Lib.hid hb
  clear ho hb h63 hM C
  go_wp2_with fail
  go_loopw [3, 5] (fun x y wr => ∃ k : Nat, k ≤ n6 ∧ y = .int .i64 (k : Nat) ∧ Hid (OwnR wr w.heap.size x ((M.map (·.2)).take k) ∧ Below w.heap.size w wr ∧ OwnM wr w.heap.size (.slice A6 n6 c6) M)) (fun _ y _ => n6 - (intOf y).toNat)
  case atStart => exact ⟨0, by omega, rfl, Lib.hid ⟨OwnL.nil _ _ _ _, HB1.out, HOM.out⟩⟩
  case round =>
    obtain ⟨k, hk, rfl, HI⟩ := hrel
    by_cases hlt : (k : Int) < (n6 : Int)
    · have hrd : RdM wr A6 n6 M := OwnK.rdM HI.out.2.2
      obtain ⟨ad, y, rfl, HX, y1⟩ := rdM_at hrd (k := k) (by omega)
      have hA : OwnR (wr.alloc (.cells #[.int .i32 (y.2 : Int)] 21)) w.heap.size u3 ((M.map (·.2)).take k) := HI.out.1.below ((Below.refl _ _).alloc (Nat.le_refl _) _)
      have hR := Rd.new wr 21 [y.2] #[.int .i32 (y.2 : Int)] 1 (0, 0) (enc := encR) rfl rfl (by decide)
      obtain ⟨v1, w4, r1, o1, g1, at1⟩ := run_append_rd (P := Tryz.prog) (c := 1) w.heap.size 86 86 21 (.int .i32 0) 4 Tryz.underlying86 infoR rfl (by decide) encR_one hA hR (by simp; omega) (by have := HI.out.2.1.size; simp; omega)
      have HN : Hid (OwnR w4 w.heap.size v1 ((M.map (·.2)).take (k + 1)) ∧ Below w.heap.size w w4 ∧ OwnM w4 w.heap.size (.slice (some ad) n6 c6) M) := Lib.hid (by
        obtain ⟨hk5, hy⟩ := HX.out
        have hbA := (Below.refl wr.heap.size wr).alloc (Nat.le_refl _) (.cells #[.int .i32 (y.2 : Int)] 21)
        refine ⟨?_, (Below.thn HI.out.2.1 hbA).grown g1 (by have := HI.out.2.1.size; simp; omega) (fun j hj => (hA.base j hj).1), OwnK.kept (OwnK.below HI.out.2.2 hbA) g1 (rows_apart (OwnK.below HI.out.2.2 hbA) hA (by decide))⟩
        rw [List.take_succ_eq_append_getElem (by rw [List.length_map]; exact hk5), List.getElem_map, hy]
        exact o1)
      clear hA hR o1 g1 at1 hrd
      go_wp2_with (at_builtin; refine wpl_append_run rfl _ _ _ rfl rfl rfl r1 ?_)
      exact ⟨⟨k + 1, by omega, by go_num, HN⟩, by simp [intOf]; omega⟩
    · have HT : Hid (OwnR wr w.heap.size u3 (rnsL l)) := Lib.hid (by
        have h := HI.out.1
        rw [List.take_of_length_le (by rw [List.length_map, HM.out.len]; omega), HMe.out] at h
        exact h)
      go_wp2
      go_ret
      exact ⟨_, rfl, HT.out, HI.out.2.1⟩
end Go.Proofs.YtkkeodlnejckjaaGreat
