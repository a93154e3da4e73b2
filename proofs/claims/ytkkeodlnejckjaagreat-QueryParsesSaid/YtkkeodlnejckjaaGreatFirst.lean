/- The document's first rune of bytes, walked. -/
import Derived.Test.YtkkeodlnejckjaaGreatRefMath
import Derived.WalkSmall
import Derived.IntWalk
namespace Go.Proofs.YtkkeodlnejckjaaGreat
open Go.RowKit
set_option linter.unusedVariables false
set_option linter.unusedSimpArgs false

theorem not_okN_len {n : Nat} {l : List Nat} (h : (formL (valN n l : Nat)).length ≠ n) : ¬ okN n l := fun ho => h (by rw [ho.2, List.length_take]; have := ho.1; omega)
theorem take_step {F l : List Nat} {i : Nat} (h1 : i < F.length) (h2 : i < l.length) : (F.take (i + 1) = l.take (i + 1)) ↔ (F.take i = l.take i ∧ F.getD i 0 = l.getD i 0) := by
  rw [List.take_succ_eq_append_getElem h1, List.take_succ_eq_append_getElem h2, List.getD_eq_getElem?_getD, List.getD_eq_getElem?_getD, List.getElem?_eq_getElem h1, List.getElem?_eq_getElem h2]
  constructor
  · intro h
    have := List.append_inj h (by simp; omega)
    exact ⟨this.1, by simpa using this.2⟩
  · rintro ⟨h1, h2⟩
    rw [h1]
    simp at h2
    rw [h2]
/-- What first answers. -/
def FirstE (l : List Nat) (w : World) (e : Ending) (w' : World) : Prop := e = .returned (.tuple #[.int .i32 ((dec l).1 : Nat), .int .i64 ((dec l).2 : Nat)]) ∧ Below w.heap.size w w'
theorem firstE {l : List Nat} {w w' : World} {r k : Nat} {R : Int} (hd : dec l = (r, k)) (hR : R = r) (hb : Below w.heap.size w w') : FirstE l w (.returned (.tuple #[.int .i32 R, .int .i64 (k : Int)])) w' := by
  subst hR
  unfold FirstE
  rw [hd]
  exact ⟨rfl, hb⟩

set_option maxRecDepth 100000 in
set_option maxHeartbeats 4000000 in
theorem first_any (A : Option Addr) (n c : Nat) (l : List Nat) (w : World) (hl : RdB w A n l) (hn : 0 < n) :
    Calls Tryz.prog 100 #[.slice A n c] w (FirstE l w) := by
  have HL := Lib.hid hl
  have hn2 := hl.max
  clear hl
  go_enter Tryz.func100, Tryz.ntmps100
  go_wp2_with fail
  go_loopw [4] (fun x wr => ∃ k : Nat, 1 ≤ k ∧ k ≤ 5 ∧ x = .int .i64 k ∧ Hid ((∀ m, 1 ≤ m → m < k → ¬ okN m l) ∧ Below w.heap.size w wr)) (fun x _ => 5 - (intOf x).toNat)
  case atStart => exact ⟨1, by omega, by omega, rfl, Lib.hid ⟨fun m h1 h2 => by omega, Below.refl _ _⟩⟩
  case round =>
    obtain ⟨k, hk1, hk5, hx, HI⟩ := hrel
    by_cases hend : k = 5 ∨ n < k
    · have HD : Hid (dec l = (65533, 1)) := Lib.hid (dec_no HL.out.byt (by rw [HL.out.len]; omega) fun m h1 h2 hok => by
        have := hok.1
        have := HL.out.len
        exact HI.out.1 m h1 (by omega) hok)
      rcases hend with rfl | hend
      · obtain rfl : u4 = .int .i64 5 := hx
        go_wp2
        go_ret2
        exact firstE HD.out rfl HI.out.2
      · subst hx
        by_cases h4 : (k : Int) ≤ 4
        · have q1 : ¬ ((k : Int) ≤ (n : Int)) := by omega
          go_wp2
          go_ret2
          exact firstE HD.out rfl HI.out.2
        · go_wp2
          go_ret2
          exact firstE HD.out rfl HI.out.2
    · obtain rfl | rfl | rfl | rfl : k = 1 ∨ k = 2 ∨ k = 3 ∨ k = 4 := by omega
      · obtain rfl : u4 = .int .i64 1 := hx
        have HRd := Lib.hid (HL.out.below HI.out.2)
        obtain ⟨ad, x0, e, HX0, q0, c0⟩ := HRd.out.at (k := 0) (by omega)
        subst e
        rw [show ad.add 0 = ad from rfl] at c0
        have HV : Hid ((x0 : Int) = ((valN 1 l : Nat) : Int)) := Lib.hid (by unfold valN; rw [← HX0.out]; simp)
        have hlen : (1 : Int) ≤ (n : Int) := by omega
        have hlt0 : (0 : Int) < (n : Int) := by omega
        have HB1 := Lib.hid HI.out.2
        have HRd1 := HRd
        go_wp2_with fail
        refine (Form_any (x0 : Int) _ (by omega) (by omega)).mono ?_
        rintro e w2 ⟨v, rfl, ho, hb⟩
        rw [HV.out] at ho
        have HB2 := Lib.hid (Below.thn HB1.out hb)
        have HRd2 := Lib.hid (HL.out.below HB2.out)
        clear hb c0
        obtain ⟨F, hF⟩ : ∃ F, F = formL (valN 1 l : Nat) := ⟨_, rfl⟩
        rw [← hF] at ho
        have HF := Lib.hid hF
        have HO := Lib.hid ho
        obtain ⟨A1, m, c1, e, hm1, hm2, R1⟩ := ho.bs
        subst e
        have HR1 := Lib.hid R1
        have hml := R1.len
        clear hF R1 ho
        by_cases hmk : m = 1
        · subst hmk
          have HFl := Lib.hid hml
          clear hml
          go_wp2_with fail
          go_loopw [7, 8] (fun x7 x8 wy => ∃ (i : Nat) (B : Bool), i ≤ 1 ∧ x8 = .int .i64 i ∧ x7 = .bool B ∧ Hid (B = decide (F.take i = l.take i)) ∧ Hid (Below w2.heap.size w2 wy)) (fun _ x8 _ => 1 - (intOf x8).toNat)
          case atStart => exact ⟨0, true, by omega, rfl, rfl, Lib.hid (by simp), Lib.hid (Below.refl _ _)⟩
          case round =>
            obtain ⟨i, B, hi, rfl, rfl, HBq, HBy⟩ := hrel
            by_cases hik : (i : Int) < 1
            · have hl2 := HL.out.len
              have hst := take_step (F := F) (l := l) (i := i) (by rw [HFl.out]; omega) (by omega)
              cases B
              · have HN : Hid (false = decide (F.take (i + 1) = l.take (i + 1))) := Lib.hid (by
                  have := HBq.out
                  rw [eq_comm, decide_eq_false_iff_not] at this ⊢
                  intro h
                  exact this (hst.1 h).1)
                clear hst hl2
                go_upto_region 17 with fail
                go_quiet (fail)
                go_wp2
                exact ⟨⟨i + 1, false, by omega, by go_num, rfl, HN, Lib.hid (below_drewN HBy.out nq)⟩, by simp [intOf]; omega⟩
              · obtain ⟨ad1, y, e, HY, qy, cy⟩ := (HR1.out.below HBy.out).at (k := i) (by omega)
                subst e
                obtain ⟨ad2, z, e, HZ, qz, cz⟩ := (HRd2.out.below HBy.out).at (k := i) (by omega)
                cases e
                rw [← HY.out, ← HZ.out] at hst
                by_cases hyz : y = z
                · subst hyz
                  have HN : Hid (true = decide (F.take (i + 1) = l.take (i + 1))) := Lib.hid (by
                    have := HBq.out
                    rw [eq_comm, decide_eq_true_eq] at this ⊢
                    exact hst.2 ⟨this, rfl⟩)
                  clear hst hl2
                  go_upto_region 17 with fail
                  go_quiet (fail)
                  clear cy cz
                  go_wp2
                  exact ⟨⟨i + 1, true, by omega, by go_num, by first | rfl | simp, HN, Lib.hid (below_drewN HBy.out nq)⟩, by simp [intOf]; omega⟩
                · have HN : Hid (false = decide (F.take (i + 1) = l.take (i + 1))) := Lib.hid (by
                    rw [eq_comm, decide_eq_false_iff_not]
                    intro h
                    exact hyz (hst.1 h).2)
                  have g0 : ((y : Int) == (z : Int)) = false := by simp; omega
                  clear hst hl2
                  go_upto_region 17 with fail
                  go_quiet (fail)
                  clear cy cz g0
                  go_wp2
                  exact ⟨⟨i + 1, false, by omega, by go_num, by first | rfl | simp, HN, Lib.hid (below_drewN HBy.out nq)⟩, by simp [intOf]; omega⟩
            · obtain rfl : i = 1 := by omega
              have HB3 := Lib.hid (HB2.out.trans (HBy.out.mono HB2.out.size))
              cases B
              · have HN : Hid (¬ okN 1 l) := Lib.hid (by
                  rintro ⟨h1, h2⟩
                  have := HBq.out
                  rw [eq_comm, decide_eq_false_iff_not] at this
                  apply this
                  have e1 : F = l.take 1 := HF.out.trans h2
                  rw [e1, List.take_take]; simp)
                go_wp2
                refine ⟨⟨2, by omega, by omega, by first | rfl | simp, Lib.hid ⟨fun m h1 h2 => ?_, HB3.out⟩⟩, by simp [intOf]⟩
                rcases Nat.lt_succ_iff_lt_or_eq.1 h2 with h | rfl
                · exact HI.out.1 m h1 h
                · exact HN.out
              · have HOk : Hid (okN 1 l) := Lib.hid (by
                  refine ⟨by have := HL.out.len; omega, ?_⟩
                  have := HBq.out
                  rw [eq_comm, decide_eq_true_eq] at this
                  have e2 := HFl.out
                  have e1 : F = l.take 1 := by rw [← this, List.take_of_length_le (by omega)]
                  rw [← e1]; exact HF.out.symm)
                go_wp2
                go_ret2
                exact firstE (dec_of HL.out.byt 1 (by decide) (by decide) HOk.out) HV.out HB3.out
        · have HN : Hid (¬ okN 1 l) := Lib.hid (not_okN_len (by rw [← HF.out, hml]; exact hmk))
          clear hml
          have g0 : ((m : Int) == 1) = false := by simp; omega
          have g1 : ((m : Int) != 1) = true := by simp; omega
          clear hmk
          go_wp2
          refine ⟨⟨2, by omega, by omega, by first | rfl | simp, Lib.hid ⟨fun m h1 h2 => ?_, HB2.out⟩⟩, by simp [intOf]⟩
          rcases Nat.lt_succ_iff_lt_or_eq.1 h2 with h | rfl
          · exact HI.out.1 m h1 h
          · exact HN.out
      · obtain rfl : u4 = .int .i64 2 := hx
        have HRd := Lib.hid (HL.out.below HI.out.2)
        obtain ⟨ad, x0, e, HX0, q0, c0⟩ := HRd.out.at (k := 0) (by omega)
        subst e
        rw [show ad.add 0 = ad from rfl] at c0
        obtain ⟨ad, x1, e, HX1, q1, c1⟩ := HRd.out.at (k := 1) (by omega)
        cases e
        rw [show ad.add 1 = ⟨ad.block, ad.off + 1, none⟩ from rfl] at c1
        have HV : Hid (((x0 : Int) % 32 * 64 + (x1 : Int) % 64) = ((valN 2 l : Nat) : Int)) := Lib.hid (by unfold valN; rw [← HX0.out, ← HX1.out]; simp)
        have hlen : (2 : Int) ≤ (n : Int) := by omega
        have hlt0 : (0 : Int) < (n : Int) := by omega
        have hlt1 : (1 : Int) < (n : Int) := by omega
        have w0 : IntKind.i64.wrap (x0 : Int) = (x0 : Int) := IntWalk.i64_in _ (by omega)
        have t0 : (x0 : Int).tmod 32 = (x0 : Int) % 32 := Int.tmod_eq_emod_of_nonneg (by omega)
        have p0 : IntKind.i64.wrap ((x0 : Int) % 32 * 64) = (x0 : Int) % 32 * 64 := IntWalk.i64_in _ (by omega)
        have w1 : IntKind.i64.wrap (x1 : Int) = (x1 : Int) := IntWalk.i64_in _ (by omega)
        have t1 : (x1 : Int).tmod 64 = (x1 : Int) % 64 := Int.tmod_eq_emod_of_nonneg (by omega)
        have s1 : IntKind.i64.wrap ((x0 : Int) % 32 * 64 + (x1 : Int) % 64) = (x0 : Int) % 32 * 64 + (x1 : Int) % 64 := IntWalk.i64_in _ (by omega)
        go_upto_region 6 with fail
        go_quiet (fail)
        clear w0 t0 p0 w1 t1 s1
        have HB1 := Lib.hid (below_drewN HI.out.2 nq)
        have HRd1 := Lib.hid (HL.out.below HB1.out)
        go_wp2_with fail
        refine (Form_any ((x0 : Int) % 32 * 64 + (x1 : Int) % 64) _ (by omega) (by omega)).mono ?_
        rintro e w2 ⟨v, rfl, ho, hb⟩
        rw [HV.out] at ho
        have HB2 := Lib.hid (Below.thn HB1.out hb)
        have HRd2 := Lib.hid (HL.out.below HB2.out)
        clear hb c0 c1
        obtain ⟨F, hF⟩ : ∃ F, F = formL (valN 2 l : Nat) := ⟨_, rfl⟩
        rw [← hF] at ho
        have HF := Lib.hid hF
        have HO := Lib.hid ho
        obtain ⟨A1, m, c1, e, hm1, hm2, R1⟩ := ho.bs
        subst e
        have HR1 := Lib.hid R1
        have hml := R1.len
        clear hF R1 ho
        by_cases hmk : m = 2
        · subst hmk
          have HFl := Lib.hid hml
          clear hml
          go_wp2_with fail
          go_loopw [7, 8] (fun x7 x8 wy => ∃ (i : Nat) (B : Bool), i ≤ 2 ∧ x8 = .int .i64 i ∧ x7 = .bool B ∧ Hid (B = decide (F.take i = l.take i)) ∧ Hid (Below w2.heap.size w2 wy)) (fun _ x8 _ => 2 - (intOf x8).toNat)
          case atStart => exact ⟨0, true, by omega, rfl, rfl, Lib.hid (by simp), Lib.hid (Below.refl _ _)⟩
          case round =>
            obtain ⟨i, B, hi, rfl, rfl, HBq, HBy⟩ := hrel
            by_cases hik : (i : Int) < 2
            · have hl2 := HL.out.len
              have hst := take_step (F := F) (l := l) (i := i) (by rw [HFl.out]; omega) (by omega)
              cases B
              · have HN : Hid (false = decide (F.take (i + 1) = l.take (i + 1))) := Lib.hid (by
                  have := HBq.out
                  rw [eq_comm, decide_eq_false_iff_not] at this ⊢
                  intro h
                  exact this (hst.1 h).1)
                clear hst hl2
                go_upto_region 17 with fail
                go_quiet (fail)
                go_wp2
                exact ⟨⟨i + 1, false, by omega, by go_num, rfl, HN, Lib.hid (below_drewN HBy.out nq)⟩, by simp [intOf]; omega⟩
              · obtain ⟨ad1, y, e, HY, qy, cy⟩ := (HR1.out.below HBy.out).at (k := i) (by omega)
                subst e
                obtain ⟨ad2, z, e, HZ, qz, cz⟩ := (HRd2.out.below HBy.out).at (k := i) (by omega)
                cases e
                rw [← HY.out, ← HZ.out] at hst
                by_cases hyz : y = z
                · subst hyz
                  have HN : Hid (true = decide (F.take (i + 1) = l.take (i + 1))) := Lib.hid (by
                    have := HBq.out
                    rw [eq_comm, decide_eq_true_eq] at this ⊢
                    exact hst.2 ⟨this, rfl⟩)
                  clear hst hl2
                  go_upto_region 17 with fail
                  go_quiet (fail)
                  clear cy cz
                  go_wp2
                  exact ⟨⟨i + 1, true, by omega, by go_num, by first | rfl | simp, HN, Lib.hid (below_drewN HBy.out nq)⟩, by simp [intOf]; omega⟩
                · have HN : Hid (false = decide (F.take (i + 1) = l.take (i + 1))) := Lib.hid (by
                    rw [eq_comm, decide_eq_false_iff_not]
                    intro h
                    exact hyz (hst.1 h).2)
                  have g0 : ((y : Int) == (z : Int)) = false := by simp; omega
                  clear hst hl2
                  go_upto_region 17 with fail
                  go_quiet (fail)
                  clear cy cz g0
                  go_wp2
                  exact ⟨⟨i + 1, false, by omega, by go_num, by first | rfl | simp, HN, Lib.hid (below_drewN HBy.out nq)⟩, by simp [intOf]; omega⟩
            · obtain rfl : i = 2 := by omega
              have HB3 := Lib.hid (HB2.out.trans (HBy.out.mono HB2.out.size))
              cases B
              · have HN : Hid (¬ okN 2 l) := Lib.hid (by
                  rintro ⟨h1, h2⟩
                  have := HBq.out
                  rw [eq_comm, decide_eq_false_iff_not] at this
                  apply this
                  have e1 : F = l.take 2 := HF.out.trans h2
                  rw [e1, List.take_take]; simp)
                go_wp2
                refine ⟨⟨3, by omega, by omega, by first | rfl | simp, Lib.hid ⟨fun m h1 h2 => ?_, HB3.out⟩⟩, by simp [intOf]⟩
                rcases Nat.lt_succ_iff_lt_or_eq.1 h2 with h | rfl
                · exact HI.out.1 m h1 h
                · exact HN.out
              · have HOk : Hid (okN 2 l) := Lib.hid (by
                  refine ⟨by have := HL.out.len; omega, ?_⟩
                  have := HBq.out
                  rw [eq_comm, decide_eq_true_eq] at this
                  have e2 := HFl.out
                  have e1 : F = l.take 2 := by rw [← this, List.take_of_length_le (by omega)]
                  rw [← e1]; exact HF.out.symm)
                go_wp2
                go_ret2
                exact firstE (dec_of HL.out.byt 2 (by decide) (by decide) HOk.out) HV.out HB3.out
        · have HN : Hid (¬ okN 2 l) := Lib.hid (not_okN_len (by rw [← HF.out, hml]; exact hmk))
          clear hml
          have g0 : ((m : Int) == 2) = false := by simp; omega
          have g1 : ((m : Int) != 2) = true := by simp; omega
          clear hmk
          go_wp2
          refine ⟨⟨3, by omega, by omega, by first | rfl | simp, Lib.hid ⟨fun m h1 h2 => ?_, HB2.out⟩⟩, by simp [intOf]⟩
          rcases Nat.lt_succ_iff_lt_or_eq.1 h2 with h | rfl
          · exact HI.out.1 m h1 h
          · exact HN.out
      · obtain rfl : u4 = .int .i64 3 := hx
        have HRd := Lib.hid (HL.out.below HI.out.2)
        obtain ⟨ad, x0, e, HX0, q0, c0⟩ := HRd.out.at (k := 0) (by omega)
        subst e
        rw [show ad.add 0 = ad from rfl] at c0
        obtain ⟨ad, x1, e, HX1, q1, c1⟩ := HRd.out.at (k := 1) (by omega)
        cases e
        rw [show ad.add 1 = ⟨ad.block, ad.off + 1, none⟩ from rfl] at c1
        obtain ⟨ad, x2, e, HX2, q2, c2⟩ := HRd.out.at (k := 2) (by omega)
        cases e
        rw [show ad.add 2 = ⟨ad.block, ad.off + 2, none⟩ from rfl] at c2
        have HV : Hid (((x0 : Int) % 16 * 4096 + (x1 : Int) % 64 * 64 + (x2 : Int) % 64) = ((valN 3 l : Nat) : Int)) := Lib.hid (by unfold valN; rw [← HX0.out, ← HX1.out, ← HX2.out]; simp)
        have hlen : (3 : Int) ≤ (n : Int) := by omega
        have hlt0 : (0 : Int) < (n : Int) := by omega
        have hlt1 : (1 : Int) < (n : Int) := by omega
        have hlt2 : (2 : Int) < (n : Int) := by omega
        have w0 : IntKind.i64.wrap (x0 : Int) = (x0 : Int) := IntWalk.i64_in _ (by omega)
        have t0 : (x0 : Int).tmod 16 = (x0 : Int) % 16 := Int.tmod_eq_emod_of_nonneg (by omega)
        have p0 : IntKind.i64.wrap ((x0 : Int) % 16 * 4096) = (x0 : Int) % 16 * 4096 := IntWalk.i64_in _ (by omega)
        have w1 : IntKind.i64.wrap (x1 : Int) = (x1 : Int) := IntWalk.i64_in _ (by omega)
        have t1 : (x1 : Int).tmod 64 = (x1 : Int) % 64 := Int.tmod_eq_emod_of_nonneg (by omega)
        have p1 : IntKind.i64.wrap ((x1 : Int) % 64 * 64) = (x1 : Int) % 64 * 64 := IntWalk.i64_in _ (by omega)
        have s1 : IntKind.i64.wrap ((x0 : Int) % 16 * 4096 + (x1 : Int) % 64 * 64) = (x0 : Int) % 16 * 4096 + (x1 : Int) % 64 * 64 := IntWalk.i64_in _ (by omega)
        have w2 : IntKind.i64.wrap (x2 : Int) = (x2 : Int) := IntWalk.i64_in _ (by omega)
        have t2 : (x2 : Int).tmod 64 = (x2 : Int) % 64 := Int.tmod_eq_emod_of_nonneg (by omega)
        have s2 : IntKind.i64.wrap ((x0 : Int) % 16 * 4096 + (x1 : Int) % 64 * 64 + (x2 : Int) % 64) = (x0 : Int) % 16 * 4096 + (x1 : Int) % 64 * 64 + (x2 : Int) % 64 := IntWalk.i64_in _ (by omega)
        go_upto_region 8 with fail
        go_quiet (fail)
        clear w0 t0 p0 w1 t1 p1 s1 w2 t2 s2
        have HB1 := Lib.hid (below_drewN HI.out.2 nq)
        have HRd1 := Lib.hid (HL.out.below HB1.out)
        go_wp2_with fail
        refine (Form_any ((x0 : Int) % 16 * 4096 + (x1 : Int) % 64 * 64 + (x2 : Int) % 64) _ (by omega) (by omega)).mono ?_
        rintro e w2 ⟨v, rfl, ho, hb⟩
        rw [HV.out] at ho
        have HB2 := Lib.hid (Below.thn HB1.out hb)
        have HRd2 := Lib.hid (HL.out.below HB2.out)
        clear hb c0 c1 c2
        obtain ⟨F, hF⟩ : ∃ F, F = formL (valN 3 l : Nat) := ⟨_, rfl⟩
        rw [← hF] at ho
        have HF := Lib.hid hF
        have HO := Lib.hid ho
        obtain ⟨A1, m, c1, e, hm1, hm2, R1⟩ := ho.bs
        subst e
        have HR1 := Lib.hid R1
        have hml := R1.len
        clear hF R1 ho
        by_cases hmk : m = 3
        · subst hmk
          have HFl := Lib.hid hml
          clear hml
          go_wp2_with fail
          go_loopw [7, 8] (fun x7 x8 wy => ∃ (i : Nat) (B : Bool), i ≤ 3 ∧ x8 = .int .i64 i ∧ x7 = .bool B ∧ Hid (B = decide (F.take i = l.take i)) ∧ Hid (Below w2.heap.size w2 wy)) (fun _ x8 _ => 3 - (intOf x8).toNat)
          case atStart => exact ⟨0, true, by omega, rfl, rfl, Lib.hid (by simp), Lib.hid (Below.refl _ _)⟩
          case round =>
            obtain ⟨i, B, hi, rfl, rfl, HBq, HBy⟩ := hrel
            by_cases hik : (i : Int) < 3
            · have hl2 := HL.out.len
              have hst := take_step (F := F) (l := l) (i := i) (by rw [HFl.out]; omega) (by omega)
              cases B
              · have HN : Hid (false = decide (F.take (i + 1) = l.take (i + 1))) := Lib.hid (by
                  have := HBq.out
                  rw [eq_comm, decide_eq_false_iff_not] at this ⊢
                  intro h
                  exact this (hst.1 h).1)
                clear hst hl2
                go_upto_region 17 with fail
                go_quiet (fail)
                go_wp2
                exact ⟨⟨i + 1, false, by omega, by go_num, rfl, HN, Lib.hid (below_drewN HBy.out nq)⟩, by simp [intOf]; omega⟩
              · obtain ⟨ad1, y, e, HY, qy, cy⟩ := (HR1.out.below HBy.out).at (k := i) (by omega)
                subst e
                obtain ⟨ad2, z, e, HZ, qz, cz⟩ := (HRd2.out.below HBy.out).at (k := i) (by omega)
                cases e
                rw [← HY.out, ← HZ.out] at hst
                by_cases hyz : y = z
                · subst hyz
                  have HN : Hid (true = decide (F.take (i + 1) = l.take (i + 1))) := Lib.hid (by
                    have := HBq.out
                    rw [eq_comm, decide_eq_true_eq] at this ⊢
                    exact hst.2 ⟨this, rfl⟩)
                  clear hst hl2
                  go_upto_region 17 with fail
                  go_quiet (fail)
                  clear cy cz
                  go_wp2
                  exact ⟨⟨i + 1, true, by omega, by go_num, by first | rfl | simp, HN, Lib.hid (below_drewN HBy.out nq)⟩, by simp [intOf]; omega⟩
                · have HN : Hid (false = decide (F.take (i + 1) = l.take (i + 1))) := Lib.hid (by
                    rw [eq_comm, decide_eq_false_iff_not]
                    intro h
                    exact hyz (hst.1 h).2)
                  have g0 : ((y : Int) == (z : Int)) = false := by simp; omega
                  clear hst hl2
                  go_upto_region 17 with fail
                  go_quiet (fail)
                  clear cy cz g0
                  go_wp2
                  exact ⟨⟨i + 1, false, by omega, by go_num, by first | rfl | simp, HN, Lib.hid (below_drewN HBy.out nq)⟩, by simp [intOf]; omega⟩
            · obtain rfl : i = 3 := by omega
              have HB3 := Lib.hid (HB2.out.trans (HBy.out.mono HB2.out.size))
              cases B
              · have HN : Hid (¬ okN 3 l) := Lib.hid (by
                  rintro ⟨h1, h2⟩
                  have := HBq.out
                  rw [eq_comm, decide_eq_false_iff_not] at this
                  apply this
                  have e1 : F = l.take 3 := HF.out.trans h2
                  rw [e1, List.take_take]; simp)
                go_wp2
                refine ⟨⟨4, by omega, by omega, by first | rfl | simp, Lib.hid ⟨fun m h1 h2 => ?_, HB3.out⟩⟩, by simp [intOf]⟩
                rcases Nat.lt_succ_iff_lt_or_eq.1 h2 with h | rfl
                · exact HI.out.1 m h1 h
                · exact HN.out
              · have HOk : Hid (okN 3 l) := Lib.hid (by
                  refine ⟨by have := HL.out.len; omega, ?_⟩
                  have := HBq.out
                  rw [eq_comm, decide_eq_true_eq] at this
                  have e2 := HFl.out
                  have e1 : F = l.take 3 := by rw [← this, List.take_of_length_le (by omega)]
                  rw [← e1]; exact HF.out.symm)
                go_wp2
                go_ret2
                exact firstE (dec_of HL.out.byt 3 (by decide) (by decide) HOk.out) HV.out HB3.out
        · have HN : Hid (¬ okN 3 l) := Lib.hid (not_okN_len (by rw [← HF.out, hml]; exact hmk))
          clear hml
          have g0 : ((m : Int) == 3) = false := by simp; omega
          have g1 : ((m : Int) != 3) = true := by simp; omega
          clear hmk
          go_wp2
          refine ⟨⟨4, by omega, by omega, by first | rfl | simp, Lib.hid ⟨fun m h1 h2 => ?_, HB2.out⟩⟩, by simp [intOf]⟩
          rcases Nat.lt_succ_iff_lt_or_eq.1 h2 with h | rfl
          · exact HI.out.1 m h1 h
          · exact HN.out
      · obtain rfl : u4 = .int .i64 4 := hx
        have HRd := Lib.hid (HL.out.below HI.out.2)
        obtain ⟨ad, x0, e, HX0, q0, c0⟩ := HRd.out.at (k := 0) (by omega)
        subst e
        rw [show ad.add 0 = ad from rfl] at c0
        obtain ⟨ad, x1, e, HX1, q1, c1⟩ := HRd.out.at (k := 1) (by omega)
        cases e
        rw [show ad.add 1 = ⟨ad.block, ad.off + 1, none⟩ from rfl] at c1
        obtain ⟨ad, x2, e, HX2, q2, c2⟩ := HRd.out.at (k := 2) (by omega)
        cases e
        rw [show ad.add 2 = ⟨ad.block, ad.off + 2, none⟩ from rfl] at c2
        obtain ⟨ad, x3, e, HX3, q3, c3⟩ := HRd.out.at (k := 3) (by omega)
        cases e
        rw [show ad.add 3 = ⟨ad.block, ad.off + 3, none⟩ from rfl] at c3
        have HV : Hid (((x0 : Int) % 8 * 262144 + (x1 : Int) % 64 * 4096 + (x2 : Int) % 64 * 64 + (x3 : Int) % 64) = ((valN 4 l : Nat) : Int)) := Lib.hid (by unfold valN; rw [← HX0.out, ← HX1.out, ← HX2.out, ← HX3.out]; simp)
        have hlen : (4 : Int) ≤ (n : Int) := by omega
        have hlt0 : (0 : Int) < (n : Int) := by omega
        have hlt1 : (1 : Int) < (n : Int) := by omega
        have hlt2 : (2 : Int) < (n : Int) := by omega
        have hlt3 : (3 : Int) < (n : Int) := by omega
        have w0 : IntKind.i64.wrap (x0 : Int) = (x0 : Int) := IntWalk.i64_in _ (by omega)
        have t0 : (x0 : Int).tmod 8 = (x0 : Int) % 8 := Int.tmod_eq_emod_of_nonneg (by omega)
        have p0 : IntKind.i64.wrap ((x0 : Int) % 8 * 262144) = (x0 : Int) % 8 * 262144 := IntWalk.i64_in _ (by omega)
        have w1 : IntKind.i64.wrap (x1 : Int) = (x1 : Int) := IntWalk.i64_in _ (by omega)
        have t1 : (x1 : Int).tmod 64 = (x1 : Int) % 64 := Int.tmod_eq_emod_of_nonneg (by omega)
        have p1 : IntKind.i64.wrap ((x1 : Int) % 64 * 4096) = (x1 : Int) % 64 * 4096 := IntWalk.i64_in _ (by omega)
        have s1 : IntKind.i64.wrap ((x0 : Int) % 8 * 262144 + (x1 : Int) % 64 * 4096) = (x0 : Int) % 8 * 262144 + (x1 : Int) % 64 * 4096 := IntWalk.i64_in _ (by omega)
        have w2 : IntKind.i64.wrap (x2 : Int) = (x2 : Int) := IntWalk.i64_in _ (by omega)
        have t2 : (x2 : Int).tmod 64 = (x2 : Int) % 64 := Int.tmod_eq_emod_of_nonneg (by omega)
        have p2 : IntKind.i64.wrap ((x2 : Int) % 64 * 64) = (x2 : Int) % 64 * 64 := IntWalk.i64_in _ (by omega)
        have s2 : IntKind.i64.wrap ((x0 : Int) % 8 * 262144 + (x1 : Int) % 64 * 4096 + (x2 : Int) % 64 * 64) = (x0 : Int) % 8 * 262144 + (x1 : Int) % 64 * 4096 + (x2 : Int) % 64 * 64 := IntWalk.i64_in _ (by omega)
        have w3 : IntKind.i64.wrap (x3 : Int) = (x3 : Int) := IntWalk.i64_in _ (by omega)
        have t3 : (x3 : Int).tmod 64 = (x3 : Int) % 64 := Int.tmod_eq_emod_of_nonneg (by omega)
        have s3 : IntKind.i64.wrap ((x0 : Int) % 8 * 262144 + (x1 : Int) % 64 * 4096 + (x2 : Int) % 64 * 64 + (x3 : Int) % 64) = (x0 : Int) % 8 * 262144 + (x1 : Int) % 64 * 4096 + (x2 : Int) % 64 * 64 + (x3 : Int) % 64 := IntWalk.i64_in _ (by omega)
        go_upto_region 10 with fail
        go_quiet (fail)
        clear w0 t0 p0 w1 t1 p1 s1 w2 t2 p2 s2 w3 t3 s3
        have HB1 := Lib.hid (below_drewN HI.out.2 nq)
        have HRd1 := Lib.hid (HL.out.below HB1.out)
        go_wp2_with fail
        refine (Form_any ((x0 : Int) % 8 * 262144 + (x1 : Int) % 64 * 4096 + (x2 : Int) % 64 * 64 + (x3 : Int) % 64) _ (by omega) (by omega)).mono ?_
        rintro e w2 ⟨v, rfl, ho, hb⟩
        rw [HV.out] at ho
        have HB2 := Lib.hid (Below.thn HB1.out hb)
        have HRd2 := Lib.hid (HL.out.below HB2.out)
        clear hb c0 c1 c2 c3
        obtain ⟨F, hF⟩ : ∃ F, F = formL (valN 4 l : Nat) := ⟨_, rfl⟩
        rw [← hF] at ho
        have HF := Lib.hid hF
        have HO := Lib.hid ho
        obtain ⟨A1, m, c1, e, hm1, hm2, R1⟩ := ho.bs
        subst e
        have HR1 := Lib.hid R1
        have hml := R1.len
        clear hF R1 ho
        by_cases hmk : m = 4
        · subst hmk
          have HFl := Lib.hid hml
          clear hml
          go_wp2_with fail
          go_loopw [7, 8] (fun x7 x8 wy => ∃ (i : Nat) (B : Bool), i ≤ 4 ∧ x8 = .int .i64 i ∧ x7 = .bool B ∧ Hid (B = decide (F.take i = l.take i)) ∧ Hid (Below w2.heap.size w2 wy)) (fun _ x8 _ => 4 - (intOf x8).toNat)
          case atStart => exact ⟨0, true, by omega, rfl, rfl, Lib.hid (by simp), Lib.hid (Below.refl _ _)⟩
          case round =>
            obtain ⟨i, B, hi, rfl, rfl, HBq, HBy⟩ := hrel
            by_cases hik : (i : Int) < 4
            · have hl2 := HL.out.len
              have hst := take_step (F := F) (l := l) (i := i) (by rw [HFl.out]; omega) (by omega)
              cases B
              · have HN : Hid (false = decide (F.take (i + 1) = l.take (i + 1))) := Lib.hid (by
                  have := HBq.out
                  rw [eq_comm, decide_eq_false_iff_not] at this ⊢
                  intro h
                  exact this (hst.1 h).1)
                clear hst hl2
                go_upto_region 17 with fail
                go_quiet (fail)
                go_wp2
                exact ⟨⟨i + 1, false, by omega, by go_num, rfl, HN, Lib.hid (below_drewN HBy.out nq)⟩, by simp [intOf]; omega⟩
              · obtain ⟨ad1, y, e, HY, qy, cy⟩ := (HR1.out.below HBy.out).at (k := i) (by omega)
                subst e
                obtain ⟨ad2, z, e, HZ, qz, cz⟩ := (HRd2.out.below HBy.out).at (k := i) (by omega)
                cases e
                rw [← HY.out, ← HZ.out] at hst
                by_cases hyz : y = z
                · subst hyz
                  have HN : Hid (true = decide (F.take (i + 1) = l.take (i + 1))) := Lib.hid (by
                    have := HBq.out
                    rw [eq_comm, decide_eq_true_eq] at this ⊢
                    exact hst.2 ⟨this, rfl⟩)
                  clear hst hl2
                  go_upto_region 17 with fail
                  go_quiet (fail)
                  clear cy cz
                  go_wp2
                  exact ⟨⟨i + 1, true, by omega, by go_num, by first | rfl | simp, HN, Lib.hid (below_drewN HBy.out nq)⟩, by simp [intOf]; omega⟩
                · have HN : Hid (false = decide (F.take (i + 1) = l.take (i + 1))) := Lib.hid (by
                    rw [eq_comm, decide_eq_false_iff_not]
                    intro h
                    exact hyz (hst.1 h).2)
                  have g0 : ((y : Int) == (z : Int)) = false := by simp; omega
                  clear hst hl2
                  go_upto_region 17 with fail
                  go_quiet (fail)
                  clear cy cz g0
                  go_wp2
                  exact ⟨⟨i + 1, false, by omega, by go_num, by first | rfl | simp, HN, Lib.hid (below_drewN HBy.out nq)⟩, by simp [intOf]; omega⟩
            · obtain rfl : i = 4 := by omega
              have HB3 := Lib.hid (HB2.out.trans (HBy.out.mono HB2.out.size))
              cases B
              · have HN : Hid (¬ okN 4 l) := Lib.hid (by
                  rintro ⟨h1, h2⟩
                  have := HBq.out
                  rw [eq_comm, decide_eq_false_iff_not] at this
                  apply this
                  have e1 : F = l.take 4 := HF.out.trans h2
                  rw [e1, List.take_take]; simp)
                go_wp2
                refine ⟨⟨5, by omega, by omega, by first | rfl | simp, Lib.hid ⟨fun m h1 h2 => ?_, HB3.out⟩⟩, by simp [intOf]⟩
                rcases Nat.lt_succ_iff_lt_or_eq.1 h2 with h | rfl
                · exact HI.out.1 m h1 h
                · exact HN.out
              · have HOk : Hid (okN 4 l) := Lib.hid (by
                  refine ⟨by have := HL.out.len; omega, ?_⟩
                  have := HBq.out
                  rw [eq_comm, decide_eq_true_eq] at this
                  have e2 := HFl.out
                  have e1 : F = l.take 4 := by rw [← this, List.take_of_length_le (by omega)]
                  rw [← e1]; exact HF.out.symm)
                go_wp2
                go_ret2
                exact firstE (dec_of HL.out.byt 4 (by decide) (by decide) HOk.out) HV.out HB3.out
        · have HN : Hid (¬ okN 4 l) := Lib.hid (not_okN_len (by rw [← HF.out, hml]; exact hmk))
          clear hml
          have g0 : ((m : Int) == 4) = false := by simp; omega
          have g1 : ((m : Int) != 4) = true := by simp; omega
          clear hmk
          go_wp2
          refine ⟨⟨5, by omega, by omega, by first | rfl | simp, Lib.hid ⟨fun m h1 h2 => ?_, HB2.out⟩⟩, by simp [intOf]⟩
          rcases Nat.lt_succ_iff_lt_or_eq.1 h2 with h | rfl
          · exact HI.out.1 m h1 h
          · exact HN.out
end Go.Proofs.YtkkeodlnejckjaaGreat
