/- FoldRunes: which runes any bytes have, where, and how many, as far as one goes through them. -/
import Derived.Test.YtlbphgbhkbgknaaMarks
import Derived.Test.YtlbphgbhkbgknaaLive
import Derived.Test.YtlbphgbhkbgknaaReg
import Derived.WalkLawsBesides
namespace Go.Proofs.Ytlbphgbhkbgknaa
open Go.RowKit Go.Shelf
set_option linter.unusedVariables false
set_option linter.unusedSimpArgs false

/-- A value that reads as marks. -/
def MS (w : World) (v : Value) (L : List (Nat × Nat)) : Prop := ∃ A n c, v = .slice A n c ∧ n ≤ c ∧ c ≤ 9223372036854775807 ∧ RdM w A n L
theorem MS.below {w w' : World} {v : Value} {L : List (Nat × Nat)} (h : MS w v L) (hb : Below w.heap.size w w') : MS w' v L := by
  obtain ⟨A, n, c, e, h1, h2, h3⟩ := h
  exact ⟨A, n, c, e, h1, h2, h3.below hb⟩
theorem OwnK.ms {w : World} {base : Nat} {v : Value} {L : List (Nat × Nat)} (h : OwnM w base v L) : MS w v L := by
  obtain ⟨A, c, e, h1, h2, h3⟩ := OwnK.rd encMk_len h
  exact ⟨A, _, c, e, h1, h2, h3⟩
theorem equalM_ms {w : World} {u v : Value} {a b : List (Nat × Nat)} (ha : MS w u a) (hb : MS w v b) :
    Calls Try.prog 14 #[u, v] w fun e w' => e = .returned (.bool (decide (a = b))) ∧ Below w.heap.size w w' := by
  obtain ⟨A, n, c, rfl, h1, h2, h3⟩ := ha
  obtain ⟨B, m, d, rfl, h4, h5, h6⟩ := hb
  exact equalM_any A B n m c d a b w h3 h6
/-- A value that goes through the runes of bytes. -/
def RunF (w : World) (v : Value) (A : Option Addr) (n c : Nat) : Prop := ∃ g, v = .func (.func 34) #[] #[.pointer (some ⟨g, 0, none⟩)] ∧ w.cell? ⟨g, 0, none⟩ = some (.slice A n c)
theorem RunF.below {w w' : World} {v : Value} {A : Option Addr} {n c : Nat} (h : RunF w v A n c) (hb : Below w.heap.size w w') : RunF w' v A n c := by
  obtain ⟨g, e, hc⟩ := h
  exact ⟨g, e, cell_keep hb hc⟩
theorem Runes_f (A : Option Addr) (n c : Nat) (w : World) : Calls Try.prog 16 #[.slice A n c] w fun e w' => ∃ v, e = .returned v ∧ RunF w' v A n c ∧ Below w.heap.size w w' :=
  (Runes_any A n c w).mono fun e w' h => by
    obtain ⟨rfl, rfl⟩ := h
    exact ⟨_, rfl, ⟨_, rfl, (Boxed.new w _ _).cell⟩, (Below.refl w.heap.size w).alloc (Nat.le_refl _) _⟩
theorem marks_ms {w : World} {v : Value} {A : Option Addr} {n c : Nat} {l : List Nat} (h : RunF w v A n c) (hl : RdB w A n l) (hc : n ≤ c) (hn : n ≤ 100000000) (most : Nat) (hm : most ≤ 100000000) :
    Calls Try.prog 15 #[v, .int .i64 (most : Nat)] w fun e w' => ∃ v, e = .returned v ∧ MS w' v ((marksL l).take most) ∧ Below w.heap.size w w' := by
  obtain ⟨g, rfl, hcell⟩ := h
  have hk := marksL_len l
  have := hl.len
  refine (marks_seq _ _ most (marksL l) w (enters_of Try.func34 (by kernel_rfl) rfl) (runes_stops 9 g (by omega) A n c l w hcell hl hc) (by omega) hm).mono ?_
  rintro e w' ⟨v, rfl, h1, h2⟩
  exact ⟨v, rfl, OwnK.ms h1, h2⟩
theorem run_cutM_h (A : Option Addr) (n c m : Nat) (hc : m ≤ c) (W : World) : (Instr.slice 30 (.slice A n c) none (some (.int .i64 (m : Int))) none).run Try.prog W = .ok (.slice A m c) W := by
  rw [run_slice_h W 30 A n c (by rw [show Try.prog.elem 30 = 34 by kernel_rfl]; exact Try.underlying30) .i64 (m : Int) (Int.natCast_nonneg _) (by omega), show Try.prog.elem 30 = 34 by kernel_rfl]
  have hz : (sizeOf 34).run Try.prog W = .ok 2 W := by kernel_rfl
  simp [hz, sliced]
  intro _
  cases A <;> simp [Addr.add]
theorem MS.take {w : World} {A : Option Addr} {n c m : Nat} {L : List (Nat × Nat)} (h : RdM w A n L) (hc : c ≤ 9223372036854775807) (h1 : n ≤ c) (hm : m ≤ n) : MS w (.slice A m c) (L.take m) :=
  ⟨A, m, c, rfl, by omega, hc, h.take m hm⟩
def RuF (A : Option Addr) (n c x : Nat) (A5 : Option Addr) (n5 c5 k : Nat) (M : List (Nat × Nat)) (L : List Nat) : Nat → Value → World → Prop
  | 0 => fun v w => v = .slice A n c
  | 1 => fun v w => ∃ (V17 : Value), v = V17 ∧ RunF w V17 A n c
  | 2 => fun v w => ∃ (V18 : Value), v = V18 ∧ MS w V18 (M.take 1048576)
  | 3 => fun v w => v = .slice A5 n5 c5
  | 4 => fun v w => v = .bool true
  | 5 => fun v w => v = .bool true
  | 6 => fun v w => v = .slice A n c
  | 7 => fun v w => ∃ (V23 : Value), v = V23 ∧ RunF w V23 A n c
  | 8 => fun v w => v = .int .u8 (x : Nat)
  | 9 => fun v w => v = .int .i64 (x : Nat)
  | 10 => fun v w => ∃ (V26 : Value), v = V26 ∧ MS w V26 (M.take x)
  | 11 => fun v w => v = .slice A5 n5 c5
  | 12 => fun v w => v = .slice A5 n5 c5
  | 13 => fun v w => v = .int .i64 (n5 : Nat)
  | 14 => fun v w => v = .int .u8 (x : Nat)
  | 15 => fun v w => v = .int .i64 (x : Nat)
  | 16 => fun v w => v = .int .i64 (k : Nat)
  | 17 => fun v w => v = .slice A5 k c5
  | 18 => fun v w => v = .bool true
  | 19 => fun v w => v = .bool true
  | 20 => fun v w => v = .bool true
  | 21 => fun v w => v = .slice A n c
  | 22 => fun v w => v = .int .i64 (n5 : Nat)
  | 23 => fun v w => v = .slice A5 n5 c5
  | 24 => fun v w => v = .int .i64 (n5 : Nat)
  | 25 => fun v w => v = .bool true
  | 26 => fun v w => v = .bool true
  | 27 => fun v w => v = .bool true
  | _ => fun _ _ => True
theorem RuF.below (A : Option Addr) (n c x : Nat) (A5 : Option Addr) (n5 c5 k : Nat) (M : List (Nat × Nat)) (L : List Nat) : ∀ i v w w', Below w.heap.size w w' → RuF A n c x A5 n5 c5 k M L i v w → RuF A n c x A5 n5 c5 k M L i v w'
  | 0, _, _, _, _, h => h
  | 1, _, _, _, hb, h => by
    obtain ⟨V17, e, g⟩ := h
    exact ⟨V17, e, g.below hb⟩
  | 2, _, _, _, hb, h => by
    obtain ⟨V18, e, g⟩ := h
    exact ⟨V18, e, g.below hb⟩
  | 3, _, _, _, _, h => h
  | 4, _, _, _, _, h => h
  | 5, _, _, _, _, h => h
  | 6, _, _, _, _, h => h
  | 7, _, _, _, hb, h => by
    obtain ⟨V23, e, g⟩ := h
    exact ⟨V23, e, g.below hb⟩
  | 8, _, _, _, _, h => h
  | 9, _, _, _, _, h => h
  | 10, _, _, _, hb, h => by
    obtain ⟨V26, e, g⟩ := h
    exact ⟨V26, e, g.below hb⟩
  | 11, _, _, _, _, h => h
  | 12, _, _, _, _, h => h
  | 13, _, _, _, _, h => h
  | 14, _, _, _, _, h => h
  | 15, _, _, _, _, h => h
  | 16, _, _, _, _, h => h
  | 17, _, _, _, _, h => h
  | 18, _, _, _, _, h => h
  | 19, _, _, _, _, h => h
  | 20, _, _, _, _, h => h
  | 21, _, _, _, _, h => h
  | 22, _, _, _, _, h => h
  | 23, _, _, _, _, h => h
  | 24, _, _, _, _, h => h
  | 25, _, _, _, _, h => h
  | 26, _, _, _, _, h => h
  | 27, _, _, _, _, h => h
  | _ + 28, _, _, _, _, _ => trivial

set_option maxRecDepth 100000 in
set_option maxHeartbeats 2000000 in
theorem runes_law (A : Option Addr) (n c : Nat) (L : List Nat) (x : Nat) (w : World) (hl : RdB w A n L) (hc : n ≤ c) (hc2 : c ≤ 9223372036854775807) (hx : x ≤ 255) :
    Calls Try.prog 4 #[.slice A n c, .int .u8 (x : Int)] w fun e w' => e = .returned (.bool true) ∧ Below w.heap.size w w' := by
  have HL := Lib.hid hl
  clear hl
  by_cases hbig : (3000 : Int) < (n : Int)
  · go_enter Try.func4, Try.ntmps4
    go_wp2_with fail
    refine (live_any _).mono ?_
    rintro e w1 ⟨rfl, hb⟩
    have KB := Lib.hid hb
    clear hb
    go_wp2_with fail
    refine (live_any _).mono ?_
    rintro e w2 ⟨rfl, hb⟩
    have KB2 := Lib.hid (Below.thn KB.out hb)
    clear hb KB
    go_wp2
    go_ret
    exact ⟨rfl, KB2.out⟩
  · have hN : n ≤ 100000000 := by omega
    go_enter Try.func4, Try.ntmps4
    go_wp2_with fail
    refine (live_any _).mono ?_
    rintro e w1 ⟨rfl, hb⟩
    have KB := Lib.hid hb
    have HL1 := Lib.hid (HL.out.below hb)
    clear hb
    go_wp2_with fail
    refine (refRunes_any A n c L _ HL1.out hc hN hc2).mono ?_
    rintro e w1' ⟨v, rfl, ho, hb⟩
    have KB1 := Lib.hid (Below.thn KB.out hb)
    have HL := Lib.hid (HL1.out.below hb)
    obtain ⟨A5, n5, c5, rfl, h51, h52, h53⟩ := OwnK.ms ho
    obtain ⟨M, hM⟩ : ∃ M, M = marksL L := ⟨_, rfl⟩
    have HMe := Lib.hid hM
    rw [← hM] at h53
    have HM5 : Hid (MS w1' (.slice A5 n5 c5) M) := Lib.hid ⟨_, _, _, rfl, h51, h52, h53⟩
    have HM5l := Lib.hid h53.len
    have hml := marksL_len L
    have hll := HL.out.len
    obtain ⟨k, hk⟩ : ∃ k, k = min n5 x := ⟨_, rfl⟩
    have hkc : k ≤ c5 := by omega
    have HMk : Hid (MS w1' (.slice A5 k c5) (M.take k)) := Lib.hid (MS.take h53 h52 h51 (by omega))
    have hwx : IntKind.i64.wrap (x : Int) = (x : Int) := IntWalk.i64_in _ (by omega)
    have hmin : (if x < n5 then (x : Int) else (n5 : Int)) = (k : Int) := by split <;> omega
    have HT1 : Hid (M.take 1048576 = M) := Lib.hid (List.take_of_length_le (by rw [hM]; omega))
    have HT2 : Hid (M.take x = M.take k) := Lib.hid (by
      rw [hk]
      rcases Nat.le_total n5 x with h | h
      · rw [Nat.min_eq_left h, List.take_of_length_le (by rw [h53.len]; exact h), List.take_of_length_le (by rw [h53.len]; exact Nat.le_refl _)]
      · rw [Nat.min_eq_right h])
    clear hb ho h51 h53 hM hml hll hk KB HL1
    go_wp2_with fail
    rename_i K1 hK1
    refine wp_region_flow (by kernel_rfl) (RuF A n c x A5 n5 c5 k M L) (RuF.below A n c x A5 n5 c5 k M L) (by kernel_rfl) (by kernel_rfl) ?_ ?_
    case refine_1 =>
        intro i o ho ρ y w2 hb2 hreg hn hf hyb hyn
        have hi := (Array.getElem?_eq_some_iff.1 ho).1
        rcases Nat.lt_or_ge i 28 with hi2 | hi2
        case inr => simp at hi; omega
        obtain rfl | rfl | rfl | rfl | rfl | rfl | rfl | rfl | rfl | rfl | rfl | rfl | rfl | rfl | rfl | rfl | rfl | rfl | rfl | rfl | rfl | rfl | rfl | rfl | rfl | rfl | rfl | rfl : i = 0 ∨ i = 1 ∨ i = 2 ∨ i = 3 ∨ i = 4 ∨ i = 5 ∨ i = 6 ∨ i = 7 ∨ i = 8 ∨ i = 9 ∨ i = 10 ∨ i = 11 ∨ i = 12 ∨ i = 13 ∨ i = 14 ∨ i = 15 ∨ i = 16 ∨ i = 17 ∨ i = 18 ∨ i = 19 ∨ i = 20 ∨ i = 21 ∨ i = 22 ∨ i = 23 ∨ i = 24 ∨ i = 25 ∨ i = 26 ∨ i = 27 := by omega
        · cases ho
          rw [if_pos (show Region.wanted _ y = true from rfl)]
          have f0 : ρ (.tmp 0) = .slice A n c := hf 0 (by kernel_rfl)
          exact ⟨f0, Below.refl _ _⟩
        · cases ho
          rw [if_pos (show Region.wanted _ y = true from rfl)]
          have f16 : ρ (.tmp 16) = .slice A n c := hn 0 _ 16 rfl (by kernel_rfl) rfl
          refine does_enter (f := 16) (args := #[.slice A n c]) (w' := w2) (by simp [go_sem, hreg.func, hreg.const, f16]) ?_
          refine (Runes_f A n c w2).mono ?_
          rintro e w' ⟨v, rfl, h, hb⟩
          exact ⟨_, rfl, ⟨_, rfl, h⟩, hb⟩
        · cases ho
          rw [if_pos (show Region.wanted _ y = true from rfl)]
          obtain ⟨V17, f17, g17⟩ : ∃ (V17 : Value), ρ (.tmp 17) = V17 ∧ RunF w2 V17 A n c := hn 1 _ 17 rfl (by kernel_rfl) rfl
          refine does_enter (f := 15) (args := #[V17, .int .i64 1048576]) (w' := w2) (by simp [go_sem, hreg.func, hreg.const, f17]) ?_
          refine (marks_ms g17 (HL.out.below hb2) hc hN 1048576 (by omega)).mono ?_
          rintro e w' ⟨v, rfl, h, hb⟩
          rw [← HMe.out] at h
          exact ⟨_, rfl, ⟨_, rfl, h⟩, hb⟩
        · cases ho
          rw [if_pos (show Region.wanted _ y = true from rfl)]
          have f5 : ρ (.tmp 5) = .slice A5 n5 c5 := hf 5 (by kernel_rfl)
          exact ⟨f5, Below.refl _ _⟩
        · cases ho
          rw [if_pos (show Region.wanted _ y = true from rfl)]
          obtain ⟨V18, f18, g18⟩ : ∃ (V18 : Value), ρ (.tmp 18) = V18 ∧ MS w2 V18 (M.take 1048576) := hn 2 _ 18 rfl (by kernel_rfl) rfl
          have f19 : ρ (.tmp 19) = .slice A5 n5 c5 := hn 3 _ 19 rfl (by kernel_rfl) rfl
          refine does_enter (f := 14) (args := #[V18, .slice A5 n5 c5]) (w' := w2) (by simp [go_sem, hreg.func, hreg.const, f18, f19]) ?_
          refine (equalM_ms g18 (HM5.out.below hb2)).mono ?_
          rintro e w' ⟨rfl, hb⟩
          rw [decide_eq_true HT1.out]
          exact ⟨_, rfl, rfl, hb⟩
        · cases ho
          rw [if_pos (show Region.wanted _ y = true from rfl)]
          have f20 : ρ (.tmp 20) = .bool true := hn 4 _ 20 rfl (by kernel_rfl) rfl
          exact ⟨f20, Below.refl _ _⟩
        · cases ho
          rw [if_pos (show Region.wanted _ y = true from by simp [Region.wanted, hyb 5 _ _ _ rfl rfl (hn 5 _ _ rfl (by kernel_rfl) rfl)])]
          have f0 : ρ (.tmp 0) = .slice A n c := hf 0 (by kernel_rfl)
          exact ⟨f0, Below.refl _ _⟩
        · cases ho
          rw [if_pos (show Region.wanted _ y = true from by simp [Region.wanted, hyb 5 _ _ _ rfl rfl (hn 5 _ _ rfl (by kernel_rfl) rfl)])]
          have f22 : ρ (.tmp 22) = .slice A n c := hn 6 _ 22 rfl (by kernel_rfl) rfl
          refine does_enter (f := 16) (args := #[.slice A n c]) (w' := w2) (by simp [go_sem, hreg.func, hreg.const, f22]) ?_
          refine (Runes_f A n c w2).mono ?_
          rintro e w' ⟨v, rfl, h, hb⟩
          exact ⟨_, rfl, ⟨_, rfl, h⟩, hb⟩
        · cases ho
          rw [if_pos (show Region.wanted _ y = true from by simp [Region.wanted, hyb 5 _ _ _ rfl rfl (hn 5 _ _ rfl (by kernel_rfl) rfl)])]
          have f1 : ρ (.tmp 1) = .int .u8 (x : Nat) := hf 1 (by kernel_rfl)
          exact ⟨f1, Below.refl _ _⟩
        · cases ho
          rw [if_pos (show Region.wanted _ y = true from by simp [Region.wanted, hyb 5 _ _ _ rfl rfl (hn 5 _ _ rfl (by kernel_rfl) rfl)])]
          have f24 : ρ (.tmp 24) = .int .u8 (x : Nat) := hn 8 _ 24 rfl (by kernel_rfl) rfl
          exact does_ok (v := .int .i64 (x : Nat)) (w' := w2) (by simp [go_sem, hreg.const, f24, hwx]) ⟨rfl, Below.refl _ _⟩
        · cases ho
          rw [if_pos (show Region.wanted _ y = true from by simp [Region.wanted, hyb 5 _ _ _ rfl rfl (hn 5 _ _ rfl (by kernel_rfl) rfl)])]
          obtain ⟨V23, f23, g23⟩ : ∃ (V23 : Value), ρ (.tmp 23) = V23 ∧ RunF w2 V23 A n c := hn 7 _ 23 rfl (by kernel_rfl) rfl
          have f25 : ρ (.tmp 25) = .int .i64 (x : Nat) := hn 9 _ 25 rfl (by kernel_rfl) rfl
          refine does_enter (f := 15) (args := #[V23, .int .i64 (x : Nat)]) (w' := w2) (by simp [go_sem, hreg.func, hreg.const, f23, f25]) ?_
          refine (marks_ms g23 (HL.out.below hb2) hc hN x (by omega)).mono ?_
          rintro e w' ⟨v, rfl, h, hb⟩
          rw [← HMe.out] at h
          exact ⟨_, rfl, ⟨_, rfl, h⟩, hb⟩
        · cases ho
          rw [if_pos (show Region.wanted _ y = true from by simp [Region.wanted, hyb 5 _ _ _ rfl rfl (hn 5 _ _ rfl (by kernel_rfl) rfl)])]
          have f5 : ρ (.tmp 5) = .slice A5 n5 c5 := hf 5 (by kernel_rfl)
          exact ⟨f5, Below.refl _ _⟩
        · cases ho
          rw [if_pos (show Region.wanted _ y = true from by simp [Region.wanted, hyb 5 _ _ _ rfl rfl (hn 5 _ _ rfl (by kernel_rfl) rfl)])]
          have f5 : ρ (.tmp 5) = .slice A5 n5 c5 := hf 5 (by kernel_rfl)
          exact ⟨f5, Below.refl _ _⟩
        · cases ho
          rw [if_pos (show Region.wanted _ y = true from by simp [Region.wanted, hyb 5 _ _ _ rfl rfl (hn 5 _ _ rfl (by kernel_rfl) rfl)])]
          have f28 : ρ (.tmp 28) = .slice A5 n5 c5 := hn 12 _ 28 rfl (by kernel_rfl) rfl
          exact does_ok (v := .int .i64 (n5 : Nat)) (w' := w2) (by simp [go_sem, hreg.const, f28]) ⟨rfl, Below.refl _ _⟩
        · cases ho
          rw [if_pos (show Region.wanted _ y = true from by simp [Region.wanted, hyb 5 _ _ _ rfl rfl (hn 5 _ _ rfl (by kernel_rfl) rfl)])]
          have f1 : ρ (.tmp 1) = .int .u8 (x : Nat) := hf 1 (by kernel_rfl)
          exact ⟨f1, Below.refl _ _⟩
        · cases ho
          rw [if_pos (show Region.wanted _ y = true from by simp [Region.wanted, hyb 5 _ _ _ rfl rfl (hn 5 _ _ rfl (by kernel_rfl) rfl)])]
          have f30 : ρ (.tmp 30) = .int .u8 (x : Nat) := hn 14 _ 30 rfl (by kernel_rfl) rfl
          exact does_ok (v := .int .i64 (x : Nat)) (w' := w2) (by simp [go_sem, hreg.const, f30, hwx]) ⟨rfl, Below.refl _ _⟩
        · cases ho
          rw [if_pos (show Region.wanted _ y = true from by simp [Region.wanted, hyb 5 _ _ _ rfl rfl (hn 5 _ _ rfl (by kernel_rfl) rfl)])]
          have f29 : ρ (.tmp 29) = .int .i64 (n5 : Nat) := hn 13 _ 29 rfl (by kernel_rfl) rfl
          have f31 : ρ (.tmp 31) = .int .i64 (x : Nat) := hn 15 _ 31 rfl (by kernel_rfl) rfl
          exact does_ok (v := .int .i64 (k : Nat)) (w' := w2) (by simp [go_sem, f29, f31, hmin]) ⟨rfl, Below.refl _ _⟩
        · cases ho
          rw [if_pos (show Region.wanted _ y = true from by simp [Region.wanted, hyb 5 _ _ _ rfl rfl (hn 5 _ _ rfl (by kernel_rfl) rfl)])]
          have f27 : ρ (.tmp 27) = .slice A5 n5 c5 := hn 11 _ 27 rfl (by kernel_rfl) rfl
          have f32 : ρ (.tmp 32) = .int .i64 (k : Nat) := hn 16 _ 32 rfl (by kernel_rfl) rfl
          exact does_ok (v := .slice A5 k c5) (w' := w2) (by simp [go_sem, f27, f32, run_cutM_h A5 n5 c5 k hkc]) ⟨rfl, Below.refl _ _⟩
        · cases ho
          rw [if_pos (show Region.wanted _ y = true from by simp [Region.wanted, hyb 5 _ _ _ rfl rfl (hn 5 _ _ rfl (by kernel_rfl) rfl)])]
          obtain ⟨V26, f26, g26⟩ : ∃ (V26 : Value), ρ (.tmp 26) = V26 ∧ MS w2 V26 (M.take x) := hn 10 _ 26 rfl (by kernel_rfl) rfl
          have f33 : ρ (.tmp 33) = .slice A5 k c5 := hn 17 _ 33 rfl (by kernel_rfl) rfl
          refine does_enter (f := 14) (args := #[V26, .slice A5 k c5]) (w' := w2) (by simp [go_sem, hreg.func, hreg.const, f26, f33]) ?_
          refine (equalM_ms g26 (HMk.out.below hb2)).mono ?_
          rintro e w' ⟨rfl, hb⟩
          rw [decide_eq_true HT2.out]
          exact ⟨_, rfl, rfl, hb⟩
        · cases ho
          rw [if_pos (show Region.wanted _ y = true from rfl)]
          have f21 : ρ (.tmp 21) = .bool true := hn 5 _ 21 rfl (by kernel_rfl) rfl
          have f34 : ρ (.tmp 34) = .bool true := hn 18 _ 34 rfl (by kernel_rfl) rfl
          exact does_ok (v := .bool true) (w' := w2) (by simp [go_sem, hreg.const, f21, f34]) ⟨rfl, Below.refl _ _⟩
        · cases ho
          rw [if_pos (show Region.wanted _ y = true from rfl)]
          have f35 : ρ (.tmp 35) = .bool true := hn 19 _ 35 rfl (by kernel_rfl) rfl
          exact ⟨f35, Below.refl _ _⟩
        · cases ho
          rw [if_pos (show Region.wanted _ y = true from by simp [Region.wanted, hyb 20 _ _ _ rfl rfl (hn 20 _ _ rfl (by kernel_rfl) rfl)])]
          have f0 : ρ (.tmp 0) = .slice A n c := hf 0 (by kernel_rfl)
          exact ⟨f0, Below.refl _ _⟩
        · cases ho
          rw [if_pos (show Region.wanted _ y = true from by simp [Region.wanted, hyb 20 _ _ _ rfl rfl (hn 20 _ _ rfl (by kernel_rfl) rfl)])]
          have f37 : ρ (.tmp 37) = .slice A n c := hn 21 _ 37 rfl (by kernel_rfl) rfl
          refine does_enter (f := 12) (args := #[.slice A n c]) (w' := w2) (by simp [go_sem, hreg.func, hreg.const, f37]) ?_
          refine (Count_any A n c L w2 (HL.out.below hb2) hc).mono ?_
          rintro e w' ⟨rfl, hb⟩
          rw [← HMe.out, HM5l.out]
          exact ⟨_, rfl, rfl, hb⟩
        · cases ho
          rw [if_pos (show Region.wanted _ y = true from by simp [Region.wanted, hyb 20 _ _ _ rfl rfl (hn 20 _ _ rfl (by kernel_rfl) rfl)])]
          have f5 : ρ (.tmp 5) = .slice A5 n5 c5 := hf 5 (by kernel_rfl)
          exact ⟨f5, Below.refl _ _⟩
        · cases ho
          rw [if_pos (show Region.wanted _ y = true from by simp [Region.wanted, hyb 20 _ _ _ rfl rfl (hn 20 _ _ rfl (by kernel_rfl) rfl)])]
          have f39 : ρ (.tmp 39) = .slice A5 n5 c5 := hn 23 _ 39 rfl (by kernel_rfl) rfl
          exact does_ok (v := .int .i64 (n5 : Nat)) (w' := w2) (by simp [go_sem, hreg.const, f39]) ⟨rfl, Below.refl _ _⟩
        · cases ho
          rw [if_pos (show Region.wanted _ y = true from by simp [Region.wanted, hyb 20 _ _ _ rfl rfl (hn 20 _ _ rfl (by kernel_rfl) rfl)])]
          have f38 : ρ (.tmp 38) = .int .i64 (n5 : Nat) := hn 22 _ 38 rfl (by kernel_rfl) rfl
          have f40 : ρ (.tmp 40) = .int .i64 (n5 : Nat) := hn 24 _ 40 rfl (by kernel_rfl) rfl
          exact does_ok (v := .bool true) (w' := w2) (by simp [go_sem, hreg.const, f38, f40]) ⟨rfl, Below.refl _ _⟩
        · cases ho
          rw [if_pos (show Region.wanted _ y = true from rfl)]
          have f36 : ρ (.tmp 36) = .bool true := hn 20 _ 36 rfl (by kernel_rfl) rfl
          have f41 : ρ (.tmp 41) = .bool true := hn 25 _ 41 rfl (by kernel_rfl) rfl
          exact does_ok (v := .bool true) (w' := w2) (by simp [go_sem, hreg.const, f36, f41]) ⟨rfl, Below.refl _ _⟩
        · cases ho
          rw [if_pos (show Region.wanted _ y = true from rfl)]
          have f42 : ρ (.tmp 42) = .bool true := hn 26 _ 42 rfl (by kernel_rfl) rfl
          exact ⟨f42, Below.refl _ _⟩
    case refine_2 =>
      intro a w2 hb2 hd hs hfacts hrest
      have q4 : a.tmps.getD 4 undef = .bool true := hfacts 27 _ 4 rfl rfl
      have ha := frame_of hd hs hrest [4, 16, 17, 18, 19, 20, 21, 22, 23, 24, 25, 26, 27, 28, 29, 30, 31, 32, 33, 34, 35, 36, 37, 38, 39, 40, 41, 42] (by kernel_rfl)
      simp only [q4, List.foldl, List.setIfInBounds_toArray, List.set_cons_succ, List.set_cons_zero] at ha
      clear q4 hd hs hfacts hrest
      generalize a.tmps.getD = gg at ha
      subst ha
      have HB2 := Lib.hid (KB1.out.trans (hb2.mono KB1.out.size))
      clear hb2
      refine hK1 _ _ ?_
      go_wp2
      go_ret
      exact ⟨rfl, HB2.out⟩
end Go.Proofs.Ytlbphgbhkbgknaa
