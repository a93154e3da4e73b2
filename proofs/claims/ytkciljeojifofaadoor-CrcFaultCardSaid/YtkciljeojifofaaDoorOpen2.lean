/- What Open of the program tells. -/
import Derived.Test.YtkciljeojifofaaDoorSeal2
import Derived.Test.YtkciljeojifofaaDoorReg
namespace Go.Proofs.YtkciljeojifofaaDoor
open Go.RowKit Crc
set_option linter.unusedVariables false
set_option linter.unusedSimpArgs false

theorem sz5 (w : World) : (sizeOf 5).run Tryd.prog w = .ok 1 w := by kernel_rfl
theorem eqB (d : Nat) (w : World) (a b : Int) : (Op.equalIn (d + 1) 5 (.int .u8 a) (.int .u8 b)).run Tryd.prog w = .ok (a == b) w := by
  simp [Op.equalIn, run_underlying Tryd.underlying5]
theorem run_neq4 (w : World) (a b c d e f g h : Int) : (binOp .neq 49 (.agg #[.int .u8 a, .int .u8 b, .int .u8 c, .int .u8 d]) (.agg #[.int .u8 e, .int .u8 f, .int .u8 g, .int .u8 h])).run Tryd.prog w = .ok (.bool (!(a == e && b == f && c == g && d == h))) w := by
  simp only [binOp]
  have hq : ∀ k, (Op.equalIn (k + 2) 49 (.agg #[.int .u8 a, .int .u8 b, .int .u8 c, .int .u8 d]) (.agg #[.int .u8 e, .int .u8 f, .int .u8 g, .int .u8 h])).run Tryd.prog w = .ok (a == e && b == f && c == g && d == h) w := by
    intro k
    rw [Op.equalIn]
    simp only [Sem.run_bind, run_underlying Tryd.underlying49, Result.andThen, sz5]
    cases h1 : (a == e) <;> cases h2 : (b == f) <;> cases h3 : (c == g) <;> cases h4 : (d == h) <;> simp [Std.Legacy.Range.forIn_eq_forIn_range', Std.Legacy.Range.size, List.range', part, Tryd.underlying5, eqB, h1, h2, h3, h4, go_sem]
  simp [Op.equal, Op.maxDepth, hq 9998]
theorem run_arrayAt4 (w : World) (A : Option Addr) (c : Nat) : (Instr.arrayAt 49 (.slice A 4 c)).run Tryd.prog w = .ok (.pointer A) w := by
  simp [Instr.arrayAt, run_underlying Tryd.underlying49]

theorem run_load4 (w : World) (a : Addr) (x0 x1 x2 x3 : Nat) (h0 : w.cell? a = some (.int .u8 x0)) (h1 : w.cell? (a.add 1) = some (.int .u8 x1)) (h2 : w.cell? (a.add 2) = some (.int .u8 x2)) (h3 : w.cell? (a.add 3) = some (.int .u8 x3)) :
    (Instr.loadAt 49 (.pointer (some a))).run Tryd.prog w = .ok (.agg #[.int .u8 (x0 : Int), .int .u8 (x1 : Int), .int .u8 (x2 : Int), .int .u8 (x3 : Int)]) w := by
  simp [go_sem] at h1 h2 h3
  simp [go_sem, h0, h1, h2, h3]
/-- Is it sealed? -/
def openB (l : List Nat) : Bool := decide (4 ≤ l.length) && decide (l.take 4 = sumB (crcAdd 0 (l.drop 4)))
/-- What was sealed. -/
def openL (l : List Nat) : List Nat := if openB l = true then l.drop 4 else []
theorem openL_no {l : List Nat} (h : openB l = false) : openL l = [] := by unfold openL; rw [h]; rfl
theorem openL_yes {l : List Nat} (h : openB l = true) : openL l = l.drop 4 := by unfold openL; rw [h]; rfl

def OpF1 (A : Option Addr) (n c : Nat) : Nat → Value → World → Prop
  | 0 => fun v w => v = .slice A n c
  | 1 => fun v w => v = .int .i64 (n : Int)
  | 2 => fun v w => v = .bool true
  | 3 => fun v w => v = .bool true
  | 4 => fun v w => v = undef
  | 5 => fun v w => v = undef
  | 6 => fun v w => v = undef
  | 7 => fun v w => v = undef
  | 8 => fun v w => v = undef
  | 9 => fun v w => v = undef
  | 10 => fun v w => v = undef
  | 11 => fun v w => v = undef
  | 12 => fun v w => v = .bool true
  | _ => fun _ _ => True
theorem OpF1.below (A : Option Addr) (n c : Nat) : ∀ i v w w', Below w.heap.size w w' → OpF1 A n c i v w → OpF1 A n c i v w'
  | 0, _, _, _, _, h => h
  | 1, _, _, _, _, h => h
  | 2, _, _, _, _, h => h
  | 3, _, _, _, _, h => h
  | 4, _, _, _, _, h => h
  | 5, _, _, _, _, h => h
  | 6, _, _, _, _, h => h
  | 7, _, _, _, _, h => h
  | 8, _, _, _, _, h => h
  | 9, _, _, _, _, h => h
  | 10, _, _, _, _, h => h
  | 11, _, _, _, _, h => h
  | 12, _, _, _, _, h => h
  | _ + 13, _, _, _, _, _ => trivial
def OpF2 (ad : Addr) (A1 : Option Addr) (n c x0 x1 x2 x3 y0 y1 y2 y3 : Nat) : Nat → Value → World → Prop
  | 0 => fun v w => v = .slice (some ad) n c
  | 1 => fun v w => v = .int .i64 (n : Int)
  | 2 => fun v w => v = .bool false
  | 3 => fun v w => v = .bool false
  | 4 => fun v w => v = .slice (some ad) n c
  | 5 => fun v w => v = .slice (some ad) 4 c
  | 6 => fun v w => v = .pointer (some ad)
  | 7 => fun v w => v = .agg #[.int .u8 (x0 : Int), .int .u8 (x1 : Int), .int .u8 (x2 : Int), .int .u8 (x3 : Int)]
  | 8 => fun v w => v = .slice (some ad) n c
  | 9 => fun v w => v = .slice A1 (n - 4) (c - 4)
  | 10 => fun v w => v = .agg #[.int .u8 (y0 : Int), .int .u8 (y1 : Int), .int .u8 (y2 : Int), .int .u8 (y3 : Int)]
  | 11 => fun v w => v = .bool (!((x0 : Int) == y0 && (x1 : Int) == y1 && (x2 : Int) == y2 && (x3 : Int) == y3))
  | 12 => fun v w => v = .bool (!((x0 : Int) == y0 && (x1 : Int) == y1 && (x2 : Int) == y2 && (x3 : Int) == y3))
  | _ => fun _ _ => True
theorem OpF2.below (ad : Addr) (A1 : Option Addr) (n c x0 x1 x2 x3 y0 y1 y2 y3 : Nat) : ∀ i v w w', Below w.heap.size w w' → OpF2 ad A1 n c x0 x1 x2 x3 y0 y1 y2 y3 i v w → OpF2 ad A1 n c x0 x1 x2 x3 y0 y1 y2 y3 i v w'
  | 0, _, _, _, _, h => h
  | 1, _, _, _, _, h => h
  | 2, _, _, _, _, h => h
  | 3, _, _, _, _, h => h
  | 4, _, _, _, _, h => h
  | 5, _, _, _, _, h => h
  | 6, _, _, _, _, h => h
  | 7, _, _, _, _, h => h
  | 8, _, _, _, _, h => h
  | 9, _, _, _, _, h => h
  | 10, _, _, _, _, h => h
  | 11, _, _, _, _, h => h
  | 12, _, _, _, _, h => h
  | _ + 13, _, _, _, _, _ => trivial

set_option maxRecDepth 100000 in
set_option maxHeartbeats 1000000 in
theorem Open_any (A : Option Addr) (n c : Nat) (l : List Nat) (w : World) (hT : Tab w) (hl : RdB w A n l) (hc : n ≤ c) (hn : n ≤ 1000000) :
    Calls Tryd.prog 17 #[.slice A n c] w fun e w' => ∃ v, e = .returned (.tuple #[v, .bool (openB l)]) ∧ OwnL encB 5 w' w.heap.size v (openL l) ∧ Below w.heap.size w w' := by
  have HT := Lib.hid hT
  have HL := Lib.hid hl
  have HN := Lib.hid hl.1
  clear hT hl
  by_cases h4 : (n : Int) < 4
  · have HV : Hid (openB l = false) := by show _ = _; unfold openB; rw [HN.out, decide_eq_false (by omega)]; rfl
    go_enter Tryd.func17, Tryd.ntmps17
    go_wp2_with fail
    rename_i K1 hK1
    refine wp_region_flow (by kernel_rfl) (OpF1 A n c) (OpF1.below A n c) (by kernel_rfl) (by kernel_rfl) ?_ ?_
    case refine_1 =>
      intro i o ho ρ y w2 hb2 hreg hn hf hyb hyn
      have hi := (Array.getElem?_eq_some_iff.1 ho).1
      rcases Nat.lt_or_ge i 13 with hi2 | hi2
      case inr => simp at hi; omega
      obtain rfl | rfl | rfl | rfl | rfl | rfl | rfl | rfl | rfl | rfl | rfl | rfl | rfl : i = 0 ∨ i = 1 ∨ i = 2 ∨ i = 3 ∨ i = 4 ∨ i = 5 ∨ i = 6 ∨ i = 7 ∨ i = 8 ∨ i = 9 ∨ i = 10 ∨ i = 11 ∨ i = 12 := by omega
      · cases ho
        rw [if_pos (show Region.wanted _ y = true from rfl)]
        have f0 : ρ (.tmp 0) = .slice A n c := hf 0 (by kernel_rfl)
        exact ⟨f0, Below.refl _ _⟩
      · cases ho
        rw [if_pos (show Region.wanted _ y = true from rfl)]
        have f4 : ρ (.tmp 4) = .slice A n c := hn 0 _ 4 rfl (by kernel_rfl) rfl
        exact does_ok (v := .int .i64 (n : Int)) (w' := w2) (by simp [go_sem, hreg.const, f4]) ⟨rfl, Below.refl _ _⟩
      · cases ho
        rw [if_pos (show Region.wanted _ y = true from rfl)]
        have f5 : ρ (.tmp 5) = .int .i64 (n : Int) := hn 1 _ 5 rfl (by kernel_rfl) rfl
        exact does_ok (v := .bool true) (w' := w2) (by simp [go_sem, hreg.const, f5, h4]) ⟨rfl, Below.refl _ _⟩
      · cases ho
        rw [if_pos (show Region.wanted _ y = true from rfl)]
        have f6 : ρ (.tmp 6) = .bool true := hn 2 _ 6 rfl (by kernel_rfl) rfl
        exact ⟨f6, Below.refl _ _⟩
      · cases ho
        rw [if_neg (show ¬ Region.wanted _ y = true from by simp [Region.wanted, hyb 3 _ _ _ rfl rfl (hn 3 _ _ rfl (by kernel_rfl) rfl)])]
        exact rfl
      · cases ho
        rw [if_neg (show ¬ Region.wanted _ y = true from by simp [Region.wanted, hyb 3 _ _ _ rfl rfl (hn 3 _ _ rfl (by kernel_rfl) rfl)])]
        exact rfl
      · cases ho
        rw [if_neg (show ¬ Region.wanted _ y = true from by simp [Region.wanted, hyb 3 _ _ _ rfl rfl (hn 3 _ _ rfl (by kernel_rfl) rfl)])]
        exact rfl
      · cases ho
        rw [if_neg (show ¬ Region.wanted _ y = true from by simp [Region.wanted, hyb 3 _ _ _ rfl rfl (hn 3 _ _ rfl (by kernel_rfl) rfl)])]
        exact rfl
      · cases ho
        rw [if_neg (show ¬ Region.wanted _ y = true from by simp [Region.wanted, hyb 3 _ _ _ rfl rfl (hn 3 _ _ rfl (by kernel_rfl) rfl)])]
        exact rfl
      · cases ho
        rw [if_neg (show ¬ Region.wanted _ y = true from by simp [Region.wanted, hyb 3 _ _ _ rfl rfl (hn 3 _ _ rfl (by kernel_rfl) rfl)])]
        exact rfl
      · cases ho
        rw [if_neg (show ¬ Region.wanted _ y = true from by simp [Region.wanted, hyb 3 _ _ _ rfl rfl (hn 3 _ _ rfl (by kernel_rfl) rfl)])]
        exact rfl
      · cases ho
        rw [if_neg (show ¬ Region.wanted _ y = true from by simp [Region.wanted, hyb 3 _ _ _ rfl rfl (hn 3 _ _ rfl (by kernel_rfl) rfl)])]
        exact rfl
      · cases ho
        rw [if_pos (show Region.wanted _ y = true from rfl)]
        have f7 : ρ (.tmp 7) = .bool true := hn 3 _ 7 rfl (by kernel_rfl) rfl
        have f15 : ρ (.tmp 15) = undef := hn 11 _ 15 rfl (by kernel_rfl) rfl
        exact does_ok (v := .bool true) (w' := w2) (by simp [go_sem, hreg.const, f7]) ⟨rfl, Below.refl _ _⟩
    case refine_2 =>
      intro a w2 hb2 hd hs hfacts hrest
      have e0 := hrest 0 (by kernel_rfl)
      have e1 := hrest 1 (by kernel_rfl)
      have e2 := hrest 2 (by kernel_rfl)
      have e3 := hrest 3 (by kernel_rfl)
      have e4 : a.tmps.getD 4 undef = .slice A n c := hfacts 0 _ 4 rfl rfl
      have e5 : a.tmps.getD 5 undef = .int .i64 (n : Int) := hfacts 1 _ 5 rfl rfl
      have e6 : a.tmps.getD 6 undef = .bool true := hfacts 2 _ 6 rfl rfl
      have e7 : a.tmps.getD 7 undef = .bool true := hfacts 3 _ 7 rfl rfl
      have e8 : a.tmps.getD 8 undef = undef := hfacts 4 _ 8 rfl rfl
      have e9 : a.tmps.getD 9 undef = undef := hfacts 5 _ 9 rfl rfl
      have e10 : a.tmps.getD 10 undef = undef := hfacts 6 _ 10 rfl rfl
      have e11 : a.tmps.getD 11 undef = undef := hfacts 7 _ 11 rfl rfl
      have e12 : a.tmps.getD 12 undef = undef := hfacts 8 _ 12 rfl rfl
      have e13 : a.tmps.getD 13 undef = undef := hfacts 9 _ 13 rfl rfl
      have e14 : a.tmps.getD 14 undef = undef := hfacts 10 _ 14 rfl rfl
      have e15 : a.tmps.getD 15 undef = undef := hfacts 11 _ 15 rfl rfl
      have e16 : a.tmps.getD 16 undef = .bool true := hfacts 12 _ 16 rfl rfl
      have e17 := hrest 17 (by kernel_rfl)
      have e18 := hrest 18 (by kernel_rfl)
      have e19 := hrest 19 (by kernel_rfl)
      have ha : a = ⟨#[.slice A n c, undef, .slice none 0 0, .bool false, .slice A n c, .int .i64 (n : Int), .bool true, .bool true, undef, undef, undef, undef, undef, undef, undef, undef, .bool true, undef, undef, undef], []⟩ := by
        obtain ⟨tm, df⟩ := a
        have hd2 : df = [] := hd
        subst hd2
        congr 1
        refine frame_lit (L := [.slice A n c, undef, .slice none 0 0, .bool false, .slice A n c, .int .i64 (n : Int), .bool true, .bool true, undef, undef, undef, undef, undef, undef, undef, undef, .bool true, undef, undef, undef]) hs ?_
        intro t ht
        simp only [List.length_cons, List.length_nil] at ht
        obtain rfl | rfl | rfl | rfl | rfl | rfl | rfl | rfl | rfl | rfl | rfl | rfl | rfl | rfl | rfl | rfl | rfl | rfl | rfl | rfl : t = 0 ∨ t = 1 ∨ t = 2 ∨ t = 3 ∨ t = 4 ∨ t = 5 ∨ t = 6 ∨ t = 7 ∨ t = 8 ∨ t = 9 ∨ t = 10 ∨ t = 11 ∨ t = 12 ∨ t = 13 ∨ t = 14 ∨ t = 15 ∨ t = 16 ∨ t = 17 ∨ t = 18 ∨ t = 19 := by omega
        · exact e0
        · exact e1
        · exact e2
        · exact e3
        · exact e4
        · exact e5
        · exact e6
        · exact e7
        · exact e8
        · exact e9
        · exact e10
        · exact e11
        · exact e12
        · exact e13
        · exact e14
        · exact e15
        · exact e16
        · exact e17
        · exact e18
        · exact e19
      clear e0 e1 e2 e3 e4 e5 e6 e7 e8 e9 e10 e11 e12 e13 e14 e15 e16 e17 e18 e19
      subst ha
      clear hs
      refine hK1 _ _ ?_
      have HB2 := Lib.hid hb2
      clear hb2 hfacts hrest
      go_wp2
      go_ret2
      exact ⟨_, by rw [HV.out]; rfl, by rw [openL_no HV.out]; exact OwnL.nil encB 5 _ _, HB2.out⟩
  · obtain ⟨ad, rfl, hcell⟩ := HL.out.2.2.2 (by omega)
    have hby := HL.out.bytes
    obtain ⟨A1, hcut, _, hrd⟩ := cut_rd (P := Tryd.prog) encB 31 5 Tryd.underlying31 info5 (some ad) n c 4 (by omega) hc
    have HR : Hid (RdB w A1 (n - 4) (l.drop 4)) := RdB.of_rd (hrd w l HL.out.rd) (fun x hx => hby x (List.mem_of_mem_drop hx))
    obtain ⟨x0, x1, x2, x3, r, hlr⟩ : ∃ x0 x1 x2 x3 r, l = x0 :: x1 :: x2 :: x3 :: r := by
      match l, HN.out with
      | [], h => simp at h; omega
      | [_], h => simp at h; omega
      | [_, _], h => simp at h; omega
      | [_, _, _], h => simp at h; omega
      | x0 :: x1 :: x2 :: x3 :: r, _ => exact ⟨x0, x1, x2, x3, r, rfl⟩
    subst hlr
    have c0 := hcell 0 (by omega)
    have c1 := hcell 1 (by omega)
    have c2 := hcell 2 (by omega)
    have c3 := hcell 3 (by omega)
    simp only [List.getD_cons_zero, List.getD_cons_succ, Addr.add_zero'] at c0 c1 c2 c3
    obtain ⟨y0, y1, y2, y3, hy⟩ : ∃ y0 y1 y2 y3, sumB (crcAdd 0 (List.drop 4 (x0 :: x1 :: x2 :: x3 :: r))) = [y0, y1, y2, y3] := ⟨_, _, _, _, rfl⟩
    have HY := Lib.hid hy
    have HV : Hid (openB (x0 :: x1 :: x2 :: x3 :: r) = ((x0 : Int) == y0 && (x1 : Int) == y1 && (x2 : Int) == y2 && (x3 : Int) == y3)) := by
      show _ = _
      unfold openB
      rw [hy]
      simp only [List.length_cons, List.take_succ_cons, List.take_zero]
      rw [decide_eq_true (by omega), Bool.true_and, Bool.eq_iff_iff]
      simp
      omega
    clear hcell hby hrd hy
    have h4c : (4 : Int) ≤ c := by omega
    have hcut4 : ∀ W : World, (Instr.slice 31 (.slice (some ad) n c) (some (.int .i64 4)) none none).run Tryd.prog W = .ok (.slice A1 (n - 4) (c - 4)) W := hcut
    clear hcut
    go_enter Tryd.func17, Tryd.ntmps17
    go_wp2_with fail
    rename_i K1 hK1
    refine wp_region_flow (by kernel_rfl) (OpF2 ad A1 n c x0 x1 x2 x3 y0 y1 y2 y3) (OpF2.below ad A1 n c x0 x1 x2 x3 y0 y1 y2 y3) (by kernel_rfl) (by kernel_rfl) ?_ ?_
    case refine_1 =>
      intro i o ho ρ y w2 hb2 hreg hn hf hyb hyn
      have hi := (Array.getElem?_eq_some_iff.1 ho).1
      rcases Nat.lt_or_ge i 13 with hi2 | hi2
      case inr => simp at hi; omega
      obtain rfl | rfl | rfl | rfl | rfl | rfl | rfl | rfl | rfl | rfl | rfl | rfl | rfl : i = 0 ∨ i = 1 ∨ i = 2 ∨ i = 3 ∨ i = 4 ∨ i = 5 ∨ i = 6 ∨ i = 7 ∨ i = 8 ∨ i = 9 ∨ i = 10 ∨ i = 11 ∨ i = 12 := by omega
      · cases ho
        rw [if_pos (show Region.wanted _ y = true from rfl)]
        have f0 : ρ (.tmp 0) = .slice (some ad) n c := hf 0 (by kernel_rfl)
        exact ⟨f0, Below.refl _ _⟩
      · cases ho
        rw [if_pos (show Region.wanted _ y = true from rfl)]
        have f4 : ρ (.tmp 4) = .slice (some ad) n c := hn 0 _ 4 rfl (by kernel_rfl) rfl
        exact does_ok (v := .int .i64 (n : Int)) (w' := w2) (by simp [go_sem, hreg.const, f4]) ⟨rfl, Below.refl _ _⟩
      · cases ho
        rw [if_pos (show Region.wanted _ y = true from rfl)]
        have f5 : ρ (.tmp 5) = .int .i64 (n : Int) := hn 1 _ 5 rfl (by kernel_rfl) rfl
        exact does_ok (v := .bool false) (w' := w2) (by simp [go_sem, hreg.const, f5, h4]) ⟨rfl, Below.refl _ _⟩
      · cases ho
        rw [if_pos (show Region.wanted _ y = true from rfl)]
        have f6 : ρ (.tmp 6) = .bool false := hn 2 _ 6 rfl (by kernel_rfl) rfl
        exact ⟨f6, Below.refl _ _⟩
      · cases ho
        rw [if_pos (show Region.wanted _ y = true from by simp [Region.wanted, hyb 3 _ _ _ rfl rfl (hn 3 _ _ rfl (by kernel_rfl) rfl)])]
        have f0 : ρ (.tmp 0) = .slice (some ad) n c := hf 0 (by kernel_rfl)
        exact ⟨f0, Below.refl _ _⟩
      · cases ho
        rw [if_pos (show Region.wanted _ y = true from by simp [Region.wanted, hyb 3 _ _ _ rfl rfl (hn 3 _ _ rfl (by kernel_rfl) rfl)])]
        have f8 : ρ (.tmp 8) = .slice (some ad) n c := hn 4 _ 8 rfl (by kernel_rfl) rfl
        exact does_ok (v := .slice (some ad) 4 c) (w' := w2) (by simp [go_sem, hreg.const, f8, sliced, h4c]) ⟨rfl, Below.refl _ _⟩
      · cases ho
        rw [if_pos (show Region.wanted _ y = true from by simp [Region.wanted, hyb 3 _ _ _ rfl rfl (hn 3 _ _ rfl (by kernel_rfl) rfl)])]
        have f9 : ρ (.tmp 9) = .slice (some ad) 4 c := hn 5 _ 9 rfl (by kernel_rfl) rfl
        exact does_ok (v := .pointer (some ad)) (w' := w2) (by simp [go_sem, f9, run_arrayAt4]) ⟨rfl, Below.refl _ _⟩
      · cases ho
        rw [if_pos (show Region.wanted _ y = true from by simp [Region.wanted, hyb 3 _ _ _ rfl rfl (hn 3 _ _ rfl (by kernel_rfl) rfl)])]
        have f10 : ρ (.tmp 10) = .pointer (some ad) := hn 6 _ 10 rfl (by kernel_rfl) rfl
        have hld := run_load4 w2 ad x0 x1 x2 x3 (cell_keep hb2 c0) (cell_keep hb2 c1) (cell_keep hb2 c2) (cell_keep hb2 c3)
        exact does_ok (v := .agg #[.int .u8 (x0 : Int), .int .u8 (x1 : Int), .int .u8 (x2 : Int), .int .u8 (x3 : Int)]) (w' := w2) (by simp [execOp, f10, hld]) ⟨rfl, Below.refl _ _⟩
      · cases ho
        rw [if_pos (show Region.wanted _ y = true from by simp [Region.wanted, hyb 3 _ _ _ rfl rfl (hn 3 _ _ rfl (by kernel_rfl) rfl)])]
        have f0 : ρ (.tmp 0) = .slice (some ad) n c := hf 0 (by kernel_rfl)
        exact ⟨f0, Below.refl _ _⟩
      · cases ho
        rw [if_pos (show Region.wanted _ y = true from by simp [Region.wanted, hyb 3 _ _ _ rfl rfl (hn 3 _ _ rfl (by kernel_rfl) rfl)])]
        have f12 : ρ (.tmp 12) = .slice (some ad) n c := hn 8 _ 12 rfl (by kernel_rfl) rfl
        exact does_ok (v := .slice A1 (n - 4) (c - 4)) (w' := w2) (by simp [go_sem, f12, hcut4, hreg.const]) ⟨rfl, Below.refl _ _⟩
      · cases ho
        rw [if_pos (show Region.wanted _ y = true from by simp [Region.wanted, hyb 3 _ _ _ rfl rfl (hn 3 _ _ rfl (by kernel_rfl) rfl)])]
        have f13 : ρ (.tmp 13) = .slice A1 (n - 4) (c - 4) := hn 9 _ 13 rfl (by kernel_rfl) rfl
        refine does_enter (f := 27) (args := #[.slice A1 (n - 4) (c - 4)]) (w' := w2) (by simp [go_sem, f13, hreg.func]) ?_
        refine (head_any _ _ _ _ _ (HT.out.below hb2) (HR.out.below hb2)).mono ?_
        rintro e w' ⟨rfl, hbx⟩
        exact ⟨_, rfl, by show _ = _; rw [HY.out]; rfl, hbx⟩
      · cases ho
        rw [if_pos (show Region.wanted _ y = true from by simp [Region.wanted, hyb 3 _ _ _ rfl rfl (hn 3 _ _ rfl (by kernel_rfl) rfl)])]
        have f11 : ρ (.tmp 11) = .agg #[.int .u8 (x0 : Int), .int .u8 (x1 : Int), .int .u8 (x2 : Int), .int .u8 (x3 : Int)] := hn 7 _ 11 rfl (by kernel_rfl) rfl
        have f14 : ρ (.tmp 14) = .agg #[.int .u8 (y0 : Int), .int .u8 (y1 : Int), .int .u8 (y2 : Int), .int .u8 (y3 : Int)] := hn 10 _ 14 rfl (by kernel_rfl) rfl
        exact does_ok (v := .bool (!((x0 : Int) == y0 && (x1 : Int) == y1 && (x2 : Int) == y2 && (x3 : Int) == y3))) (w' := w2) (by simp [go_sem, f11, f14, run_neq4]) ⟨rfl, Below.refl _ _⟩
      · cases ho
        rw [if_pos (show Region.wanted _ y = true from rfl)]
        have f7 : ρ (.tmp 7) = .bool false := hn 3 _ 7 rfl (by kernel_rfl) rfl
        have f15 : ρ (.tmp 15) = .bool (!((x0 : Int) == y0 && (x1 : Int) == y1 && (x2 : Int) == y2 && (x3 : Int) == y3)) := hn 11 _ 15 rfl (by kernel_rfl) rfl
        exact does_ok (v := .bool (!((x0 : Int) == y0 && (x1 : Int) == y1 && (x2 : Int) == y2 && (x3 : Int) == y3))) (w' := w2) (by simp [go_sem, hreg.const, f7, f15]) ⟨rfl, Below.refl _ _⟩
    case refine_2 =>
      intro a w2 hb2 hd hs hfacts hrest
      have e0 := hrest 0 (by kernel_rfl)
      have e1 := hrest 1 (by kernel_rfl)
      have e2 := hrest 2 (by kernel_rfl)
      have e3 := hrest 3 (by kernel_rfl)
      have e4 : a.tmps.getD 4 undef = .slice (some ad) n c := hfacts 0 _ 4 rfl rfl
      have e5 : a.tmps.getD 5 undef = .int .i64 (n : Int) := hfacts 1 _ 5 rfl rfl
      have e6 : a.tmps.getD 6 undef = .bool false := hfacts 2 _ 6 rfl rfl
      have e7 : a.tmps.getD 7 undef = .bool false := hfacts 3 _ 7 rfl rfl
      have e8 : a.tmps.getD 8 undef = .slice (some ad) n c := hfacts 4 _ 8 rfl rfl
      have e9 : a.tmps.getD 9 undef = .slice (some ad) 4 c := hfacts 5 _ 9 rfl rfl
      have e10 : a.tmps.getD 10 undef = .pointer (some ad) := hfacts 6 _ 10 rfl rfl
      have e11 : a.tmps.getD 11 undef = .agg #[.int .u8 (x0 : Int), .int .u8 (x1 : Int), .int .u8 (x2 : Int), .int .u8 (x3 : Int)] := hfacts 7 _ 11 rfl rfl
      have e12 : a.tmps.getD 12 undef = .slice (some ad) n c := hfacts 8 _ 12 rfl rfl
      have e13 : a.tmps.getD 13 undef = .slice A1 (n - 4) (c - 4) := hfacts 9 _ 13 rfl rfl
      have e14 : a.tmps.getD 14 undef = .agg #[.int .u8 (y0 : Int), .int .u8 (y1 : Int), .int .u8 (y2 : Int), .int .u8 (y3 : Int)] := hfacts 10 _ 14 rfl rfl
      have e15 : a.tmps.getD 15 undef = .bool (!((x0 : Int) == y0 && (x1 : Int) == y1 && (x2 : Int) == y2 && (x3 : Int) == y3)) := hfacts 11 _ 15 rfl rfl
      have e16 : a.tmps.getD 16 undef = .bool (!((x0 : Int) == y0 && (x1 : Int) == y1 && (x2 : Int) == y2 && (x3 : Int) == y3)) := hfacts 12 _ 16 rfl rfl
      have e17 := hrest 17 (by kernel_rfl)
      have e18 := hrest 18 (by kernel_rfl)
      have e19 := hrest 19 (by kernel_rfl)
      have ha : a = ⟨#[.slice (some ad) n c, undef, .slice none 0 0, .bool false, .slice (some ad) n c, .int .i64 (n : Int), .bool false, .bool false, .slice (some ad) n c, .slice (some ad) 4 c, .pointer (some ad), .agg #[.int .u8 (x0 : Int), .int .u8 (x1 : Int), .int .u8 (x2 : Int), .int .u8 (x3 : Int)], .slice (some ad) n c, .slice A1 (n - 4) (c - 4), .agg #[.int .u8 (y0 : Int), .int .u8 (y1 : Int), .int .u8 (y2 : Int), .int .u8 (y3 : Int)], .bool (!((x0 : Int) == y0 && (x1 : Int) == y1 && (x2 : Int) == y2 && (x3 : Int) == y3)), .bool (!((x0 : Int) == y0 && (x1 : Int) == y1 && (x2 : Int) == y2 && (x3 : Int) == y3)), undef, undef, undef], []⟩ := by
        obtain ⟨tm, df⟩ := a
        have hd2 : df = [] := hd
        subst hd2
        congr 1
        refine frame_lit (L := [.slice (some ad) n c, undef, .slice none 0 0, .bool false, .slice (some ad) n c, .int .i64 (n : Int), .bool false, .bool false, .slice (some ad) n c, .slice (some ad) 4 c, .pointer (some ad), .agg #[.int .u8 (x0 : Int), .int .u8 (x1 : Int), .int .u8 (x2 : Int), .int .u8 (x3 : Int)], .slice (some ad) n c, .slice A1 (n - 4) (c - 4), .agg #[.int .u8 (y0 : Int), .int .u8 (y1 : Int), .int .u8 (y2 : Int), .int .u8 (y3 : Int)], .bool (!((x0 : Int) == y0 && (x1 : Int) == y1 && (x2 : Int) == y2 && (x3 : Int) == y3)), .bool (!((x0 : Int) == y0 && (x1 : Int) == y1 && (x2 : Int) == y2 && (x3 : Int) == y3)), undef, undef, undef]) hs ?_
        intro t ht
        simp only [List.length_cons, List.length_nil] at ht
        obtain rfl | rfl | rfl | rfl | rfl | rfl | rfl | rfl | rfl | rfl | rfl | rfl | rfl | rfl | rfl | rfl | rfl | rfl | rfl | rfl : t = 0 ∨ t = 1 ∨ t = 2 ∨ t = 3 ∨ t = 4 ∨ t = 5 ∨ t = 6 ∨ t = 7 ∨ t = 8 ∨ t = 9 ∨ t = 10 ∨ t = 11 ∨ t = 12 ∨ t = 13 ∨ t = 14 ∨ t = 15 ∨ t = 16 ∨ t = 17 ∨ t = 18 ∨ t = 19 := by omega
        · exact e0
        · exact e1
        · exact e2
        · exact e3
        · exact e4
        · exact e5
        · exact e6
        · exact e7
        · exact e8
        · exact e9
        · exact e10
        · exact e11
        · exact e12
        · exact e13
        · exact e14
        · exact e15
        · exact e16
        · exact e17
        · exact e18
        · exact e19
      clear e0 e1 e2 e3 e4 e5 e6 e7 e8 e9 e10 e11 e12 e13 e14 e15 e16 e17 e18 e19
      subst ha
      clear hs
      refine hK1 _ _ ?_
      have HB2 := Lib.hid hb2
      have HR2 := Lib.hid (HR.out.below hb2).rd
      have HO2 : Hid (OwnL encB 5 w2 w.heap.size (.slice none 0 0) []) := OwnL.nil encB 5 w2 w.heap.size
      clear hb2 hfacts hrest c0 c1 c2 c3
      generalize ((x0 : Int) == y0 && (x1 : Int) == y1 && (x2 : Int) == y2 && (x3 : Int) == y3) = q at *
      cases q with
      | false =>
        go_wp2
        go_ret2
        exact ⟨_, by rw [HV.out]; rfl, by rw [openL_no HV.out]; exact HO2.out, HB2.out⟩
      | true =>
        go_wp2_with (at_builtin; refine wpl_append (enc := encB) w.heap.size rfl (.const (.slice none 0 0)) (.tmp 18) 31 5 (.int .u8 0) 1 rfl Tryd.underlying31 info5 rfl (by decide) encB_one rfl rfl HO2.out HR2.out (by simp; omega) HB2.out.size ?_; intro v4 w4 hown4 hg4 hat4)
        go_ret2
        exact ⟨_, by rw [HV.out]; rfl, by rw [openL_yes HV.out]; simpa using hown4, HB2.out.grown hg4 HB2.out.size (fun k hk => (HO2.out.base k hk).1)⟩
end Go.Proofs.YtkciljeojifofaaDoor
