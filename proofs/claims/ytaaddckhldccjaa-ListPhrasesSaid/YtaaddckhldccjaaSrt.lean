/- Rows of rows: copies; put in some order. -/
import Derived.Test.YtaaddckhldccjaaUU
import Derived.Test.YtaaddckhldccjaaRegJ
import Derived.WalkSpells
namespace Go.Proofs.Ytaaddckhldccjaa
open Go.RowKit
set_option linter.unusedVariables false
set_option linter.unusedSimpArgs false

set_option maxRecDepth 100000 in
set_option maxHeartbeats 1000000 in
theorem CloneU_any (A : Option Addr) (n c : Nat) (xs : List Nat) (w : World) (ht : Rd encU w A n xs) (hn : n ≤ 1000000) (hc : n ≤ c) (hc2 : c ≤ 9223372036854775807) :
    Calls Try.prog 21 #[.slice A n c] w fun e w' => ∃ v, e = .returned v ∧ OwnL encU 30 w' w.heap.size v xs ∧ Below w.heap.size w w' := by
  have HT := Lib.hid ht
  clear ht
  cases A with
  | none =>
    have HN : Hid (xs = []) := Lib.hid (by
      rcases Nat.eq_zero_or_pos n with h | h
      · exact List.eq_nil_of_length_eq_zero (by rw [HT.out.len, h])
      · obtain ⟨_, h1, _⟩ := HT.out.cell h
        cases h1)
    have hnil := fun W : World => Lib.run_eql_slice_nil (P := Try.prog) W 38 30 none n c 0 0 Try.underlying38
    go_enter Try.func21, Try.ntmps21
    go_wp2
    go_ret
    exact ⟨_, rfl, by rw [HN.out]; exact OwnL.nil _ _ _ _, Below.refl _ _⟩
  | some ad =>
    have hnil := fun W : World => Lib.run_eql_slice_nil (P := Try.prog) W 38 30 (some ad) n c 0 0 Try.underlying38
    have H0 := OwnL.lit (enc := encU) w w.heap.size 30 [] #[] 0 rfl rfl (Nat.le_refl _) (by decide)
    have HB0 := (Below.refl w.heap.size w).alloc (Nat.le_refl _) (.cells #[] 30)
    obtain ⟨v1, w2, r1, o1, g1, at1⟩ := run_append_rd (P := Try.prog) (c := c) w.heap.size 38 38 30 (.int .u32 0) 4 Try.underlying38 infoU rfl (by decide) encU_one H0 (HT.out.below HB0) (by simp; omega) (by simp)
    have HX : Hid (OwnL encU 30 w2 w.heap.size v1 xs ∧ Below w.heap.size w w2) := Lib.hid (by
      rw [List.nil_append] at o1
      exact ⟨o1, HB0.grown g1 (by simp) (fun k hk => (H0.base k hk).1)⟩)
    clear o1 g1 at1 H0 HB0
    go_enter Try.func21, Try.ntmps21
    go_wp2_with (at_builtin; refine wpl_append_run rfl _ _ _ rfl rfl rfl r1 ?_)
    go_ret
    exact ⟨_, rfl, HX.out.1, HX.out.2⟩
set_option maxRecDepth 100000 in
set_option maxHeartbeats 1000000 in
theorem CloneUV_any (A : Option Addr) (n c : Nat) (xs : List UV) (w : World) (ht : Rd encUV w A n xs) (hn : n ≤ 1000000) (hc : n ≤ c) (hc2 : c ≤ 9223372036854775807) :
    Calls Try.prog 48 #[.slice A n c] w fun e w' => ∃ v, e = .returned v ∧ OwnL encUV 38 w' w.heap.size v xs ∧ Below w.heap.size w w' := by
  have HT := Lib.hid ht
  clear ht
  cases A with
  | none =>
    have HN : Hid (xs = []) := Lib.hid (by
      rcases Nat.eq_zero_or_pos n with h | h
      · exact List.eq_nil_of_length_eq_zero (by rw [HT.out.len, h])
      · obtain ⟨_, h1, _⟩ := HT.out.cell h
        cases h1)
    have hnil := fun W : World => Lib.run_eql_slice_nil (P := Try.prog) W 43 38 none n c 0 0 Try.underlying43
    go_enter Try.func48, Try.ntmps48
    go_wp2
    go_ret
    exact ⟨_, rfl, by rw [HN.out]; exact OwnL.nil _ _ _ _, Below.refl _ _⟩
  | some ad =>
    have hnil := fun W : World => Lib.run_eql_slice_nil (P := Try.prog) W 43 38 (some ad) n c 0 0 Try.underlying43
    have H0 := OwnL.lit (enc := encUV) w w.heap.size 38 [] #[] 0 rfl rfl (Nat.le_refl _) (by decide)
    have HB0 := (Below.refl w.heap.size w).alloc (Nat.le_refl _) (.cells #[] 38)
    obtain ⟨v1, w2, r1, o1, g1, at1⟩ := run_append_rd (P := Try.prog) (c := c) w.heap.size 43 43 38 (.slice none 0 0) 24 Try.underlying43 infoUV rfl (by decide) encUV_one H0 (HT.out.below HB0) (by simp; omega) (by simp)
    have HX : Hid (OwnL encUV 38 w2 w.heap.size v1 xs ∧ Below w.heap.size w w2) := Lib.hid (by
      rw [List.nil_append] at o1
      exact ⟨o1, HB0.grown g1 (by simp) (fun k hk => (H0.base k hk).1)⟩)
    clear o1 g1 at1 H0 HB0
    go_enter Try.func48, Try.ntmps48
    go_wp2_with (at_builtin; refine wpl_append_run rfl _ _ _ rfl rfl rfl r1 ?_)
    go_ret
    exact ⟨_, rfl, HX.out.1, HX.out.2⟩

set_option maxRecDepth 100000 in
set_option maxHeartbeats 1000000 in
theorem cmpLen_any (x y : UV) (w : World) (hx : x.n ≤ 9223372036854775807) (hy : y.n ≤ 9223372036854775807) :
    Calls Try.prog 50 #[encUV x, encUV y] w fun e w' => e = .returned (.int .i64 ((x.n : Int) - (y.n : Int))) ∧ w = w' := by
  obtain ⟨A, n, c, l⟩ := x
  obtain ⟨B, m, d, l'⟩ := y
  simp only at hx hy ⊢
  go_enter Try.func50, Try.ntmps50
  go_wp2
  go_ret
  exact ⟨rfl, rfl⟩
def I4 (G n c k j pi : Nat) (ux uy : UV) : Nat → Value → World → Prop
  | 0 => fun v w => v = .int .i64 (j : Nat)
  | 1 => fun v w => v = .int .i64 0
  | 2 => fun v w => v = .bool true
  | 3 => fun v w => v = .bool true
  | 4 => fun v w => v = .func (.func 50) #[] #[]
  | 5 => fun v w => v = .slice (some ⟨G, 0, none⟩) n c
  | 6 => fun v w => v = .int .i64 (j : Nat)
  | 7 => fun v w => v = .pointer (some ⟨G, j, none⟩)
  | 8 => fun v w => v = encUV uy
  | 9 => fun v w => v = .slice (some ⟨G, 0, none⟩) n c
  | 10 => fun v w => v = .int .i64 (j : Nat)
  | 11 => fun v w => v = .int .i64 (pi : Nat)
  | 12 => fun v w => v = .pointer (some ⟨G, pi, none⟩)
  | 13 => fun v w => v = encUV ux
  | 14 => fun v w => v = .int .i64 ((uy.n : Int) - (ux.n : Int))
  | 15 => fun v w => v = .bool (decide ((uy.n : Int) - (ux.n : Int) < 0))
  | 16 => fun v w => v = .bool (decide ((uy.n : Int) - (ux.n : Int) < 0))
  | _ => fun _ _ => True
theorem I4.below (G n c k j pi : Nat) (ux uy : UV) : ∀ i v w w', Below w.heap.size w w' → I4 G n c k j pi ux uy i v w → I4 G n c k j pi ux uy i v w'
  | 0, _, _, _, _, h => h
  | 1, _, _, _, _, h => h
  | 2, _, _, _, _, h => h
  | 3, _, _, _, _, h => h
  | 4, _, _, _, _, h => h
  | 5, _, _, _, _, h => h
  | 6, _, _, _, _, h => h
  | 7, _, _, _, _, h => h
  | 8, _, _, _, _, h => h
  | 9, _, _, _, _, h => h
  | 10, _, _, _, _, h => h
  | 11, _, _, _, _, h => h
  | 12, _, _, _, _, h => h
  | 13, _, _, _, _, h => h
  | 14, _, _, _, _, h => h
  | 15, _, _, _, _, h => h
  | 16, _, _, _, _, h => h
  | _ + 17, _, _, _, _, _ => trivial
def I6 (G n c k j pi : Nat) (ux uy : UV) : Nat → Value → World → Prop
  | 0 => fun v w => v = .slice (some ⟨G, 0, none⟩) n c
  | 1 => fun v w => v = .int .i64 (j : Nat)
  | 2 => fun v w => v = .slice (some ⟨G, 0, none⟩) n c
  | 3 => fun v w => v = .int .i64 (j : Nat)
  | 4 => fun v w => v = .int .i64 (pi : Nat)
  | 5 => fun v w => v = .slice (some ⟨G, 0, none⟩) n c
  | 6 => fun v w => v = .int .i64 (j : Nat)
  | 7 => fun v w => v = .int .i64 (pi : Nat)
  | 8 => fun v w => v = .pointer (some ⟨G, pi, none⟩)
  | 9 => fun v w => v = encUV ux
  | 10 => fun v w => v = .slice (some ⟨G, 0, none⟩) n c
  | 11 => fun v w => v = .int .i64 (j : Nat)
  | 12 => fun v w => v = .pointer (some ⟨G, j, none⟩)
  | 13 => fun v w => v = encUV uy
  | 14 => fun v w => v = .pointer (some ⟨G, j, none⟩)
  | 15 => fun v w => v = undef
  | 16 => fun v w => v = .pointer (some ⟨G, pi, none⟩)
  | 17 => fun v w => v = undef
  | _ => fun _ _ => True
theorem I6.below (G n c k j pi : Nat) (ux uy : UV) : ∀ i v w w', Below w.heap.size w w' → I6 G n c k j pi ux uy i v w → I6 G n c k j pi ux uy i v w'
  | 0, _, _, _, _, h => h
  | 1, _, _, _, _, h => h
  | 2, _, _, _, _, h => h
  | 3, _, _, _, _, h => h
  | 4, _, _, _, _, h => h
  | 5, _, _, _, _, h => h
  | 6, _, _, _, _, h => h
  | 7, _, _, _, _, h => h
  | 8, _, _, _, _, h => h
  | 9, _, _, _, _, h => h
  | 10, _, _, _, _, h => h
  | 11, _, _, _, _, h => h
  | 12, _, _, _, _, h => h
  | 13, _, _, _, _, h => h
  | 14, _, _, _, _, h => h
  | 15, _, _, _, _, h => h
  | 16, _, _, _, _, h => h
  | 17, _, _, _, _, h => h
  | _ + 18, _, _, _, _, _ => trivial
theorem I6.keep (G n c k j pi : Nat) (ux uy : UV) : ∀ i v w w', True → I6 G n c k j pi ux uy i v w → I6 G n c k j pi ux uy i v w'
  | 0, _, _, _, _, h => h
  | 1, _, _, _, _, h => h
  | 2, _, _, _, _, h => h
  | 3, _, _, _, _, h => h
  | 4, _, _, _, _, h => h
  | 5, _, _, _, _, h => h
  | 6, _, _, _, _, h => h
  | 7, _, _, _, _, h => h
  | 8, _, _, _, _, h => h
  | 9, _, _, _, _, h => h
  | 10, _, _, _, _, h => h
  | 11, _, _, _, _, h => h
  | 12, _, _, _, _, h => h
  | 13, _, _, _, _, h => h
  | 14, _, _, _, _, h => h
  | 15, _, _, _, _, h => h
  | 16, _, _, _, _, h => h
  | 17, _, _, _, _, h => h
  | _ + 18, _, _, _, _, _ => trivial

/-- The world as two are put in each other's places. -/
structure Sw3 (W0 W1 W2 : World) (S : Nat → Prop) (wr : World) : Prop where
  z : ¬ S 15 → wr = W0
  a : S 15 → ¬ S 17 → wr = W1
  b : S 17 → wr = W2
theorem Sw3.next {W0 W1 W2 wr : World} {S : Nat → Prop} (h : Sw3 W0 W1 W2 S wr) {i : Nat} (h1 : i ≠ 15) (h2 : i ≠ 17) : Sw3 W0 W1 W2 (fun k => k = i ∨ S k) wr :=
  ⟨fun hs => h.z fun h' => hs (.inr h'), fun ha hb => h.a (ha.resolve_left (Ne.symm h1)) fun h' => hb (.inr h'), fun hc => h.b (hc.resolve_left (Ne.symm h2))⟩
theorem Sw3.st1 {W0 W1 W2 : World} {S : Nat → Prop} (h : Sw3 W0 W1 W2 S W0) (hb : ¬ S 17) : Sw3 W0 W1 W2 (fun k => k = 15 ∨ S k) W1 :=
  ⟨fun hs => absurd (.inl rfl) hs, fun _ _ => rfl, fun h' => absurd (h'.resolve_left (by decide)) hb⟩
theorem Sw3.st2 {W0 W1 W2 : World} {S : Nat → Prop} (h : Sw3 W0 W1 W2 S W1) (ha : S 15) : Sw3 W0 W1 W2 (fun k => k = 17 ∨ S k) W2 :=
  ⟨fun hs => absurd (.inr ha) hs, fun _ hs => absurd (.inl rfl) hs, fun _ => rfl⟩
/-- A row that the call owns, its elements in some order. -/
def InsI (w0 : World) (G n c : Nat) (ls : List UV) (W : World) : Prop := ∃ ls', ls'.Perm ls ∧ OwnL encUV 38 W w0.heap.size (.slice (some ⟨G, 0, none⟩) n c) ls' ∧ Below w0.heap.size w0 W
theorem insI_below {w0 : World} {G n c : Nat} {ls : List UV} {W W' : World} (h : InsI w0 G n c ls W) (hb : Below W.heap.size W W') : InsI w0 G n c ls W' := by
  obtain ⟨ls', h1, h2, h3⟩ := h
  exact ⟨ls', h1, h2.below hb, Below.thn h3 hb⟩
theorem insI_at {w0 : World} {G n c : Nat} {ls' : List UV} {W : World} (h : OwnL encUV 38 W w0.heap.size (.slice (some ⟨G, 0, none⟩) n c) ls') {k : Nat} (hk : k < n) : ∃ (hl : k < ls'.length), W.cell? ⟨G, k, none⟩ = some (encUV ls'[k]) ∧ W.frozen? ⟨G, k, none⟩ = false := by
  obtain ⟨A, c', e, _, _, h3⟩ := h.rd
  injection e with e1 e2 e3
  have hl : k < ls'.length := by omega
  subst e2
  exact ⟨hl, (h.cellAt k hl).1, (h.cellAt k hl).2⟩
theorem own_set {w : World} {base G n c : Nat} {ls : List UV} (h : OwnL encUV 38 w base (.slice (some ⟨G, 0, none⟩) n c) ls) (i : Nat) (x : UV) : OwnL encUV 38 (w.setCell ⟨G, i, none⟩ (encUV x)) base (.slice (some ⟨G, 0, none⟩) n c) (ls.set i x) := by
  obtain ⟨A, c', e, _⟩ := h.rd
  injection e with _ e2 _
  subst e2
  exact (h.set i x).1
theorem ho_base {w : World} {base G n c : Nat} {ls : List UV} (h : OwnL encUV 38 w base (.slice (some ⟨G, 0, none⟩) n c) ls) (hn : 0 < n) : base ≤ G := (OwnL.base h G rfl).1
set_option maxRecDepth 100000 in
set_option maxHeartbeats 8000000 in
theorem insSort_any (w0 : World) (G n c : Nat) (ls : List UV) (w : World) (ho : OwnL encUV 38 w w0.heap.size (.slice (some ⟨G, 0, none⟩) n c) ls) (hb : Below w0.heap.size w0 w) (hmx : ∀ x ∈ ls, x.n ≤ 9223372036854775807) (hn : n ≤ 1000000) :
    Calls Try.prog 82 #[.slice (some ⟨G, 0, none⟩) n c, .int .i64 0, .int .i64 (n : Nat), .func (.func 50) #[] #[]] w fun e w' => e = .returned (.tuple #[]) ∧ InsI w0 G n c ls w' := by
  have HI : Hid (InsI w0 G n c ls w) := Lib.hid ⟨ls, List.Perm.refl _, ho, hb⟩
  have HM := Lib.hid hmx
  clear ho hb hmx
  go_enter Try.func82, Try.ntmps82
  go_wp2_with fail
  go_loopw [8, 9] (fun x y wr => ∃ k : Nat, x = .int .i64 (k : Nat) ∧ k ≤ 1000001 ∧ Hid (InsI w0 G n c ls wr)) (fun x _ _ => n - (intOf x).toNat)
  case atStart => exact ⟨1, rfl, by decide, HI⟩
  case round =>
    obtain ⟨k, rfl, hk, HI1⟩ := hrel
    by_cases hlt : (k : Int) < (n : Int)
    · go_wp2_with fail
      go_loopw [9] (fun y wr => ∃ j : Nat, y = .int .i64 (j : Nat) ∧ j ≤ k ∧ Hid (InsI w0 G n c ls wr)) (fun y _ => (intOf y).toNat)
      case atStart => exact ⟨k, rfl, Nat.le_refl _, HI1⟩
      case round =>
        obtain ⟨j, rfl, hj, HJ⟩ := hrel
        by_cases hj0 : (0 : Int) < (j : Int)
        · obtain ⟨ls', hp, ho, hbe⟩ := HJ.out
          obtain ⟨pi, hpi⟩ : ∃ pi, pi = j - 1 := ⟨_, rfl⟩
          have hji : (j : Int) - 1 = (pi : Int) := by omega
          have hj1 : (j : Int) < (n : Int) := by omega
          have hj2 : j < n := by omega
          have hj00 : 0 < j := by omega
          have hwi : IntKind.i64.wrap (pi : Int) = (pi : Int) := by rw [IntKind.wrap_i64]; omega
          have hp1 : (pi : Int) < (n : Int) := by omega
          have hp2 : pi < n := by omega
          obtain ⟨hli, x0, xf⟩ := insI_at ho hp2
          obtain ⟨hlj, y0, yf⟩ := insI_at ho hj2
          obtain ⟨ux, hx⟩ : ∃ ux, ux = ls'[pi] := ⟨_, rfl⟩
          obtain ⟨uy, hy⟩ : ∃ uy, uy = ls'[j] := ⟨_, rfl⟩
          rw [← hx] at x0
          rw [← hy] at y0
          have hyx : uy.n ≤ 9223372036854775807 ∧ ux.n ≤ 9223372036854775807 := ⟨HM.out uy (by rw [hy]; exact hp.subset (List.getElem_mem hlj)), HM.out ux (by rw [hx]; exact hp.subset (List.getElem_mem hli))⟩
          have X0 := Lib.hid x0
          have Y0 := Lib.hid y0
          have HP := Lib.hid (And.intro hp (And.intro ho hbe))
          have HX := Lib.hid (show ∃ (hl : pi < ls'.length), ux = ls'[pi] from ⟨hli, hx⟩)
          have HY := Lib.hid (show ∃ (hl : j < ls'.length), uy = ls'[j] from ⟨hlj, hy⟩)
          have XF := Lib.hid xf
          have YF := Lib.hid yf
          have HIE := Lib.hid hpi
          clear hp ho hbe hpi hli hlj x0 y0 xf yf hx hy
          go_upto_region 4 with fail
          refine wp_region_flow (by kernel_rfl) (I4 G n c k j pi ux uy) (I4.below G n c k j pi ux uy) (by kernel_rfl) (by kernel_rfl) ?_ ?_
          case refine_1 =>
            intro i o ho ρ y w2 hb2 hreg hn hf hyb hyn
            have hi := (Array.getElem?_eq_some_iff.1 ho).1
            rcases Nat.lt_or_ge i 17 with hi2 | hi2
            case inr => simp at hi; omega
            obtain rfl | rfl | rfl | rfl | rfl | rfl | rfl | rfl | rfl | rfl | rfl | rfl | rfl | rfl | rfl | rfl | rfl : i = 0 ∨ i = 1 ∨ i = 2 ∨ i = 3 ∨ i = 4 ∨ i = 5 ∨ i = 6 ∨ i = 7 ∨ i = 8 ∨ i = 9 ∨ i = 10 ∨ i = 11 ∨ i = 12 ∨ i = 13 ∨ i = 14 ∨ i = 15 ∨ i = 16 := by omega
            · cases ho
              rw [if_pos (show Region.wanted _ y = true from rfl)]
              have f9 : ρ (.tmp 9) = .int .i64 (j : Nat) := hf 9 (by kernel_rfl)
              exact ⟨f9, Below.refl _ _⟩
            · cases ho
              rw [if_pos (show Region.wanted _ y = true from rfl)]
              have f1 : ρ (.tmp 1) = .int .i64 0 := hf 1 (by kernel_rfl)
              exact ⟨f1, Below.refl _ _⟩
            · cases ho
              rw [if_pos (show Region.wanted _ y = true from rfl)]
              have f18 : ρ (.tmp 18) = .int .i64 (j : Nat) := hn 0 _ 18 rfl (by kernel_rfl) rfl
              have f19 : ρ (.tmp 19) = .int .i64 0 := hn 1 _ 19 rfl (by kernel_rfl) rfl
              exact does_ok (v := .bool true) (w' := w2) (by simp [go_sem, hreg.const, f18, f19, hj00]) ⟨rfl, Below.refl _ _⟩
            · cases ho
              rw [if_pos (show Region.wanted _ y = true from rfl)]
              have f20 : ρ (.tmp 20) = .bool true := hn 2 _ 20 rfl (by kernel_rfl) rfl
              exact ⟨f20, Below.refl _ _⟩
            · cases ho
              rw [if_pos (show Region.wanted _ y = true from by simp [Region.wanted, hyb 3 _ _ _ rfl rfl (hn 3 _ _ rfl (by kernel_rfl) rfl)])]
              have f3 : ρ (.tmp 3) = .func (.func 50) #[] #[] := hf 3 (by kernel_rfl)
              exact ⟨f3, Below.refl _ _⟩
            · cases ho
              rw [if_pos (show Region.wanted _ y = true from by simp [Region.wanted, hyb 3 _ _ _ rfl rfl (hn 3 _ _ rfl (by kernel_rfl) rfl)])]
              have f0 : ρ (.tmp 0) = .slice (some ⟨G, 0, none⟩) n c := hf 0 (by kernel_rfl)
              exact ⟨f0, Below.refl _ _⟩
            · cases ho
              rw [if_pos (show Region.wanted _ y = true from by simp [Region.wanted, hyb 3 _ _ _ rfl rfl (hn 3 _ _ rfl (by kernel_rfl) rfl)])]
              have f9 : ρ (.tmp 9) = .int .i64 (j : Nat) := hf 9 (by kernel_rfl)
              exact ⟨f9, Below.refl _ _⟩
            · cases ho
              rw [if_pos (show Region.wanted _ y = true from by simp [Region.wanted, hyb 3 _ _ _ rfl rfl (hn 3 _ _ rfl (by kernel_rfl) rfl)])]
              have f23 : ρ (.tmp 23) = .slice (some ⟨G, 0, none⟩) n c := hn 5 _ 23 rfl (by kernel_rfl) rfl
              have f24 : ρ (.tmp 24) = .int .i64 (j : Nat) := hn 6 _ 24 rfl (by kernel_rfl) rfl
              exact does_ok (v := .pointer (some ⟨G, j, none⟩)) (w' := w2) (by simp [go_sem, hreg.const, f23, f24, hj1, hj2, add_lit0]) ⟨rfl, Below.refl _ _⟩
            · cases ho
              rw [if_pos (show Region.wanted _ y = true from by simp [Region.wanted, hyb 3 _ _ _ rfl rfl (hn 3 _ _ rfl (by kernel_rfl) rfl)])]
              have f25 : ρ (.tmp 25) = .pointer (some ⟨G, j, none⟩) := hn 7 _ 25 rfl (by kernel_rfl) rfl
              have k0 := cell_keep hb2 Y0.out
              exact does_ok (v := encUV uy) (w' := w2) (by simp [go_sem, hreg.const, f25, k0]) ⟨rfl, Below.refl _ _⟩
            · cases ho
              rw [if_pos (show Region.wanted _ y = true from by simp [Region.wanted, hyb 3 _ _ _ rfl rfl (hn 3 _ _ rfl (by kernel_rfl) rfl)])]
              have f0 : ρ (.tmp 0) = .slice (some ⟨G, 0, none⟩) n c := hf 0 (by kernel_rfl)
              exact ⟨f0, Below.refl _ _⟩
            · cases ho
              rw [if_pos (show Region.wanted _ y = true from by simp [Region.wanted, hyb 3 _ _ _ rfl rfl (hn 3 _ _ rfl (by kernel_rfl) rfl)])]
              have f9 : ρ (.tmp 9) = .int .i64 (j : Nat) := hf 9 (by kernel_rfl)
              exact ⟨f9, Below.refl _ _⟩
            · cases ho
              rw [if_pos (show Region.wanted _ y = true from by simp [Region.wanted, hyb 3 _ _ _ rfl rfl (hn 3 _ _ rfl (by kernel_rfl) rfl)])]
              have f28 : ρ (.tmp 28) = .int .i64 (j : Nat) := hn 10 _ 28 rfl (by kernel_rfl) rfl
              exact does_ok (v := .int .i64 (pi : Nat)) (w' := w2) (by simp [go_sem, hreg.const, f28, hji, hwi]) ⟨rfl, Below.refl _ _⟩
            · cases ho
              rw [if_pos (show Region.wanted _ y = true from by simp [Region.wanted, hyb 3 _ _ _ rfl rfl (hn 3 _ _ rfl (by kernel_rfl) rfl)])]
              have f27 : ρ (.tmp 27) = .slice (some ⟨G, 0, none⟩) n c := hn 9 _ 27 rfl (by kernel_rfl) rfl
              have f29 : ρ (.tmp 29) = .int .i64 (pi : Nat) := hn 11 _ 29 rfl (by kernel_rfl) rfl
              exact does_ok (v := .pointer (some ⟨G, pi, none⟩)) (w' := w2) (by simp [go_sem, hreg.const, f27, f29, hp1, hp2, add_lit0]) ⟨rfl, Below.refl _ _⟩
            · cases ho
              rw [if_pos (show Region.wanted _ y = true from by simp [Region.wanted, hyb 3 _ _ _ rfl rfl (hn 3 _ _ rfl (by kernel_rfl) rfl)])]
              have f30 : ρ (.tmp 30) = .pointer (some ⟨G, pi, none⟩) := hn 12 _ 30 rfl (by kernel_rfl) rfl
              have k0 := cell_keep hb2 X0.out
              exact does_ok (v := encUV ux) (w' := w2) (by simp [go_sem, hreg.const, f30, k0]) ⟨rfl, Below.refl _ _⟩
            · cases ho
              rw [if_pos (show Region.wanted _ y = true from by simp [Region.wanted, hyb 3 _ _ _ rfl rfl (hn 3 _ _ rfl (by kernel_rfl) rfl)])]
              have f22 : ρ (.tmp 22) = .func (.func 50) #[] #[] := hn 4 _ 22 rfl (by kernel_rfl) rfl
              have f26 : ρ (.tmp 26) = encUV uy := hn 8 _ 26 rfl (by kernel_rfl) rfl
              have f31 : ρ (.tmp 31) = encUV ux := hn 13 _ 31 rfl (by kernel_rfl) rfl
              refine does_enter (f := 50) (args := #[encUV uy, encUV ux]) (w' := w2) (by simp [go_sem, hreg.func, hreg.const, f22, f26, f31]) ?_
              refine (cmpLen_any uy ux w2 hyx.1 hyx.2).mono ?_
              rintro e w' ⟨rfl, rfl⟩
              exact ⟨_, rfl, rfl, Below.refl _ _⟩
            · cases ho
              rw [if_pos (show Region.wanted _ y = true from by simp [Region.wanted, hyb 3 _ _ _ rfl rfl (hn 3 _ _ rfl (by kernel_rfl) rfl)])]
              have f32 : ρ (.tmp 32) = .int .i64 ((uy.n : Int) - (ux.n : Int)) := hn 14 _ 32 rfl (by kernel_rfl) rfl
              exact does_ok (v := .bool (decide ((uy.n : Int) - (ux.n : Int) < 0))) (w' := w2) (by simp [go_sem, hreg.const, f32]) ⟨rfl, Below.refl _ _⟩
            · cases ho
              rw [if_pos (show Region.wanted _ y = true from rfl)]
              have f21 : ρ (.tmp 21) = .bool true := hn 3 _ 21 rfl (by kernel_rfl) rfl
              have f33 : ρ (.tmp 33) = .bool (decide ((uy.n : Int) - (ux.n : Int) < 0)) := hn 15 _ 33 rfl (by kernel_rfl) rfl
              exact does_ok (v := .bool (decide ((uy.n : Int) - (ux.n : Int) < 0))) (w' := w2) (by simp [go_sem, hreg.const, f21, f33]) ⟨rfl, Below.refl _ _⟩
          case refine_2 =>
            intro a w2 hb2 hd hs hfacts hrest
            have q34 : a.tmps.getD 34 undef = .bool (decide ((uy.n : Int) - (ux.n : Int) < 0)) := hfacts 16 _ 34 rfl rfl
            have ha := frame_of hd hs hrest [18, 19, 20, 21, 22, 23, 24, 25, 26, 27, 28, 29, 30, 31, 32, 33, 34] (by kernel_rfl)
            simp only [q34, List.foldl, List.setIfInBounds_toArray, List.set_cons_succ, List.set_cons_zero] at ha
            clear q34 hd hs hfacts hrest
            generalize a.tmps.getD = gg at ha
            subst ha
            have X0 := Lib.hid (cell_keep hb2 X0.out)
            have Y0 := Lib.hid (cell_keep hb2 Y0.out)
            have HP : Hid (ls'.Perm ls ∧ OwnL encUV 38 w2 w0.heap.size (.slice (some ⟨G, 0, none⟩) n c) ls' ∧ Below w0.heap.size w0 w2) := Lib.hid ⟨HP.out.1, HP.out.2.1.below hb2, Below.thn HP.out.2.2 hb2⟩
            have hq : (decide ((uy.n : Int) - (ux.n : Int) < 0)) = decide (uy.n < ux.n) := decide_eq_decide.2 (by omega)
            rw [hq]
            clear hb2 hq XF YF
            by_cases hc : uy.n < ux.n
            · rw [decide_eq_true hc]
              obtain ⟨hli, x0, xf⟩ := insI_at HP.out.2.1 hp2
              obtain ⟨hlj, y0, yf⟩ := insI_at HP.out.2.1 hj2
              clear x0 y0
              go_wp2_with fail
              have kF : w2.drew.frozen? ⟨G, j, none⟩ = false := yf
              obtain ⟨W1, hW1⟩ : ∃ W1, W1 = w2.drew.setCell ⟨G, j, none⟩ (encUV ux) := ⟨_, rfl⟩
              obtain ⟨W2, hW2⟩ : ∃ W2, W2 = W1.setCell ⟨G, pi, none⟩ (encUV uy) := ⟨_, rfl⟩
              have hij : pi ≠ j := by have := HIE.out; omega
              have o1 : OwnL encUV 38 W1 w0.heap.size (.slice (some ⟨G, 0, none⟩) n c) (ls'.set j ux) := by rw [hW1]; exact own_set (HP.out.2.1.below (Below.drew (Below.refl _ _))) j ux
              obtain ⟨hl1, kX1, kF1⟩ := insI_at o1 hp2
              have o2 : OwnL encUV 38 W2 w0.heap.size (.slice (some ⟨G, 0, none⟩) n c) ((ls'.set j ux).set pi uy) := by rw [hW2]; exact own_set o1 pi uy
              have HN : Hid (InsI w0 G n c ls W2) := Lib.hid (by
                refine ⟨_, ?_, o2, ?_⟩
                · obtain ⟨h1, e1⟩ := HX.out
                  obtain ⟨h2, e2⟩ := HY.out
                  rw [e1, e2]
                  exact (List.set_set_perm h2 h1).trans HP.out.1
                · rw [hW2, hW1]
                  have hG := (ho_base HP.out.2.1 (by omega))
                  exact ((HP.out.2.2.trans ((Below.drew (Below.refl _ _)).mono HP.out.2.2.size)).setCell (p := ⟨G, j, none⟩) hG _).setCell (p := ⟨G, pi, none⟩) hG _)
              clear o1 o2 hc xf yf hli hlj
              refine wp_region_flowJ (by kernel_rfl) (I6 G n c k j pi ux uy) (fun _ _ => True) (fun S wq => Sw3 w2.drew W1 W2 S wq) (I6.keep G n c k j pi ux uy) ?_ (by kernel_rfl) (by kernel_rfl) ?_ ?_
              case refine_1 => exact ⟨fun _ => rfl, fun h => h.elim, fun h => h.elim⟩
              case refine_2 =>
                intro i o ho ρ y w2 S hJ hnS hneeds hcl hreg hn hf hyb hyn
                have hi := (Array.getElem?_eq_some_iff.1 ho).1
                rcases Nat.lt_or_ge i 18 with hi2 | hi2
                case inr => simp at hi; omega
                obtain rfl | rfl | rfl | rfl | rfl | rfl | rfl | rfl | rfl | rfl | rfl | rfl | rfl | rfl | rfl | rfl | rfl | rfl : i = 0 ∨ i = 1 ∨ i = 2 ∨ i = 3 ∨ i = 4 ∨ i = 5 ∨ i = 6 ∨ i = 7 ∨ i = 8 ∨ i = 9 ∨ i = 10 ∨ i = 11 ∨ i = 12 ∨ i = 13 ∨ i = 14 ∨ i = 15 ∨ i = 16 ∨ i = 17 := by omega
                · cases ho
                  rw [if_pos (show Region.wanted _ y = true from rfl)]
                  have f0 : ρ (.tmp 0) = .slice (some ⟨G, 0, none⟩) n c := hf 0 (by kernel_rfl)
                  exact ⟨f0, trivial, hJ.next (by decide) (by decide)⟩
                · cases ho
                  rw [if_pos (show Region.wanted _ y = true from rfl)]
                  have f9 : ρ (.tmp 9) = .int .i64 (j : Nat) := hf 9 (by kernel_rfl)
                  exact ⟨f9, trivial, hJ.next (by decide) (by decide)⟩
                · cases ho
                  rw [if_pos (show Region.wanted _ y = true from rfl)]
                  have f0 : ρ (.tmp 0) = .slice (some ⟨G, 0, none⟩) n c := hf 0 (by kernel_rfl)
                  exact ⟨f0, trivial, hJ.next (by decide) (by decide)⟩
                · cases ho
                  rw [if_pos (show Region.wanted _ y = true from rfl)]
                  have f9 : ρ (.tmp 9) = .int .i64 (j : Nat) := hf 9 (by kernel_rfl)
                  exact ⟨f9, trivial, hJ.next (by decide) (by decide)⟩
                · cases ho
                  rw [if_pos (show Region.wanted _ y = true from rfl)]
                  have f40 : ρ (.tmp 40) = .int .i64 (j : Nat) := hn 3 _ 40 rfl (by kernel_rfl) rfl
                  exact does_ok (v := .int .i64 (pi : Nat)) (w' := w2) (by simp [go_sem, hreg.const, f40, hji, hwi]) ⟨rfl, trivial, hJ.next (by decide) (by decide)⟩
                · cases ho
                  rw [if_pos (show Region.wanted _ y = true from rfl)]
                  have f0 : ρ (.tmp 0) = .slice (some ⟨G, 0, none⟩) n c := hf 0 (by kernel_rfl)
                  exact ⟨f0, trivial, hJ.next (by decide) (by decide)⟩
                · cases ho
                  rw [if_pos (show Region.wanted _ y = true from rfl)]
                  have f9 : ρ (.tmp 9) = .int .i64 (j : Nat) := hf 9 (by kernel_rfl)
                  exact ⟨f9, trivial, hJ.next (by decide) (by decide)⟩
                · cases ho
                  rw [if_pos (show Region.wanted _ y = true from rfl)]
                  have f43 : ρ (.tmp 43) = .int .i64 (j : Nat) := hn 6 _ 43 rfl (by kernel_rfl) rfl
                  exact does_ok (v := .int .i64 (pi : Nat)) (w' := w2) (by simp [go_sem, hreg.const, f43, hji, hwi]) ⟨rfl, trivial, hJ.next (by decide) (by decide)⟩
                · cases ho
                  rw [if_pos (show Region.wanted _ y = true from rfl)]
                  have f42 : ρ (.tmp 42) = .slice (some ⟨G, 0, none⟩) n c := hn 5 _ 42 rfl (by kernel_rfl) rfl
                  have f44 : ρ (.tmp 44) = .int .i64 (pi : Nat) := hn 7 _ 44 rfl (by kernel_rfl) rfl
                  exact does_ok (v := .pointer (some ⟨G, pi, none⟩)) (w' := w2) (by simp [go_sem, hreg.const, f42, f44, hp1, hp2, add_lit0]) ⟨rfl, trivial, hJ.next (by decide) (by decide)⟩
                · cases ho
                  rw [if_pos (show Region.wanted _ y = true from rfl)]
                  have f45 : ρ (.tmp 45) = .pointer (some ⟨G, pi, none⟩) := hn 8 _ 45 rfl (by kernel_rfl) rfl
                  have hn15 : ¬ S 15 := fun h => hnS (hcl 15 _ rfl h 9 (by kernel_rfl))
                  have k0 : w2.cell? ⟨G, pi, none⟩ = some (encUV ux) := by rw [hJ.z hn15]; exact X0.out
                  exact does_ok (v := encUV ux) (w' := w2) (by simp [go_sem, hreg.const, f45, k0]) ⟨rfl, trivial, hJ.next (by decide) (by decide)⟩
                · cases ho
                  rw [if_pos (show Region.wanted _ y = true from rfl)]
                  have f0 : ρ (.tmp 0) = .slice (some ⟨G, 0, none⟩) n c := hf 0 (by kernel_rfl)
                  exact ⟨f0, trivial, hJ.next (by decide) (by decide)⟩
                · cases ho
                  rw [if_pos (show Region.wanted _ y = true from rfl)]
                  have f9 : ρ (.tmp 9) = .int .i64 (j : Nat) := hf 9 (by kernel_rfl)
                  exact ⟨f9, trivial, hJ.next (by decide) (by decide)⟩
                · cases ho
                  rw [if_pos (show Region.wanted _ y = true from rfl)]
                  have f47 : ρ (.tmp 47) = .slice (some ⟨G, 0, none⟩) n c := hn 10 _ 47 rfl (by kernel_rfl) rfl
                  have f48 : ρ (.tmp 48) = .int .i64 (j : Nat) := hn 11 _ 48 rfl (by kernel_rfl) rfl
                  exact does_ok (v := .pointer (some ⟨G, j, none⟩)) (w' := w2) (by simp [go_sem, hreg.const, f47, f48, hj1, hj2, add_lit0]) ⟨rfl, trivial, hJ.next (by decide) (by decide)⟩
                · cases ho
                  rw [if_pos (show Region.wanted _ y = true from rfl)]
                  have f49 : ρ (.tmp 49) = .pointer (some ⟨G, j, none⟩) := hn 12 _ 49 rfl (by kernel_rfl) rfl
                  have hn15 : ¬ S 15 := fun h => hnS (hcl 15 _ rfl h 13 (by kernel_rfl))
                  have k0 : w2.cell? ⟨G, j, none⟩ = some (encUV uy) := by rw [hJ.z hn15]; exact Y0.out
                  exact does_ok (v := encUV uy) (w' := w2) (by simp [go_sem, hreg.const, f49, k0]) ⟨rfl, trivial, hJ.next (by decide) (by decide)⟩
                · cases ho
                  rw [if_pos (show Region.wanted _ y = true from rfl)]
                  have f37 : ρ (.tmp 37) = .slice (some ⟨G, 0, none⟩) n c := hn 0 _ 37 rfl (by kernel_rfl) rfl
                  have f38 : ρ (.tmp 38) = .int .i64 (j : Nat) := hn 1 _ 38 rfl (by kernel_rfl) rfl
                  exact does_ok (v := .pointer (some ⟨G, j, none⟩)) (w' := w2) (by simp [go_sem, hreg.const, f37, f38, hj1, hj2, add_lit0]) ⟨rfl, trivial, hJ.next (by decide) (by decide)⟩
                · cases ho
                  rw [if_pos (show Region.wanted _ y = true from rfl)]
                  have f46 : ρ (.tmp 46) = encUV ux := hn 9 _ 46 rfl (by kernel_rfl) rfl
                  have f51 : ρ (.tmp 51) = .pointer (some ⟨G, j, none⟩) := hn 14 _ 51 rfl (by kernel_rfl) rfl
                  have hn17 : ¬ S 17 := fun h => hnS (hcl 17 _ rfl h 15 (by kernel_rfl))
                  obtain rfl := hJ.z hnS
                  exact does_skip (w' := W1) (by rw [hW1]; simp [go_sem, hreg.const, f51, f46, kF, Y0.out]) ⟨rfl, trivial, hJ.st1 hn17⟩
                · cases ho
                  rw [if_pos (show Region.wanted _ y = true from rfl)]
                  have f39 : ρ (.tmp 39) = .slice (some ⟨G, 0, none⟩) n c := hn 2 _ 39 rfl (by kernel_rfl) rfl
                  have f41 : ρ (.tmp 41) = .int .i64 (pi : Nat) := hn 4 _ 41 rfl (by kernel_rfl) rfl
                  exact does_ok (v := .pointer (some ⟨G, pi, none⟩)) (w' := w2) (by simp [go_sem, hreg.const, f39, f41, hp1, hp2, add_lit0]) ⟨rfl, trivial, hJ.next (by decide) (by decide)⟩
                · cases ho
                  rw [if_pos (show Region.wanted _ y = true from rfl)]
                  have f50 : ρ (.tmp 50) = encUV uy := hn 13 _ 50 rfl (by kernel_rfl) rfl
                  have f52 : ρ (.tmp 52) = .pointer (some ⟨G, pi, none⟩) := hn 16 _ 52 rfl (by kernel_rfl) rfl
                  have h15 : S 15 := hneeds 15 (by kernel_rfl)
                  obtain rfl := (hJ.a h15 hnS).symm
                  exact does_skip (w' := W2) (by rw [hW2]; simp [go_sem, hreg.const, f52, f50, kF1, kX1]) ⟨rfl, trivial, hJ.st2 h15⟩
              case refine_3 =>
                intro a wz S hJ hall hd3 hs hfacts hrest
                have q41 : a.tmps.getD 41 undef = .int .i64 (pi : Nat) := hfacts 4 _ 41 rfl rfl
                have ha := frame_of hd3 hs hrest [37, 38, 39, 40, 41, 42, 43, 44, 45, 46, 47, 48, 49, 50, 51, 52] (by kernel_rfl)
                simp only [q41, List.foldl, List.setIfInBounds_toArray, List.set_cons_succ, List.set_cons_zero] at ha
                clear q41 hd3 hs hfacts hrest
                generalize a.tmps.getD = gg at ha
                subst ha
                obtain rfl := hJ.b (hall 17 (by decide))
                clear hJ hall kX1 hl1 kF1 kF hW1 hW2
                go_wp2
                exact ⟨⟨pi, by go_num, by have := HIE.out; omega, HN⟩, by have := HIE.out; simp [intOf]; try omega⟩
            · rw [decide_eq_false hc]
              have HN : Hid (InsI w0 G n c ls w2) := Lib.hid ⟨_, HP.out.1, HP.out.2.1, HP.out.2.2⟩
              clear hc
              go_wp2
              exact ⟨⟨k + 1, by go_num, by omega, HN⟩, by simp [intOf]; try omega⟩
        · have HJ2 := Lib.hid HJ.out
          have hq : decide ((0 : Int) < (j : Int)) = false := decide_eq_false hj0
          have hjz : ¬ 0 < j := by omega
          go_upto_region 4 with fail
          go_quiet (fail)
          go_wp2
          exact ⟨⟨k + 1, by go_num, by omega, Lib.hid (insI_below HJ2.out (below_drewN (Below.refl _ wr) _))⟩, by simp [intOf]; try omega⟩
    · go_wp2
      exact ⟨rfl, .tuple #[], by simp [results, Try.results82, go_sem], rfl, HI1.out⟩
set_option maxRecDepth 100000 in
set_option maxHeartbeats 2000000 in
theorem stable_any (w0 : World) (G n c : Nat) (ls : List UV) (w : World) (ho : OwnL encUV 38 w w0.heap.size (.slice (some ⟨G, 0, none⟩) n c) ls) (hb : Below w0.heap.size w0 w) (hmx : ∀ x ∈ ls, x.n ≤ 9223372036854775807) (hn : n ≤ 19) :
    Calls Try.prog 71 #[.slice (some ⟨G, 0, none⟩) n c, .int .i64 (n : Nat), .func (.func 50) #[] #[]] w fun e w' => e = .returned (.tuple #[]) ∧ InsI w0 G n c ls w' := by
  have C := Lib.hid (insSort_any w0 G n c ls w ho hb hmx (by omega))
  clear ho hb hmx
  go_enter Try.func71, Try.ntmps71
  go_wp2_with fail
  go_loopw [7, 8] (fun y z wr => y = .int .i64 0 ∧ z = .int .i64 20 ∧ w = wr) (fun _ _ _ => 0)
  case atStart => exact ⟨rfl, rfl, rfl⟩
  case round =>
    obtain ⟨rfl, rfl, rfl⟩ := hrel
    go_wp2_with fail
    refine C.out.mono ?_
    rintro e w1 ⟨rfl, hI⟩
    have HI := Lib.hid hI
    clear hI C
    go_wp2_with fail
    go_loopw [6, 7, 8, 9] (fun x y z u wr => x = .int .i64 20 ∧ Hid (InsI w0 G n c ls wr)) (fun _ _ _ _ _ => 0)
    case atStart => exact ⟨rfl, HI⟩
    case round =>
      obtain ⟨rfl, HI1⟩ := hrel
      go_wp2
      exact ⟨rfl, .tuple #[], by simp [results, Try.results71, go_sem], rfl, HI1.out⟩
set_option maxRecDepth 100000 in
set_option maxHeartbeats 1000000 in
theorem sortStable_any (w0 : World) (G n c : Nat) (ls : List UV) (w : World) (ho : OwnL encUV 38 w w0.heap.size (.slice (some ⟨G, 0, none⟩) n c) ls) (hb : Below w0.heap.size w0 w) (hmx : ∀ x ∈ ls, x.n ≤ 9223372036854775807) (hn : n ≤ 19) :
    Calls Try.prog 49 #[.slice (some ⟨G, 0, none⟩) n c, .func (.func 50) #[] #[]] w fun e w' => e = .returned (.tuple #[]) ∧ InsI w0 G n c ls w' := by
  have C := Lib.hid (stable_any w0 G n c ls w ho hb hmx hn)
  clear ho hb hmx
  go_enter Try.func49, Try.ntmps49
  go_wp2_with fail
  refine C.out.mono ?_
  rintro e w1 ⟨rfl, hI⟩
  have HI := Lib.hid hI
  clear hI C
  go_wp2
  exact ⟨rfl, .tuple #[], by simp [results, Try.results49, go_sem], rfl, HI.out⟩
end Go.Proofs.Ytaaddckhldccjaa
