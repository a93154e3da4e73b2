/- The walk of the law CrcLinear. -/
import Derived.Test.YtkciljeojifofaaDoorWalkD
import Derived.Test.YtkciljeojifofaaDoorReg
import Derived.Deep.OwnRows
namespace Go.Proofs.YtkciljeojifofaaDoor
open Go.RowKit Crc
set_option linter.unusedVariables false
set_option linter.unusedSimpArgs false

theorem ofInt8 (a : Nat) (ha : a < 256) : (BitVec.ofInt 8 (a : Int)).toNat = a := by
  rw [BitVec.ofInt_natCast, BitVec.toNat_ofNat]; exact Nat.mod_eq_of_lt (by omega)
theorem u8_xor (a b : Nat) (ha : a < 256) (hb : b < 256) : bits .xor .u8 (a : Int) (b : Int) = ((a ^^^ b : Nat) : Int) := by
  have hx : a ^^^ b < 2 ^ 8 := Nat.xor_lt_two_pow (by omega) (by omega)
  show IntKind.u8.wrap ((BitVec.ofInt 8 (a : Int) ^^^ BitVec.ofInt 8 (b : Int)).toNat : Int) = _
  rw [BitVec.toNat_xor, ofInt8 a ha, ofInt8 b hb, IntKind.wrap_u8]
  omega
/-- What has been written into the new row after k rounds. -/
def mix (l1 l2 : List Nat) (k j : Nat) : Nat := if j < k then l1.getD j 0 ^^^ l2.getD j 0 else 0
structure StepInv (g r : Nat) (l1 l2 : List Nat) (k : Nat) (w1 wr : World) : Prop where
  below : Below g w1 wr
  lt : g < wr.heap.size
  cells : ∀ j, j < r → wr.cell? ⟨g, j, none⟩ = some (.int .u8 (mix l1 l2 k j : Nat))
  froz : ∀ j, j < r → wr.frozen? ⟨g, j, none⟩ = false
theorem StepInv.start (w1 : World) (g r : Nat) (l1 l2 : List Nat) (hg : g = w1.heap.size) : StepInv g r l1 l2 0 w1 (w1.alloc (.cells (madeCells #[.int .u8 0] r) 5)) := by
  subst hg
  refine ⟨(Below.refl _ _).alloc (Nat.le_refl _) _, by simp, fun j hj => ?_, fun j hj => ?_⟩
  · rw [World.cell?_alloc_mark]
    simp [madeCells, hj, mix, Nat.mod_one]
  · unfold World.frozen?
    rw [heap_alloc_new]
    simp
theorem StepInv.drew {g r : Nat} {l1 l2 : List Nat} {k : Nat} {w1 wr : World} (h : StepInv g r l1 l2 k w1 wr) : StepInv g r l1 l2 k w1 wr.drew := ⟨h.below.drew, h.lt, h.cells, h.froz⟩
theorem StepInv.next {g r : Nat} {l1 l2 : List Nat} {k : Nat} {w1 wr : World} (h : StepInv g r l1 l2 k w1 wr) (hk : k < r) :
    StepInv g r l1 l2 (k + 1) w1 (wr.setCell ⟨g, k, none⟩ (.int .u8 (l1.getD k 0 ^^^ l2.getD k 0 : Nat))) := by
  refine ⟨h.below.setCell (Nat.le_refl _) _, by simpa [World.setCell] using h.lt, fun j hj => ?_, fun j hj => ?_⟩
  · by_cases e : j = k
    · subst e
      rw [World.cell?_setCell_same' _ _ _ (by rw [h.cells j hj]; rfl)]
      simp [mix]
    · rw [World.cell?_setCell_other _ _ _ _ (by intro e'; injection e' with _ e'; exact e e'.symm), h.cells j hj]
      have : (j < k + 1) = (j < k) := by simp; omega
      simp [mix, this]
  · rw [World.frozen?_setCell]; exact h.froz j hj

theorem RdB.zeros (w : World) (r : Nat) (h : r ≤ 9223372036854775807) : RdB (w.alloc (.cells (madeCells #[.int .u8 0] r) 5)) (some ⟨w.heap.size, 0, none⟩) r (List.replicate r 0) :=
  ⟨by simp, h, by intro c hc; rw [(List.mem_replicate.1 hc).2]; decide, fun _ => ⟨_, rfl, fun j hj => by
    rw [Addr.add_lit, Nat.zero_add, World.cell?_alloc_mark]
    simp [madeCells, hj, Nat.mod_one, List.getD_eq_getElem?_getD]⟩⟩
theorem RdB.take {w : World} {A : Option Addr} {n : Nat} {l : List Nat} (h : RdB w A n l) (r : Nat) (hr : r ≤ n) : RdB w A r (l.take r) :=
  ⟨by rw [List.length_take, h.1]; omega, by have := h.2.1; omega, fun c hc => h.2.2.1 c (List.mem_of_mem_take hc), fun h0 => by
    obtain ⟨ad, e, hcl⟩ := h.2.2.2 (by omega)
    exact ⟨ad, e, fun j hj => by rw [hcl j (by omega)]; simp [List.getD_eq_getElem?_getD, hj]⟩⟩
/-- Both, turned over into one another. -/
def mixL (l1 l2 : List Nat) (r : Nat) : List Nat := List.zipWith (· ^^^ ·) (l1.take r) (l2.take r)
theorem mixL_length {l1 l2 : List Nat} {r : Nat} (h1 : r ≤ l1.length) (h2 : r ≤ l2.length) : (mixL l1 l2 r).length = r := by simp [mixL]; omega
theorem mixL_get {l1 l2 : List Nat} {r j : Nat} (h1 : r ≤ l1.length) (h2 : r ≤ l2.length) (hj : j < r) : (mixL l1 l2 r).getD j 0 = l1.getD j 0 ^^^ l2.getD j 0 := by
  simp [mixL, List.getD_eq_getElem?_getD, List.getElem?_zipWith, hj, List.getElem?_eq_getElem (show j < l1.length by omega), List.getElem?_eq_getElem (show j < l2.length by omega)]
theorem mixL_bytes {l1 l2 : List Nat} {r : Nat} (h1 : ∀ c ∈ l1, c < 256) (h2 : ∀ c ∈ l2, c < 256) : ∀ c ∈ mixL l1 l2 r, c < 256 := by
  intro c hc
  obtain ⟨i, hi, rfl⟩ := List.getElem_of_mem hc
  simp only [mixL, List.getElem_zipWith]
  exact Nat.xor_lt_two_pow (n := 8) (h1 _ (List.mem_of_mem_take (List.getElem_mem _))) (h2 _ (List.mem_of_mem_take (List.getElem_mem _)))
theorem StepInv.reads {g r : Nat} {l1 l2 : List Nat} {w1 wr : World} (h : StepInv g r l1 l2 r w1 wr) (h1 : r ≤ l1.length) (h2 : r ≤ l2.length) (b1 : ∀ c ∈ l1, c < 256) (b2 : ∀ c ∈ l2, c < 256) (hr : r ≤ 9223372036854775807) :
    RdB wr (some ⟨g, 0, none⟩) r (mixL l1 l2 r) :=
  ⟨mixL_length h1 h2, hr, mixL_bytes b1 b2, fun _ => ⟨_, rfl, fun j hj => by
    rw [Addr.add_lit, Nat.zero_add, h.cells j hj, mixL_get h1 h2 hj]
    simp [mix, hj]⟩⟩
/-- The law, plainly. -/
theorem xor4 (x y z o : Nat) : ((x ^^^ o) ^^^ (y ^^^ o)) ^^^ (z ^^^ o) = (x ^^^ y ^^^ z) ^^^ o := by
  apply Nat.eq_of_testBit_eq
  intro i
  simp only [Nat.testBit_xor]
  cases x.testBit i <;> cases y.testBit i <;> cases z.testBit i <;> cases o.testBit i <;> rfl
theorem linear_math {l1 l2 : List Nat} {r : Nat} (h1 : r ≤ l1.length) (h2 : r ≤ l2.length) :
    crcAdd 0 (l1.take r) ^^^ crcAdd 0 (l2.take r) ^^^ crcAdd 0 (List.replicate r 0) = crcAdd 0 (mixL l1 l2 r) := by
  have e1 : (l1.take r).length = r := by simp; omega
  have e2 : (l2.take r).length = r := by simp; omega
  unfold crcAdd
  simp only [Nat.zero_xor]
  rw [xor4]
  congr 1
  rw [← goL_xor (l1.take r) (l2.take r) _ _ (by omega), ← goL_xor _ (List.replicate r 0) _ _ (by simp; omega)]
  have e3 : List.zipWith (· ^^^ ·) (List.zipWith (· ^^^ ·) (l1.take r) (l2.take r)) (List.replicate r 0) = mixL l1 l2 r := by
    apply List.ext_getElem
    · simp [mixL]
    · intro i h3 h4
      simp [mixL]
  rw [e3]
  congr 1
def LinF (A B : Option Addr) (n c m c' g r : Nat) (l1 l2 : List Nat) : Nat → Value → World → Prop
  | 0 => fun v w => v = .slice (some ⟨g, 0, none⟩) r r
  | 1 => fun v w => ∃ (B1 : Addr), v = .slice (some B1) 1 1 ∧ RdBB w (some B1) 1 [mixL l1 l2 r]
  | 2 => fun v w => v = .int .u32 (crcAdd 0 (mixL l1 l2 r) : Nat)
  | 3 => fun v w => v = .slice A n c
  | 4 => fun v w => v = .int .i64 (r : Int)
  | 5 => fun v w => v = .slice A r c
  | 6 => fun v w => ∃ (B1 : Addr), v = .slice (some B1) 1 1 ∧ RdBB w (some B1) 1 [l1.take r]
  | 7 => fun v w => v = .int .u32 (crcAdd 0 (l1.take r) : Nat)
  | 8 => fun v w => v = .slice B m c'
  | 9 => fun v w => v = .int .i64 (r : Int)
  | 10 => fun v w => v = .slice B r c'
  | 11 => fun v w => ∃ (B1 : Addr), v = .slice (some B1) 1 1 ∧ RdBB w (some B1) 1 [l2.take r]
  | 12 => fun v w => v = .int .u32 (crcAdd 0 (l2.take r) : Nat)
  | 13 => fun v w => v = .int .u32 (crcAdd 0 (l1.take r) ^^^ crcAdd 0 (l2.take r) : Nat)
  | 14 => fun v w => v = .int .i64 (r : Int)
  | 15 => fun v w => ∃ (B1 : Addr), v = .slice (some B1) r r ∧ RdB w (some B1) r (List.replicate r 0)
  | 16 => fun v w => ∃ (B1 : Addr), v = .slice (some B1) 1 1 ∧ RdBB w (some B1) 1 [List.replicate r 0]
  | 17 => fun v w => v = .int .u32 (crcAdd 0 (List.replicate r 0) : Nat)
  | 18 => fun v w => v = .int .u32 (crcAdd 0 (mixL l1 l2 r) : Nat)
  | 19 => fun v w => v = .bool true
  | 20 => fun v w => v = .bool true
  | _ => fun _ _ => True
theorem LinF.below (A B : Option Addr) (n c m c' g r : Nat) (l1 l2 : List Nat) : ∀ i v w w', Below w.heap.size w w' → LinF A B n c m c' g r l1 l2 i v w → LinF A B n c m c' g r l1 l2 i v w'
  | 0, _, _, _, _, h => h
  | 1, _, _, _, hb, h => by
    obtain ⟨B1, e, g⟩ := h
    exact ⟨B1, e, g.below hb⟩
  | 2, _, _, _, _, h => h
  | 3, _, _, _, _, h => h
  | 4, _, _, _, _, h => h
  | 5, _, _, _, _, h => h
  | 6, _, _, _, hb, h => by
    obtain ⟨B1, e, g⟩ := h
    exact ⟨B1, e, g.below hb⟩
  | 7, _, _, _, _, h => h
  | 8, _, _, _, _, h => h
  | 9, _, _, _, _, h => h
  | 10, _, _, _, _, h => h
  | 11, _, _, _, hb, h => by
    obtain ⟨B1, e, g⟩ := h
    exact ⟨B1, e, g.below hb⟩
  | 12, _, _, _, _, h => h
  | 13, _, _, _, _, h => h
  | 14, _, _, _, _, h => h
  | 15, _, _, _, hb, h => by
    obtain ⟨B1, e, g⟩ := h
    exact ⟨B1, e, g.below hb⟩
  | 16, _, _, _, hb, h => by
    obtain ⟨B1, e, g⟩ := h
    exact ⟨B1, e, g.below hb⟩
  | 17, _, _, _, _, h => h
  | 18, _, _, _, _, h => h
  | 19, _, _, _, _, h => h
  | 20, _, _, _, _, h => h
  | _ + 21, _, _, _, _, _ => trivial

set_option maxRecDepth 100000 in
set_option maxHeartbeats 1000000 in
theorem linear_any (A B : Option Addr) (n c m c' : Nat) (l1 l2 : List Nat) (w : World) (hT : Tab w) (h1 : RdB w A n l1) (h2 : RdB w B m l2) (hc1 : n ≤ c) (hc2 : m ≤ c') :
    Calls Tryd.prog 4 #[.slice A n c, .slice B m c'] w fun e w' => e = .returned (.bool true) ∧ Below w.heap.size w w' := by
  have hn1 := h1.2.1
  have hm1 := h2.2.1
  have HT := Lib.hid hT
  have H1 := Lib.hid h1
  have H2 := Lib.hid h2
  clear hT h1 h2
  by_cases hn : (3000 : Int) < (n : Int)
  · go_enter Tryd.func4, Tryd.ntmps4
    go_wp2_with fail
    refine (live_any w HT.out).mono ?_
    rintro e w1 ⟨rfl, hb1⟩
    have HB1 := Lib.hid hb1
    clear hb1
    go_wp2_with fail
    refine (live_any w1 (HT.out.below HB1.out)).mono ?_
    rintro e w2 ⟨rfl, hb2⟩
    have HB2 := Lib.hid hb2
    clear hb2
    go_wp2
    go_ret
    exact ⟨rfl, Below.then HB1.out HB2.out⟩
  · by_cases hm : (3000 : Int) < (m : Int)
    · go_enter Tryd.func4, Tryd.ntmps4
      go_wp2_with fail
      refine (live_any w HT.out).mono ?_
      rintro e w1 ⟨rfl, hb1⟩
      have HB1 := Lib.hid hb1
      clear hb1
      go_wp2_with fail
      refine (live_any w1 (HT.out.below HB1.out)).mono ?_
      rintro e w2 ⟨rfl, hb2⟩
      have HB2 := Lib.hid hb2
      clear hb2
      go_wp2
      go_ret
      exact ⟨rfl, Below.then HB1.out HB2.out⟩
    · obtain ⟨r, hr⟩ : ∃ r : Nat, r = min n m := ⟨_, rfl⟩
      have hr1 : r ≤ n := by omega
      have hr2 : r ≤ m := by omega
      have hmin : (if m < n then (m : Int) else (n : Int)) = (r : Int) := by split <;> omega
      clear hr
      go_enter Tryd.func4, Tryd.ntmps4
      go_wp2_with fail
      refine (live_any w HT.out).mono ?_
      rintro e w1 ⟨rfl, hb1⟩
      have HB1 := Lib.hid hb1
      clear hb1
      have hmk := fun W => run_make_row' (P := Tryd.prog) 31 5 (.int .u8 0) 1 Tryd.underlying31 (by kernel_rfl) rfl .i64 .i64 r (by omega) (by omega) W
      go_wp2
      clear hmin hmk
      have hBA := Below.refl w1.heap.size w1
      obtain ⟨g, hg⟩ : ∃ g, g = w1.heap.size := ⟨_, rfl⟩
      have HG := Lib.hid hg
      rw [← hg]
      have hst : StepInv g r l1 l2 0 w1 (w1.alloc (.cells (madeCells #[.int .u8 0] r) 5)) := StepInv.start w1 g r l1 l2 hg
      clear hBA hg
      generalize w1.alloc (.cells (madeCells #[.int .u8 0] r) 5) = W0 at *
      have HST := Lib.hid hst
      clear hst
      go_loopw [30] (fun i wr => ∃ k : Nat, k ≤ r ∧ i = .int .i64 k ∧ StepInv g r l1 l2 k w1 wr) (fun i _ => r - (intOf i).toNat)
      case atStart => exact ⟨0, Nat.zero_le _, rfl, HST.out⟩
      case round =>
        obtain ⟨k, hk, rfl, hI⟩ := hrel
        by_cases hlt : k < r
        · obtain ⟨adA, rfl, hcA⟩ := H1.out.2.2.2 (by omega)
          obtain ⟨adB, rfl, hcB⟩ := H2.out.2.2.2 (by omega)
          have ha := cell_below (Below.then HB1.out (HG.out ▸ hI.below)) (hcA k (by omega))
          have hb := cell_below (Below.then HB1.out (HG.out ▸ hI.below)) (hcB k (by omega))
          have hs := hI.cells k hlt
          have hf := hI.froz k hlt
          have HI := Lib.hid (hI.next hlt)
          clear hcA hcB hI
          have hx := u8_xor _ _ (getD_lt H1.out.bytes k) (getD_lt H2.out.bytes k)
          generalize l1.getD k 0 = x1 at *
          generalize l2.getD k 0 = x2 at *
          go_wp2
          go_region
          all_goals go_wp2
          all_goals go_roundw
          case rel => exact ⟨k + 1, by omega, by go_num, HI.out.drew⟩
          case measure => simp [intOf]; omega
        · obtain rfl : k = r := by omega
          have HIR := Lib.hid hI
          clear hI
          go_wp2_with fail
          rename_i K1 hK1
          clear hk hlt
          have hbw : Below w.heap.size w wr := Below.then HB1.out (HG.out ▸ HIR.out.below)
          have hTab : Tab wr := HT.out.below hbw
          have hL1 : k ≤ l1.length := by rw [H1.out.1]; exact hr1
          have hL2 : k ≤ l2.length := by rw [H2.out.1]; exact hr2
          have hM : RdB wr (some ⟨g, 0, none⟩) k (mixL l1 l2 k) := HIR.out.reads hL1 hL2 H1.out.bytes H2.out.bytes (by omega)
          have hA1 : RdB wr A k (l1.take k) := (H1.out.below hbw).take k hr1
          have hA2 : RdB wr B k (l2.take k) := (H2.out.below hbw).take k hr2
          have hl1 : crcAdd 0 (l1.take k) < 4294967296 := crcAdd_lt (by decide) hA1.bytes
          have hl2 : crcAdd 0 (l2.take k) < 4294967296 := crcAdd_lt (by decide) hA2.bytes
          have hl3 : crcAdd 0 (List.replicate k 0) < 4294967296 := crcAdd_lt (by decide) (by intro c hc; rw [(List.mem_replicate.1 hc).2]; decide)
          have hx1 := u32_xor _ _ hl1 hl2
          have hx2 : bits .xor .u32 ((crcAdd 0 (l1.take k) ^^^ crcAdd 0 (l2.take k) : Nat) : Int) ((crcAdd 0 (List.replicate k 0) : Nat) : Int) = ((crcAdd 0 (mixL l1 l2 k) : Nat) : Int) := by
            rw [u32_xor _ _ (Nat.xor_lt_two_pow (n := 32) hl1 hl2) hl3, linear_math hL1 hL2]
          have hrc1 : k ≤ c := by omega
          have hrc2 : k ≤ c' := by omega
          have hmk := fun W => run_make_row' (P := Tryd.prog) 31 5 (.int .u8 0) 1 Tryd.underlying31 (by kernel_rfl) rfl .i64 .i64 k (by omega) (by omega) W
          refine wp_region_flow (by kernel_rfl) (LinF A B n c m c' g k l1 l2) (LinF.below A B n c m c' g k l1 l2) (by kernel_rfl) (by kernel_rfl) ?_ ?_
          case refine_1 =>
            intro i o ho ρ y w2 hb2 hreg hn hf hyb hyn
            have hi := (Array.getElem?_eq_some_iff.1 ho).1
            rcases Nat.lt_or_ge i 21 with hi2 | hi2
            case inr => simp at hi; omega
            obtain rfl | rfl | rfl | rfl | rfl | rfl | rfl | rfl | rfl | rfl | rfl | rfl | rfl | rfl | rfl | rfl | rfl | rfl | rfl | rfl | rfl : i = 0 ∨ i = 1 ∨ i = 2 ∨ i = 3 ∨ i = 4 ∨ i = 5 ∨ i = 6 ∨ i = 7 ∨ i = 8 ∨ i = 9 ∨ i = 10 ∨ i = 11 ∨ i = 12 ∨ i = 13 ∨ i = 14 ∨ i = 15 ∨ i = 16 ∨ i = 17 ∨ i = 18 ∨ i = 19 ∨ i = 20 := by omega
            · cases ho
              rw [if_pos (show Region.wanted _ y = true from rfl)]
              have f6 : ρ (.tmp 6) = .slice (some ⟨g, 0, none⟩) k k := hf 6 (by kernel_rfl)
              exact ⟨f6, Below.refl _ _⟩
            · cases ho
              rw [if_pos (show Region.wanted _ y = true from rfl)]
              have f46 : ρ (.tmp 46) = .slice (some ⟨g, 0, none⟩) k k := hn 0 _ 46 rfl (by kernel_rfl) rfl
              have hrd : RdB w2 (some ⟨g, 0, none⟩) k (mixL l1 l2 k) := hM.below hb2
              refine does_ok (v := .slice (some ⟨w2.heap.size, 0, none⟩) 1 1) (w' := w2.alloc (.cells #[.slice (some ⟨g, 0, none⟩) k k] 31)) (by simp [go_sem, f46]) ⟨⟨_, rfl, RdBB.new1 w2 31 _ _ _ _ hrd⟩, (Below.refl _ _).alloc (Nat.le_refl _) _⟩
            · cases ho
              rw [if_pos (show Region.wanted _ y = true from rfl)]
              obtain ⟨B1, f47, g47⟩ : ∃ (B1 : Addr), ρ (.tmp 47) = .slice (some B1) 1 1 ∧ RdBB w2 (some B1) 1 [mixL l1 l2 k] := hn 1 _ 47 rfl (by kernel_rfl) rfl
              refine does_enter (f := 11) (args := #[.slice (some B1) 1 1]) (w' := w2) (by simp [go_sem, f47, hreg.func]) ?_
              refine (Of_any _ _ _ _ _ (hTab.below hb2) g47).mono ?_
              rintro e w' ⟨rfl, rfl⟩
              exact ⟨_, rfl, by show _ = _; simp, Below.refl _ _⟩
            · cases ho
              rw [if_pos (show Region.wanted _ y = true from rfl)]
              have f0 : ρ (.tmp 0) = .slice A n c := hf 0 (by kernel_rfl)
              exact ⟨f0, Below.refl _ _⟩
            · cases ho
              rw [if_pos (show Region.wanted _ y = true from rfl)]
              have f5 : ρ (.tmp 5) = .int .i64 (k : Int) := hf 5 (by kernel_rfl)
              exact ⟨f5, Below.refl _ _⟩
            · cases ho
              rw [if_pos (show Region.wanted _ y = true from rfl)]
              have f49 : ρ (.tmp 49) = .slice A n c := hn 3 _ 49 rfl (by kernel_rfl) rfl
              have f50 : ρ (.tmp 50) = .int .i64 (k : Int) := hn 4 _ 50 rfl (by kernel_rfl) rfl
              exact does_ok (v := .slice A k c) (w' := w2) (by simp [go_sem, hreg.const, f49, f50, sliced, hrc1]) ⟨rfl, Below.refl _ _⟩
            · cases ho
              rw [if_pos (show Region.wanted _ y = true from rfl)]
              have f51 : ρ (.tmp 51) = .slice A k c := hn 5 _ 51 rfl (by kernel_rfl) rfl
              have hrd : RdB w2 A k (l1.take k) := hA1.below hb2
              refine does_ok (v := .slice (some ⟨w2.heap.size, 0, none⟩) 1 1) (w' := w2.alloc (.cells #[.slice A k c] 31)) (by simp [go_sem, f51]) ⟨⟨_, rfl, RdBB.new1 w2 31 _ _ _ _ hrd⟩, (Below.refl _ _).alloc (Nat.le_refl _) _⟩
            · cases ho
              rw [if_pos (show Region.wanted _ y = true from rfl)]
              obtain ⟨B1, f52, g52⟩ : ∃ (B1 : Addr), ρ (.tmp 52) = .slice (some B1) 1 1 ∧ RdBB w2 (some B1) 1 [l1.take k] := hn 6 _ 52 rfl (by kernel_rfl) rfl
              refine does_enter (f := 11) (args := #[.slice (some B1) 1 1]) (w' := w2) (by simp [go_sem, f52, hreg.func]) ?_
              refine (Of_any _ _ _ _ _ (hTab.below hb2) g52).mono ?_
              rintro e w' ⟨rfl, rfl⟩
              exact ⟨_, rfl, by show _ = _; simp, Below.refl _ _⟩
            · cases ho
              rw [if_pos (show Region.wanted _ y = true from rfl)]
              have f1 : ρ (.tmp 1) = .slice B m c' := hf 1 (by kernel_rfl)
              exact ⟨f1, Below.refl _ _⟩
            · cases ho
              rw [if_pos (show Region.wanted _ y = true from rfl)]
              have f5 : ρ (.tmp 5) = .int .i64 (k : Int) := hf 5 (by kernel_rfl)
              exact ⟨f5, Below.refl _ _⟩
            · cases ho
              rw [if_pos (show Region.wanted _ y = true from rfl)]
              have f54 : ρ (.tmp 54) = .slice B m c' := hn 8 _ 54 rfl (by kernel_rfl) rfl
              have f55 : ρ (.tmp 55) = .int .i64 (k : Int) := hn 9 _ 55 rfl (by kernel_rfl) rfl
              exact does_ok (v := .slice B k c') (w' := w2) (by simp [go_sem, hreg.const, f54, f55, sliced, hrc2]) ⟨rfl, Below.refl _ _⟩
            · cases ho
              rw [if_pos (show Region.wanted _ y = true from rfl)]
              have f56 : ρ (.tmp 56) = .slice B k c' := hn 10 _ 56 rfl (by kernel_rfl) rfl
              have hrd : RdB w2 B k (l2.take k) := hA2.below hb2
              refine does_ok (v := .slice (some ⟨w2.heap.size, 0, none⟩) 1 1) (w' := w2.alloc (.cells #[.slice B k c'] 31)) (by simp [go_sem, f56]) ⟨⟨_, rfl, RdBB.new1 w2 31 _ _ _ _ hrd⟩, (Below.refl _ _).alloc (Nat.le_refl _) _⟩
            · cases ho
              rw [if_pos (show Region.wanted _ y = true from rfl)]
              obtain ⟨B1, f57, g57⟩ : ∃ (B1 : Addr), ρ (.tmp 57) = .slice (some B1) 1 1 ∧ RdBB w2 (some B1) 1 [l2.take k] := hn 11 _ 57 rfl (by kernel_rfl) rfl
              refine does_enter (f := 11) (args := #[.slice (some B1) 1 1]) (w' := w2) (by simp [go_sem, f57, hreg.func]) ?_
              refine (Of_any _ _ _ _ _ (hTab.below hb2) g57).mono ?_
              rintro e w' ⟨rfl, rfl⟩
              exact ⟨_, rfl, by show _ = _; simp, Below.refl _ _⟩
            · cases ho
              rw [if_pos (show Region.wanted _ y = true from rfl)]
              have f53 : ρ (.tmp 53) = .int .u32 (crcAdd 0 (l1.take k) : Nat) := hn 7 _ 53 rfl (by kernel_rfl) rfl
              have f58 : ρ (.tmp 58) = .int .u32 (crcAdd 0 (l2.take k) : Nat) := hn 12 _ 58 rfl (by kernel_rfl) rfl
              exact does_ok (v := .int .u32 (crcAdd 0 (l1.take k) ^^^ crcAdd 0 (l2.take k) : Nat)) (w' := w2) (by simp [go_sem, f53, f58, hx1]) ⟨rfl, Below.refl _ _⟩
            · cases ho
              rw [if_pos (show Region.wanted _ y = true from rfl)]
              have f5 : ρ (.tmp 5) = .int .i64 (k : Int) := hf 5 (by kernel_rfl)
              exact ⟨f5, Below.refl _ _⟩
            · cases ho
              rw [if_pos (show Region.wanted _ y = true from rfl)]
              have f60 : ρ (.tmp 60) = .int .i64 (k : Int) := hn 14 _ 60 rfl (by kernel_rfl) rfl
              refine does_ok (v := .slice (some ⟨w2.heap.size, 0, none⟩) k k) (w' := w2.alloc (.cells (madeCells #[.int .u8 0] k) 5)) (by simp [go_sem, f60, hmk]) ⟨⟨_, rfl, RdB.zeros w2 k (by omega)⟩, (Below.refl _ _).alloc (Nat.le_refl _) _⟩
            · cases ho
              rw [if_pos (show Region.wanted _ y = true from rfl)]
              obtain ⟨B1, f61, g61⟩ : ∃ (B1 : Addr), ρ (.tmp 61) = .slice (some B1) k k ∧ RdB w2 (some B1) k (List.replicate k 0) := hn 15 _ 61 rfl (by kernel_rfl) rfl
              refine does_ok (v := .slice (some ⟨w2.heap.size, 0, none⟩) 1 1) (w' := w2.alloc (.cells #[.slice (some B1) k k] 31)) (by simp [go_sem, f61]) ⟨⟨_, rfl, RdBB.new1 w2 31 _ _ _ _ g61⟩, (Below.refl _ _).alloc (Nat.le_refl _) _⟩
            · cases ho
              rw [if_pos (show Region.wanted _ y = true from rfl)]
              obtain ⟨B1, f62, g62⟩ : ∃ (B1 : Addr), ρ (.tmp 62) = .slice (some B1) 1 1 ∧ RdBB w2 (some B1) 1 [List.replicate k 0] := hn 16 _ 62 rfl (by kernel_rfl) rfl
              refine does_enter (f := 11) (args := #[.slice (some B1) 1 1]) (w' := w2) (by simp [go_sem, f62, hreg.func]) ?_
              refine (Of_any _ _ _ _ _ (hTab.below hb2) g62).mono ?_
              rintro e w' ⟨rfl, rfl⟩
              exact ⟨_, rfl, by show _ = _; simp, Below.refl _ _⟩
            · cases ho
              rw [if_pos (show Region.wanted _ y = true from rfl)]
              have f59 : ρ (.tmp 59) = .int .u32 (crcAdd 0 (l1.take k) ^^^ crcAdd 0 (l2.take k) : Nat) := hn 13 _ 59 rfl (by kernel_rfl) rfl
              have f63 : ρ (.tmp 63) = .int .u32 (crcAdd 0 (List.replicate k 0) : Nat) := hn 17 _ 63 rfl (by kernel_rfl) rfl
              exact does_ok (v := .int .u32 (crcAdd 0 (mixL l1 l2 k) : Nat)) (w' := w2) (by simp [go_sem, f59, f63, hx2]) ⟨rfl, Below.refl _ _⟩
            · cases ho
              rw [if_pos (show Region.wanted _ y = true from rfl)]
              have f48 : ρ (.tmp 48) = .int .u32 (crcAdd 0 (mixL l1 l2 k) : Nat) := hn 2 _ 48 rfl (by kernel_rfl) rfl
              have f64 : ρ (.tmp 64) = .int .u32 (crcAdd 0 (mixL l1 l2 k) : Nat) := hn 18 _ 64 rfl (by kernel_rfl) rfl
              exact does_ok (v := .bool true) (w' := w2) (by simp [go_sem, f48, f64]) ⟨rfl, Below.refl _ _⟩
            · cases ho
              rw [if_pos (show Region.wanted _ y = true from rfl)]
              have f65 : ρ (.tmp 65) = .bool true := hn 19 _ 65 rfl (by kernel_rfl) rfl
              exact ⟨f65, Below.refl _ _⟩
          case refine_2 =>
            intro a w2 hb2 hd hs hfacts hrest
            have f4 : a.tmps.getD 4 undef = .bool true := hfacts 20 _ 4 rfl rfl
            refine hK1 _ _ ?_
            apply wp_ret
            refine bodyPost_ret (results_tmp rfl _ _ _) (by rw [hd]) ⟨by rw [f4], Below.then hbw hb2⟩
end Go.Proofs.YtkciljeojifofaaDoor
