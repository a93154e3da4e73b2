/- A way's form. -/
import Derived.Test.YtbmdjmnjbflfeaaPk
import Derived.Test.YtbmdjmnjbflfeaaMay2
import Derived.Test.YtbmdjmnjbflfeaaRefCk
import Derived.Test.YtbmdjmnjbflfeaaTabEq
import Derived.WalkSpells
import Derived.BigQuiet
namespace Go.Proofs.Ytbmdjmnjbflfeaa
open Go.RowKit Go.Shelf
set_option linter.unusedVariables false
set_option linter.unusedSimpArgs false

def fmF (x : Fo) : List Nat := be 2 x.1.toNat ++ be 2 x.2.1.toNat ++ [(x.2.2 - 1).toNat]
def fmS (s : ByteArray) : List Nat := s.size :: bsL s
def fmtC (cf : Cf) : List Nat := [cf.cap.toNat, cf.fo.length] ++ cf.fo.flatMap fmF ++ [cf.st.length] ++ cf.st.flatMap fmS
open Classical in
noncomputable def bytX (cf : Cf) : List Nat × Int := if mayC cf then (if 240 < (fmtC cf).length then ([], 3) else (fmtC cf, 0)) else ([], 140)
theorem fmF_len (x : Fo) : (fmF x).length = 5 := by simp [fmF, be_length]
theorem flat_take {α β : Type} {L : List α} {k : Nat} {x : α} {g : α → List β} (h : ∃ hl : k < L.length, L[k] = x) : (L.take (k + 1)).flatMap g = (L.take k).flatMap g ++ g x := by
  obtain ⟨hl, rfl⟩ := h
  rw [List.take_succ_eq_append_getElem hl, List.flatMap_append]
  simp
theorem fmt_long {cf : Cf} {s : ByteArray} (hs : s ∈ cf.st) (h : 255 < s.size) : 240 < (fmtC cf).length := by
  have h1 : (fmS s).length ≤ (cf.st.flatMap fmS).length := by
    obtain ⟨a, b, e⟩ := List.append_of_mem hs
    rw [e, List.flatMap_append, List.flatMap_cons, List.length_append, List.length_append]
    omega
  have h2 : (fmS s).length = s.size + 1 := by simp [fmS, bsL_len]
  unfold fmtC
  rw [List.length_append]
  omega
def BtF (Ab : Option Addr) (nb cb g6 b0 p q : Nat) (l : List Nat) : Nat → Value → World → Prop
  | 0 => fun v w => v = .slice Ab nb cb
  | 1 => fun v w => v = .pointer (some ⟨g6, 0, none⟩)
  | 2 => fun v w => v = .int .i32 (p : Nat)
  | 3 => fun v w => v = .int .u16 (p : Nat)
  | 4 => fun v w => ∃ (V32 : Value), v = V32 ∧ OwnB w b0 V32 (l ++ be 2 p)
  | 5 => fun v w => v = .pointer (some ⟨g6, 1, none⟩)
  | 6 => fun v w => v = .int .i32 (q : Nat)
  | 7 => fun v w => v = .int .u16 (q : Nat)
  | 8 => fun v w => ∃ (V36 : Value), v = V36 ∧ OwnB w b0 V36 (l ++ be 2 p ++ be 2 q)
  | 9 => fun v w => ∃ (V36 : Value), v = V36 ∧ OwnB w b0 V36 (l ++ be 2 p ++ be 2 q)
  | _ => fun _ _ => True
theorem BtF.below (Ab : Option Addr) (nb cb g6 b0 p q : Nat) (l : List Nat) : ∀ i v w w', Below w.heap.size w w' → BtF Ab nb cb g6 b0 p q l i v w → BtF Ab nb cb g6 b0 p q l i v w'
  | 0, _, _, _, _, h => h
  | 1, _, _, _, _, h => h
  | 2, _, _, _, _, h => h
  | 3, _, _, _, _, h => h
  | 4, _, _, _, hb, h => by
    obtain ⟨V32, e, g⟩ := h
    exact ⟨V32, e, g.below hb⟩
  | 5, _, _, _, _, h => h
  | 6, _, _, _, _, h => h
  | 7, _, _, _, _, h => h
  | 8, _, _, _, hb, h => by
    obtain ⟨V36, e, g⟩ := h
    exact ⟨V36, e, g.below hb⟩
  | 9, _, _, _, hb, h => by
    obtain ⟨V36, e, g⟩ := h
    exact ⟨V36, e, g.below hb⟩
  | _ + 10, _, _, _, _, _ => trivial

set_option maxRecDepth 100000 in
set_option maxHeartbeats 8000000 in
theorem BytesW_any (A : Option Addr) (n c : Nat) (B : Option Addr) (m d : Nat) (cf : Cf) (w : World) (h : RdC w A n c B m d cf) :
    Calls Try.prog 24 #[confV A n c B m d cf.cap] w fun e w' => ∃ r, e = .returned (.tuple #[r, .int .i64 (bytX cf).2]) ∧ OwnB w' w.heap.size r (bytX cf).1 ∧ Below w.heap.size w w' := by
  have hbx := (Below.refl w.heap.size w).alloc (Nat.le_refl _) (.cells #[.slice A n c, .slice B m d, .int .i64 cf.cap] 25)
  have hcell := World.alloc_heap_new w (.cells #[.slice A n c, .slice B m d, .int .i64 cf.cap] 25)
  obtain ⟨g, hg⟩ : ∃ g, g = w.heap.size := ⟨_, rfl⟩
  rw [← hg] at hcell
  obtain ⟨w1, hw1⟩ : ∃ w1, w1 = w.alloc (.cells #[.slice A n c, .slice B m d, .int .i64 cf.cap] 25) := ⟨_, rfl⟩
  rw [← hw1] at hbx hcell
  obtain ⟨cp, hcp⟩ : ∃ cp, cp = cf.cap := ⟨_, rfl⟩
  have HR := Lib.hid h
  have C1 := Lib.hid (may_any A n c B m d cf w1 (h.below hbx))
  obtain ⟨c0, c1, c2⟩ := cells3 hcell
  rw [← hcp] at c2 C1 hw1 hcell
  rw [← hcp]
  rw [hw1, hg] at c0 c1 c2
  have HW1 := Lib.hid hw1
  have HG := Lib.hid hg
  have HB1 := Lib.hid hbx
  have HC1 := Lib.hid hcell
  have HCP := Lib.hid hcp
  clear h hbx hcell hw1 hcp hg
  go_enter Try.func24, Try.ntmps24
  go_wp2_with fail
  rw [← HW1.out, ← HG.out]
  refine C1.out.mono ?_
  rintro e w2 ⟨⟨b, rfl, hbm⟩, hb⟩
  have HB2 := Lib.hid (Below.thn HB1.out hb)
  have HC2 := Lib.hid ((hb.block g (Array.getElem?_eq_some_iff.1 HC1.out).1).trans HC1.out)
  have HMAY := Lib.hid hbm
  clear hb hbm C1 c0 c1 c2 HW1 HC1 HB1
  cases b
  case false =>
    have hn : ¬ mayC cf := fun h => by have := HMAY.out.2 h; simp at this
    have HX : Hid (bytX cf = ([], 140)) := Lib.hid (by unfold bytX; rw [if_neg hn])
    clear hn
    go_wp2
    refine bodyPost_ret (v := .tuple #[.slice none 0 0, .int .i64 140]) (by simp [results, Try.results24, go_sem]) rfl ⟨_, by rw [HX.out], ?_, HB2.out⟩
    rw [HX.out]
    exact OwnB.nil _ _
  have hm : mayC cf := HMAY.out.1 rfl
  have HM := Lib.hid hm
  have hcp1 : 1 ≤ cp ∧ cp ≤ 12 := by rw [HCP.out]; exact ⟨hm.2.1, hm.2.2.1⟩
  have hn8 : n ≤ 8 := by rw [← HR.out.fo.len]; exact hm.1.1
  have hm32 : m ≤ 32 := by rw [← HR.out.st.len]; exact hm.2.2.2.1
  obtain ⟨cN, hcN⟩ : ∃ cN : Nat, cp = (cN : Int) := ⟨cp.toNat, by omega⟩
  subst hcN
  have HCN : Hid (cf.cap.toNat = cN) := Lib.hid (by rw [← HCP.out]; simp)
  have hcN1 : cN ≤ 12 := by omega
  have hwc : IntKind.u8.wrap (cN : Int) = (cN : Int) := by rw [IntKind.wrap_u8]; omega
  have hwn : IntKind.u8.wrap (n : Int) = (n : Int) := by rw [IntKind.wrap_u8]; omega
  have hwm : IntKind.u8.wrap (m : Int) = (m : Int) := by rw [IntKind.wrap_u8]; omega
  obtain ⟨c0, c1, c2⟩ := cells3 HC2.out
  have hl0 := OwnB.lit w2 [cN, n] #[.int .u8 (cN : Nat), .int .u8 (n : Nat)] 2 rfl rfl (by intro x hx; simp at hx; omega) (by decide)
  have hbL : Below w2.heap.size w2 (w2.alloc (.cells #[.int .u8 (cN : Nat), .int .u8 (n : Nat)] 5)) := (Below.refl _ _).alloc (Nat.le_refl _) _
  obtain ⟨w3, hw3⟩ : ∃ w3, w3 = w2.alloc (.cells #[.int .u8 (cN : Nat), .int .u8 (n : Nat)] 5) := ⟨_, rfl⟩
  rw [← hw3] at hl0 hbL
  have HW3 := Lib.hid hw3
  have HC3 : Hid (w3.heap[g]? = some (.cells #[.slice A n c, .slice B m d, .int .i64 (cN : Nat)] 25 (0, 0))) := Lib.hid ((hbL.block g (Array.getElem?_eq_some_iff.1 HC2.out).1).trans HC2.out)
  have HI3 : Hid (Below w.heap.size w w3 ∧ OwnB w3 w.heap.size (.slice (some ⟨w2.heap.size, 0, none⟩) 2 2) ([cN, n] ++ (cf.fo.take 0).flatMap fmF)) := Lib.hid ⟨Below.thn HB2.out hbL, by simpa using hl0.mono HB2.out.size⟩
  have HML := Lib.hid HR.out.fo.len
  have HSL := Lib.hid HR.out.st.len
  clear hm hcp1 hl0 hbL hw3 HMAY
  obtain ⟨d0, d1, d2⟩ := cells3 HC3.out
  rw [HW3.out] at d0 d1 d2
  go_wp2_with fail
  rw [← HW3.out]
  clear HW3 c0 c1 c2 d0 d1 d2
  go_loopw [4, 24] (fun x y wr => ∃ ix : Nat, ix ≤ n ∧ y = .int .i64 (ix : Nat) ∧ (∃ (Ab : Option Addr) (nb cb : Nat), x = .slice Ab nb cb ∧ Hid (OwnB wr w.heap.size (.slice Ab nb cb) ([cN, n] ++ (cf.fo.take ix).flatMap fmF))) ∧ Hid (wr.heap[g]? = some (.cells #[.slice A n c, .slice B m d, .int .i64 (cN : Nat)] 25 (0, 0))) ∧ Hid (Below w.heap.size w wr)) (fun _ y _ => n - (intOf y).toNat)
  case atStart => exact ⟨0, Nat.zero_le _, rfl, ⟨_, _, _, rfl, Lib.hid HI3.out.2⟩, HC3, Lib.hid HI3.out.1⟩
  case round =>
    obtain ⟨ix, hi, rfl, ⟨Ab, nb, cb, rfl, HO⟩, HC, HB⟩ := hrel
    by_cases hlt : (ix : Int) < (n : Int)
    · obtain ⟨ad, x, rfl, HX, x0, x1, x2⟩ := (HR.out.fo.below HB.out).k.at3 (k := ix) (by omega)
      have hgd : gd x := by
        obtain ⟨hl, rfl⟩ := HX.out
        exact (HM.out.1.2.1 ix hl).1
      have hrg := gd_rng hgd
      obtain ⟨p, hp⟩ : ∃ p : Nat, x.1 = (p : Int) := ⟨x.1.toNat, by omega⟩
      obtain ⟨q, hq⟩ : ∃ q : Nat, x.2.1 = (q : Int) := ⟨x.2.1.toNat, by omega⟩
      obtain ⟨r, hr⟩ : ∃ r : Nat, x.2.2 = (r : Int) + 1 := ⟨(x.2.2 - 1).toNat, by have := hgd.1; omega⟩
      have hr255 : r ≤ 255 := by have := hgd.2.1; omega
      have hp16 : p < 65536 := by omega
      have hq16 : q < 65536 := by omega
      have HFM : Hid (fmF x = be 2 p ++ be 2 q ++ [r]) := Lib.hid (by
        unfold fmF
        rw [hp, hq, hr]
        simp)
      have HL1 : Hid (([cN, n] ++ (cf.fo.take (ix + 1)).flatMap fmF) = ([cN, n] ++ (cf.fo.take ix).flatMap fmF) ++ be 2 p ++ be 2 q ++ [r]) := Lib.hid (by
        rw [flat_take HX.out, HFM.out]
        simp)
      rw [hp] at x0
      rw [hq] at x1
      rw [hr] at x2
      have hwp : IntKind.u16.wrap (p : Int) = (p : Int) := by rw [IntKind.wrap_u16]; omega
      have hwq : IntKind.u16.wrap (q : Int) = (q : Int) := by rw [IntKind.wrap_u16]; omega
      have hwr : IntKind.u8.wrap (r : Int) = (r : Int) := by rw [IntKind.wrap_u8]; omega
      have hsub : (r : Int) + 1 - 1 = (r : Int) := by omega
      obtain ⟨l, hl⟩ : ∃ l, l = [cN, n] ++ (cf.fo.take ix).flatMap fmF := ⟨_, rfl⟩
      have hll : l.length ≤ 50 := by
        have h1 : ∀ L : List Fo, (L.flatMap fmF).length = 5 * L.length := fun L => by
          induction L with
          | nil => rfl
          | cons a L ih => rw [List.flatMap_cons, List.length_append, fmF_len, ih, List.length_cons]; omega
        rw [hl, List.length_append, h1, List.length_take]
        simp
        omega
      rw [← hl] at HO HL1
      have hbx : Below wr.heap.size wr (wr.alloc (.cells #[.int .i32 (p : Nat), .int .i32 (q : Nat), .int .i64 ((r : Int) + 1)] 84)) := (Below.refl _ _).alloc (Nat.le_refl _) _
      have hcx := World.alloc_heap_new wr (.cells #[.int .i32 (p : Nat), .int .i32 (q : Nat), .int .i64 ((r : Int) + 1)] 84)
      obtain ⟨wX, hwX⟩ : ∃ wX, wX = wr.alloc (.cells #[.int .i32 (p : Nat), .int .i32 (q : Nat), .int .i64 ((r : Int) + 1)] 84) := ⟨_, rfl⟩
      rw [← hwX] at hbx hcx
      obtain ⟨g6, hg6⟩ : ∃ g6, g6 = wr.heap.size := ⟨_, rfl⟩
      rw [← hg6] at hcx
      have hc3 := cells3 hcx
      have G6 : Hid (wX.cell? ⟨g6, 0, none⟩ = some (.int .i32 (p : Nat)) ∧ wX.cell? ⟨g6, 1, none⟩ = some (.int .i32 (q : Nat))) := Lib.hid ⟨hc3.1, hc3.2.1⟩
      have HX2 := Lib.hid hc3.2.2
      have HOX := Lib.hid (HO.out.below hbx)
      have HCX := Lib.hid ((hbx.block g (Array.getElem?_eq_some_iff.1 HC.out).1).trans HC.out)
      have HBX := Lib.hid (Below.thn HB.out hbx)
      have HWX := Lib.hid hwX
      have HG6 := Lib.hid hg6
      clear hgd hrg hp hq hr hl hbx hcx hwX hg6 hc3
      go_wp2_with fail
      rw [← HWX.out, ← HG6.out]
      have HO := HOX
      obtain ⟨b0, hb0e⟩ : ∃ b0, b0 = wX.heap.size := ⟨_, rfl⟩
      have hb0 : b0 ≤ wX.heap.size := by omega
      have HBE := Lib.hid hb0e
      have HB0 : Hid (w.heap.size ≤ b0) := Lib.hid (by rw [hb0e]; exact HBX.out.size)
      clear hb0e HWX x0 x1 x2
      refine wp_region_flow (by kernel_rfl) (BtF Ab nb cb g6 b0 p q l) (BtF.below Ab nb cb g6 b0 p q l) (by kernel_rfl) (by kernel_rfl) ?_ ?_
      case refine_1 =>
        intro i o ho ρ y w2 hb2 hreg hn hf hyb hyn
        have hi := (Array.getElem?_eq_some_iff.1 ho).1
        rcases Nat.lt_or_ge i 10 with hi2 | hi2
        case inr => simp at hi; omega
        obtain rfl | rfl | rfl | rfl | rfl | rfl | rfl | rfl | rfl | rfl : i = 0 ∨ i = 1 ∨ i = 2 ∨ i = 3 ∨ i = 4 ∨ i = 5 ∨ i = 6 ∨ i = 7 ∨ i = 8 ∨ i = 9 := by omega
        · cases ho
          rw [if_pos (show Region.wanted _ y = true from rfl)]
          have f4 : ρ (.tmp 4) = .slice Ab nb cb := hf 4 (by kernel_rfl)
          exact ⟨f4, Below.refl _ _⟩
        · cases ho
          rw [if_pos (show Region.wanted _ y = true from rfl)]
          have f6 : ρ (.tmp 6) = .pointer (some ⟨g6, 0, none⟩) := hf 6 (by kernel_rfl)
          exact does_ok (v := .pointer (some ⟨g6, 0, none⟩)) (w' := w2) (by simp [go_sem, hreg.const, f6]) ⟨rfl, Below.refl _ _⟩
        · cases ho
          rw [if_pos (show Region.wanted _ y = true from rfl)]
          have f29 : ρ (.tmp 29) = .pointer (some ⟨g6, 0, none⟩) := hn 1 _ 29 rfl (by kernel_rfl) rfl
          have k0 := cell_keep hb2 G6.out.1
          exact does_ok (v := .int .i32 (p : Nat)) (w' := w2) (by simp [go_sem, hreg.const, f29, k0]) ⟨rfl, Below.refl _ _⟩
        · cases ho
          rw [if_pos (show Region.wanted _ y = true from rfl)]
          have f30 : ρ (.tmp 30) = .int .i32 (p : Nat) := hn 2 _ 30 rfl (by kernel_rfl) rfl
          exact does_ok (v := .int .u16 (p : Nat)) (w' := w2) (by simp [go_sem, hreg.const, f30, hwp]) ⟨rfl, Below.refl _ _⟩
        · cases ho
          rw [if_pos (show Region.wanted _ y = true from rfl)]
          have f28 : ρ (.tmp 28) = .slice Ab nb cb := hn 0 _ 28 rfl (by kernel_rfl) rfl
          have f31 : ρ (.tmp 31) = .int .u16 (p : Nat) := hn 3 _ 31 rfl (by kernel_rfl) rfl
          refine does_enter (f := 51) (args := #[.slice Ab nb cb, .int .u16 (p : Nat)]) (w' := w2) (by simp [go_sem, hreg.func, hreg.const, f28, f31]) ?_
          refine (U16_bs p w2 (OwnB.bs (HO.out.below hb2)) hp16 (by omega)).mono ?_
          rintro e w' ⟨r, rfl, h, hb⟩
          exact ⟨_, rfl, ⟨_, rfl, h.mono (Nat.le_trans hb0 hb2.size)⟩, hb⟩
        · cases ho
          rw [if_pos (show Region.wanted _ y = true from rfl)]
          have f6 : ρ (.tmp 6) = .pointer (some ⟨g6, 0, none⟩) := hf 6 (by kernel_rfl)
          exact does_ok (v := .pointer (some ⟨g6, 1, none⟩)) (w' := w2) (by simp [go_sem, hreg.const, f6]) ⟨rfl, Below.refl _ _⟩
        · cases ho
          rw [if_pos (show Region.wanted _ y = true from rfl)]
          have f33 : ρ (.tmp 33) = .pointer (some ⟨g6, 1, none⟩) := hn 5 _ 33 rfl (by kernel_rfl) rfl
          have k0 := cell_keep hb2 G6.out.2
          exact does_ok (v := .int .i32 (q : Nat)) (w' := w2) (by simp [go_sem, hreg.const, f33, k0]) ⟨rfl, Below.refl _ _⟩
        · cases ho
          rw [if_pos (show Region.wanted _ y = true from rfl)]
          have f34 : ρ (.tmp 34) = .int .i32 (q : Nat) := hn 6 _ 34 rfl (by kernel_rfl) rfl
          exact does_ok (v := .int .u16 (q : Nat)) (w' := w2) (by simp [go_sem, hreg.const, f34, hwq]) ⟨rfl, Below.refl _ _⟩
        · cases ho
          rw [if_pos (show Region.wanted _ y = true from rfl)]
          obtain ⟨V32, f32, g32⟩ : ∃ (V32 : Value), ρ (.tmp 32) = V32 ∧ OwnB w2 b0 V32 (l ++ be 2 p) := hn 4 _ 32 rfl (by kernel_rfl) rfl
          have f35 : ρ (.tmp 35) = .int .u16 (q : Nat) := hn 7 _ 35 rfl (by kernel_rfl) rfl
          refine does_enter (f := 51) (args := #[V32, .int .u16 (q : Nat)]) (w' := w2) (by simp [go_sem, hreg.func, hreg.const, f32, f35]) ?_
          refine (U16_bs q w2 g32.bs hq16 (by simp [be_length]; omega)).mono ?_
          rintro e w' ⟨r, rfl, h, hb⟩
          exact ⟨_, rfl, ⟨_, rfl, h.mono (Nat.le_trans hb0 hb2.size)⟩, hb⟩
        · cases ho
          rw [if_pos (show Region.wanted _ y = true from rfl)]
          obtain ⟨V36, f36, g36⟩ : ∃ (V36 : Value), ρ (.tmp 36) = V36 ∧ OwnB w2 b0 V36 (l ++ be 2 p ++ be 2 q) := hn 8 _ 36 rfl (by kernel_rfl) rfl
          exact ⟨⟨V36, f36, g36⟩, Below.refl _ _⟩
      case refine_2 =>
        intro a w2 hb2 hd hs hfacts hrest
        obtain ⟨V36, q4, g4⟩ : ∃ (V36 : Value), a.tmps.getD 4 undef = V36 ∧ OwnB w2 b0 V36 (l ++ be 2 p ++ be 2 q) := hfacts 9 _ 4 rfl rfl
        have ha := frame_of hd hs hrest [4, 28, 29, 30, 31, 32, 33, 34, 35, 36] (by kernel_rfl)
        simp only [q4, List.foldl, List.setIfInBounds_toArray, List.set_cons_succ, List.set_cons_zero] at ha
        clear q4 hd hs hfacts hrest
        generalize a.tmps.getD = gg at ha
        subst ha
        have hbT : Below w2.heap.size w2 (w2.alloc (.cells #[.int .u8 (r : Nat)] 5)) := (Below.refl _ _).alloc (Nat.le_refl _) _
        have hA := OwnB.below g4 hbT
        have hlen4 : (l ++ be 2 p ++ be 2 q).length = l.length + 4 := by simp [be_length]
        obtain ⟨Ac, cc, ec, lc, mc, _⟩ := OwnL.rd g4.1
        obtain ⟨l4, hl4⟩ : ∃ l4, l4 = l ++ be 2 p ++ be 2 q := ⟨_, rfl⟩
        rw [← hl4] at ec lc hA g4 hlen4 HL1
        obtain ⟨n4, hn4⟩ : ∃ n4, n4 = l4.length := ⟨_, rfl⟩
        rw [← hn4] at ec lc hlen4
        subst ec
        have hrd := Rd.new w2 5 [r] #[.int .u8 (r : Nat)] 1 (0, 0) (enc := encB) rfl rfl (by decide)
        obtain ⟨v43, w43, r43, o43, g43, _⟩ := run_append_rd (P := Try.prog) (c := 1) b0 26 26 5 (.int .u8 0) 1 Try.underlying26 infoB rfl (by decide) encB_one hA.1 hrd (by rw [← hn4]; omega) (by have := hb2.size; simp; omega)
        have hb43 : Below wX.heap.size wX w43 := (Below.thn hb2 hbT).grown g43 (by have := hb2.size; simp; omega) (fun j hj => by have := (OwnL.base hA.1 j hj).1; have := HBE.out; omega)
        obtain ⟨Ad, cd, ed, ld, md, _⟩ := OwnL.rd o43
        have hn5 : (l4 ++ [r]).length = n4 + 1 := by rw [List.length_append, ← hn4]; rfl
        rw [hn5] at ed ld
        subst ed
        have HN : Hid (OwnB w43 w.heap.size (.slice Ad (n4 + 1) cd) ([cN, n] ++ (cf.fo.take (ix + 1)).flatMap fmF)) := Lib.hid (by
          rw [HL1.out]
          exact ⟨OwnL.mono o43 HB0.out, Byt.append g4.2 (by intro x hx; simp at hx; omega)⟩)
        have HNC : Hid (w43.heap[g]? = some (.cells #[.slice (some ad) n c, .slice B m d, .int .i64 (cN : Nat)] 25 (0, 0))) := Lib.hid ((hb43.block g (Array.getElem?_eq_some_iff.1 HCX.out).1).trans HCX.out)
        have HNB : Hid (Below w.heap.size w w43) := Lib.hid (Below.thn HBX.out hb43)
        have y2 := cell_keep hb2 HX2.out
        try simp only [World.size_alloc] at r43
        clear hA hbT hrd o43 g43 hb43 g4 hb2 hl4 hn4 hn5 hlen4
        go_wp2_with (at_builtin; refine wpl_append_run rfl _ _ _ rfl rfl rfl r43 ?_)
        exact ⟨⟨ix + 1, by omega, by simp; try go_num, ⟨Ad, n4 + 1, cd, rfl, HN⟩, HNC, HNB⟩, by simp [intOf]; try omega⟩
    · -- how many stops
      obtain ⟨l, hl⟩ : ∃ l, l = [cN, n] ++ cf.fo.flatMap fmF := ⟨_, rfl⟩
      have HO1 : Hid (OwnB wr w.heap.size (.slice Ab nb cb) l) := Lib.hid (by
        have := HO.out
        rw [List.take_of_length_le (by have := HML.out; omega)] at this
        rw [hl]
        exact this)
      have hll : l.length ≤ 50 := by
        have h1 : ∀ L : List Fo, (L.flatMap fmF).length = 5 * L.length := fun L => by
          induction L with
          | nil => rfl
          | cons a L ih => rw [List.flatMap_cons, List.length_append, fmF_len, ih, List.length_cons]; omega
        rw [hl, List.length_append, h1]
        have := HML.out
        simp
        omega
      have HLE := Lib.hid hl
      have hbT : Below wr.heap.size wr (wr.alloc (.cells #[.int .u8 (m : Nat)] 5)) := (Below.refl _ _).alloc (Nat.le_refl _) _
      have hA := OwnB.below HO1.out hbT
      have hrd := Rd.new wr 5 [m] #[.int .u8 (m : Nat)] 1 (0, 0) (enc := encB) rfl rfl (by decide)
      obtain ⟨v51, w51, r51, o51, g51, _⟩ := run_append_rd (P := Try.prog) (c := 1) w.heap.size 26 26 5 (.int .u8 0) 1 Try.underlying26 infoB rfl (by decide) encB_one hA.1 hrd (by omega) (by have := HB.out.size; simp; omega)
      have hb51 : Below w.heap.size w w51 := ((HB.out.trans (hbT.mono HB.out.size))).grown g51 (by have := HB.out.size; simp; omega) (fun j hj => (OwnL.base hA.1 j hj).1)
      obtain ⟨Ad, cd, ed, ld, md, _⟩ := OwnL.rd o51
      obtain ⟨n5, hn5⟩ : ∃ n5, n5 = (l ++ [m]).length := ⟨_, rfl⟩
      rw [← hn5] at ed ld
      subst ed
      have HN5 := Lib.hid hn5
      have HC5 : Hid (w51.heap[g]? = some (.cells #[.slice A n c, .slice B m d, .int .i64 (cN : Nat)] 25 (0, 0))) := Lib.hid (by
        have hg1 := (hbT.block g (Array.getElem?_eq_some_iff.1 HC.out).1).trans HC.out
        refine (g51.block g (Array.getElem?_eq_some_iff.1 hg1).1 (fun e => ?_)).trans hg1
        rcases hA.1.2 with ⟨e2, _⟩ | ⟨g', cap, cur, e2, _, hh, _⟩
        · rw [e2] at e; simp [Value.ownBlock] at e
        · rw [e2] at e
          simp only [Value.ownBlock, Option.some.injEq] at e
          subst e
          rw [hg1] at hh
          cases hh)
      have HI5 : Hid (Below w.heap.size w w51 ∧ OwnB w51 w.heap.size (.slice Ad n5 cd) (l ++ [m] ++ (cf.st.take 0).flatMap fmS) ∧ (l ++ [m] ++ (cf.st.take 0).flatMap fmS).length ≤ 100 + 256 * 0) := Lib.hid ⟨hb51, by
        have h1 : Byt (l ++ [m]) := Byt.append HO1.out.2 (by intro x hx; simp at hx; omega)
        simp only [List.take_zero, List.flatMap_nil, List.append_nil]
        exact ⟨o51, h1⟩, by simp; omega⟩
      obtain ⟨c0, c1, c2⟩ := cells3 HC.out
      obtain ⟨d0, d1, d2⟩ := cells3 HC5.out
      try simp only [World.size_alloc] at r51
      clear hbT hA hrd o51 g51 hb51 hn5 hl
      go_wp2_with (at_builtin; refine wpl_append_run rfl _ _ _ rfl rfl rfl r51 ?_)
      clear c0 c1 c2 d0 d1 d2 r51
      go_loopw [4, 55] (fun x y wz => ∃ jx : Nat, jx ≤ m ∧ y = .int .i64 (jx : Nat) ∧ (∃ (Ae : Option Addr) (ne ce : Nat), x = .slice Ae ne ce ∧ Hid (Below w.heap.size w wz ∧ OwnB wz w.heap.size (.slice Ae ne ce) (l ++ [m] ++ (cf.st.take jx).flatMap fmS) ∧ (l ++ [m] ++ (cf.st.take jx).flatMap fmS).length ≤ 100 + 256 * jx))) (fun _ y _ => m - (intOf y).toNat)
      case atStart => exact ⟨0, Nat.zero_le _, rfl, ⟨_, _, _, rfl, HI5⟩⟩
      case round =>
        obtain ⟨jx, hj, rfl, ⟨Ae, ne, ce, rfl, HJ⟩⟩ := hrel
        by_cases hjl : (jx : Int) < (m : Int)
        · obtain ⟨ae, s, rfl, HS, e0⟩ := rdS_at (HR.out.st.below HJ.out.1) (k := jx) (by omega)
          have HSM : Hid (s ∈ cf.st) := Lib.hid (by
            obtain ⟨hl, e⟩ := HS.out
            rw [← e]
            exact List.getElem_mem hl)
          obtain ⟨cv, wB, hcv, hRB, hbB, hcv1, hcv2⟩ := conv_s s (Nat.le_trans (HR.out.sz s HSM.out) (by decide)) wr
          obtain ⟨b, hb⟩ : ∃ b, b = l ++ [m] ++ (cf.st.take jx).flatMap fmS := ⟨_, rfl⟩
          have HJO : Hid (OwnB wr w.heap.size (.slice Ae ne ce) b ∧ b.length ≤ 100 + 256 * jx) := Lib.hid (by rw [hb]; exact HJ.out.2)
          have HNX : Hid (l ++ [m] ++ (cf.st.take (jx + 1)).flatMap fmS = b ++ fmS s) := Lib.hid (by rw [hb, flat_take HS.out]; simp only [List.append_assoc])
          have HBB := Lib.hid (Below.thn HJ.out.1 hbB)
          have CT := Lib.hid (Text_bs wB (OwnB.bs (HJO.out.1.below hbB)) (show BS wB (.slice (some ⟨wr.heap.size, 0, none⟩) s.size cv) (bsL s) from ⟨_, _, _, rfl, hcv1, hcv2, hRB⟩) (by have := HJO.out.2; omega))
          clear hRB hbB hb
          by_cases h255 : s.size ≤ 255
          · have he : textE (bsL s) = 0 := if_pos (by rw [bsL_len]; exact h255)
            have hL : textL_pk b (bsL s) = b ++ fmS s := by unfold textL_pk fmS; rw [if_pos (by rw [bsL_len]; exact h255), bsL_len]
            rw [he, hL] at CT
            clear he hL
            go_wp2_with fail
            refine CT.out.mono ?_
            rintro e w5 ⟨r, rfl, ho, hb5⟩
            have HO5 := Lib.hid ho
            obtain ⟨Ag, cg, eg, lg, mg, _⟩ := OwnL.rd ho.1
            obtain ⟨ng, hng⟩ : ∃ ng, ng = (b ++ fmS s).length := ⟨_, rfl⟩
            rw [← hng] at eg lg
            subst eg
            have HN : Hid (Below w.heap.size w w5 ∧ OwnB w5 w.heap.size (.slice Ag ng cg) (l ++ [m] ++ (cf.st.take (jx + 1)).flatMap fmS) ∧ (l ++ [m] ++ (cf.st.take (jx + 1)).flatMap fmS).length ≤ 100 + 256 * (jx + 1)) := Lib.hid ⟨Below.thn HBB.out hb5, by rw [HNX.out]; exact ho.mono HBB.out.size, by
              rw [HNX.out, List.length_append]
              have h1 := HJO.out.2
              have h2 : (fmS s).length = s.size + 1 := by simp [fmS, bsL_len]
              omega⟩
            clear ho hb5 CT hng hcv e0
            go_wp2
            exact ⟨⟨jx + 1, by omega, by simp; try go_num, ⟨Ag, ng, cg, rfl, HN⟩⟩, by simp [intOf]; try omega⟩
          · have he : textE (bsL s) = 3 := if_neg (by rw [bsL_len]; exact h255)
            have hL : textL_pk b (bsL s) = [] := by unfold textL_pk; rw [if_neg (by rw [bsL_len]; exact h255)]
            rw [he, hL] at CT
            have HX : Hid (bytX cf = ([], 3)) := Lib.hid (by unfold bytX; rw [if_pos HM.out, if_pos (fmt_long HSM.out (by omega))])
            clear he hL
            go_wp2_with fail
            refine CT.out.mono ?_
            rintro e w5 ⟨r, rfl, ho, hb5⟩
            have HB5 := Lib.hid (Below.thn HBB.out hb5)
            clear ho hb5 CT hcv e0
            go_wp2
            refine bodyPost_ret (v := .tuple #[.slice none 0 0, .int .i64 3]) (by simp [results, Try.results24, go_sem]) rfl ⟨_, by rw [HX.out], ?_, HB5.out⟩
            rw [HX.out]
            exact OwnB.nil _ _
        · obtain ⟨b, hb⟩ : ∃ b, b = l ++ [m] ++ (cf.st.take jx).flatMap fmS := ⟨_, rfl⟩
          have HJO : Hid (OwnB wr w.heap.size (.slice Ae ne ce) b) := Lib.hid (by rw [hb]; exact HJ.out.2.1)
          have HBF : Hid (b = fmtC cf) := Lib.hid (by
            rw [hb, List.take_of_length_le (by have := HSL.out; omega)]
            unfold fmtC
            rw [HLE.out, HCN.out, HML.out, HSL.out])
          have HNE : Hid (ne = b.length) := Lib.hid (by
            obtain ⟨A9, c9, e9, _⟩ := OwnL.rd HJO.out.1
            injection e9)
          have HBJ := Lib.hid HJ.out.1
          clear hb
          by_cases h240 : (240 : Int) < (ne : Int)
          · have HX : Hid (bytX cf = ([], 3)) := Lib.hid (by unfold bytX; rw [if_pos HM.out, if_pos (by rw [← HBF.out, ← HNE.out]; omega)])
            go_wp2
            refine bodyPost_ret (v := .tuple #[.slice none 0 0, .int .i64 3]) (by simp [results, Try.results24, go_sem]) rfl ⟨_, by rw [HX.out], ?_, HBJ.out⟩
            rw [HX.out]
            exact OwnB.nil _ _
          · have HX : Hid (bytX cf = (fmtC cf, 0)) := Lib.hid (by unfold bytX; rw [if_pos HM.out, if_neg (by rw [← HBF.out, ← HNE.out]; omega)])
            go_wp2
            refine bodyPost_ret (v := .tuple #[.slice Ae ne ce, .int .i64 0]) (by simp [results, Try.results24, go_sem]) rfl ⟨_, by rw [HX.out], ?_, HBJ.out⟩
            rw [HX.out, ← HBF.out]
            exact HJO.out
end Go.Proofs.Ytbmdjmnjbflfeaa
