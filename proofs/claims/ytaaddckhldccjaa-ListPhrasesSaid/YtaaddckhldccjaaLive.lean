/- The chapter's example. -/
import Derived.Test.YtaaddckhldccjaaPhr
import Derived.Lib.SmallJoins
namespace Go.Proofs.Ytaaddckhldccjaa
open Go.RowKit
set_option linter.unusedVariables false
set_option linter.unusedSimpArgs false

theorem rt7 (l : List Int) (h : okPos l) (h1 : 1 ≤ l.length) (h2 : l.length ≤ 2000) : Rt [(7, l)] := fun i hi => by
  obtain rfl : i = 0 := by simp at hi; omega
  exact ⟨show (0 : Nat) < 7 by decide, show (7 : Nat) ≤ 2147483647 by decide, h1, h2, h⟩
theorem okPos2 {a b : Int} (h : 0 ≤ a) (h2 : a < b) (h3 : b ≤ 1048576) : okPos [a, b] := fun i hi => by
  have : i = 0 ∨ i = 1 := by simp at hi; omega
  rcases this with rfl | rfl
  · exact ⟨h, by show a ≤ _; omega, fun h => absurd h (by decide)⟩
  · exact ⟨by show 0 ≤ b; omega, h3, fun _ => h2⟩
theorem live_off : offOk [0, 2] 2 := ⟨rfl, by decide, by decide, rfl, fun i h1 h2 => by
  obtain rfl : i = 1 := by omega
  exact ⟨by decide, by decide⟩⟩
theorem live_ph (L : List VV) (A B : Option Addr) (c d : Nat) (hL : L = [⟨A, 1, c, [(7, [1, 4])]⟩, ⟨B, 1, d, [(7, [3, 5])]⟩]) : phE [0, 2] L = 0 ∧ phX [0, 2] L = [(7, [1])] := by
  have ha : allRt L := by
    rw [hL]
    intro x hx
    simp at hx
    rcases hx with rfl | rfl
    · exact rt7 _ (okPos2 (by decide) (by decide) (by decide)) (by decide) (by decide)
    · exact rt7 _ (okPos2 (by decide) (by decide) (by decide)) (by decide) (by decide)
  have hl : L.length = 2 := by rw [hL]; rfl
  have ho : offOk [0, 2] L.length := by rw [hl]; exact live_off
  have p0 : posOf (wsOf L 7) 0 = [1, 4] := by rw [hL]; rfl
  have p1 : posOf (wsOf L 7) 1 = [3, 5] := by rw [hL]; rfl
  have s1 : stand [0, 2] (wsOf L 7) 1 (wsOf L 7).length := by
    rw [wsOf_len, hl]
    intro i hi
    have : i = 0 ∨ i = 1 := by omega
    rcases this with rfl | rfl
    · rw [p0]; decide
    · rw [p1]; decide
  have s4 : ¬ stand [0, 2] (wsOf L 7) 4 (wsOf L 7).length := fun h => by
    rw [wsOf_len, hl] at h
    have := h 1 (by decide)
    rw [p1] at this
    revert this
    decide
  have hat : phAt [0, 2] L 7 = [1] := by
    unfold phAt rowL rowOf
    rw [p0]
    simp [s1, s4]
  refine ⟨by unfold phE; rw [if_pos ho, if_pos ha], ?_⟩
  unfold phX
  rw [if_pos ⟨ho, ha⟩]
  have e : (L.map (·.l)).getD 0 [] = [(7, [1, 4])] := by rw [hL]; rfl
  rw [e]
  unfold phL
  simp [hat]
theorem live_and (L : List UV) (A B : Option Addr) (c d : Nat) (hL : L = [⟨A, 3, c, [1, 3, 5]⟩, ⟨B, 3, d, [3, 4, 5]⟩]) : allE L = 0 ∧ andX L = [3, 5] := by
  subst hL
  exact ⟨by kernel_rfl, by kernel_rfl⟩
theorem RdPo.one {w : World} {g d : Nat} {B : Option Addr} {n c : Nat} {l : List Int} (h : Box2 w g 32 (.int .u32 (d : Nat)) (.slice B n c)) (hr : Rd encI w B n l) (h1 : n ≤ c) (h2 : c ≤ 9223372036854775807) (hd : d < 4294967296) : RdPo w (some ⟨g, 0, none⟩) 1 [(d, l)] :=
  ⟨rfl, by decide, fun _ => ⟨_, rfl, fun j hj => by
    obtain rfl : j = 0 := by simp at hj; omega
    obtain ⟨f0, f1, _, _⟩ := h.facts
    rw [Nat.zero_mul, Addr.add_zero']
    exact ⟨B, n, c, f0, f1, h1, h2, hr, hd⟩⟩⟩
theorem Box2.at {w W : World} {t : TypeId} {x y : Value} {g : Nat} (hg : g = w.heap.size) (hb : Below (w.alloc (.cells #[x, y] t)).heap.size (w.alloc (.cells #[x, y] t)) W) : Box2 W g t x y := by
  subst hg
  exact (Box2.new w t x y).below hb
/-- A world, and what is put into it. -/
theorem alc (w : World) (o : Obj) : Below w.heap.size w (w.alloc o) := (Below.refl _ _).alloc (Nat.le_refl _) _
set_option maxRecDepth 100000 in
set_option maxHeartbeats 8000000 in
theorem live_any (w : World) : Calls Try.prog 9 #[] w fun e w' => e = .returned (.bool true) ∧ Below w.heap.size w w' := by
  obtain ⟨W1, hW1⟩ : ∃ W1, W1 = w.alloc (.cells #[.int .u32 1, .int .u32 3, .int .u32 5] 30) := ⟨_, rfl⟩
  obtain ⟨W2, hW2⟩ : ∃ W2, W2 = W1.alloc (.cells #[.int .u32 3, .int .u32 4, .int .u32 5] 30) := ⟨_, rfl⟩
  obtain ⟨W3, hW3⟩ : ∃ W3, W3 = W2.alloc (.cells #[.slice (some ⟨w.heap.size, 0, none⟩) 3 3, .slice (some ⟨w.heap.size + 1, 0, none⟩) 3 3] 38) := ⟨_, rfl⟩
  have b1 : Below w.heap.size w W1 := by rw [hW1]; exact alc _ _
  have b2 : Below W1.heap.size W1 W2 := by rw [hW2]; exact alc _ _
  have b3 : Below W2.heap.size W2 W3 := by rw [hW3]; exact alc _ _
  have s1 : W1.heap.size = w.heap.size + 1 := by rw [hW1]; simp
  have s2 : W2.heap.size = w.heap.size + 1 + 1 := by rw [hW2]; simp [s1]
  have r1 : RdU W1 (some ⟨w.heap.size, 0, none⟩) 3 [1, 3, 5] := by rw [hW1]; exact ⟨Rd.new w 30 [1, 3, 5] _ 3 (0, 0) (enc := encU) rfl rfl (by decide), by intro x hx; simp at hx; omega⟩
  have r2 : RdU W2 (some ⟨w.heap.size + 1, 0, none⟩) 3 [3, 4, 5] := by rw [hW2, ← s1]; exact ⟨Rd.new W1 30 [3, 4, 5] _ 3 (0, 0) (enc := encU) rfl rfl (by decide), by intro x hx; simp at hx; omega⟩
  have hrd : RdUU W3 (some ⟨w.heap.size + 1 + 1, 0, none⟩) 2 [⟨some ⟨w.heap.size, 0, none⟩, 3, 3, [1, 3, 5]⟩, ⟨some ⟨w.heap.size + 1, 0, none⟩, 3, 3, [3, 4, 5]⟩] := by
    refine ⟨by rw [hW3, ← s2]; exact Rd.new W2 38 [⟨some ⟨w.heap.size, 0, none⟩, 3, 3, [1, 3, 5]⟩, ⟨some ⟨w.heap.size + 1, 0, none⟩, 3, 3, [3, 4, 5]⟩] _ 2 (0, 0) (enc := encUV) rfl rfl (by decide), fun x hx => ?_⟩
    simp at hx
    rcases hx with rfl | rfl
    · exact ⟨show (3 : Nat) ≤ 3 by decide, show (3 : Nat) ≤ 9223372036854775807 by decide, (r1.below b2).below b3⟩
    · exact ⟨show (3 : Nat) ≤ 3 by decide, show (3 : Nat) ≤ 9223372036854775807 by decide, r2.below b3⟩
  obtain ⟨la1, la2⟩ := live_and _ (some ⟨w.heap.size, 0, none⟩) (some ⟨w.heap.size + 1, 0, none⟩) 3 3 rfl
  have C := Lib.hid (And_any (some ⟨w.heap.size + 1 + 1, 0, none⟩) 2 2 _ W3 hrd (by decide) (by decide) (by decide) (fun x hx => by simp at hx; rcases hx with rfl | rfl <;> exact (show (3 : Nat) ≤ 1000000 by decide)))
  rw [la1, la2] at C
  have HB3 := Lib.hid (Below.thn (Below.thn b1 b2) b3)
  have HW : Hid (W3 = _) := Lib.hid hW3
  rw [hW2, hW1] at HW
  clear la1 la2 hrd r1 r2 s1 s2 b1 b2 b3 hW3 hW2 hW1
  go_enter Try.func9, Try.ntmps9
  go_wp2_with fail
  rw [← HW.out]
  refine C.out.mono ?_
  rintro e1 W4 ⟨v, rfl, hv, hb⟩
  have HB4 := Lib.hid (Below.thn HB3.out hb)
  obtain ⟨Av, nv, cv, rfl, hv1, hv2, hv3⟩ := hv.us
  obtain rfl : nv = 2 := hv3.1.len.symm
  have HV := Lib.hid hv3
  clear C hb hv hv3
  obtain ⟨s, hs⟩ : ∃ s, s = W4.heap.size := ⟨_, rfl⟩
  obtain ⟨W5, hW5⟩ : ∃ W5, W5 = W4.alloc (.cells #[.int .i64 0, .int .i64 2] 3) := ⟨_, rfl⟩
  obtain ⟨W6, hW6⟩ : ∃ W6, W6 = W5.alloc (.cells #[.int .i64 1, .int .i64 4] 3) := ⟨_, rfl⟩
  obtain ⟨W7, hW7⟩ : ∃ W7, W7 = W6.alloc (.cells #[.int .u32 7, .slice (some ⟨s + 1, 0, none⟩) 2 2] 32) := ⟨_, rfl⟩
  obtain ⟨W8, hW8⟩ : ∃ W8, W8 = W7.alloc (.cells #[.int .i64 3, .int .i64 5] 3) := ⟨_, rfl⟩
  obtain ⟨W9, hW9⟩ : ∃ W9, W9 = W8.alloc (.cells #[.int .u32 7, .slice (some ⟨s + 1 + 1 + 1, 0, none⟩) 2 2] 32) := ⟨_, rfl⟩
  obtain ⟨WX, hWX⟩ : ∃ WX, WX = W9.alloc (.cells #[.slice (some ⟨s + 1 + 1, 0, none⟩) 1 1, .slice (some ⟨s + 1 + 1 + 1 + 1, 0, none⟩) 1 1] 28) := ⟨_, rfl⟩
  have b5 : Below W4.heap.size W4 W5 := by rw [hW5]; exact alc _ _
  have b6 : Below W5.heap.size W5 W6 := by rw [hW6]; exact alc _ _
  have b7 : Below W6.heap.size W6 W7 := by rw [hW7]; exact alc _ _
  have b8 : Below W7.heap.size W7 W8 := by rw [hW8]; exact alc _ _
  have b9 : Below W8.heap.size W8 W9 := by rw [hW9]; exact alc _ _
  have bX : Below W9.heap.size W9 WX := by rw [hWX]; exact alc _ _
  have s5 : W5.heap.size = s + 1 := by rw [hW5]; simp [hs]
  have s6 : W6.heap.size = s + 1 + 1 := by rw [hW6]; simp [s5]
  have s7 : W7.heap.size = s + 1 + 1 + 1 := by rw [hW7]; simp [s6]
  have s8 : W8.heap.size = s + 1 + 1 + 1 + 1 := by rw [hW8]; simp [s7]
  have s9 : W9.heap.size = s + 1 + 1 + 1 + 1 + 1 := by rw [hW9]; simp [s8]
  have p5 : Rd encI W5 (some ⟨s, 0, none⟩) 2 [0, 2] := by rw [hW5, hs]; exact Rd.new W4 3 [0, 2] _ 2 (0, 0) (enc := encI) rfl rfl (by decide)
  have p6 : Rd encI W6 (some ⟨s + 1, 0, none⟩) 2 [1, 4] := by rw [hW6, ← s5]; exact Rd.new W5 3 [1, 4] _ 2 (0, 0) (enc := encI) rfl rfl (by decide)
  have p7 : RdPo W7 (some ⟨s + 1 + 1, 0, none⟩) 1 [(7, [1, 4])] := RdPo.one (by rw [hW7, ← s6]; exact Box2.new _ _ _ _) (p6.below b7) (by decide) (by decide) (by decide)
  have p8 : Rd encI W8 (some ⟨s + 1 + 1 + 1, 0, none⟩) 2 [3, 5] := by rw [hW8, ← s7]; exact Rd.new W7 3 [3, 5] _ 2 (0, 0) (enc := encI) rfl rfl (by decide)
  have p9 : RdPo W9 (some ⟨s + 1 + 1 + 1 + 1, 0, none⟩) 1 [(7, [3, 5])] := RdPo.one (by rw [hW9, ← s8]; exact Box2.new _ _ _ _) (p8.below b9) (by decide) (by decide) (by decide)
  have hrd : RdVV WX (some ⟨s + 1 + 1 + 1 + 1 + 1, 0, none⟩) 2 [⟨some ⟨s + 1 + 1, 0, none⟩, 1, 1, [(7, [1, 4])]⟩, ⟨some ⟨s + 1 + 1 + 1 + 1, 0, none⟩, 1, 1, [(7, [3, 5])]⟩] := by
    refine ⟨by rw [hWX, ← s9]; exact Rd.new W9 28 [⟨some ⟨s + 1 + 1, 0, none⟩, 1, 1, [(7, [1, 4])]⟩, ⟨some ⟨s + 1 + 1 + 1 + 1, 0, none⟩, 1, 1, [(7, [3, 5])]⟩] _ 2 (0, 0) (enc := encVV) rfl rfl (by decide), fun x hx => ?_⟩
    simp at hx
    rcases hx with rfl | rfl
    · exact ⟨show (1 : Nat) ≤ 1 by decide, show (1 : Nat) ≤ 9223372036854775807 by decide, ((p7.below b8).below b9).below bX⟩
    · exact ⟨show (1 : Nat) ≤ 1 by decide, show (1 : Nat) ≤ 9223372036854775807 by decide, p9.below bX⟩
  have hb5X : Below W5.heap.size W5 WX := Below.thn (Below.thn (Below.thn (Below.thn b6 b7) b8) b9) bX
  obtain ⟨lp1, lp2⟩ := live_ph _ (some ⟨s + 1 + 1, 0, none⟩) (some ⟨s + 1 + 1 + 1 + 1, 0, none⟩) 1 1 rfl
  have C := Lib.hid (Phrase_any (some ⟨s, 0, none⟩) 2 2 [0, 2] (some ⟨s + 1 + 1 + 1 + 1 + 1, 0, none⟩) 2 2 _ WX (p5.below hb5X) hrd (by decide) (fun x hx => by simp at hx; rcases hx with rfl | rfl <;> exact (show (1 : Nat) ≤ 1000000 by decide)))
  rw [lp1, lp2] at C
  have HBX := Lib.hid (Below.thn HB4.out (Below.thn b5 hb5X))
  have HVX := Lib.hid (HV.out.below (Below.thn b5 hb5X))
  have HW : Hid (WX = _) := Lib.hid hWX
  rw [hW9, hW8, hW7, hW6, hW5] at HW
  have HS := Lib.hid hs
  clear lp1 lp2 hrd hb5X p5 p6 p7 p8 p9 s5 s6 s7 s8 s9 b5 b6 b7 b8 b9 bX hW5 hW6 hW7 hW8 hW9 hWX hs HV
  have hbd1 : ∀ W : World, (Instr.build 32 #[(0, .int .u32 7), (1, .slice (some ⟨s + 1, 0, none⟩) 2 2)]).run Try.prog W = .ok (.agg #[.int .u32 7, .slice (some ⟨s + 1, 0, none⟩) 2 2]) W := fun W => run_build W 32 _ _ (by kernel_rfl)
  have hbd2 : ∀ W : World, (Instr.build 32 #[(0, .int .u32 7), (1, .slice (some ⟨s + 1 + 1 + 1, 0, none⟩) 2 2)]).run Try.prog W = .ok (.agg #[.int .u32 7, .slice (some ⟨s + 1 + 1 + 1, 0, none⟩) 2 2]) W := fun W => run_build W 32 _ _ (by kernel_rfl)
  rw [HS.out] at hbd1 hbd2
  go_wp2_with fail
  rw [← HS.out, ← HW.out]
  refine C.out.mono ?_
  rintro e2 WY ⟨v, rfl, ⟨Ap, np, cp, rfl, hp1, hp2, hp3⟩, hb⟩
  have HBY := Lib.hid (Below.thn HBX.out hb)
  have HVY := Lib.hid (HVX.out.below hb)
  have HP := Lib.hid hp3
  obtain ⟨WZ, hWZ⟩ : ∃ WZ, WZ = WY.alloc (.cells #[.int .u32 3, .int .u32 5] 30) := ⟨_, rfl⟩
  have bZ : Below WY.heap.size WY WZ := by rw [hWZ]; exact alc _ _
  have rZ : RdU WZ (some ⟨WY.heap.size, 0, none⟩) 2 [3, 5] := by rw [hWZ]; exact ⟨Rd.new WY 30 [3, 5] _ 2 (0, 0) (enc := encU) rfl rfl (by decide), by intro x hx; simp at hx; omega⟩
  have C2 := Lib.hid (equalU_any Av (some ⟨WY.heap.size, 0, none⟩) 2 2 cv 2 [3, 5] [3, 5] WZ (HVY.out.below bZ) rZ)
  rw [decide_eq_true rfl] at C2
  have HBZ := Lib.hid (Below.thn HBY.out bZ)
  have HPZ := Lib.hid (HP.out.below bZ)
  have HWZ := Lib.hid hWZ
  clear C hb hp3 bZ rZ hWZ hbd1 hbd2
  go_wp2_with fail
  rw [← HWZ.out]
  refine C2.out.mono ?_
  rintro e3 V1 ⟨rfl, hb⟩
  obtain ⟨V2, hV2⟩ : ∃ V2, V2 = V1.alloc (.cells #[.int .i64 1] 3) := ⟨_, rfl⟩
  obtain ⟨V3, hV3⟩ : ∃ V3, V3 = V2.alloc (.cells #[.int .u32 7, .slice (some ⟨V1.heap.size, 0, none⟩) 1 1] 32) := ⟨_, rfl⟩
  have b2 : Below V1.heap.size V1 V2 := by rw [hV2]; exact alc _ _
  have b3 : Below V2.heap.size V2 V3 := by rw [hV3]; exact alc _ _
  have s2 : V2.heap.size = V1.heap.size + 1 := by rw [hV2]; simp
  have q2 : Rd encI V2 (some ⟨V1.heap.size, 0, none⟩) 1 [1] := by rw [hV2]; exact Rd.new V1 3 [1] _ 1 (0, 0) (enc := encI) rfl rfl (by decide)
  have q3 : RdPo V3 (some ⟨V1.heap.size + 1, 0, none⟩) 1 [(7, [1])] := RdPo.one (by rw [hV3, ← s2]; exact Box2.new _ _ _ _) (q2.below b3) (by decide) (by decide) (by decide)
  have C3 := Lib.hid (SameAll_any Ap (some ⟨V1.heap.size + 1, 0, none⟩) np 1 cp 1 [(7, [1])] [(7, [1])] V3 (((HPZ.out.below hb).below b2).below b3) q3)
  rw [decide_eq_true rfl] at C3
  have HB3 := Lib.hid (Below.thn (Below.thn (Below.thn HBZ.out hb) b2) b3)
  have hbd1 : ∀ W : World, (Instr.build 32 #[(0, .int .u32 7), (1, .slice (some ⟨V1.heap.size, 0, none⟩) 1 1)]).run Try.prog W = .ok (.agg #[.int .u32 7, .slice (some ⟨V1.heap.size, 0, none⟩) 1 1]) W := fun W => run_build W 32 _ _ (by kernel_rfl)
  have HV3 : Hid (V3 = _) := Lib.hid hV3
  rw [hV2] at HV3
  clear C2 hb b2 b3 s2 q2 q3 hV2 hV3
  go_wp2_with fail
  rw [← HV3.out]
  refine C3.out.mono ?_
  rintro e4 V4 ⟨rfl, hb⟩
  have HB5 := Lib.hid (Below.thn HB3.out hb)
  clear C3 hb
  go_wp2
  go_ret
  exact ⟨rfl, HB5.out⟩
end Go.Proofs.Ytaaddckhldccjaa
