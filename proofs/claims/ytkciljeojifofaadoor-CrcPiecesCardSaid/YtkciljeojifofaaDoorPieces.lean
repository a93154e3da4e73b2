/- The walk of the law CrcPieces: however bytes are cut the sum is the same. -/
import Derived.Test.YtkciljeojifofaaDoorTwo2
import Derived.Test.YtkciljeojifofaaDoorReg
namespace Go.Proofs.YtkciljeojifofaaDoor
open Go.RowKit Crc
set_option linter.unusedVariables false
set_option linter.unusedSimpArgs false

theorem xor_all_all (x : Nat) : (x ^^^ 4294967295) ^^^ 4294967295 = x := by rw [Nat.xor_assoc, Nat.xor_self, Nat.xor_zero]
theorem crcAdd_append (s : Nat) (x y : List Nat) : crcAdd (crcAdd s x) y = crcAdd s (x ++ y) := by
  unfold crcAdd
  rw [xor_all_all, goL_append]
theorem itN_zeros : ∀ (n r : Nat), itN n r = goL r (List.replicate n 0)
  | 0, r => rfl
  | n + 1, r => by
    rw [List.replicate_succ]
    show itN n (st8 r) = goL (goB r 0) (List.replicate n 0)
    rw [itN_zeros n]
    unfold goB
    rw [Nat.xor_zero]
theorem two_append (x y : List Nat) : twoN (crcAdd 0 x) (crcAdd 0 y) y.length = crcAdd 0 (x ++ y) := by
  unfold twoN
  rw [if_neg (by omega)]
  unfold crcAdd
  rw [goL_append, itN_zeros, Int.toNat_natCast, Nat.zero_xor, ← Nat.xor_assoc, ← goL_xor _ y _ _ (by simp), xor_all_all]
  congr 2
  apply List.ext_getElem
  · simp
  · intro i h1 h2
    simp

theorem RdB.take {w : World} {A : Option Addr} {n : Nat} {l : List Nat} (h : RdB w A n l) (r : Nat) (hr : r ≤ n) : RdB w A r (l.take r) :=
  ⟨by rw [List.length_take, h.1]; omega, by have := h.2.1; omega, fun c hc => h.2.2.1 c (List.mem_of_mem_take hc), fun h0 => by
    obtain ⟨ad, e, hcl⟩ := h.2.2.2 (by omega)
    exact ⟨ad, e, fun j hj => by rw [hcl j (by omega)]; simp [List.getD_eq_getElem?_getD, hj]⟩⟩
theorem add_add (a : Addr) (i j : Nat) : (a.add i).add j = a.add (i + j) := by
  unfold Addr.add
  by_cases h1 : i = 0 <;> by_cases h2 : j = 0 <;> simp [h1, h2, Nat.add_assoc]
theorem RdB.drop {w : World} {A : Option Addr} {n : Nat} {l : List Nat} (h : RdB w A n l) (c r : Nat) (hr : r ≤ n) (hc : n ≤ c) : RdB w (if c = r then A else A.map (·.add r)) (n - r) (l.drop r) :=
  ⟨by rw [List.length_drop, h.1], by have := h.2.1; omega, fun x hx => h.2.2.1 x (List.mem_of_mem_drop hx), fun h0 => by
    obtain ⟨ad, rfl, hcl⟩ := h.2.2.2 (by omega)
    rw [if_neg (by omega)]
    exact ⟨ad.add r, rfl, fun j hj => by rw [add_add, hcl (r + j) (by omega)]; simp [List.getD_eq_getElem?_getD]⟩⟩
theorem info5 : (Tryd.prog.info? 5).map (fun i => (i.zero, i.size, i.bytes)) = some (some (.int .u8 0), 1, 1) := by kernel_rfl
/-- 'b[k:]' and 'b[k:m]' without a case on the capacity. -/
theorem cut_from (A : Option Addr) (n c k : Nat) (hk : k ≤ n) (hc : n ≤ c) : ∃ A' : Option Addr,
    (∀ W : World, (Instr.slice 31 (.slice A n c) (some (.int .i64 (k : Int))) none none).run Tryd.prog W = .ok (.slice A' (n - k) (c - k)) W) ∧
    (∀ (m : Nat), k ≤ m → m ≤ n → ∀ W : World, (Instr.slice 31 (.slice A n c) (some (.int .i64 (k : Int))) (some (.int .i64 (m : Int))) none).run Tryd.prog W = .ok (.slice A' (m - k) (c - k)) W) ∧
      ∀ (w : World) (l : List Nat), RdB w A n l → RdB w A' (n - k) (l.drop k) := by
  obtain ⟨i, hi, hzz⟩ := Option.map_eq_some_iff.1 info5
  simp only [Prod.mk.injEq] at hzz
  have hel : Tryd.prog.elem 31 = 5 := by simp [Program.elem, Tryd.underlying31]
  have hu : Tryd.prog.underlying 31 = some (.slice (Tryd.prog.elem 31)) := by rw [hel]; exact Tryd.underlying31
  refine ⟨if c = k then A else A.map (·.add k), fun W => ?_, fun m h1 h2 W => ?_, fun w l h => h.drop c k hk hc⟩
  · rw [run_slice_l W 31 A n c hu .i64 (k : Int) (Int.natCast_nonneg _) (by omega), hel]
    simp [sizeOf, typeInfo, hi, hzz.2.1, sliced, Result.andThen]
  · rw [run_slice_lh W 31 A n c hu .i64 .i64 (k : Int) (m : Int) (Int.natCast_nonneg _) (by omega) (by omega), hel]
    simp [sizeOf, typeInfo, hi, hzz.2.1, sliced, Result.andThen]

theorem Of_new1 (W : World) (A : Option Addr) (n c : Nat) (l : List Nat) (hT : Tab W) (h : RdB W A n l) :
    Calls Tryd.prog 11 #[.slice (some ⟨W.heap.size, 0, none⟩) 1 1] (W.alloc (.cells #[.slice A n c] 31)) fun e w' => e = .returned (.int .u32 (crcAdd 0 l : Nat)) ∧ Below W.heap.size W w' :=
  have hb := (Below.refl W.heap.size W).alloc (Nat.le_refl _) (.cells #[.slice A n c] 31)
  (Of_any _ _ _ _ _ (hT.below hb) (RdBB.new1 W 31 A n c l h)).mono fun _ _ ⟨he, hw⟩ => ⟨by simpa using he, hw ▸ hb⟩
theorem RdBB.new3 (W : World) {A B C : Option Addr} {n m k c c' c'' : Nat} {l1 l2 l3 : List Nat} (h1 : RdB W A n l1) (h2 : RdB W B m l2) (h3 : RdB W C k l3) :
    RdBB (W.alloc (.cells #[.slice A n c, .slice B m c', .slice C k c''] 31)) (some ⟨W.heap.size, 0, none⟩) 3 [l1, l2, l3] :=
  have hb := (Below.refl W.heap.size W).alloc (Nat.le_refl _) (.cells #[.slice A n c, .slice B m c', .slice C k c''] 31)
  ⟨rfl, by decide, fun _ => ⟨_, rfl, fun j hj => by
    rw [Addr.add_lit, Nat.zero_add, World.cell?_alloc_mark]
    obtain rfl | rfl | rfl : j = 0 ∨ j = 1 ∨ j = 2 := by omega
    · exact ⟨A, n, c, rfl, h1.below hb⟩
    · exact ⟨B, m, c', rfl, h2.below hb⟩
    · exact ⟨C, k, c'', rfl, h3.below hb⟩⟩⟩
def PieF (A A1 A2 : Option Addr) (n c k m : Nat) (l : List Nat) : Nat → Value → World → Prop
  | 0 => fun v w => v = .slice A n c
  | 1 => fun v w => v = .int .i64 (k : Int)
  | 2 => fun v w => v = .slice A k c
  | 3 => fun v w => v = .slice A n c
  | 4 => fun v w => v = .int .i64 (k : Int)
  | 5 => fun v w => v = .int .i64 (m : Int)
  | 6 => fun v w => v = .slice A1 (m - k) (c - k)
  | 7 => fun v w => v = .slice A n c
  | 8 => fun v w => v = .int .i64 (m : Int)
  | 9 => fun v w => v = .slice A2 (n - m) (c - m)
  | 10 => fun v w => ∃ (B1 : Addr), v = .slice (some B1) 3 3 ∧ RdBB w (some B1) 3 [l.take k, (l.drop k).take (m - k), l.drop m]
  | 11 => fun v w => v = .int .u32 (crcAdd 0 (l) : Nat)
  | 12 => fun v w => v = .int .u32 (crcAdd 0 (l) : Nat)
  | 13 => fun v w => v = .bool true
  | 14 => fun v w => v = .bool true
  | 15 => fun v w => v = .slice A n c
  | 16 => fun v w => v = .int .i64 (k : Int)
  | 17 => fun v w => v = .slice A k c
  | 18 => fun v w => ∃ (B1 : Addr), v = .slice (some B1) 1 1 ∧ RdBB w (some B1) 1 [l.take k]
  | 19 => fun v w => v = .int .u32 (crcAdd 0 (l.take k) : Nat)
  | 20 => fun v w => v = .slice A n c
  | 21 => fun v w => v = .int .i64 (k : Int)
  | 22 => fun v w => v = .slice A1 (n - k) (c - k)
  | 23 => fun v w => ∃ (B1 : Addr), v = .slice (some B1) 1 1 ∧ RdBB w (some B1) 1 [l.drop k]
  | 24 => fun v w => v = .int .u32 (crcAdd 0 (l) : Nat)
  | 25 => fun v w => v = .int .u32 (crcAdd 0 (l) : Nat)
  | 26 => fun v w => v = .bool true
  | 27 => fun v w => v = .bool true
  | 28 => fun v w => v = .bool true
  | 29 => fun v w => v = .slice A n c
  | 30 => fun v w => v = .int .i64 (k : Int)
  | 31 => fun v w => v = .slice A k c
  | 32 => fun v w => ∃ (B1 : Addr), v = .slice (some B1) 1 1 ∧ RdBB w (some B1) 1 [l.take k]
  | 33 => fun v w => v = .int .u32 (crcAdd 0 (l.take k) : Nat)
  | 34 => fun v w => v = .slice A n c
  | 35 => fun v w => v = .int .i64 (k : Int)
  | 36 => fun v w => v = .int .i64 (m : Int)
  | 37 => fun v w => v = .slice A1 (m - k) (c - k)
  | 38 => fun v w => ∃ (B1 : Addr), v = .slice (some B1) 1 1 ∧ RdBB w (some B1) 1 [(l.drop k).take (m - k)]
  | 39 => fun v w => v = .int .u32 (crcAdd 0 (l.take k ++ (l.drop k).take (m - k)) : Nat)
  | 40 => fun v w => v = .slice A n c
  | 41 => fun v w => v = .int .i64 (m : Int)
  | 42 => fun v w => v = .slice A2 (n - m) (c - m)
  | 43 => fun v w => ∃ (B1 : Addr), v = .slice (some B1) 1 1 ∧ RdBB w (some B1) 1 [l.drop m]
  | 44 => fun v w => v = .int .u32 (crcAdd 0 (l) : Nat)
  | 45 => fun v w => v = .int .u32 (crcAdd 0 (l) : Nat)
  | 46 => fun v w => v = .bool true
  | 47 => fun v w => v = .bool true
  | 48 => fun v w => v = .bool true
  | 49 => fun v w => v = .slice A n c
  | 50 => fun v w => v = .int .i64 (k : Int)
  | 51 => fun v w => v = .slice A k c
  | 52 => fun v w => ∃ (B1 : Addr), v = .slice (some B1) 1 1 ∧ RdBB w (some B1) 1 [l.take k]
  | 53 => fun v w => v = .int .u32 (crcAdd 0 (l.take k) : Nat)
  | 54 => fun v w => v = .slice A n c
  | 55 => fun v w => v = .int .i64 (k : Int)
  | 56 => fun v w => v = .slice A1 (n - k) (c - k)
  | 57 => fun v w => ∃ (B1 : Addr), v = .slice (some B1) 1 1 ∧ RdBB w (some B1) 1 [l.drop k]
  | 58 => fun v w => v = .int .u32 (crcAdd 0 (l.drop k) : Nat)
  | 59 => fun v w => v = .slice A n c
  | 60 => fun v w => v = .int .i64 (n : Int)
  | 61 => fun v w => v = .int .i64 (k : Int)
  | 62 => fun v w => v = .int .i64 ((n : Int) - (k : Int))
  | 63 => fun v w => v = .int .u32 (crcAdd 0 (l) : Nat)
  | 64 => fun v w => v = .int .u32 (crcAdd 0 (l) : Nat)
  | 65 => fun v w => v = .bool true
  | 66 => fun v w => v = .bool true
  | 67 => fun v w => v = .bool true
  | _ => fun _ _ => True
theorem PieF.below (A A1 A2 : Option Addr) (n c k m : Nat) (l : List Nat) : ∀ i v w w', Below w.heap.size w w' → PieF A A1 A2 n c k m l i v w → PieF A A1 A2 n c k m l i v w'
  | 0, _, _, _, _, h => h
  | 1, _, _, _, _, h => h
  | 2, _, _, _, _, h => h
  | 3, _, _, _, _, h => h
  | 4, _, _, _, _, h => h
  | 5, _, _, _, _, h => h
  | 6, _, _, _, _, h => h
  | 7, _, _, _, _, h => h
  | 8, _, _, _, _, h => h
  | 9, _, _, _, _, h => h
  | 10, _, _, _, hb, h => by
    obtain ⟨B1, e, g⟩ := h
    exact ⟨B1, e, g.below hb⟩
  | 11, _, _, _, _, h => h
  | 12, _, _, _, _, h => h
  | 13, _, _, _, _, h => h
  | 14, _, _, _, _, h => h
  | 15, _, _, _, _, h => h
  | 16, _, _, _, _, h => h
  | 17, _, _, _, _, h => h
  | 18, _, _, _, hb, h => by
    obtain ⟨B1, e, g⟩ := h
    exact ⟨B1, e, g.below hb⟩
  | 19, _, _, _, _, h => h
  | 20, _, _, _, _, h => h
  | 21, _, _, _, _, h => h
  | 22, _, _, _, _, h => h
  | 23, _, _, _, hb, h => by
    obtain ⟨B1, e, g⟩ := h
    exact ⟨B1, e, g.below hb⟩
  | 24, _, _, _, _, h => h
  | 25, _, _, _, _, h => h
  | 26, _, _, _, _, h => h
  | 27, _, _, _, _, h => h
  | 28, _, _, _, _, h => h
  | 29, _, _, _, _, h => h
  | 30, _, _, _, _, h => h
  | 31, _, _, _, _, h => h
  | 32, _, _, _, hb, h => by
    obtain ⟨B1, e, g⟩ := h
    exact ⟨B1, e, g.below hb⟩
  | 33, _, _, _, _, h => h
  | 34, _, _, _, _, h => h
  | 35, _, _, _, _, h => h
  | 36, _, _, _, _, h => h
  | 37, _, _, _, _, h => h
  | 38, _, _, _, hb, h => by
    obtain ⟨B1, e, g⟩ := h
    exact ⟨B1, e, g.below hb⟩
  | 39, _, _, _, _, h => h
  | 40, _, _, _, _, h => h
  | 41, _, _, _, _, h => h
  | 42, _, _, _, _, h => h
  | 43, _, _, _, hb, h => by
    obtain ⟨B1, e, g⟩ := h
    exact ⟨B1, e, g.below hb⟩
  | 44, _, _, _, _, h => h
  | 45, _, _, _, _, h => h
  | 46, _, _, _, _, h => h
  | 47, _, _, _, _, h => h
  | 48, _, _, _, _, h => h
  | 49, _, _, _, _, h => h
  | 50, _, _, _, _, h => h
  | 51, _, _, _, _, h => h
  | 52, _, _, _, hb, h => by
    obtain ⟨B1, e, g⟩ := h
    exact ⟨B1, e, g.below hb⟩
  | 53, _, _, _, _, h => h
  | 54, _, _, _, _, h => h
  | 55, _, _, _, _, h => h
  | 56, _, _, _, _, h => h
  | 57, _, _, _, hb, h => by
    obtain ⟨B1, e, g⟩ := h
    exact ⟨B1, e, g.below hb⟩
  | 58, _, _, _, _, h => h
  | 59, _, _, _, _, h => h
  | 60, _, _, _, _, h => h
  | 61, _, _, _, _, h => h
  | 62, _, _, _, _, h => h
  | 63, _, _, _, _, h => h
  | 64, _, _, _, _, h => h
  | 65, _, _, _, _, h => h
  | 66, _, _, _, _, h => h
  | 67, _, _, _, _, h => h
  | _ + 68, _, _, _, _, _ => trivial
set_option maxRecDepth 100000 in
set_option maxHeartbeats 2000000 in
theorem pieces_any (A : Option Addr) (n c : Nat) (l : List Nat) (at_ to : Int) (w : World) (hT : Tab w) (h1 : RdB w A n l) (hc : n ≤ c) (ha0 : 0 ≤ at_) (ha1 : at_ ≤ 65535) (ht0 : 0 ≤ to) (ht1 : to ≤ 65535) :
    Calls Tryd.prog 8 #[.slice A n c, .int .u16 at_, .int .u16 to] w fun e w' => e = .returned (.bool true) ∧ Below w.heap.size w w' := by
  have hn1 := h1.2.1
  have HT := Lib.hid hT
  have H1 := Lib.hid h1
  clear hT h1
  by_cases hn : (3000 : Int) < (n : Int)
  · go_enter Tryd.func8, Tryd.ntmps8
    go_wp2_with fail
    refine (live_any w HT.out).mono ?_
    rintro e w1 ⟨rfl, hb1⟩
    have HB1 := Lib.hid hb1
    clear hb1
    go_wp2_with fail
    refine (live_any w1 (HT.out.below HB1.out)).mono ?_
    rintro e w2 ⟨rfl, hb2⟩
    have HB2 := Lib.hid hb2
    clear hb2
    go_wp2
    go_ret
    exact ⟨rfl, Below.then HB1.out HB2.out⟩
  · obtain ⟨at_, rfl⟩ := Int.eq_ofNat_of_zero_le ha0
    obtain ⟨to, rfl⟩ := Int.eq_ofNat_of_zero_le ht0
    obtain ⟨k, hk⟩ : ∃ k, k = at_ % (n + 1) := ⟨_, rfl⟩
    have hkn : k ≤ n := by have := Nat.mod_lt at_ (show 0 < n + 1 by omega); omega
    obtain ⟨j, hj⟩ : ∃ j, j = to % (n - k + 1) := ⟨_, rfl⟩
    have hjn : j ≤ n - k := by have := Nat.mod_lt to (show 0 < n - k + 1 by omega); omega
    have r1 : (at_ : Int) % ((n : Int) + 1) = (k : Int) := by rw [hk]; simp
    have r2 : (to : Int) % ((n : Int) - (k : Int) + 1) = (j : Int) := by
      rw [hj, show (n : Int) - (k : Int) + 1 = ((n - k + 1 : Nat) : Int) by omega]; simp
    obtain ⟨m, hm⟩ : ∃ m, m = k + j := ⟨_, rfl⟩
    have r3 : (k : Int) + (j : Int) = (m : Int) := by omega
    have hkm : k ≤ m := by omega
    have hmn : m ≤ n := by omega
    clear hk hj hm
    obtain ⟨A1, c1, c2, rd1⟩ := cut_from A n c k hkn hc
    obtain ⟨A2, c3, _, rd2⟩ := cut_from A n c m hmn hc
    have c2' := c2 m hkm hmn
    clear c2
    have RT := Lib.hid ((H1.out.take k hkn))
    have RD := Lib.hid (rd1 w l H1.out)
    have RE := Lib.hid (rd2 w l H1.out)
    have RM : Hid (RdB w A1 (m - k) ((l.drop k).take (m - k))) := (rd1 w l H1.out).take (m - k) (by omega)
    clear rd1 rd2
    have HN : Hid (l.length = n) := H1.out.1
    have EQ3 : Hid (l.take k ++ (l.drop k).take (m - k) ++ l.drop m = l) := by
      show _ = _
      have e : l.drop m = (l.drop k).drop (m - k) := by rw [List.drop_drop]; congr 1; omega
      rw [e, List.append_assoc, List.take_append_drop, List.take_append_drop]
    have EQ2 : Hid (l.take k ++ l.drop k = l) := List.take_append_drop k l
    have EQ5 : Hid (((n : Int) - (k : Int)) = (((l.drop k).length : Nat) : Int)) := by show _ = _; rw [List.length_drop, HN.out]; omega
    have L0 : Hid (crcAdd 0 l < 4294967296) := crcAdd_lt (by decide) H1.out.bytes
    have L1 : Hid (crcAdd 0 (l.take k) < 4294967296) := crcAdd_lt (by decide) RT.out.bytes
    have L2 : Hid (crcAdd 0 (l.drop k) < 4294967296) := crcAdd_lt (by decide) RD.out.bytes
    have L3 : Hid (crcAdd 0 (l.take k ++ (l.drop k).take (m - k)) < 4294967296) := crcAdd_lt (by decide) (by
      intro c hc
      rcases List.mem_append.1 hc with h | h
      · exact RT.out.bytes c h
      · exact RM.out.bytes c h)
    go_enter Tryd.func8, Tryd.ntmps8
    go_wp2_with fail
    refine (live_any w HT.out).mono ?_
    rintro e w1 ⟨rfl, hb1⟩
    have HB1 := Lib.hid hb1
    clear hb1
    go_wp2_with fail
    refine (Of_new1 _ _ _ _ _ (HT.out.below HB1.out) (H1.out.below HB1.out)).mono ?_
    rintro e w2 ⟨rfl, hb2⟩
    have HB2 := Lib.hid (Below.then HB1.out hb2)
    clear hb2
    go_wp2_with fail
    rename_i K1 hK1
    have hkc : k ≤ c := by omega
    have hsub : IntKind.i64.wrap ((n : Int) - (k : Int)) = (n : Int) - (k : Int) := IntWalk.i64_in _ (by omega)
    refine wp_region_flow (by kernel_rfl) (PieF A A1 A2 n c k m l) (PieF.below A A1 A2 n c k m l) (by kernel_rfl) (by kernel_rfl) ?_ ?_
    case refine_1 =>
      intro i o ho ρ y w2 hb2 hreg hn hf hyb hyn
      have hi := (Array.getElem?_eq_some_iff.1 ho).1
      rcases Nat.lt_or_ge i 68 with hi2 | hi2
      case inr => simp at hi; omega
      obtain rfl | rfl | rfl | rfl | rfl | rfl | rfl | rfl | rfl | rfl | rfl | rfl | rfl | rfl | rfl | rfl | rfl | rfl | rfl | rfl | rfl | rfl | rfl | rfl | rfl | rfl | rfl | rfl | rfl | rfl | rfl | rfl | rfl | rfl | rfl | rfl | rfl | rfl | rfl | rfl | rfl | rfl | rfl | rfl | rfl | rfl | rfl | rfl | rfl | rfl | rfl | rfl | rfl | rfl | rfl | rfl | rfl | rfl | rfl | rfl | rfl | rfl | rfl | rfl | rfl | rfl | rfl | rfl : i = 0 ∨ i = 1 ∨ i = 2 ∨ i = 3 ∨ i = 4 ∨ i = 5 ∨ i = 6 ∨ i = 7 ∨ i = 8 ∨ i = 9 ∨ i = 10 ∨ i = 11 ∨ i = 12 ∨ i = 13 ∨ i = 14 ∨ i = 15 ∨ i = 16 ∨ i = 17 ∨ i = 18 ∨ i = 19 ∨ i = 20 ∨ i = 21 ∨ i = 22 ∨ i = 23 ∨ i = 24 ∨ i = 25 ∨ i = 26 ∨ i = 27 ∨ i = 28 ∨ i = 29 ∨ i = 30 ∨ i = 31 ∨ i = 32 ∨ i = 33 ∨ i = 34 ∨ i = 35 ∨ i = 36 ∨ i = 37 ∨ i = 38 ∨ i = 39 ∨ i = 40 ∨ i = 41 ∨ i = 42 ∨ i = 43 ∨ i = 44 ∨ i = 45 ∨ i = 46 ∨ i = 47 ∨ i = 48 ∨ i = 49 ∨ i = 50 ∨ i = 51 ∨ i = 52 ∨ i = 53 ∨ i = 54 ∨ i = 55 ∨ i = 56 ∨ i = 57 ∨ i = 58 ∨ i = 59 ∨ i = 60 ∨ i = 61 ∨ i = 62 ∨ i = 63 ∨ i = 64 ∨ i = 65 ∨ i = 66 ∨ i = 67 := by omega
      · cases ho
        rw [if_pos (show Region.wanted _ y = true from rfl)]
        have f0 : ρ (.tmp 0) = .slice A n c := hf 0 (by kernel_rfl)
        exact ⟨f0, Below.refl _ _⟩
      · cases ho
        rw [if_pos (show Region.wanted _ y = true from rfl)]
        have f7 : ρ (.tmp 7) = .int .i64 (k : Int) := hf 7 (by kernel_rfl)
        exact ⟨f7, Below.refl _ _⟩
      · cases ho
        rw [if_pos (show Region.wanted _ y = true from rfl)]
        have f37 : ρ (.tmp 37) = .slice A n c := hn 0 _ 37 rfl (by kernel_rfl) rfl
        have f38 : ρ (.tmp 38) = .int .i64 (k : Int) := hn 1 _ 38 rfl (by kernel_rfl) rfl
        exact does_ok (v := .slice A k c) (w' := w2) (by simp [go_sem, f37, f38, sliced, hkc]) ⟨rfl, Below.refl _ _⟩
      · cases ho
        rw [if_pos (show Region.wanted _ y = true from rfl)]
        have f0 : ρ (.tmp 0) = .slice A n c := hf 0 (by kernel_rfl)
        exact ⟨f0, Below.refl _ _⟩
      · cases ho
        rw [if_pos (show Region.wanted _ y = true from rfl)]
        have f7 : ρ (.tmp 7) = .int .i64 (k : Int) := hf 7 (by kernel_rfl)
        exact ⟨f7, Below.refl _ _⟩
      · cases ho
        rw [if_pos (show Region.wanted _ y = true from rfl)]
        have f8 : ρ (.tmp 8) = .int .i64 (m : Int) := hf 8 (by kernel_rfl)
        exact ⟨f8, Below.refl _ _⟩
      · cases ho
        rw [if_pos (show Region.wanted _ y = true from rfl)]
        have f40 : ρ (.tmp 40) = .slice A n c := hn 3 _ 40 rfl (by kernel_rfl) rfl
        have f41 : ρ (.tmp 41) = .int .i64 (k : Int) := hn 4 _ 41 rfl (by kernel_rfl) rfl
        have f42 : ρ (.tmp 42) = .int .i64 (m : Int) := hn 5 _ 42 rfl (by kernel_rfl) rfl
        exact does_ok (v := .slice A1 (m - k) (c - k)) (w' := w2) (by simp [go_sem, f40, f41, f42, c2']) ⟨rfl, Below.refl _ _⟩
      · cases ho
        rw [if_pos (show Region.wanted _ y = true from rfl)]
        have f0 : ρ (.tmp 0) = .slice A n c := hf 0 (by kernel_rfl)
        exact ⟨f0, Below.refl _ _⟩
      · cases ho
        rw [if_pos (show Region.wanted _ y = true from rfl)]
        have f8 : ρ (.tmp 8) = .int .i64 (m : Int) := hf 8 (by kernel_rfl)
        exact ⟨f8, Below.refl _ _⟩
      · cases ho
        rw [if_pos (show Region.wanted _ y = true from rfl)]
        have f44 : ρ (.tmp 44) = .slice A n c := hn 7 _ 44 rfl (by kernel_rfl) rfl
        have f45 : ρ (.tmp 45) = .int .i64 (m : Int) := hn 8 _ 45 rfl (by kernel_rfl) rfl
        exact does_ok (v := .slice A2 (n - m) (c - m)) (w' := w2) (by simp [go_sem, f44, f45, c3]) ⟨rfl, Below.refl _ _⟩
      · cases ho
        rw [if_pos (show Region.wanted _ y = true from rfl)]
        have f39 : ρ (.tmp 39) = .slice A k c := hn 2 _ 39 rfl (by kernel_rfl) rfl
        have f43 : ρ (.tmp 43) = .slice A1 (m - k) (c - k) := hn 6 _ 43 rfl (by kernel_rfl) rfl
        have f46 : ρ (.tmp 46) = .slice A2 (n - m) (c - m) := hn 9 _ 46 rfl (by kernel_rfl) rfl
        have hbb := Below.then HB2.out hb2
        refine does_ok (v := .slice (some ⟨w2.heap.size, 0, none⟩) 3 3) (w' := w2.alloc (.cells #[.slice A k c, .slice A1 (m - k) (c - k), .slice A2 (n - m) (c - m)] 31)) (by simp [go_sem, f39, f43, f46]) ⟨⟨_, rfl, RdBB.new3 w2 (RT.out.below hbb) (RM.out.below hbb) (RE.out.below hbb)⟩, (Below.refl _ _).alloc (Nat.le_refl _) _⟩
      · cases ho
        rw [if_pos (show Region.wanted _ y = true from rfl)]
        obtain ⟨B1, f47, g47⟩ : ∃ (B1 : Addr), ρ (.tmp 47) = .slice (some B1) 3 3 ∧ RdBB w2 (some B1) 3 [l.take k, (l.drop k).take (m - k), l.drop m] := hn 10 _ 47 rfl (by kernel_rfl) rfl
        have hbb := Below.then HB2.out hb2
        refine does_enter (f := 11) (args := #[.slice (some B1) 3 3]) (w' := w2) (by simp [go_sem, f47, hreg.func]) ?_
        refine (Of_any _ _ _ _ _ (HT.out.below hbb) g47).mono ?_
        rintro e w' ⟨rfl, rfl⟩
        exact ⟨_, rfl, by show _ = _; simp only [List.flatten_cons, List.flatten_nil, List.append_nil]; rw [← List.append_assoc, EQ3.out], Below.refl _ _⟩
      · cases ho
        rw [if_pos (show Region.wanted _ y = true from rfl)]
        have f9 : ρ (.tmp 9) = .int .u32 (crcAdd 0 (l) : Nat) := hf 9 (by kernel_rfl)
        exact ⟨f9, Below.refl _ _⟩
      · cases ho
        rw [if_pos (show Region.wanted _ y = true from rfl)]
        have f48 : ρ (.tmp 48) = .int .u32 (crcAdd 0 (l) : Nat) := hn 11 _ 48 rfl (by kernel_rfl) rfl
        have f49 : ρ (.tmp 49) = .int .u32 (crcAdd 0 (l) : Nat) := hn 12 _ 49 rfl (by kernel_rfl) rfl
        exact does_ok (v := .bool true) (w' := w2) (by simp [go_sem, f48, f49]) ⟨rfl, Below.refl _ _⟩
      · cases ho
        rw [if_pos (show Region.wanted _ y = true from rfl)]
        have f50 : ρ (.tmp 50) = .bool true := hn 13 _ 50 rfl (by kernel_rfl) rfl
        exact ⟨f50, Below.refl _ _⟩
      · cases ho
        rw [if_pos (show Region.wanted _ y = true from by simp [Region.wanted, hyb 14 _ _ _ rfl rfl (hn 14 _ _ rfl (by kernel_rfl) rfl)])]
        have f0 : ρ (.tmp 0) = .slice A n c := hf 0 (by kernel_rfl)
        exact ⟨f0, Below.refl _ _⟩
      · cases ho
        rw [if_pos (show Region.wanted _ y = true from by simp [Region.wanted, hyb 14 _ _ _ rfl rfl (hn 14 _ _ rfl (by kernel_rfl) rfl)])]
        have f7 : ρ (.tmp 7) = .int .i64 (k : Int) := hf 7 (by kernel_rfl)
        exact ⟨f7, Below.refl _ _⟩
      · cases ho
        rw [if_pos (show Region.wanted _ y = true from by simp [Region.wanted, hyb 14 _ _ _ rfl rfl (hn 14 _ _ rfl (by kernel_rfl) rfl)])]
        have f52 : ρ (.tmp 52) = .slice A n c := hn 15 _ 52 rfl (by kernel_rfl) rfl
        have f53 : ρ (.tmp 53) = .int .i64 (k : Int) := hn 16 _ 53 rfl (by kernel_rfl) rfl
        exact does_ok (v := .slice A k c) (w' := w2) (by simp [go_sem, f52, f53, sliced, hkc]) ⟨rfl, Below.refl _ _⟩
      · cases ho
        rw [if_pos (show Region.wanted _ y = true from by simp [Region.wanted, hyb 14 _ _ _ rfl rfl (hn 14 _ _ rfl (by kernel_rfl) rfl)])]
        have f54 : ρ (.tmp 54) = .slice A k c := hn 17 _ 54 rfl (by kernel_rfl) rfl
        have hbb := Below.then HB2.out hb2
        refine does_ok (v := .slice (some ⟨w2.heap.size, 0, none⟩) 1 1) (w' := w2.alloc (.cells #[.slice A k c] 31)) (by simp [go_sem, f54]) ⟨⟨_, rfl, RdBB.new1 w2 31 _ _ _ _ (RT.out.below hbb)⟩, (Below.refl _ _).alloc (Nat.le_refl _) _⟩
      · cases ho
        rw [if_pos (show Region.wanted _ y = true from by simp [Region.wanted, hyb 14 _ _ _ rfl rfl (hn 14 _ _ rfl (by kernel_rfl) rfl)])]
        obtain ⟨B1, f55, g55⟩ : ∃ (B1 : Addr), ρ (.tmp 55) = .slice (some B1) 1 1 ∧ RdBB w2 (some B1) 1 [l.take k] := hn 18 _ 55 rfl (by kernel_rfl) rfl
        have hbb := Below.then HB2.out hb2
        refine does_enter (f := 11) (args := #[.slice (some B1) 1 1]) (w' := w2) (by simp [go_sem, f55, hreg.func]) ?_
        refine (Of_any _ _ _ _ _ (HT.out.below hbb) g55).mono ?_
        rintro e w' ⟨rfl, rfl⟩
        exact ⟨_, rfl, by show _ = _; simp, Below.refl _ _⟩
      · cases ho
        rw [if_pos (show Region.wanted _ y = true from by simp [Region.wanted, hyb 14 _ _ _ rfl rfl (hn 14 _ _ rfl (by kernel_rfl) rfl)])]
        have f0 : ρ (.tmp 0) = .slice A n c := hf 0 (by kernel_rfl)
        exact ⟨f0, Below.refl _ _⟩
      · cases ho
        rw [if_pos (show Region.wanted _ y = true from by simp [Region.wanted, hyb 14 _ _ _ rfl rfl (hn 14 _ _ rfl (by kernel_rfl) rfl)])]
        have f7 : ρ (.tmp 7) = .int .i64 (k : Int) := hf 7 (by kernel_rfl)
        exact ⟨f7, Below.refl _ _⟩
      · cases ho
        rw [if_pos (show Region.wanted _ y = true from by simp [Region.wanted, hyb 14 _ _ _ rfl rfl (hn 14 _ _ rfl (by kernel_rfl) rfl)])]
        have f57 : ρ (.tmp 57) = .slice A n c := hn 20 _ 57 rfl (by kernel_rfl) rfl
        have f58 : ρ (.tmp 58) = .int .i64 (k : Int) := hn 21 _ 58 rfl (by kernel_rfl) rfl
        exact does_ok (v := .slice A1 (n - k) (c - k)) (w' := w2) (by simp [go_sem, f57, f58, c1]) ⟨rfl, Below.refl _ _⟩
      · cases ho
        rw [if_pos (show Region.wanted _ y = true from by simp [Region.wanted, hyb 14 _ _ _ rfl rfl (hn 14 _ _ rfl (by kernel_rfl) rfl)])]
        have f59 : ρ (.tmp 59) = .slice A1 (n - k) (c - k) := hn 22 _ 59 rfl (by kernel_rfl) rfl
        have hbb := Below.then HB2.out hb2
        refine does_ok (v := .slice (some ⟨w2.heap.size, 0, none⟩) 1 1) (w' := w2.alloc (.cells #[.slice A1 (n - k) (c - k)] 31)) (by simp [go_sem, f59]) ⟨⟨_, rfl, RdBB.new1 w2 31 _ _ _ _ (RD.out.below hbb)⟩, (Below.refl _ _).alloc (Nat.le_refl _) _⟩
      · cases ho
        rw [if_pos (show Region.wanted _ y = true from by simp [Region.wanted, hyb 14 _ _ _ rfl rfl (hn 14 _ _ rfl (by kernel_rfl) rfl)])]
        have f56 : ρ (.tmp 56) = .int .u32 (crcAdd 0 (l.take k) : Nat) := hn 19 _ 56 rfl (by kernel_rfl) rfl
        obtain ⟨B1, f60, g60⟩ : ∃ (B1 : Addr), ρ (.tmp 60) = .slice (some B1) 1 1 ∧ RdBB w2 (some B1) 1 [l.drop k] := hn 23 _ 60 rfl (by kernel_rfl) rfl
        have hbb := Below.then HB2.out hb2
        refine does_enter (f := 13) (args := #[.int .u32 (crcAdd 0 (l.take k) : Nat), .slice (some B1) 1 1]) (w' := w2) (by simp [go_sem, f56, f60, hreg.func]) ?_
        refine (add_any _ _ _ _ _ _ (by omega) (by have := L1.out; omega) (HT.out.below hbb) g60).mono ?_
        rintro e w' ⟨rfl, rfl⟩
        exact ⟨_, rfl, by show _ = _; simp only [List.flatten_cons, List.flatten_nil, List.append_nil]; rw [Int.toNat_natCast, crcAdd_append, EQ2.out], Below.refl _ _⟩
      · cases ho
        rw [if_pos (show Region.wanted _ y = true from by simp [Region.wanted, hyb 14 _ _ _ rfl rfl (hn 14 _ _ rfl (by kernel_rfl) rfl)])]
        have f9 : ρ (.tmp 9) = .int .u32 (crcAdd 0 (l) : Nat) := hf 9 (by kernel_rfl)
        exact ⟨f9, Below.refl _ _⟩
      · cases ho
        rw [if_pos (show Region.wanted _ y = true from by simp [Region.wanted, hyb 14 _ _ _ rfl rfl (hn 14 _ _ rfl (by kernel_rfl) rfl)])]
        have f61 : ρ (.tmp 61) = .int .u32 (crcAdd 0 (l) : Nat) := hn 24 _ 61 rfl (by kernel_rfl) rfl
        have f62 : ρ (.tmp 62) = .int .u32 (crcAdd 0 (l) : Nat) := hn 25 _ 62 rfl (by kernel_rfl) rfl
        exact does_ok (v := .bool true) (w' := w2) (by simp [go_sem, f61, f62]) ⟨rfl, Below.refl _ _⟩
      · cases ho
        rw [if_pos (show Region.wanted _ y = true from rfl)]
        have f51 : ρ (.tmp 51) = .bool true := hn 14 _ 51 rfl (by kernel_rfl) rfl
        have f63 : ρ (.tmp 63) = .bool true := hn 26 _ 63 rfl (by kernel_rfl) rfl
        exact does_ok (v := .bool true) (w' := w2) (by simp [go_sem, hreg.const, f51, f63]) ⟨rfl, Below.refl _ _⟩
      · cases ho
        rw [if_pos (show Region.wanted _ y = true from rfl)]
        have f64 : ρ (.tmp 64) = .bool true := hn 27 _ 64 rfl (by kernel_rfl) rfl
        exact ⟨f64, Below.refl _ _⟩
      · cases ho
        rw [if_pos (show Region.wanted _ y = true from by simp [Region.wanted, hyb 28 _ _ _ rfl rfl (hn 28 _ _ rfl (by kernel_rfl) rfl)])]
        have f0 : ρ (.tmp 0) = .slice A n c := hf 0 (by kernel_rfl)
        exact ⟨f0, Below.refl _ _⟩
      · cases ho
        rw [if_pos (show Region.wanted _ y = true from by simp [Region.wanted, hyb 28 _ _ _ rfl rfl (hn 28 _ _ rfl (by kernel_rfl) rfl)])]
        have f7 : ρ (.tmp 7) = .int .i64 (k : Int) := hf 7 (by kernel_rfl)
        exact ⟨f7, Below.refl _ _⟩
      · cases ho
        rw [if_pos (show Region.wanted _ y = true from by simp [Region.wanted, hyb 28 _ _ _ rfl rfl (hn 28 _ _ rfl (by kernel_rfl) rfl)])]
        have f66 : ρ (.tmp 66) = .slice A n c := hn 29 _ 66 rfl (by kernel_rfl) rfl
        have f67 : ρ (.tmp 67) = .int .i64 (k : Int) := hn 30 _ 67 rfl (by kernel_rfl) rfl
        exact does_ok (v := .slice A k c) (w' := w2) (by simp [go_sem, f66, f67, sliced, hkc]) ⟨rfl, Below.refl _ _⟩
      · cases ho
        rw [if_pos (show Region.wanted _ y = true from by simp [Region.wanted, hyb 28 _ _ _ rfl rfl (hn 28 _ _ rfl (by kernel_rfl) rfl)])]
        have f68 : ρ (.tmp 68) = .slice A k c := hn 31 _ 68 rfl (by kernel_rfl) rfl
        have hbb := Below.then HB2.out hb2
        refine does_ok (v := .slice (some ⟨w2.heap.size, 0, none⟩) 1 1) (w' := w2.alloc (.cells #[.slice A k c] 31)) (by simp [go_sem, f68]) ⟨⟨_, rfl, RdBB.new1 w2 31 _ _ _ _ (RT.out.below hbb)⟩, (Below.refl _ _).alloc (Nat.le_refl _) _⟩
      · cases ho
        rw [if_pos (show Region.wanted _ y = true from by simp [Region.wanted, hyb 28 _ _ _ rfl rfl (hn 28 _ _ rfl (by kernel_rfl) rfl)])]
        obtain ⟨B1, f69, g69⟩ : ∃ (B1 : Addr), ρ (.tmp 69) = .slice (some B1) 1 1 ∧ RdBB w2 (some B1) 1 [l.take k] := hn 32 _ 69 rfl (by kernel_rfl) rfl
        have hbb := Below.then HB2.out hb2
        refine does_enter (f := 11) (args := #[.slice (some B1) 1 1]) (w' := w2) (by simp [go_sem, f69, hreg.func]) ?_
        refine (Of_any _ _ _ _ _ (HT.out.below hbb) g69).mono ?_
        rintro e w' ⟨rfl, rfl⟩
        exact ⟨_, rfl, by show _ = _; simp, Below.refl _ _⟩
      · cases ho
        rw [if_pos (show Region.wanted _ y = true from by simp [Region.wanted, hyb 28 _ _ _ rfl rfl (hn 28 _ _ rfl (by kernel_rfl) rfl)])]
        have f0 : ρ (.tmp 0) = .slice A n c := hf 0 (by kernel_rfl)
        exact ⟨f0, Below.refl _ _⟩
      · cases ho
        rw [if_pos (show Region.wanted _ y = true from by simp [Region.wanted, hyb 28 _ _ _ rfl rfl (hn 28 _ _ rfl (by kernel_rfl) rfl)])]
        have f7 : ρ (.tmp 7) = .int .i64 (k : Int) := hf 7 (by kernel_rfl)
        exact ⟨f7, Below.refl _ _⟩
      · cases ho
        rw [if_pos (show Region.wanted _ y = true from by simp [Region.wanted, hyb 28 _ _ _ rfl rfl (hn 28 _ _ rfl (by kernel_rfl) rfl)])]
        have f8 : ρ (.tmp 8) = .int .i64 (m : Int) := hf 8 (by kernel_rfl)
        exact ⟨f8, Below.refl _ _⟩
      · cases ho
        rw [if_pos (show Region.wanted _ y = true from by simp [Region.wanted, hyb 28 _ _ _ rfl rfl (hn 28 _ _ rfl (by kernel_rfl) rfl)])]
        have f71 : ρ (.tmp 71) = .slice A n c := hn 34 _ 71 rfl (by kernel_rfl) rfl
        have f72 : ρ (.tmp 72) = .int .i64 (k : Int) := hn 35 _ 72 rfl (by kernel_rfl) rfl
        have f73 : ρ (.tmp 73) = .int .i64 (m : Int) := hn 36 _ 73 rfl (by kernel_rfl) rfl
        exact does_ok (v := .slice A1 (m - k) (c - k)) (w' := w2) (by simp [go_sem, f71, f72, f73, c2']) ⟨rfl, Below.refl _ _⟩
      · cases ho
        rw [if_pos (show Region.wanted _ y = true from by simp [Region.wanted, hyb 28 _ _ _ rfl rfl (hn 28 _ _ rfl (by kernel_rfl) rfl)])]
        have f74 : ρ (.tmp 74) = .slice A1 (m - k) (c - k) := hn 37 _ 74 rfl (by kernel_rfl) rfl
        have hbb := Below.then HB2.out hb2
        refine does_ok (v := .slice (some ⟨w2.heap.size, 0, none⟩) 1 1) (w' := w2.alloc (.cells #[.slice A1 (m - k) (c - k)] 31)) (by simp [go_sem, f74]) ⟨⟨_, rfl, RdBB.new1 w2 31 _ _ _ _ (RM.out.below hbb)⟩, (Below.refl _ _).alloc (Nat.le_refl _) _⟩
      · cases ho
        rw [if_pos (show Region.wanted _ y = true from by simp [Region.wanted, hyb 28 _ _ _ rfl rfl (hn 28 _ _ rfl (by kernel_rfl) rfl)])]
        have f70 : ρ (.tmp 70) = .int .u32 (crcAdd 0 (l.take k) : Nat) := hn 33 _ 70 rfl (by kernel_rfl) rfl
        obtain ⟨B1, f75, g75⟩ : ∃ (B1 : Addr), ρ (.tmp 75) = .slice (some B1) 1 1 ∧ RdBB w2 (some B1) 1 [(l.drop k).take (m - k)] := hn 38 _ 75 rfl (by kernel_rfl) rfl
        have hbb := Below.then HB2.out hb2
        refine does_enter (f := 13) (args := #[.int .u32 (crcAdd 0 (l.take k) : Nat), .slice (some B1) 1 1]) (w' := w2) (by simp [go_sem, f70, f75, hreg.func]) ?_
        refine (add_any _ _ _ _ _ _ (by omega) (by have := L1.out; omega) (HT.out.below hbb) g75).mono ?_
        rintro e w' ⟨rfl, rfl⟩
        exact ⟨_, rfl, by show _ = _; simp only [List.flatten_cons, List.flatten_nil, List.append_nil]; rw [Int.toNat_natCast, crcAdd_append], Below.refl _ _⟩
      · cases ho
        rw [if_pos (show Region.wanted _ y = true from by simp [Region.wanted, hyb 28 _ _ _ rfl rfl (hn 28 _ _ rfl (by kernel_rfl) rfl)])]
        have f0 : ρ (.tmp 0) = .slice A n c := hf 0 (by kernel_rfl)
        exact ⟨f0, Below.refl _ _⟩
      · cases ho
        rw [if_pos (show Region.wanted _ y = true from by simp [Region.wanted, hyb 28 _ _ _ rfl rfl (hn 28 _ _ rfl (by kernel_rfl) rfl)])]
        have f8 : ρ (.tmp 8) = .int .i64 (m : Int) := hf 8 (by kernel_rfl)
        exact ⟨f8, Below.refl _ _⟩
      · cases ho
        rw [if_pos (show Region.wanted _ y = true from by simp [Region.wanted, hyb 28 _ _ _ rfl rfl (hn 28 _ _ rfl (by kernel_rfl) rfl)])]
        have f77 : ρ (.tmp 77) = .slice A n c := hn 40 _ 77 rfl (by kernel_rfl) rfl
        have f78 : ρ (.tmp 78) = .int .i64 (m : Int) := hn 41 _ 78 rfl (by kernel_rfl) rfl
        exact does_ok (v := .slice A2 (n - m) (c - m)) (w' := w2) (by simp [go_sem, f77, f78, c3]) ⟨rfl, Below.refl _ _⟩
      · cases ho
        rw [if_pos (show Region.wanted _ y = true from by simp [Region.wanted, hyb 28 _ _ _ rfl rfl (hn 28 _ _ rfl (by kernel_rfl) rfl)])]
        have f79 : ρ (.tmp 79) = .slice A2 (n - m) (c - m) := hn 42 _ 79 rfl (by kernel_rfl) rfl
        have hbb := Below.then HB2.out hb2
        refine does_ok (v := .slice (some ⟨w2.heap.size, 0, none⟩) 1 1) (w' := w2.alloc (.cells #[.slice A2 (n - m) (c - m)] 31)) (by simp [go_sem, f79]) ⟨⟨_, rfl, RdBB.new1 w2 31 _ _ _ _ (RE.out.below hbb)⟩, (Below.refl _ _).alloc (Nat.le_refl _) _⟩
      · cases ho
        rw [if_pos (show Region.wanted _ y = true from by simp [Region.wanted, hyb 28 _ _ _ rfl rfl (hn 28 _ _ rfl (by kernel_rfl) rfl)])]
        have f76 : ρ (.tmp 76) = .int .u32 (crcAdd 0 (l.take k ++ (l.drop k).take (m - k)) : Nat) := hn 39 _ 76 rfl (by kernel_rfl) rfl
        obtain ⟨B1, f80, g80⟩ : ∃ (B1 : Addr), ρ (.tmp 80) = .slice (some B1) 1 1 ∧ RdBB w2 (some B1) 1 [l.drop m] := hn 43 _ 80 rfl (by kernel_rfl) rfl
        have hbb := Below.then HB2.out hb2
        refine does_enter (f := 13) (args := #[.int .u32 (crcAdd 0 (l.take k ++ (l.drop k).take (m - k)) : Nat), .slice (some B1) 1 1]) (w' := w2) (by simp [go_sem, f76, f80, hreg.func]) ?_
        refine (add_any _ _ _ _ _ _ (by omega) (by have := L3.out; omega) (HT.out.below hbb) g80).mono ?_
        rintro e w' ⟨rfl, rfl⟩
        exact ⟨_, rfl, by show _ = _; simp only [List.flatten_cons, List.flatten_nil, List.append_nil]; rw [Int.toNat_natCast, crcAdd_append, EQ3.out], Below.refl _ _⟩
      · cases ho
        rw [if_pos (show Region.wanted _ y = true from by simp [Region.wanted, hyb 28 _ _ _ rfl rfl (hn 28 _ _ rfl (by kernel_rfl) rfl)])]
        have f9 : ρ (.tmp 9) = .int .u32 (crcAdd 0 (l) : Nat) := hf 9 (by kernel_rfl)
        exact ⟨f9, Below.refl _ _⟩
      · cases ho
        rw [if_pos (show Region.wanted _ y = true from by simp [Region.wanted, hyb 28 _ _ _ rfl rfl (hn 28 _ _ rfl (by kernel_rfl) rfl)])]
        have f81 : ρ (.tmp 81) = .int .u32 (crcAdd 0 (l) : Nat) := hn 44 _ 81 rfl (by kernel_rfl) rfl
        have f82 : ρ (.tmp 82) = .int .u32 (crcAdd 0 (l) : Nat) := hn 45 _ 82 rfl (by kernel_rfl) rfl
        exact does_ok (v := .bool true) (w' := w2) (by simp [go_sem, f81, f82]) ⟨rfl, Below.refl _ _⟩
      · cases ho
        rw [if_pos (show Region.wanted _ y = true from rfl)]
        have f65 : ρ (.tmp 65) = .bool true := hn 28 _ 65 rfl (by kernel_rfl) rfl
        have f83 : ρ (.tmp 83) = .bool true := hn 46 _ 83 rfl (by kernel_rfl) rfl
        exact does_ok (v := .bool true) (w' := w2) (by simp [go_sem, hreg.const, f65, f83]) ⟨rfl, Below.refl _ _⟩
      · cases ho
        rw [if_pos (show Region.wanted _ y = true from rfl)]
        have f84 : ρ (.tmp 84) = .bool true := hn 47 _ 84 rfl (by kernel_rfl) rfl
        exact ⟨f84, Below.refl _ _⟩
      · cases ho
        rw [if_pos (show Region.wanted _ y = true from by simp [Region.wanted, hyb 48 _ _ _ rfl rfl (hn 48 _ _ rfl (by kernel_rfl) rfl)])]
        have f0 : ρ (.tmp 0) = .slice A n c := hf 0 (by kernel_rfl)
        exact ⟨f0, Below.refl _ _⟩
      · cases ho
        rw [if_pos (show Region.wanted _ y = true from by simp [Region.wanted, hyb 48 _ _ _ rfl rfl (hn 48 _ _ rfl (by kernel_rfl) rfl)])]
        have f7 : ρ (.tmp 7) = .int .i64 (k : Int) := hf 7 (by kernel_rfl)
        exact ⟨f7, Below.refl _ _⟩
      · cases ho
        rw [if_pos (show Region.wanted _ y = true from by simp [Region.wanted, hyb 48 _ _ _ rfl rfl (hn 48 _ _ rfl (by kernel_rfl) rfl)])]
        have f86 : ρ (.tmp 86) = .slice A n c := hn 49 _ 86 rfl (by kernel_rfl) rfl
        have f87 : ρ (.tmp 87) = .int .i64 (k : Int) := hn 50 _ 87 rfl (by kernel_rfl) rfl
        exact does_ok (v := .slice A k c) (w' := w2) (by simp [go_sem, f86, f87, sliced, hkc]) ⟨rfl, Below.refl _ _⟩
      · cases ho
        rw [if_pos (show Region.wanted _ y = true from by simp [Region.wanted, hyb 48 _ _ _ rfl rfl (hn 48 _ _ rfl (by kernel_rfl) rfl)])]
        have f88 : ρ (.tmp 88) = .slice A k c := hn 51 _ 88 rfl (by kernel_rfl) rfl
        have hbb := Below.then HB2.out hb2
        refine does_ok (v := .slice (some ⟨w2.heap.size, 0, none⟩) 1 1) (w' := w2.alloc (.cells #[.slice A k c] 31)) (by simp [go_sem, f88]) ⟨⟨_, rfl, RdBB.new1 w2 31 _ _ _ _ (RT.out.below hbb)⟩, (Below.refl _ _).alloc (Nat.le_refl _) _⟩
      · cases ho
        rw [if_pos (show Region.wanted _ y = true from by simp [Region.wanted, hyb 48 _ _ _ rfl rfl (hn 48 _ _ rfl (by kernel_rfl) rfl)])]
        obtain ⟨B1, f89, g89⟩ : ∃ (B1 : Addr), ρ (.tmp 89) = .slice (some B1) 1 1 ∧ RdBB w2 (some B1) 1 [l.take k] := hn 52 _ 89 rfl (by kernel_rfl) rfl
        have hbb := Below.then HB2.out hb2
        refine does_enter (f := 11) (args := #[.slice (some B1) 1 1]) (w' := w2) (by simp [go_sem, f89, hreg.func]) ?_
        refine (Of_any _ _ _ _ _ (HT.out.below hbb) g89).mono ?_
        rintro e w' ⟨rfl, rfl⟩
        exact ⟨_, rfl, by show _ = _; simp, Below.refl _ _⟩
      · cases ho
        rw [if_pos (show Region.wanted _ y = true from by simp [Region.wanted, hyb 48 _ _ _ rfl rfl (hn 48 _ _ rfl (by kernel_rfl) rfl)])]
        have f0 : ρ (.tmp 0) = .slice A n c := hf 0 (by kernel_rfl)
        exact ⟨f0, Below.refl _ _⟩
      · cases ho
        rw [if_pos (show Region.wanted _ y = true from by simp [Region.wanted, hyb 48 _ _ _ rfl rfl (hn 48 _ _ rfl (by kernel_rfl) rfl)])]
        have f7 : ρ (.tmp 7) = .int .i64 (k : Int) := hf 7 (by kernel_rfl)
        exact ⟨f7, Below.refl _ _⟩
      · cases ho
        rw [if_pos (show Region.wanted _ y = true from by simp [Region.wanted, hyb 48 _ _ _ rfl rfl (hn 48 _ _ rfl (by kernel_rfl) rfl)])]
        have f91 : ρ (.tmp 91) = .slice A n c := hn 54 _ 91 rfl (by kernel_rfl) rfl
        have f92 : ρ (.tmp 92) = .int .i64 (k : Int) := hn 55 _ 92 rfl (by kernel_rfl) rfl
        exact does_ok (v := .slice A1 (n - k) (c - k)) (w' := w2) (by simp [go_sem, f91, f92, c1]) ⟨rfl, Below.refl _ _⟩
      · cases ho
        rw [if_pos (show Region.wanted _ y = true from by simp [Region.wanted, hyb 48 _ _ _ rfl rfl (hn 48 _ _ rfl (by kernel_rfl) rfl)])]
        have f93 : ρ (.tmp 93) = .slice A1 (n - k) (c - k) := hn 56 _ 93 rfl (by kernel_rfl) rfl
        have hbb := Below.then HB2.out hb2
        refine does_ok (v := .slice (some ⟨w2.heap.size, 0, none⟩) 1 1) (w' := w2.alloc (.cells #[.slice A1 (n - k) (c - k)] 31)) (by simp [go_sem, f93]) ⟨⟨_, rfl, RdBB.new1 w2 31 _ _ _ _ (RD.out.below hbb)⟩, (Below.refl _ _).alloc (Nat.le_refl _) _⟩
      · cases ho
        rw [if_pos (show Region.wanted _ y = true from by simp [Region.wanted, hyb 48 _ _ _ rfl rfl (hn 48 _ _ rfl (by kernel_rfl) rfl)])]
        obtain ⟨B1, f94, g94⟩ : ∃ (B1 : Addr), ρ (.tmp 94) = .slice (some B1) 1 1 ∧ RdBB w2 (some B1) 1 [l.drop k] := hn 57 _ 94 rfl (by kernel_rfl) rfl
        have hbb := Below.then HB2.out hb2
        refine does_enter (f := 11) (args := #[.slice (some B1) 1 1]) (w' := w2) (by simp [go_sem, f94, hreg.func]) ?_
        refine (Of_any _ _ _ _ _ (HT.out.below hbb) g94).mono ?_
        rintro e w' ⟨rfl, rfl⟩
        exact ⟨_, rfl, by show _ = _; simp, Below.refl _ _⟩
      · cases ho
        rw [if_pos (show Region.wanted _ y = true from by simp [Region.wanted, hyb 48 _ _ _ rfl rfl (hn 48 _ _ rfl (by kernel_rfl) rfl)])]
        have f0 : ρ (.tmp 0) = .slice A n c := hf 0 (by kernel_rfl)
        exact ⟨f0, Below.refl _ _⟩
      · cases ho
        rw [if_pos (show Region.wanted _ y = true from by simp [Region.wanted, hyb 48 _ _ _ rfl rfl (hn 48 _ _ rfl (by kernel_rfl) rfl)])]
        have f96 : ρ (.tmp 96) = .slice A n c := hn 59 _ 96 rfl (by kernel_rfl) rfl
        exact does_ok (v := .int .i64 (n : Int)) (w' := w2) (by simp [go_sem, f96]) ⟨rfl, Below.refl _ _⟩
      · cases ho
        rw [if_pos (show Region.wanted _ y = true from by simp [Region.wanted, hyb 48 _ _ _ rfl rfl (hn 48 _ _ rfl (by kernel_rfl) rfl)])]
        have f7 : ρ (.tmp 7) = .int .i64 (k : Int) := hf 7 (by kernel_rfl)
        exact ⟨f7, Below.refl _ _⟩
      · cases ho
        rw [if_pos (show Region.wanted _ y = true from by simp [Region.wanted, hyb 48 _ _ _ rfl rfl (hn 48 _ _ rfl (by kernel_rfl) rfl)])]
        have f97 : ρ (.tmp 97) = .int .i64 (n : Int) := hn 60 _ 97 rfl (by kernel_rfl) rfl
        have f98 : ρ (.tmp 98) = .int .i64 (k : Int) := hn 61 _ 98 rfl (by kernel_rfl) rfl
        exact does_ok (v := .int .i64 ((n : Int) - (k : Int))) (w' := w2) (by simp [go_sem, f97, f98, hsub]) ⟨rfl, Below.refl _ _⟩
      · cases ho
        rw [if_pos (show Region.wanted _ y = true from by simp [Region.wanted, hyb 48 _ _ _ rfl rfl (hn 48 _ _ rfl (by kernel_rfl) rfl)])]
        have f90 : ρ (.tmp 90) = .int .u32 (crcAdd 0 (l.take k) : Nat) := hn 53 _ 90 rfl (by kernel_rfl) rfl
        have f95 : ρ (.tmp 95) = .int .u32 (crcAdd 0 (l.drop k) : Nat) := hn 58 _ 95 rfl (by kernel_rfl) rfl
        have f99 : ρ (.tmp 99) = .int .i64 ((n : Int) - (k : Int)) := hn 62 _ 99 rfl (by kernel_rfl) rfl
        have hbb := Below.then HB2.out hb2
        refine does_enter (f := 21) (args := #[.int .u32 (crcAdd 0 (l.take k) : Nat), .int .u32 (crcAdd 0 (l.drop k) : Nat), .int .i64 ((n : Int) - (k : Int))]) (w' := w2) (by simp [go_sem, f90, f95, f99, hreg.func]) ?_
        refine (Two_any _ _ _ _ (by omega) (by have := L1.out; omega) (by omega) (by have := L2.out; omega) (by omega) (HT.out.below hbb)).mono ?_
        rintro e w' ⟨rfl, hbx⟩
        exact ⟨_, rfl, by show _ = _; rw [Int.toNat_natCast, Int.toNat_natCast, EQ5.out, two_append, EQ2.out], hbx⟩
      · cases ho
        rw [if_pos (show Region.wanted _ y = true from by simp [Region.wanted, hyb 48 _ _ _ rfl rfl (hn 48 _ _ rfl (by kernel_rfl) rfl)])]
        have f9 : ρ (.tmp 9) = .int .u32 (crcAdd 0 (l) : Nat) := hf 9 (by kernel_rfl)
        exact ⟨f9, Below.refl _ _⟩
      · cases ho
        rw [if_pos (show Region.wanted _ y = true from by simp [Region.wanted, hyb 48 _ _ _ rfl rfl (hn 48 _ _ rfl (by kernel_rfl) rfl)])]
        have f100 : ρ (.tmp 100) = .int .u32 (crcAdd 0 (l) : Nat) := hn 63 _ 100 rfl (by kernel_rfl) rfl
        have f101 : ρ (.tmp 101) = .int .u32 (crcAdd 0 (l) : Nat) := hn 64 _ 101 rfl (by kernel_rfl) rfl
        exact does_ok (v := .bool true) (w' := w2) (by simp [go_sem, f100, f101]) ⟨rfl, Below.refl _ _⟩
      · cases ho
        rw [if_pos (show Region.wanted _ y = true from rfl)]
        have f85 : ρ (.tmp 85) = .bool true := hn 48 _ 85 rfl (by kernel_rfl) rfl
        have f102 : ρ (.tmp 102) = .bool true := hn 65 _ 102 rfl (by kernel_rfl) rfl
        exact does_ok (v := .bool true) (w' := w2) (by simp [go_sem, hreg.const, f85, f102]) ⟨rfl, Below.refl _ _⟩
      · cases ho
        rw [if_pos (show Region.wanted _ y = true from rfl)]
        have f103 : ρ (.tmp 103) = .bool true := hn 66 _ 103 rfl (by kernel_rfl) rfl
        exact ⟨f103, Below.refl _ _⟩
    case refine_2 =>
      intro a w2 hb2 hd hs hfacts hrest
      have f6 : a.tmps.getD 6 undef = .bool true := hfacts 67 _ 6 rfl rfl
      refine hK1 _ _ ?_
      apply wp_ret
      refine bodyPost_ret (results_tmp rfl _ _ _) (by rw [hd]) ⟨by rw [f6], Below.then HB2.out hb2⟩
end Go.Proofs.YtkciljeojifofaaDoor
