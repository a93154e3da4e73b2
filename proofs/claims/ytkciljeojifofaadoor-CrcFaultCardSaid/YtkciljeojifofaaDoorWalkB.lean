/- The program's Add and Of are the plain sum of the bytes; the reference's step by a byte. -/
import Derived.Test.YtkciljeojifofaaDoorWalkA
import Derived.Below
namespace Go.Proofs.YtkciljeojifofaaDoor
open Go.RowKit Crc

/-- A slice of slices of bytes that is read. -/
def RdBB (w : World) (A : Option Addr) (n : Nat) (ls : List (List Nat)) : Prop :=
  ls.length = n ∧ n ≤ 9223372036854775807 ∧ (0 < n → ∃ ad, A = some ad ∧ ∀ j, j < n → ∃ a m c, w.cell? (ad.add j) = some (.slice a m c) ∧ RdB w a m (ls.getD j []))

def crcAdd (s : Nat) (l : List Nat) : Nat := goL (s ^^^ 4294967295) l ^^^ 4294967295

theorem RdB.bytes {w : World} {A : Option Addr} {n : Nat} {l : List Nat} (h : RdB w A n l) : ∀ c ∈ l, c < 256 := h.2.2.1
theorem RdBB.at_ {w : World} {A : Option Addr} {n : Nat} {ls : List (List Nat)} (h : RdBB w A n ls) (k : Nat) (hk : k < n) : ∃ ad a m c, A = some ad ∧ w.cell? (ad.add k) = some (.slice a m c) ∧ RdB w a m (ls.getD k []) := by
  obtain ⟨ad, e, hc⟩ := h.2.2 (by omega)
  obtain ⟨a, m, c, h1, h2⟩ := hc k hk
  exact ⟨ad, a, m, c, e, h1, h2⟩
theorem getD_mem {ls : List (List Nat)} (k : Nat) (h : k < ls.length) : ls.getD k [] ∈ ls := by
  rw [List.getD_eq_getElem?_getD, List.getElem?_eq_getElem h]; simp
theorem RdBB.bytes {w : World} {A : Option Addr} {n : Nat} {ls : List (List Nat)} (h : RdBB w A n ls) : ∀ l ∈ ls, ∀ c ∈ l, c < 256 := by
  intro l hl
  obtain ⟨k, hk, rfl⟩ := List.getElem_of_mem hl
  obtain ⟨ad, a, m, c, _, _, h2⟩ := h.at_ k (by have := h.1; omega)
  have := h2.bytes
  rw [List.getD_eq_getElem?_getD, List.getElem?_eq_getElem hk] at this
  simpa using this
theorem flat_next (r : Nat) (ls : List (List Nat)) (k : Nat) (h : k < ls.length) : goL r (ls.take (k + 1)).flatten = goL (goL r (ls.take k).flatten) (ls.getD k []) := by
  have e : ls.take (k + 1) = ls.take k ++ [ls[k]] := by rw [List.take_add_one, List.getElem?_eq_getElem h]; rfl
  rw [e, List.flatten_append, goL_append, List.getD_eq_getElem?_getD, List.getElem?_eq_getElem h]
  simp
theorem flat_bytes {ls : List (List Nat)} (h : ∀ l ∈ ls, ∀ c ∈ l, c < 256) (k : Nat) : ∀ c ∈ (ls.take k).flatten, c < 256 := by
  intro c hc
  obtain ⟨l, hl, hcl⟩ := List.mem_flatten.1 hc
  exact h l (List.mem_of_mem_take hl) c hcl
theorem xor_all_lt {r : Nat} (h : r < 4294967296) : r ^^^ 4294967295 < 4294967296 := Nat.xor_lt_two_pow (n := 32) h (by decide)
theorem crcAdd_lt {s : Nat} (h : s < 4294967296) {l : List Nat} (hl : ∀ c ∈ l, c < 256) : crcAdd s l < 4294967296 := xor_all_lt (goL_lt _ (xor_all_lt h) hl)

set_option maxHeartbeats 400000 in
theorem of_any (r : Int) (w : World) (h0 : 0 ≤ r) (hr : r < 4294967296) :
    Calls Tryd.prog 23 #[.int .u32 r] w fun e w' => e = .returned (.int .u32 (r.toNat ^^^ 4294967295 : Nat)) ∧ w = w' := by
  obtain ⟨r, rfl⟩ := Int.eq_ofNat_of_zero_le h0
  have hx := u32_xor r 4294967295 (by omega) (by decide)
  go_enter Tryd.func23, Tryd.ntmps23
  go_wp2
  go_ret
  exact ⟨by simpa using hx, rfl⟩
set_option maxHeartbeats 400000 in
theorem sum_any (r : Int) (w : World) (h0 : 0 ≤ r) (hr : r < 4294967296) :
    Calls Tryd.prog 25 #[.int .u32 r] w fun e w' => e = .returned (.int .u32 (r.toNat ^^^ 4294967295 : Nat)) ∧ w = w' := by
  obtain ⟨r, rfl⟩ := Int.eq_ofNat_of_zero_le h0
  have hx := u32_xor r 4294967295 (by omega) (by decide)
  go_enter Tryd.func25, Tryd.ntmps25
  go_wp2
  go_ret
  exact ⟨by simpa using hx, rfl⟩

set_option maxHeartbeats 400000 in
theorem add_any (s : Int) (A : Option Addr) (n c : Nat) (ls : List (List Nat)) (w : World) (h0 : 0 ≤ s) (hr : s < 4294967296) (hT : Tab w) (hl : RdBB w A n ls) :
    Calls Tryd.prog 13 #[.int .u32 s, .slice A n c] w fun e w' => e = .returned (.int .u32 (crcAdd s.toNat ls.flatten : Nat)) ∧ w = w' := by
  obtain ⟨s, rfl⟩ := Int.eq_ofNat_of_zero_le h0
  have hm := hl.2.1
  have hby := hl.bytes
  have HT := Lib.hid hT
  have HN := Lib.hid hl.1
  have HL := Lib.hid hl
  clear hT hl
  have hi := xor_all_lt (r := s) (by omega)
  have HI : Hid (crcAdd s ls.flatten = goL (s ^^^ 4294967295) ls.flatten ^^^ 4294967295) := rfl
  go_enter Tryd.func13, Tryd.ntmps13
  go_wp2_with (go_at_call 23; refine (of_any _ w (by omega) (by omega)).mono ?_; rintro e w' ⟨rfl, rfl⟩; try simp only [Int.toNat_natCast])
  generalize s ^^^ 4294967295 = i at *
  go_loop [5, 12] (fun r' j => ∃ k : Nat, k ≤ n ∧ j = .int .i64 k ∧ r' = .int .u32 (goL i (ls.take k).flatten : Nat)) (fun _ i => n - (intOf i).toNat)
  case atStart => exact ⟨0, Nat.zero_le _, rfl, rfl⟩
  case round =>
    rename_i hwr; clear hwr
    obtain ⟨k, hk, rfl, rfl⟩ := hrel
    have hql : goL i (ls.take k).flatten < 4294967296 := goL_lt _ hi (flat_bytes hby k)
    by_cases hlt : k < n
    · obtain ⟨ad, a, m, cc, rfl, hck, hrd⟩ := HL.out.at_ k hlt
      have HX := Lib.hid (flat_next i ls k (by rw [HN.out]; exact hlt))
      have HR := Lib.hid hrd
      clear hrd
      go_wp2_with (go_at_call 24; refine (by_any _ _ _ _ _ w (by omega) (by omega) HT.out HR.out).mono ?_; rintro e w' ⟨rfl, rfl⟩; try simp only [Int.toNat_natCast])
      go_round
      case rel => exact ⟨k + 1, by omega, by go_num, by rw [HX.out]⟩
      case measure => simp [intOf]; omega
    · go_wp2_with (go_at_call 25; refine (sum_any _ w (by omega) (by omega)).mono ?_; rintro e w' ⟨rfl, rfl⟩; try simp only [Int.toNat_natCast])
      go_ret
      exact ⟨by simp only [Int.toNat_natCast]; rw [HI.out, List.take_of_length_le (by rw [HN.out]; omega)]; simp, rfl⟩

set_option maxHeartbeats 400000 in
theorem Of_any (A : Option Addr) (n c : Nat) (ls : List (List Nat)) (w : World) (hT : Tab w) (hl : RdBB w A n ls) :
    Calls Tryd.prog 11 #[.slice A n c] w fun e w' => e = .returned (.int .u32 (crcAdd 0 ls.flatten : Nat)) ∧ w = w' := by
  have HT := Lib.hid hT
  have HL := Lib.hid hl
  clear hT hl
  go_enter Tryd.func11, Tryd.ntmps11
  go_wp2_with (go_at_call 13; refine (add_any _ _ _ _ _ w (by omega) (by omega) HT.out HL.out).mono ?_; rintro e w' ⟨rfl, rfl⟩)
  go_ret
  exact ⟨rfl, rfl⟩

/-! ### the reference -/
theorem u32_and1 (a : Nat) (ha : a < 4294967296) : bits .and .u32 (a : Int) 1 = ((a % 2 : Nat) : Int) := by
  have hx : a &&& 1 = a % 2 := Nat.and_two_pow_sub_one_eq_mod a 1
  show IntKind.u32.wrap ((BitVec.ofInt 32 (a : Int) &&& BitVec.ofInt 32 ((1 : Nat) : Int)).toNat : Int) = _
  rw [BitVec.toNat_and, ofInt32 a ha, ofInt32 1 (by decide), IntKind.wrap_u32, hx]
  omega
def stps : Nat → Nat → Nat
  | 0, r => r
  | k + 1, r => stp (stps k r)
theorem stps_lt {r : Nat} (h : r < 4294967296) : ∀ k, stps k r < 4294967296
  | 0 => h
  | k + 1 => stp_lt (stps_lt h k)
theorem stps_8 (r : Nat) : stps 8 r = st8 r := rfl
theorem stps_succ (k r : Nat) : stps (k + 1) r = stp (stps k r) := rfl
theorem stps_zero (r : Nat) : stps 0 r = r := rfl
theorem goB_stps (r b : Nat) : goB r b = stps 8 (r ^^^ b) := rfl
attribute [local irreducible] stps goB

set_option maxRecDepth 100000 in
set_option maxHeartbeats 400000 in
theorem goes_any (r b : Int) (w : World) (h0 : 0 ≤ r) (hr : r < 4294967296) (hb0 : 0 ≤ b) (hb : b < 256) :
    Calls Tryd.prog 26 #[.int .u32 r, .int .u8 b] w fun e w' => e = .returned (.int .u32 (goB r.toNat b.toNat : Nat)) ∧ w = w' := by
  obtain ⟨r, rfl⟩ := Int.eq_ofNat_of_zero_le h0
  obtain ⟨b, rfl⟩ := Int.eq_ofNat_of_zero_le hb0
  have hx := u32_xor r b (by omega) (by omega)
  have HZ := Lib.hid (goB_stps r b)
  have hz : r ^^^ b < 4294967296 := Nat.xor_lt_two_pow (n := 32) (show r < 2 ^ 32 by omega) (show b < 2 ^ 32 by omega)
  go_enter Tryd.func26, Tryd.ntmps26
  go_wp2
  generalize r ^^^ b = z at *
  clear hx
  go_loop [0, 5] (fun r' j => ∃ k : Nat, k ≤ 8 ∧ j = .int .i64 k ∧ r' = .int .u32 (stps k z : Nat)) (fun _ i => 8 - (intOf i).toNat)
  case atStart => exact ⟨0, Nat.zero_le _, rfl, by rw [stps_zero]⟩
  case round =>
    rename_i hwr; clear hwr
    obtain ⟨k, hk, rfl, rfl⟩ := hrel
    by_cases hlt : (k : Int) < 8
    · have hql := stps_lt hz k
      have HX := Lib.hid (stps_succ k z)
      generalize stps k z = q at *
      have ha := u32_and1 q hql
      by_cases h1 : q % 2 = 1
      · have hx := u32_xor (q / 2) 2197175160 (by omega) (by decide)
        have H1 := Lib.hid h1
        rw [h1] at ha
        clear h1
        have hd : ((q : Int) / 2) = ((q / 2 : Nat) : Int) := by omega
        have hx' : bits BinOp.xor IntKind.u32 (↑q / 2) 2197175160 = ((q / 2 ^^^ 2197175160 : Nat) : Int) := by rw [hd]; exact hx
        clear hd hx
        go_wp2
        go_round
        case rel => exact ⟨k + 1, by omega, by go_num, by rw [HX.out]; unfold stp; rw [if_pos H1.out, shr1]⟩
        case measure => simp [intOf]; omega
      · have h2 : q % 2 = 0 := by omega
        have H1 := Lib.hid h1
        rw [h2] at ha
        clear h1 h2
        have ht : (((0 : Nat) : Int) == 1) = false := by decide
        go_wp2
        go_round
        case rel => exact ⟨k + 1, by omega, by go_num, by rw [HX.out]; unfold stp; rw [if_neg H1.out, shr1, Nat.xor_zero]; simp⟩
        case measure => simp [intOf]; omega
    · go_wp2
      go_ret
      exact ⟨by rw [HZ.out, show k = 8 by omega]; simp, rfl⟩
end Go.Proofs.YtkciljeojifofaaDoor
