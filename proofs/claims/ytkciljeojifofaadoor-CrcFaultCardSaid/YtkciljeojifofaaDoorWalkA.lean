/- A step of four bits of the program is four steps of one bit; the register goes on by bytes as the plain sum says. -/
import Derived.Test.YtkciljeojifofaaDoorRows
import Derived.Test.YtkciljeojifofaaDoorMath
import Derived.WalkKit
import Derived.WalkSpells
import Derived.WalkLawsBesides
import Derived.Lib.Hide
namespace Go.Proofs.YtkciljeojifofaaDoor
open Go.RowKit Crc

/-! bits of 32 -/
theorem ofInt32 (a : Nat) (ha : a < 4294967296) : (BitVec.ofInt 32 (a : Int)).toNat = a := by
  rw [BitVec.ofInt_natCast, BitVec.toNat_ofNat]; exact Nat.mod_eq_of_lt (by omega)
theorem u32_xor (a b : Nat) (ha : a < 4294967296) (hb : b < 4294967296) : bits .xor .u32 (a : Int) (b : Int) = ((a ^^^ b : Nat) : Int) := by
  have hx : a ^^^ b < 2 ^ 32 := Nat.xor_lt_two_pow (by omega) (by omega)
  show IntKind.u32.wrap ((BitVec.ofInt 32 (a : Int) ^^^ BitVec.ofInt 32 (b : Int)).toNat : Int) = _
  rw [BitVec.toNat_xor, ofInt32 a ha, ofInt32 b hb, IntKind.wrap_u32]
  omega
theorem u32_and15 (a : Nat) (ha : a < 4294967296) : bits .and .u32 (a : Int) 15 = ((a % 16 : Nat) : Int) := by
  have hx : a &&& 15 = a % 16 := Nat.and_two_pow_sub_one_eq_mod a 4
  show IntKind.u32.wrap ((BitVec.ofInt 32 (a : Int) &&& BitVec.ofInt 32 ((15 : Nat) : Int)).toNat : Int) = _
  rw [BitVec.toNat_and, ofInt32 a ha, ofInt32 15 (by decide), IntKind.wrap_u32, hx]
  omega

def Tab (w : World) : Prop := ∀ j : Nat, j < 16 → w.cell? ⟨0, j, none⟩ = some (.int .u32 (tabN j : Nat))
theorem tabN_lt (m : Nat) (h : m < 16) : tabN m < 4294967296 := by
  rw [← tab_is m h]; exact st4_lt (by omega)

set_option maxHeartbeats 400000 in
theorem nibble_nat (r : Nat) (hr : r < 4294967296) (w : World) (hT : Tab w) :
    Calls Tryd.prog 32 #[.int .u32 r] w fun e w' => e = .returned (.int .u32 (st4 r : Nat)) ∧ w = w' := by
  have hb := u32_and15 r hr
  have hc := hT (r % 16) (by omega)
  have h16 : r % 16 < 16 := by omega
  have hx : bits .xor .u32 ((r : Int) / 16) (tabN (r % 16) : Nat) = (st4 r : Nat) := by
    rw [st4_tab, show (r : Int) / (16 : Int) = ((r >>> 4 : Nat) : Int) by rw [Nat.shiftRight_eq_div_pow]; omega]
    exact u32_xor _ _ (by rw [Nat.shiftRight_eq_div_pow]; omega) (tabN_lt _ h16)
  go_enter Tryd.func32, Tryd.ntmps32
  go_wp2
  go_ret
  exact ⟨by simp, rfl⟩
theorem nibble_any (r : Int) (w : World) (h0 : 0 ≤ r) (hr : r < 4294967296) (hT : Tab w) :
    Calls Tryd.prog 32 #[.int .u32 r] w fun e w' => e = .returned (.int .u32 (st4 r.toNat : Nat)) ∧ w = w' := by
  obtain ⟨n, rfl⟩ := Int.eq_ofNat_of_zero_le h0
  exact nibble_nat n (by omega) w hT

/-- A slice of bytes that is read. -/
def RdB (w : World) (A : Option Addr) (n : Nat) (l : List Nat) : Prop :=
  l.length = n ∧ n ≤ 9223372036854775807 ∧ (∀ c ∈ l, c < 256) ∧ (0 < n → ∃ ad, A = some ad ∧ ∀ j, j < n → w.cell? (ad.add j) = some (.int .u8 (l.getD j 0 : Nat)))

theorem goL_next (r : Nat) (l : List Nat) (k : Nat) (h : k < l.length) : goL r (l.take (k + 1)) = goB (goL r (l.take k)) (l.getD k 0) := by
  rw [List.take_add_one, goL_append, List.getD_eq_getElem?_getD, List.getElem?_eq_getElem h]
  simp [goL]
theorem getD_lt {l : List Nat} (h : ∀ c ∈ l, c < 256) (k : Nat) : l.getD k 0 < 256 := by
  rcases Nat.lt_or_ge k l.length with hk | hk
  · rw [List.getD_eq_getElem?_getD, List.getElem?_eq_getElem hk]; exact h _ (by simp)
  · rw [List.getD_eq_getElem?_getD, List.getElem?_eq_none hk]; decide

set_option maxHeartbeats 400000 in
theorem by_any (r : Int) (A : Option Addr) (n c : Nat) (l : List Nat) (w : World) (h0 : 0 ≤ r) (hr : r < 4294967296) (hT : Tab w) (hl : RdB w A n l) :
    Calls Tryd.prog 24 #[.int .u32 r, .slice A n c] w fun e w' => e = .returned (.int .u32 (goL r.toNat l : Nat)) ∧ w = w' := by
  obtain ⟨r, rfl⟩ := Int.eq_ofNat_of_zero_le h0
  obtain ⟨hn, hm, hby, hc⟩ := hl
  have HT := Lib.hid hT
  have HN := Lib.hid hn
  clear hT hn
  go_enter Tryd.func24, Tryd.ntmps24
  go_wp2
  go_loop [0, 9] (fun r' i => ∃ k : Nat, k ≤ n ∧ i = .int .i64 k ∧ r' = .int .u32 (goL r (l.take k) : Nat)) (fun _ i => n - (intOf i).toNat)
  case atStart => exact ⟨0, Nat.zero_le _, rfl, rfl⟩
  case round =>
    obtain ⟨k, hk, rfl, rfl⟩ := hrel
    by_cases hlt : k < n
    · obtain ⟨ad, rfl, hcell⟩ := hc (by omega)
      have hck := hcell k hlt
      clear hcell hc
      have hql : goL r (l.take k) < 4294967296 := goL_lt _ (by omega) (fun c h => hby c (List.mem_of_mem_take h))
      have hxl := getD_lt hby k
      have hx := u32_xor _ _ hql (show l.getD k 0 < 4294967296 by omega)
      have HX := Lib.hid (goL_next r l k (by rw [HN.out]; exact hlt))
      generalize l.getD k 0 = x at *
      generalize goL r (l.take k) = q at *
      have hz := Nat.xor_lt_two_pow (n := 32) hql (show x < 2 ^ 32 by omega)
      have HZ : Hid (goB q x = st4 (st4 (q ^^^ x))) := rfl
      generalize q ^^^ x = z at *
      have hz4 := st4_lt hz
      go_wp2_with (go_at_call 32; refine (nibble_any _ w (by omega) (by omega) HT.out).mono ?_; rintro e w' ⟨rfl, rfl⟩; try simp only [Int.toNat_natCast])
      go_round
      case rel => exact ⟨k + 1, by omega, by go_num, by rw [HX.out, HZ.out]⟩
      case measure => simp [intOf]; omega
    · go_wp2
      go_ret
      exact ⟨by rw [List.take_of_length_le (by rw [HN.out]; omega)]; simp, rfl⟩
end Go.Proofs.YtkciljeojifofaaDoor
