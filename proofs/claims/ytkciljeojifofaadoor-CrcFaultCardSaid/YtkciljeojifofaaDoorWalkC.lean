/- The reference's Add and Of are the same plain sum; the law's guard few. -/
import Derived.Test.YtkciljeojifofaaDoorWalkB
namespace Go.Proofs.YtkciljeojifofaaDoor
open Go.RowKit Crc

theorem u32_not (s : Nat) (h : s < 4294967296) : bits BinOp.xor IntKind.u32 (if IntKind.u32.signed = true then -1 else IntKind.u32.max) (s : Int) = ((s ^^^ 4294967295 : Nat) : Int) := by
  have e : (if IntKind.u32.signed = true then -1 else IntKind.u32.max) = ((4294967295 : Nat) : Int) := by decide
  rw [e, u32_xor _ _ (by decide) h, Nat.xor_comm]

set_option maxHeartbeats 400000 in
theorem refAdd_any (s : Int) (A : Option Addr) (n c : Nat) (ls : List (List Nat)) (w : World) (h0 : 0 ≤ s) (hr : s < 4294967296) (hl : RdBB w A n ls) :
    Calls Tryd.prog 14 #[.int .u32 s, .slice A n c] w fun e w' => e = .returned (.int .u32 (crcAdd s.toNat ls.flatten : Nat)) ∧ w = w' := by
  obtain ⟨s, rfl⟩ := Int.eq_ofNat_of_zero_le h0
  have hm := hl.2.1
  have hby := hl.bytes
  have HN := Lib.hid hl.1
  have HL := Lib.hid hl
  have HBY := Lib.hid hby
  clear hl hby
  have HIL := Lib.hid (xor_all_lt (r := s) (by omega))
  have HI : Hid (crcAdd s ls.flatten = goL (s ^^^ 4294967295) ls.flatten ^^^ 4294967295) := rfl
  have hu := u32_not s (by omega)
  go_enter Tryd.func14, Tryd.ntmps14
  go_wp2
  clear hu
  generalize s ^^^ 4294967295 = i at *
  go_loop [5, 6] (fun r' j => ∃ k : Nat, k ≤ n ∧ j = .int .i64 k ∧ r' = .int .u32 (goL i (ls.take k).flatten : Nat)) (fun _ i => n - (intOf i).toNat)
  case atStart => exact ⟨0, Nat.zero_le _, rfl, rfl⟩
  case round =>
    rename_i hwr; clear hwr
    obtain ⟨k, hk, rfl, rfl⟩ := hrel
    have hql : ((goL i (ls.take k).flatten : Nat) : Int) < 4294967296 := by have := goL_lt _ HIL.out (flat_bytes HBY.out k); omega
    by_cases hlt : k < n
    · obtain ⟨ad, a, m, cc, rfl, hck, hrd⟩ := HL.out.at_ k hlt
      have HX := Lib.hid (flat_next i ls k (by rw [HN.out]; exact hlt))
      have hm2 := hrd.2.1
      have HML := Lib.hid hrd.1
      have HB2 := Lib.hid hrd.bytes
      have HC := Lib.hid hrd.2.2.2
      clear hrd
      generalize ls.getD k [] = l at *
      generalize hq : goL i (ls.take k).flatten = q at *
      have HQ := Lib.hid hq
      clear hq
      go_wp2
      go_loop [5, 7] (fun r' j => ∃ t : Nat, t ≤ m ∧ j = .int .i64 t ∧ r' = .int .u32 (goL q (l.take t) : Nat)) (fun _ i => m - (intOf i).toNat)
      case atStart => exact ⟨0, Nat.zero_le _, rfl, rfl⟩
      case round =>
        rename_i hwr; clear hwr
        obtain ⟨t, ht, rfl, rfl⟩ := hrel
        by_cases hlt2 : t < m
        · obtain ⟨ad2, rfl, hcell⟩ := HC.out (by omega)
          have hck2 := hcell t hlt2
          clear hcell
          have hql2 : ((goL q (l.take t) : Nat) : Int) < 4294967296 := by
            have := goL_lt (l.take t) (r := q) (by omega) (fun c h => HB2.out c (List.mem_of_mem_take h)); omega
          have hxl : ((l.getD t 0 : Nat) : Int) < 256 := by have := getD_lt HB2.out t; omega
          have HX2 := Lib.hid (goL_next q l t (by rw [HML.out]; exact hlt2))
          generalize l.getD t 0 = x at *
          generalize goL q (l.take t) = q2 at *
          go_wp2_with (go_at_call 26; refine (goes_any _ _ w (by omega) (by omega) (by omega) (by omega)).mono ?_; rintro e w' ⟨rfl, rfl⟩; try simp only [Int.toNat_natCast])
          go_round
          case rel => exact ⟨t + 1, by omega, by go_num, by rw [HX2.out]⟩
          case measure => simp [intOf]; omega
        · go_wp2
          go_round
          case rel => exact ⟨k + 1, by omega, by go_num, by rw [HX.out, List.take_of_length_le (by rw [HML.out]; omega)]⟩
          case measure => simp [intOf]; omega
    · have hu := u32_not (goL i (ls.take k).flatten) (by omega)
      go_wp2
      go_ret
      exact ⟨by simp only [Int.toNat_natCast]; rw [HI.out, List.take_of_length_le (by rw [HN.out]; omega)]; simp, rfl⟩

set_option maxHeartbeats 400000 in
theorem refOf_any (A : Option Addr) (n c : Nat) (ls : List (List Nat)) (w : World) (hl : RdBB w A n ls) :
    Calls Tryd.prog 12 #[.slice A n c] w fun e w' => e = .returned (.int .u32 (crcAdd 0 ls.flatten : Nat)) ∧ w = w' := by
  have HL := Lib.hid hl
  clear hl
  go_enter Tryd.func12, Tryd.ntmps12
  go_wp2_with (go_at_call 14; refine (refAdd_any _ _ _ _ _ w (by omega) (by omega) HL.out).mono ?_; rintro e w' ⟨rfl, rfl⟩)
  go_ret
  exact ⟨rfl, rfl⟩

/-- Few enough. -/
def fewB (ls : List (List Nat)) : Bool := decide (ls.length ≤ 60) && ls.all fun l => decide (l.length ≤ 3000)

set_option maxHeartbeats 400000 in
theorem few_any (A : Option Addr) (n c : Nat) (ls : List (List Nat)) (w : World) (hl : RdBB w A n ls) :
    Calls Tryd.prog 10 #[.slice A n c] w fun e w' => e = .returned (.bool (fewB ls)) ∧ w = w' := by
  have hm := hl.2.1
  have HN := Lib.hid hl.1
  have HL := Lib.hid hl
  clear hl
  by_cases h60 : (60 : Int) < (n : Int)
  · have HF : Hid (fewB ls = false) := by show fewB ls = false; unfold fewB; rw [decide_eq_false (by rw [HN.out]; omega)]; rfl
    go_enter Tryd.func10, Tryd.ntmps10
    go_wp2
    go_ret
    exact ⟨by rw [HF.out]; rfl, rfl⟩
  · go_enter Tryd.func10, Tryd.ntmps10
    go_wp2
    go_loop [10] (fun j => ∃ k : Nat, k ≤ n ∧ j = .int .i64 k ∧ ∀ l ∈ ls.take k, l.length ≤ 3000) (fun i => n - (intOf i).toNat)
    case atStart => exact ⟨0, Nat.zero_le _, rfl, by simp⟩
    case round =>
      rename_i hwr; clear hwr
      obtain ⟨k, hk, rfl, hall⟩ := hrel
      have HA := Lib.hid hall
      clear hall
      by_cases hlt : k < n
      · obtain ⟨ad, a, m, cc, rfl, hck, hrd⟩ := HL.out.at_ k hlt
        have HML := Lib.hid hrd.1
        have hm2 := hrd.2.1
        clear hrd
        have HK : Hid (k < ls.length) := by show k < ls.length; rw [HN.out]; exact hlt
        by_cases hbig : (3000 : Int) < (m : Int)
        · have HF : Hid (fewB ls = false) := by
            show fewB ls = false
            unfold fewB
            rw [Bool.and_eq_false_iff]
            right
            rw [List.all_eq_false]
            exact ⟨_, getD_mem k HK.out, by rw [HML.out]; simp; omega⟩
          go_wp2
          go_ret
          exact ⟨by rw [HF.out]; rfl, rfl⟩
        · go_wp2
          go_round
          case rel => exact ⟨k + 1, by omega, by go_num, by
            intro l hl
            rw [List.take_add_one, List.getElem?_eq_getElem HK.out] at hl
            rcases List.mem_append.1 hl with h | h
            · exact HA.out l h
            · have e : l = ls.getD k [] := by rw [List.getD_eq_getElem?_getD, List.getElem?_eq_getElem HK.out]; simpa using h
              rw [e, HML.out]; omega⟩
          case measure => simp [intOf]; omega
      · go_wp2
        go_ret
        refine ⟨?_, rfl⟩
        have HF : fewB ls = true := by
          unfold fewB
          rw [Bool.and_eq_true]
          refine ⟨decide_eq_true (by rw [HN.out]; omega), ?_⟩
          rw [List.all_eq_true]
          intro l hl
          exact decide_eq_true (HA.out l (by rw [List.take_of_length_le (by rw [HN.out]; omega)]; exact hl))
        rw [HF]; rfl
end Go.Proofs.YtkciljeojifofaaDoor
