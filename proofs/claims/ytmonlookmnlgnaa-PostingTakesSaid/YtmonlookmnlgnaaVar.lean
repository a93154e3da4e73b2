/- Size and Var: a short number behind bytes. -/
import Derived.Test.YtmonlookmnlgnaaWide
namespace Go.Proofs.Ytmonlookmnlgnaa
open Go.RowKit
set_option linter.unusedVariables false
set_option linter.unusedSimpArgs false

/-- A short number's bytes. -/
def varL (v : Nat) : List Nat := if v < 128 then [v] else (v % 128 + 128) :: varL (v / 128)
termination_by v
theorem varL_lt {v : Nat} (h : v < 128) : varL v = [v] := by rw [varL, if_pos h]
theorem varL_ge {v : Nat} (h : ¬ v < 128) : varL v = (v % 128 + 128) :: varL (v / 128) := by rw [varL, if_neg h]
theorem varL_byt : ∀ v : Nat, Byt (varL v) := by
  intro v
  induction v using Nat.strongRecOn with
  | ind v ih =>
    by_cases h : v < 128
    · rw [varL_lt h]; exact Byt.cons (by omega) Byt.nil
    · rw [varL_ge h]; exact Byt.cons (by omega) (ih _ (by omega))
theorem varL_len_le : ∀ (k v : Nat), v < 128 ^ (k + 1) → 1 ≤ (varL v).length ∧ (varL v).length ≤ k + 1
  | 0, v, h => by rw [varL_lt (by simpa using h)]; simp
  | k + 1, v, h => by
    by_cases hv : v < 128
    · rw [varL_lt hv]; simp
    · rw [varL_ge hv]
      have := varL_len_le k (v / 128) (by rw [Nat.div_lt_iff_lt_mul (by decide)]; rwa [Nat.pow_succ] at h)
      simp; omega
theorem varL_len {v : Nat} (h : v < 4294967296) : 1 ≤ (varL v).length ∧ (varL v).length ≤ 5 := varL_len_le 4 v (by omega)
def szL (v : Nat) : Nat := if v = 0 then 0 else (varL v).length
theorem szL_next {v : Nat} (h : v ≠ 0) : szL v = szL (v / 128) + 1 := by
  unfold szL
  rw [if_neg h]
  by_cases hv : v < 128
  · rw [varL_lt hv, if_pos (by omega)]; rfl
  · rw [varL_ge hv, if_neg (by omega)]; rfl
theorem len_szL (v : Nat) : (varL v).length = szL (v / 128) + 1 := by
  by_cases hv : v = 0
  · subst hv; rw [varL_lt (by decide)]; rfl
  · have := szL_next hv
    unfold szL at this ⊢
    rw [if_neg hv] at this
    exact this
/-- The digits, each with the mark that one more follows. -/
def digs : Nat → Nat → List Nat
  | 0, _ => []
  | k + 1, v => (v % 128 + 128) :: digs k (v / 128)
theorem digs_length : ∀ k v, (digs k v).length = k
  | 0, _ => rfl
  | k + 1, v => by simp [digs, digs_length k]
theorem digs_succ : ∀ k v, digs (k + 1) v = digs k v ++ [v / 128 ^ k % 128 + 128]
  | 0, v => by simp [digs]
  | k + 1, v => by
    rw [digs, digs_succ k (v / 128), digs]
    simp [Nat.div_div_eq_div_mul, Nat.pow_succ, Nat.mul_comm]
theorem varL_digs : ∀ (k v : Nat), (varL v).length = k + 1 → varL v = digs k v ++ [v / 128 ^ k % 128]
  | 0, v, h => by
    by_cases hv : v < 128
    · rw [varL_lt hv]; simp [digs]; omega
    · rw [varL_ge hv] at h
      have : (varL (v / 128)).length = 0 := by simpa using h
      have h2 := len_szL (v / 128)
      omega
  | k + 1, v, h => by
    by_cases hv : v < 128
    · rw [varL_lt hv] at h; simp at h
    · rw [varL_ge hv] at h ⊢
      rw [varL_digs k (v / 128) (by simpa using h), digs]
      simp [Nat.div_div_eq_div_mul, Nat.pow_succ, Nat.mul_comm]

theorem bits_and_u32 (a : Nat) (ha : a < 4294967296) : bits .and .u32 (a : Int) 127 = ((a % 128 : Nat) : Int) := by
  show IntKind.u32.wrap ((BitVec.ofInt 32 (a : Int) &&& BitVec.ofInt 32 127).toNat : Int) = _
  rw [BitVec.toNat_and, BitVec.ofInt_natCast, BitVec.toNat_ofNat, Nat.mod_eq_of_lt (show a < 2 ^ 32 by omega)]
  have e1 : (BitVec.ofInt 32 127).toNat = 2 ^ 7 - 1 := by decide
  rw [e1, Nat.and_two_pow_sub_one_eq_mod]
  rw [IntKind.wrap_u32]; omega
theorem bits_or_u8 (a : Nat) (ha : a < 128) : bits .or .u8 (a : Int) 128 = ((a + 128 : Nat) : Int) := by
  show IntKind.u8.wrap ((BitVec.ofInt 8 (a : Int) ||| BitVec.ofInt 8 128).toNat : Int) = _
  rw [BitVec.toNat_or, BitVec.ofInt_natCast, BitVec.toNat_ofNat, Nat.mod_eq_of_lt (show a < 2 ^ 8 by omega)]
  have e1 : (BitVec.ofInt 8 128).toNat = 2 ^ 7 * 1 := by decide
  rw [e1, Nat.or_comm, ← Nat.two_pow_add_eq_or_of_lt (show a < 2 ^ 7 by omega)]
  rw [IntKind.wrap_u8]; omega
theorem bits_andNot_u8 : ∀ (a : Nat), a < 256 → bits .andNot .u8 (a : Int) 128 = ((a % 128 : Nat) : Int) := by decide +kernel
theorem shr7 (a : Nat) : (Op.shift .shr .u32 (a : Int) .u64 7 : Sem Value) = pure (.int .u32 ((a / 128 : Nat) : Int)) := by
  rw [shift_shr_any _ _ _ _ (by decide)]
  rfl

set_option maxRecDepth 100000 in
set_option maxHeartbeats 1000000 in
theorem Size_any (v : Nat) (w : World) (hv : v < 4294967296) : Calls Try.prog 44 #[.int .u32 v] w fun e w' => e = .returned (.int .i64 ((varL v).length : Nat)) ∧ w = w' := by
  have hlen := (varL_len hv).2
  have hz := len_szL v
  have s1 := shr7 v
  obtain ⟨L, hL⟩ : ∃ L, L = (varL v).length := ⟨_, rfl⟩
  rw [← hL] at hlen hz ⊢
  have HV := Lib.hid hv
  have HZ := Lib.hid hz
  clear hL hv hz
  go_enter Try.func44, Try.ntmps44
  go_wp2_with fail
  go_loop [0, 3] (fun x y => ∃ cur n : Nat, x = .int .u32 cur ∧ y = .int .i64 n ∧ Hid (L = szL cur + n) ∧ n ≤ 5 ∧ cur < 4294967296) (fun x _ => (intOf x).toNat)
  case atStart =>
    refine ⟨v / 128, 1, ?_, rfl, HZ, by decide, by have := HV.out; omega⟩
    first | rfl | simp
  case round =>
    rename_i hwr
    clear hwr
    obtain ⟨cur, n, rfl, rfl, HL, hn, hc⟩ := hrel
    have s2 := shr7 cur
    by_cases h0 : (0 : Int) < (cur : Int)
    · have hne : cur ≠ 0 := by omega
      have hz := Lib.hid (HL.out.trans (by rw [szL_next hne]))
      have hn' : n + 1 ≤ 5 := by have := hz.out; omega
      clear hne
      go_wp2
      refine ⟨⟨cur / 128, n + 1, ?_, by go_num, Lib.hid (by have := hz.out; omega), hn', by omega⟩, by simp [intOf]; omega⟩
      first | rfl | simp
    · have hc0 : cur = 0 := by omega
      have hLn : Hid (n = L) := Lib.hid (by have := HL.out; rw [hc0] at this; simpa [szL] using this.symm)
      clear hc0
      go_wp2
      go_ret
      exact ⟨by rw [hLn.out]; rfl, rfl⟩

theorem var_set (l : List Nat) (L i v : Nat) (h : i < L) : (l ++ (digs i v ++ List.replicate (L - i) 0)).set (l.length + i) (v / 128 ^ i % 128 + 128) = l ++ (digs (i + 1) v ++ List.replicate (L - (i + 1)) 0) := by
  rw [List.set_append_right _ _ (by omega), Nat.add_sub_cancel_left, List.set_append_right _ _ (by rw [digs_length]; omega), digs_length, Nat.sub_self]
  rw [show L - i = (L - (i + 1)) + 1 by omega, List.replicate_succ, digs_succ, List.append_assoc]
  rfl
theorem var_last (l : List Nat) (k v : Nat) (h : (varL v).length = k + 1) : (l ++ digs (k + 1) v).getD (l.length + k) 0 = v / 128 ^ k % 128 + 128 ∧ (l ++ digs (k + 1) v).set (l.length + k) (v / 128 ^ k % 128) = l ++ varL v := by
  rw [digs_succ, varL_digs k v h]
  constructor
  · rw [List.getD_eq_getElem?_getD, List.getElem?_append_right (by omega), Nat.add_sub_cancel_left, List.getElem?_append_right (by rw [digs_length]; omega), digs_length, Nat.sub_self]
    rfl
  · rw [List.set_append_right _ _ (by omega), Nat.add_sub_cancel_left, List.set_append_right _ _ (by rw [digs_length]; omega), digs_length, Nat.sub_self]
    rfl

set_option maxRecDepth 100000 in
set_option maxHeartbeats 2000000 in
theorem Var_any (A : Option Addr) (n c v : Nat) (l : List Nat) (w : World) (hl : RdB w A n l) (hv : v < 4294967296) (hn : n ≤ 70368744177600) :
    Calls Try.prog 31 #[.slice A n c, .int .u32 v] w fun e w' => ∃ N, e = .returned (.slice (some ⟨w.heap.size, 0, none⟩) N N) ∧
      OwnB w' w.heap.size (.slice (some ⟨w.heap.size, 0, none⟩) N N) (l ++ varL v) ∧ Below w.heap.size w w' := by
  obtain ⟨hL1, hL2⟩ := varL_len hv
  obtain ⟨k, hk⟩ : ∃ k, (varL v).length = k + 1 := ⟨(varL v).length - 1, by omega⟩
  have CS := Lib.hid (Size_any v w hv)
  rw [hk] at CS hL2
  have C := Lib.hid (grown_any A n c (k + 1) l w hl (by omega))
  rw [cutAt_own (g := w.heap.size) (c := n + (k + 1)) (k := n) (by omega)] at C
  have HK := Lib.hid hk
  have HL := Lib.hid hl.len
  obtain ⟨L, hL⟩ : ∃ L, L = k + 1 := ⟨_, rfl⟩
  rw [← hL] at CS C hL2
  obtain ⟨N, hN⟩ : ∃ N, N = n + L := ⟨_, rfl⟩
  rw [← hN] at C
  obtain ⟨g, hg⟩ : ∃ g, g = w.heap.size := ⟨_, rfl⟩
  rw [← hg] at C ⊢
  have HN := Lib.hid hN
  have HG := Lib.hid hg
  have HLk := Lib.hid hL
  have hL1' : 1 ≤ L := by omega
  have hv' : Hid (v < 4294967296) := hv
  clear hN hg hl hL hk hL1 hv
  go_enter Try.func31, Try.ntmps31
  go_wp2_with fail
  refine CS.out.mono ?_
  rintro e w0 ⟨rfl, rfl⟩
  go_wp2_with fail
  refine C.out.mono ?_
  rintro e w1 ⟨rfl, ho, hb⟩
  have HO := Lib.hid ho
  have HB := Lib.hid hb
  clear ho hb
  go_wp2_with fail
  go_loopw [1, 17] (fun y x wr => ∃ i cur : Nat, x = .int .i64 i ∧ y = .int .u32 cur ∧ Hid (cur = v / 128 ^ i) ∧ cur < 4294967296 ∧ i ≤ L ∧ Hid (OwnB wr g (.slice (some ⟨g, 0, none⟩) N N) (l ++ (digs i v ++ List.replicate (L - i) 0))) ∧ Hid (Below g w wr)) (fun _ x _ => L - (intOf x).toNat)
  case atStart => exact ⟨0, v, rfl, rfl, Lib.hid (by simp), hv'.out, Nat.zero_le _, Lib.hid (by simpa [digs] using HO.out), HB⟩
  case round =>
    obtain ⟨i, cur, rfl, rfl, HC, hc, hi, HI, HBr⟩ := hrel
    by_cases hlt : (i : Int) < (L : Int)
    · have s1 := bits_and_u32 cur hc
      obtain ⟨x, hx⟩ : ∃ x, x = cur % 128 + 128 := ⟨_, rfl⟩
      have s2 : bits .or .u8 ((cur : Int) % 128) 128 = (x : Int) := by
        rw [hx, show (cur : Int) % 128 = ((cur % 128 : Nat) : Int) by omega]
        exact bits_or_u8 (cur % 128) (Nat.mod_lt _ (by decide))
      have s3 := shr7 cur
      have hlenl : (l ++ (digs i v ++ List.replicate (L - i) 0)).length = N := by
        rw [List.length_append, List.length_append, List.length_replicate, digs_length, HL.out, HN.out]; omega
      obtain ⟨⟨cv, hc1, hc2⟩, hs1, hs2⟩ := HI.out.put hlenl (i := n + i) (x := x) (by rw [HN.out]; omega) (by omega)
      have hset := var_set l L i v (by omega)
      rw [HL.out, ← HC.out, ← hx] at hset
      rw [hset] at hs1
      have HS := Lib.hid (And.intro hs1 hs2)
      clear hs1 hs2 hset hlenl hx
      go_wp2
      refine ⟨⟨i + 1, cur / 128, by go_num, by first | rfl | simp, Lib.hid (by rw [HC.out, Nat.div_div_eq_div_mul, Nat.pow_succ]), by omega, by omega, HS.out.1, HBr.out.setCell (Nat.le_refl _) _⟩, by simp [intOf]; omega⟩
    · have hiL : i = L := by omega
      subst hiL
      have HI2 : Hid (OwnB wr g (.slice (some ⟨g, 0, none⟩) N N) (l ++ digs (k + 1) v)) := Lib.hid <| by
        have h := HI.out
        rw [Nat.sub_self] at h
        rw [HLk.out] at h
        simpa using h
      obtain ⟨z1, z2⟩ := var_last l k v HK.out
      rw [HL.out] at z1 z2
      have hlenl : (l ++ digs (k + 1) v).length = N := by
        rw [List.length_append, digs_length, HL.out, HN.out, HLk.out]
      have hiK : i - 1 = k := by rw [HLk.out]; omega
      have hcell := (HI2.out.get hlenl (i := n + k) (by rw [HN.out, HLk.out]; omega)).1
      rw [z1] at hcell
      obtain ⟨⟨cv, _, hc2⟩, hs1, hs2⟩ := HI2.out.put hlenl (i := n + k) (x := v / 128 ^ k % 128) (by rw [HN.out, HLk.out]; omega) (by omega)
      rw [z2] at hs1
      have hs3 := bits_andNot_u8 (v / 128 ^ k % 128 + 128) (by omega)
      obtain ⟨x, hx⟩ : ∃ x, x = v / 128 ^ k % 128 + 128 := ⟨_, rfl⟩
      obtain ⟨y, hy⟩ : ∃ y, y = v / 128 ^ k % 128 := ⟨_, rfl⟩
      rw [← hx] at hcell hs3
      rw [show x % 128 = y by omega] at hs3
      rw [← hy] at hs1 hs2
      have HS := Lib.hid (And.intro hs1 hs2)
      rw [← hiK] at hcell hc2 HS
      clear hs1 hs2 z1 z2 hlenl hx hy hiK HI
      have g1 : 0 ≤ (i : Int) - 1 := by omega
      have g2 : (i : Int) - 1 < (i : Int) := by omega
      go_wp2
      go_ret
      exact ⟨N, rfl, HS.out.1, HBr.out.setCell (Nat.le_refl _) _⟩
theorem Var_bs {vb : Value} {l : List Nat} (v : Nat) (w : World) (h : BS w vb l) (hv : v < 4294967296) (hn : l.length ≤ 70368744177600) :
    Calls Try.prog 31 #[vb, .int .u32 v] w fun e w' => ∃ r, e = .returned r ∧ OwnB w' w.heap.size r (l ++ varL v) ∧ Below w.heap.size w w' := by
  obtain ⟨A, n, c, rfl, _, _, h1⟩ := h
  exact (Var_any A n c v l w h1 hv (by rw [h1.len] at hn; exact hn)).mono fun e w' ⟨N, e1, e2, e3⟩ => ⟨_, e1, e2, e3⟩
end Go.Proofs.Ytmonlookmnlgnaa
