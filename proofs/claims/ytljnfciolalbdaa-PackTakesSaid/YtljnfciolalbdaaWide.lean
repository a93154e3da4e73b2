/- wide: a number behind bytes, the highest byte first; U16, U32, U64. -/
import Derived.Test.YtljnfciolalbdaaGrown
import Derived.Laws.Shifts
namespace Go.Proofs.Ytljnfciolalbdaa
open Go.RowKit
set_option linter.unusedVariables false
set_option linter.unusedSimpArgs false

/-- A number in so many bytes, the highest first. -/
def be : Nat → Nat → List Nat
  | 0, _ => []
  | i + 1, v => (v / 256 ^ i % 256) :: be i v
theorem be_length : ∀ (i v : Nat), (be i v).length = i
  | 0, _ => rfl
  | i + 1, v => by simp [be, be_length i v]
theorem be_byt : ∀ (i v : Nat), Byt (be i v)
  | 0, _ => Byt.nil
  | i + 1, v => Byt.cons (Nat.mod_lt _ (by decide)) (be_byt i v)
theorem be_set (l : List Nat) (k i x : Nat) (b : List Nat) (h : i < k) (hb : b.length = i) : (l ++ (List.replicate (k - i) 0 ++ b)).set (l.length + (k - 1 - i)) x = l ++ (List.replicate (k - (i + 1)) 0 ++ (x :: b)) := by
  rw [List.set_append_right _ _ (by omega), Nat.add_sub_cancel_left]
  congr 1
  rw [show k - i = (k - 1 - i) + 1 by omega, List.replicate_succ']
  rw [List.append_assoc, List.set_append_right _ _ (by simp), List.length_replicate, Nat.sub_self]
  rw [show k - (i + 1) = k - 1 - i by omega]
  rfl
theorem run_shr64 (v i : Nat) (hi : i < 8) : (Op.shift .shr .u64 (v : Int) .u64 (8 * (i : Int)) : Sem Value) = pure (.int .u64 ((v / 256 ^ i : Nat) : Int)) := by
  rw [shift_shr_any _ _ _ _ (by omega)]
  have e : min (8 * (i : Int)).toNat IntKind.u64.bits = 8 * i := by
    show min _ 64 = _
    omega
  rw [e]
  have e2 : (256 : Nat) ^ i = 2 ^ (8 * i) := by rw [Nat.pow_mul]
  rw [e2]
  congr 2
theorem wrap_byte (x : Nat) : IntKind.u8.wrap (x : Int) = ((x % 256 : Nat) : Int) := by
  rw [IntKind.wrap_u8]; omega

set_option maxRecDepth 100000 in
set_option maxHeartbeats 2000000 in
theorem wide_any (A : Option Addr) (n c k v : Nat) (l : List Nat) (w : World) (hl : RdB w A n l) (hv : v < 18446744073709551616) (hk : 1 ≤ k ∧ k ≤ 8) (hn : n ≤ 70368744177600) :
    Calls Try.prog 43 #[.slice A n c, .int .u64 v, .int .i64 k] w fun e w' => e = .returned (.slice (some ⟨w.heap.size, 0, none⟩) (n + k) (n + k)) ∧
      OwnB w' w.heap.size (.slice (some ⟨w.heap.size, 0, none⟩) (n + k) (n + k)) (l ++ be k v) ∧ Below w.heap.size w w' := by
  have C := Lib.hid (grown_any A n c k l w hl (by omega))
  have hcut := cutAt_own (g := w.heap.size) (c := n + k) (k := n) (by omega)
  rw [hcut] at C
  have hlen := hl.len
  clear hcut hl
  obtain ⟨N, hN⟩ : ∃ N, N = n + k := ⟨_, rfl⟩
  rw [← hN] at C ⊢
  obtain ⟨g, hg⟩ : ∃ g, g = w.heap.size := ⟨_, rfl⟩
  rw [← hg] at C ⊢
  have HN := Lib.hid hN
  have HG := Lib.hid hg
  have HL := Lib.hid hlen
  clear hN hg hlen
  go_enter Try.func43, Try.ntmps43
  go_wp2_with fail
  refine C.out.mono ?_
  rintro e w1 ⟨rfl, ho, hb⟩
  have HO := Lib.hid ho
  have HB := Lib.hid hb
  clear ho hb
  go_wp2_with fail
  go_loopw [17] (fun x wr => ∃ i : Nat, x = .int .i64 i ∧ i ≤ k ∧ Hid (OwnB wr g (.slice (some ⟨g, 0, none⟩) N N) (l ++ (List.replicate (k - i) 0 ++ be i v))) ∧ Hid (Below g w wr)) (fun x _ => k - (intOf x).toNat)
  case atStart => exact ⟨0, rfl, Nat.zero_le _, Lib.hid (by simpa [be] using HO.out), HB⟩
  case round =>
    obtain ⟨i, rfl, hi, HI, HBr⟩ := hrel
    by_cases hlt : (i : Int) < (k : Int)
    · have hjk : (k : Int) - 1 - (i : Int) < (k : Int) := by omega
      have hj0 : 0 ≤ (k : Int) - 1 - (i : Int) := by omega
      have hx : Hid ((v : Int) / 2 ^ (8 * i) % 256 = ((v / 256 ^ i % 256 : Nat) : Int)) := by
        show _ = _
        have e2 : (256 : Nat) ^ i = 2 ^ (8 * i) := by rw [Nat.pow_mul]
        rw [e2, Int.natCast_emod, Int.natCast_ediv, Int.natCast_pow]
        rfl
      have hlenl : (l ++ (List.replicate (k - i) 0 ++ be i v)).length = N := by
        rw [List.length_append, List.length_append, List.length_replicate, be_length, HL.out, HN.out]; omega
      obtain ⟨⟨cv, hc1, hc2⟩, hs1, hs2⟩ := HI.out.put hlenl (i := n + (k - 1 - i)) (x := v / 256 ^ i % 256) (by rw [HN.out]; omega) (Nat.mod_lt _ (by decide))
      have hset := be_set l k i (v / 256 ^ i % 256) (be i v) (by omega) (be_length i v)
      rw [HL.out] at hset
      rw [hset, ← hx.out] at hs1
      rw [← hx.out] at hs2
      have HS := Lib.hid (And.intro hs1 hs2)
      clear hs1 hs2 hset hlenl
      go_wp2
      refine ⟨⟨i + 1, by go_num, by omega, HS.out.1, HBr.out.setCell (Nat.le_refl _) _⟩, by simp [intOf]; omega⟩
    · have hik : i = k := by omega
      have HI' : Hid (OwnB wr g (.slice (some ⟨g, 0, none⟩) N N) (l ++ be k v)) := Lib.hid <| by
        have h := HI.out
        rw [hik, Nat.sub_self] at h
        simpa using h
      clear HI
      go_wp2
      go_ret
      exact ⟨rfl, HI'.out, HBr.out⟩
theorem wide_bs {vb : Value} {l : List Nat} (k v : Nat) (w : World) (h : BS w vb l) (hv : v < 18446744073709551616) (hk : 1 ≤ k ∧ k ≤ 8) (hn : l.length ≤ 70368744177600) :
    Calls Try.prog 43 #[vb, .int .u64 v, .int .i64 k] w fun e w' => ∃ r, e = .returned r ∧ OwnB w' w.heap.size r (l ++ be k v) ∧ Below w.heap.size w w' := by
  obtain ⟨A, n, c, rfl, _, _, h1⟩ := h
  exact (wide_any A n c k v l w h1 hv hk (by rw [h1.len] at hn; exact hn)).mono fun e w' ⟨e1, e2, e3⟩ => ⟨_, e1, e2, e3⟩
set_option maxRecDepth 100000 in
theorem U64_bs {vb : Value} {l : List Nat} (v : Nat) (w : World) (h : BS w vb l) (hv : v < 18446744073709551616) (hn : l.length ≤ 70368744177600) :
    Calls Try.prog 13 #[vb, .int .u64 v] w fun e w' => ∃ r, e = .returned r ∧ OwnB w' w.heap.size r (l ++ be 8 v) ∧ Below w.heap.size w w' := by
  have C := Lib.hid (wide_bs 8 v w h (by omega) (by decide) hn)
  clear h
  go_enter Try.func13, Try.ntmps13
  go_wp2_with fail
  refine C.out.mono ?_
  rintro e w1 ⟨r, rfl, h1, h2⟩
  have H1 := Lib.hid h1
  have H2 := Lib.hid h2
  clear h1 h2
  go_wp2
  go_ret
  exact ⟨_, rfl, H1.out, H2.out⟩
set_option maxRecDepth 100000 in
theorem U32_bs {vb : Value} {l : List Nat} (v : Nat) (w : World) (h : BS w vb l) (hv : v < 4294967296) (hn : l.length ≤ 70368744177600) :
    Calls Try.prog 14 #[vb, .int .u32 v] w fun e w' => ∃ r, e = .returned r ∧ OwnB w' w.heap.size r (l ++ be 4 v) ∧ Below w.heap.size w w' := by
  have C := Lib.hid (wide_bs 4 v w h (by omega) (by decide) hn)
  clear h
  go_enter Try.func14, Try.ntmps14
  go_wp2_with fail
  refine C.out.mono ?_
  rintro e w1 ⟨r, rfl, h1, h2⟩
  have H1 := Lib.hid h1
  have H2 := Lib.hid h2
  clear h1 h2
  go_wp2
  go_ret
  exact ⟨_, rfl, H1.out, H2.out⟩
set_option maxRecDepth 100000 in
theorem U16_bs {vb : Value} {l : List Nat} (v : Nat) (w : World) (h : BS w vb l) (hv : v < 65536) (hn : l.length ≤ 70368744177600) :
    Calls Try.prog 15 #[vb, .int .u16 v] w fun e w' => ∃ r, e = .returned r ∧ OwnB w' w.heap.size r (l ++ be 2 v) ∧ Below w.heap.size w w' := by
  have C := Lib.hid (wide_bs 2 v w h (by omega) (by decide) hn)
  clear h
  go_enter Try.func15, Try.ntmps15
  go_wp2_with fail
  refine C.out.mono ?_
  rintro e w1 ⟨r, rfl, h1, h2⟩
  have H1 := Lib.hid h1
  have H2 := Lib.hid h2
  clear h1 h2
  go_wp2
  go_ret
  exact ⟨_, rfl, H1.out, H2.out⟩
end Go.Proofs.Ytljnfciolalbdaa
