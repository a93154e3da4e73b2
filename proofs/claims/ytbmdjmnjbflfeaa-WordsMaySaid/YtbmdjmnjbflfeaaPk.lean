import Derived.Test.YtbmdjmnjbflfeaaBytes
import Derived.WalkKit
import Derived.BigQuiet
import Derived.Deep.DeepCutAuto
import Derived.Laws.IdiomCopy
import Derived.Laws.Shifts
import Derived.Laws.Tables

/- How two texts compare: the plain law. -/
namespace Go.Proofs.Ytbmdjmnjbflfeaa
open Go.RowKit
set_option linter.unusedVariables false
set_option linter.unusedSimpArgs false

/-- How many bytes both begin with that are the same. -/
def prefL : List Nat → List Nat → Nat
  | x :: a, y :: b => if x = y then prefL a b + 1 else 0
  | _, _ => 0
/-- Which one stands ahead. -/
def cmpL : List Nat → List Nat → Int
  | [], [] => 0
  | [], _ :: _ => -1
  | _ :: _, [] => 1
  | x :: a, y :: b => if x = y then cmpL a b else if x < y then -1 else 1
theorem prefL_le : ∀ a b : List Nat, prefL a b ≤ a.length ∧ prefL a b ≤ b.length
  | [], _ => ⟨Nat.zero_le _, Nat.zero_le _⟩
  | _ :: _, [] => ⟨Nat.zero_le _, Nat.zero_le _⟩
  | x :: a, y :: b => by
    have h := prefL_le a b
    unfold prefL
    split
    · simp; omega
    · simp
theorem prefL_uniq : ∀ (a b : List Nat) (n : Nat), n ≤ a.length → n ≤ b.length → (∀ j, j < n → a.getD j 0 = b.getD j 0) → (n = a.length ∨ n = b.length ∨ a.getD n 0 ≠ b.getD n 0) → n = prefL a b
  | [], b, n, h1, _, _, _ => by simp [prefL] at *; omega
  | x :: a, [], n, _, h2, _, _ => by simp [prefL] at *; omega
  | x :: a, y :: b, n, h1, h2, h3, h4 => by
    unfold prefL
    cases n with
    | zero =>
      have : x ≠ y := by rcases h4 with h | h | h <;> simp_all
      rw [if_neg this]
    | succ m =>
      have h0 := h3 0 (by omega)
      simp at h0
      rw [if_pos h0]
      have := prefL_uniq a b m (by simp at h1; omega) (by simp at h2; omega) (fun j hj => by simpa using h3 (j + 1) (by omega)) (by simpa using h4)
      omega
theorem prefL_spec : ∀ (a b : List Nat), (∀ j, j < prefL a b → a.getD j 0 = b.getD j 0) ∧ (prefL a b < a.length → prefL a b < b.length → a.getD (prefL a b) 0 ≠ b.getD (prefL a b) 0)
  | [], b => ⟨fun j h => by simp [prefL] at h, fun h => by simp [prefL] at h⟩
  | x :: a, [] => ⟨fun j h => by simp [prefL] at h, fun _ h => by simp [prefL] at h⟩
  | x :: a, y :: b => by
    obtain ⟨h1, h2⟩ := prefL_spec a b
    unfold prefL
    split
    · rename_i h
      refine ⟨fun j hj => ?_, fun g1 g2 => ?_⟩
      · cases j with
        | zero => simpa using h
        | succ j => simpa using h1 j (by omega)
      · simpa using h2 (by simpa using g1) (by simpa using g2)
    · rename_i h
      exact ⟨fun j hj => by omega, fun _ _ => by simpa using h⟩
theorem cmpL_pref : ∀ (a b : List Nat), cmpL a b = if prefL a b = a.length then (if prefL a b = b.length then 0 else -1) else if prefL a b = b.length then 1 else if a.getD (prefL a b) 0 < b.getD (prefL a b) 0 then -1 else 1
  | [], [] => rfl
  | [], y :: b => by simp [cmpL, prefL]
  | x :: a, [] => by simp [cmpL, prefL]
  | x :: a, y :: b => by
    have h := cmpL_pref a b
    unfold cmpL prefL
    split
    · rw [h]; simp
    · rename_i hne; simp
theorem cmpL_self (a : List Nat) : cmpL a a = 0 := by
  induction a with
  | nil => rfl
  | cons x a ih => simp [cmpL, ih]
theorem cmpL_zero : ∀ (a b : List Nat), cmpL a b = 0 → a = b
  | [], [], _ => rfl
  | [], y :: b, h => by simp [cmpL] at h
  | x :: a, [], h => by simp [cmpL] at h
  | x :: a, y :: b, h => by
    unfold cmpL at h
    split at h
    · rename_i e; rw [e, cmpL_zero a b h]
    · split at h <;> simp at h
theorem cmpL_eq (a b : List Nat) : cmpL a b = 0 ↔ a = b := ⟨cmpL_zero a b, fun h => by rw [h]; exact cmpL_self b⟩
end Go.Proofs.Ytbmdjmnjbflfeaa

/- How many bytes both begin with: the program's and the document's. -/
namespace Go.Proofs.Ytbmdjmnjbflfeaa
open Go.RowKit
set_option linter.unusedVariables false
set_option linter.unusedSimpArgs false

end Go.Proofs.Ytbmdjmnjbflfeaa

/- Which one stands ahead, and whether two are the same: the program's and the document's. -/
namespace Go.Proofs.Ytbmdjmnjbflfeaa
open Go.RowKit
set_option linter.unusedVariables false
set_option linter.unusedSimpArgs false

theorem Below.pk_drewN (w : World) (j : Nat) : Below w.heap.size w (w.drewN j) := by
  induction j with
  | zero => exact Below.refl _ _
  | succ j ih => exact ih.drew
end Go.Proofs.Ytbmdjmnjbflfeaa

/- copy of bytes that are read into a slice of one's own. -/
namespace Go.Proofs.Ytbmdjmnjbflfeaa
open Go.RowKit
set_option linter.unusedVariables false
set_option linter.unusedSimpArgs false

/-- Elements laid over others from a place on. -/
def setR {α : Type} : List α → Nat → List α → List α
  | xs, _, [] => xs
  | xs, o, y :: r => setR (xs.set o y) (o + 1) r
theorem setR_length {α : Type} : ∀ (ys xs : List α) (o : Nat), (setR xs o ys).length = xs.length
  | [], _, _ => rfl
  | y :: r, xs, o => by rw [setR, setR_length r]; simp
theorem setR_eq {α : Type} : ∀ (ys xs : List α) (o : Nat), o + ys.length ≤ xs.length → setR xs o ys = xs.take o ++ ys ++ xs.drop (o + ys.length)
  | [], xs, o, _ => by simp [setR]
  | y :: r, xs, o, h => by
    have h' : o + 1 + r.length ≤ xs.length := by simp at h; omega
    rw [setR, setR_eq r _ (o + 1) (by simpa using h')]
    have e1 : (xs.set o y).take (o + 1) = xs.take o ++ [y] := by
      rw [List.take_add_one, List.take_set, List.set_eq_of_length_le (by rw [List.length_take]; exact Nat.min_le_left _ _)]
      simp [show o < xs.length by omega]
    have e2 : (xs.set o y).drop (o + 1 + r.length) = xs.drop (o + (y :: r).length) := by
      rw [List.drop_set_of_lt (by omega)]
      congr 1
      simp; omega
    rw [e1, e2]
    simp
theorem setR_all {α : Type} (xs ys : List α) (h : ys.length = xs.length) : setR xs 0 ys = ys := by
  rw [setR_eq ys xs 0 (by omega)]
  simp [← h]
section
variable {α : Type} {enc : α → Value}
theorem OwnL.setCells {e : TypeId} {base g c : Nat} : ∀ (ys : List α) (o : Nat) {w : World} {l : List α}, OwnL enc e w base (.slice (some ⟨g, 0, none⟩) l.length c) l →
    OwnL enc e (w.setCells g o (ys.map enc)) base (.slice (some ⟨g, 0, none⟩) l.length c) (setR l o ys) ∧ w.grownBy (w.setCells g o (ys.map enc)) (some g)
  | [], o, w, l, h => ⟨h, World.grownBy.refl w _⟩
  | y :: r, o, w, l, h => by
    obtain ⟨h1, h2⟩ := h.set o y
    have h1' : OwnL enc e (w.setCell ⟨g, o, none⟩ (enc y)) base (.slice (some ⟨g, 0, none⟩) (l.set o y).length c) (l.set o y) := by rw [List.length_set]; exact h1
    obtain ⟨k1, k2⟩ := OwnL.setCells r (o + 1) h1'
    rw [List.length_set] at k1
    exact ⟨k1, h2.trans k2⟩
end
/-- The copy. -/
theorem run_copy_own (w : World) (base ty : Nat) (g o N C dl dc : Nat) (xs ys : List Nat) (A : Option Addr) (m c : Nat) (ho : OwnB w base (.slice (some ⟨g, 0, none⟩) N C) xs) (hx : xs.length = N) (hr : RdB w A m ys) (hm : m ≤ dl) (hd : o + dl ≤ N) :
    ∃ w1, (Builtin.copy_ #[26, 26] ty #[.slice (some ⟨g, o, none⟩) dl dc, .slice A m c]).run Try.prog w = .ok (.int .i64 (m : Int)) w1 ∧ OwnB w1 base (.slice (some ⟨g, 0, none⟩) N C) (setR xs o ys) ∧ w.grownBy w1 (some g) := by
  subst hx
  have hlen := hr.len
  have hsz : (Try.prog.info? 5).map (·.size) = some 1 := by
    obtain ⟨i, hi, hz⟩ := Option.map_eq_some_iff.1 infoB
    rw [hi]
    simp only [Prod.mk.injEq] at hz
    simp [hz.2.1]
  have hbyt : Byt (setR xs o ys) := by
    rw [setR_eq ys xs o (by omega)]
    exact ((ho.2.take o).append hr.byt).append (ho.2.drop _)
  rcases Nat.eq_zero_or_pos m with h0 | h0
  · subst h0
    obtain rfl : ys = [] := List.eq_nil_of_length_eq_zero hlen
    refine ⟨w, ?_, ho, World.grownBy.refl w _⟩
    exact run_copy_none w 26 26 ty 5 _ A dl dc 0 c Try.underlying26 hsz (by simp)
  · obtain ⟨ad, rfl, hc⟩ := hr.rd.cell h0
    obtain ⟨h1, h2⟩ := OwnL.setCells ys o ho.1
    refine ⟨_, ?_, ⟨h1, hbyt⟩, h2⟩
    have hcell : ∀ j, j < ys.length → ∃ u, w.cell? ⟨g, o + j, none⟩ = some u ∧ w.frozen? ⟨g, o + j, none⟩ = false := fun j hj => by
      obtain ⟨k1, k2⟩ := ho.1.cellAt (o + j) (by omega)
      exact ⟨_, k1, k2⟩
    have := run_copy_cells (P := Try.prog) w 26 26 ty 5 g o dl dc ad m c (ys.map encB) Try.underlying26 hsz (by rw [List.length_map, hlen]; exact (Nat.min_eq_left hm).symm)
      (fun j v hv => by
        have hj : j < ys.length := by
          rcases Nat.lt_or_ge j ys.length with h | h
          · exact h
          · simp [List.getElem?_eq_none h] at hv
        rw [hc j hj]
        simpa [List.getElem?_eq_getElem hj] using hv)
      (fun j hj => by
        obtain ⟨u, k1, _⟩ := hcell j (by simpa using hj)
        rw [k1]; rfl)
      (fun j hj => by
        obtain ⟨u, _, k2⟩ := hcell j (by simpa using hj)
        exact k2)
      (fun v hv => by obtain ⟨q, _, rfl⟩ := List.mem_map.1 hv; rfl)
    rw [this]
    simp [goInt, hlen]
/-- Where a slice of one's own lies. -/
theorem OwnB.op {w : World} {base n : Nat} {v : Value} {l : List Nat} (h : OwnB w base v l) (hn : l.length = n) (h0 : 0 < n) : ∃ g C, v = .slice (some ⟨g, 0, none⟩) n C ∧ base ≤ g ∧ g < w.heap.size ∧ n ≤ C ∧ C ≤ 9223372036854775807 := by
  subst hn
  exact h.1.place h0
/-- A store of a byte. -/
theorem OwnB.put {w : World} {base g N C : Nat} {l : List Nat} (h : OwnB w base (.slice (some ⟨g, 0, none⟩) N C) l) (hl : l.length = N) {i x : Nat} (hi : i < N) (hx : x < 256) :
    (∃ cv, w.cell? ⟨g, i, none⟩ = some cv ∧ w.frozen? ⟨g, i, none⟩ = false) ∧ OwnB (w.setCell ⟨g, i, none⟩ (.int .u8 (x : Int))) base (.slice (some ⟨g, 0, none⟩) N C) (l.set i x) ∧ w.grownBy (w.setCell ⟨g, i, none⟩ (.int .u8 (x : Int))) (some g) := by
  subst hl
  obtain ⟨h1, h2⟩ := h.1.cellAt i hi
  obtain ⟨k1, k2⟩ := h.1.set i x
  exact ⟨⟨_, h1, h2⟩, ⟨k1, h.2.set i x hx⟩, k2⟩
theorem OwnB.get {w : World} {base g N C : Nat} {l : List Nat} (h : OwnB w base (.slice (some ⟨g, 0, none⟩) N C) l) (hl : l.length = N) {i : Nat} (hi : i < N) :
    w.cell? ⟨g, i, none⟩ = some (.int .u8 (l.getD i 0 : Nat)) ∧ l.getD i 0 < 256 := by
  subst hl
  obtain ⟨h1, h2⟩ := h.1.cellAt i hi
  refine ⟨?_, h.2.getD i⟩
  rw [h1, List.getD_eq_getElem?_getD, List.getElem?_eq_getElem hi]
  rfl
/-- A growth of a block of one's own, from a world ahead. -/
theorem below_grown {w0 w w1 : World} {g : Nat} (hb : Below w0.heap.size w0 w) (h : w.grownBy w1 (some g)) (hg : w0.heap.size ≤ g) : Below w0.heap.size w0 w1 := hb.grown h (by have := hb.size; exact this) (fun k hk => by injection hk with hk; omega)
end Go.Proofs.Ytbmdjmnjbflfeaa

/- grown: a copy of bytes with noughts behind. -/
namespace Go.Proofs.Ytbmdjmnjbflfeaa
open Go.RowKit
set_option linter.unusedVariables false
set_option linter.unusedSimpArgs false

set_option maxRecDepth 100000 in
set_option maxHeartbeats 2000000 in
theorem grown_any (A : Option Addr) (n c k : Nat) (l : List Nat) (w : World) (hl : RdB w A n l) (hb : n + k ≤ 70368744177664) :
    Calls Try.prog 80 #[.slice A n c, .int .i64 k] w fun e w' => e = .returned (.tuple #[.slice (some ⟨w.heap.size, 0, none⟩) (n + k : Nat) (n + k : Nat), .slice (cutAt (some ⟨w.heap.size, 0, none⟩) (n + k) n) k k]) ∧
      OwnB w' w.heap.size (.slice (some ⟨w.heap.size, 0, none⟩) (n + k) (n + k)) (l ++ List.replicate k 0) ∧ Below w.heap.size w w' := by
  have HR := Lib.hid hl
  clear hl
  obtain ⟨N, hN⟩ : ∃ N, N = n + k := ⟨_, rfl⟩
  have e1 : (n : Int) + (k : Int) = (N : Int) := by omega
  have hnN : n ≤ N := by omega
  rw [← hN] at hb ⊢
  have HO : OwnB (w.alloc (.cells (madeCells #[.int .u8 0] N) 5)) w.heap.size (.slice (some ⟨w.heap.size, 0, none⟩) N N) (List.replicate N 0) :=
    ⟨OwnL.made w w.heap.size 5 0 N (Nat.le_refl _) (by omega), Byt.replicate _ _ (by decide)⟩
  have HB := (Below.refl w.heap.size w).alloc (Nat.le_refl _) (.cells (madeCells #[.int .u8 0] N) 5)
  obtain ⟨w1, hcp, hown, hg⟩ := run_copy_own _ w.heap.size 3 w.heap.size 0 N N N N _ l A n c HO (by simp) (HR.out.below HB) hnN (by omega)
  have hcut := run_cut_l (some ⟨w.heap.size, 0, none⟩) N N n hnN (Nat.le_refl _)
  have e2 : N - n = k := by omega
  rw [e2] at hcut
  have hmk := run_makeB N hb
  have HC := Lib.hid (below_grown HB hg (Nat.le_refl _))
  have HW := Lib.hid hown
  have HN := Lib.hid hN
  clear hown hg HO HB e2 hN
  go_enter Try.func80, Try.ntmps80
  go_upto_region 3 with fail
  go_quiet (fail)
  go_wp2
  go_ret2
  have hd := Below.pk_drewN w1 nq
  refine ⟨rfl, ?_, HC.out.trans (hd.mono HC.out.size)⟩
  have h := HW.out
  have hlen := HR.out.len
  rw [setR_eq _ _ _ (by rw [List.length_replicate, HR.out.len]; omega)] at h
  have e3 : (List.replicate N 0).take 0 ++ l ++ (List.replicate N 0).drop (0 + l.length) = l ++ List.replicate k 0 := by
    rw [List.drop_replicate, Nat.zero_add, hlen, HN.out, Nat.add_sub_cancel_left]; simp
  rw [e3] at h
  exact h.below hd
end Go.Proofs.Ytbmdjmnjbflfeaa

/- wide: a number behind bytes, the highest byte first; U16, U32, U64. -/
namespace Go.Proofs.Ytbmdjmnjbflfeaa
open Go.RowKit
set_option linter.unusedVariables false
set_option linter.unusedSimpArgs false

/-- A number in so many bytes, the highest first. -/
def be : Nat → Nat → List Nat
  | 0, _ => []
  | i + 1, v => (v / 256 ^ i % 256) :: be i v
theorem be_length : ∀ (i v : Nat), (be i v).length = i
  | 0, _ => rfl
  | i + 1, v => by simp [be, be_length i v]
theorem be_byt : ∀ (i v : Nat), Byt (be i v)
  | 0, _ => Byt.nil
  | i + 1, v => Byt.cons (Nat.mod_lt _ (by decide)) (be_byt i v)
theorem be_set (l : List Nat) (k i x : Nat) (b : List Nat) (h : i < k) (hb : b.length = i) : (l ++ (List.replicate (k - i) 0 ++ b)).set (l.length + (k - 1 - i)) x = l ++ (List.replicate (k - (i + 1)) 0 ++ (x :: b)) := by
  rw [List.set_append_right _ _ (by omega), Nat.add_sub_cancel_left]
  congr 1
  rw [show k - i = (k - 1 - i) + 1 by omega, List.replicate_succ']
  rw [List.append_assoc, List.set_append_right _ _ (by simp), List.length_replicate, Nat.sub_self]
  rw [show k - (i + 1) = k - 1 - i by omega]
  rfl
theorem run_shr64 (v i : Nat) (hi : i < 8) : (Op.shift .shr .u64 (v : Int) .u64 (8 * (i : Int)) : Sem Value) = pure (.int .u64 ((v / 256 ^ i : Nat) : Int)) := by
  rw [shift_shr_any _ _ _ _ (by omega)]
  have e : min (8 * (i : Int)).toNat IntKind.u64.bits = 8 * i := by
    show min _ 64 = _
    omega
  rw [e]
  have e2 : (256 : Nat) ^ i = 2 ^ (8 * i) := by rw [Nat.pow_mul]
  rw [e2]
  congr 2
theorem wrap_byte (x : Nat) : IntKind.u8.wrap (x : Int) = ((x % 256 : Nat) : Int) := by
  rw [IntKind.wrap_u8]; omega

set_option maxRecDepth 100000 in
set_option maxHeartbeats 2000000 in
theorem wide_any (A : Option Addr) (n c k v : Nat) (l : List Nat) (w : World) (hl : RdB w A n l) (hv : v < 18446744073709551616) (hk : 1 ≤ k ∧ k ≤ 8) (hn : n ≤ 70368744177600) :
    Calls Try.prog 79 #[.slice A n c, .int .u64 v, .int .i64 k] w fun e w' => e = .returned (.slice (some ⟨w.heap.size, 0, none⟩) (n + k) (n + k)) ∧
      OwnB w' w.heap.size (.slice (some ⟨w.heap.size, 0, none⟩) (n + k) (n + k)) (l ++ be k v) ∧ Below w.heap.size w w' := by
  have C := Lib.hid (grown_any A n c k l w hl (by omega))
  have hcut := cutAt_own (g := w.heap.size) (c := n + k) (k := n) (by omega)
  rw [hcut] at C
  have hlen := hl.len
  clear hcut hl
  obtain ⟨N, hN⟩ : ∃ N, N = n + k := ⟨_, rfl⟩
  rw [← hN] at C ⊢
  obtain ⟨g, hg⟩ : ∃ g, g = w.heap.size := ⟨_, rfl⟩
  rw [← hg] at C ⊢
  have HN := Lib.hid hN
  have HG := Lib.hid hg
  have HL := Lib.hid hlen
  clear hN hg hlen
  go_enter Try.func79, Try.ntmps79
  go_wp2_with fail
  refine C.out.mono ?_
  rintro e w1 ⟨rfl, ho, hb⟩
  have HO := Lib.hid ho
  have HB := Lib.hid hb
  clear ho hb
  go_wp2_with fail
  go_loopw [17] (fun x wr => ∃ i : Nat, x = .int .i64 i ∧ i ≤ k ∧ Hid (OwnB wr g (.slice (some ⟨g, 0, none⟩) N N) (l ++ (List.replicate (k - i) 0 ++ be i v))) ∧ Hid (Below g w wr)) (fun x _ => k - (intOf x).toNat)
  case atStart => exact ⟨0, rfl, Nat.zero_le _, Lib.hid (by simpa [be] using HO.out), HB⟩
  case round =>
    obtain ⟨i, rfl, hi, HI, HBr⟩ := hrel
    by_cases hlt : (i : Int) < (k : Int)
    · have hjk : (k : Int) - 1 - (i : Int) < (k : Int) := by omega
      have hj0 : 0 ≤ (k : Int) - 1 - (i : Int) := by omega
      have hx : Hid ((v : Int) / 2 ^ (8 * i) % 256 = ((v / 256 ^ i % 256 : Nat) : Int)) := by
        show _ = _
        have e2 : (256 : Nat) ^ i = 2 ^ (8 * i) := by rw [Nat.pow_mul]
        rw [e2, Int.natCast_emod, Int.natCast_ediv, Int.natCast_pow]
        rfl
      have hlenl : (l ++ (List.replicate (k - i) 0 ++ be i v)).length = N := by
        rw [List.length_append, List.length_append, List.length_replicate, be_length, HL.out, HN.out]; omega
      obtain ⟨⟨cv, hc1, hc2⟩, hs1, hs2⟩ := HI.out.put hlenl (i := n + (k - 1 - i)) (x := v / 256 ^ i % 256) (by rw [HN.out]; omega) (Nat.mod_lt _ (by decide))
      have hset := be_set l k i (v / 256 ^ i % 256) (be i v) (by omega) (be_length i v)
      rw [HL.out] at hset
      rw [hset, ← hx.out] at hs1
      rw [← hx.out] at hs2
      have HS := Lib.hid (And.intro hs1 hs2)
      clear hs1 hs2 hset hlenl
      go_wp2
      refine ⟨⟨i + 1, by go_num, by omega, HS.out.1, HBr.out.setCell (Nat.le_refl _) _⟩, by simp [intOf]; omega⟩
    · have hik : i = k := by omega
      have HI' : Hid (OwnB wr g (.slice (some ⟨g, 0, none⟩) N N) (l ++ be k v)) := Lib.hid <| by
        have h := HI.out
        rw [hik, Nat.sub_self] at h
        simpa using h
      clear HI
      go_wp2
      go_ret
      exact ⟨rfl, HI'.out, HBr.out⟩
theorem wide_bs {vb : Value} {l : List Nat} (k v : Nat) (w : World) (h : BS w vb l) (hv : v < 18446744073709551616) (hk : 1 ≤ k ∧ k ≤ 8) (hn : l.length ≤ 70368744177600) :
    Calls Try.prog 79 #[vb, .int .u64 v, .int .i64 k] w fun e w' => ∃ r, e = .returned r ∧ OwnB w' w.heap.size r (l ++ be k v) ∧ Below w.heap.size w w' := by
  obtain ⟨A, n, c, rfl, _, _, h1⟩ := h
  exact (wide_any A n c k v l w h1 hv hk (by rw [h1.len] at hn; exact hn)).mono fun e w' ⟨e1, e2, e3⟩ => ⟨_, e1, e2, e3⟩
set_option maxRecDepth 100000 in
theorem U16_bs {vb : Value} {l : List Nat} (v : Nat) (w : World) (h : BS w vb l) (hv : v < 65536) (hn : l.length ≤ 70368744177600) :
    Calls Try.prog 51 #[vb, .int .u16 v] w fun e w' => ∃ r, e = .returned r ∧ OwnB w' w.heap.size r (l ++ be 2 v) ∧ Below w.heap.size w w' := by
  have C := Lib.hid (wide_bs 2 v w h (by omega) (by decide) hn)
  clear h
  go_enter Try.func51, Try.ntmps51
  go_wp2_with fail
  refine C.out.mono ?_
  rintro e w1 ⟨r, rfl, h1, h2⟩
  have H1 := Lib.hid h1
  have H2 := Lib.hid h2
  clear h1 h2
  go_wp2
  go_ret
  exact ⟨_, rfl, H1.out, H2.out⟩
end Go.Proofs.Ytbmdjmnjbflfeaa

/- Size and Var: a short number behind bytes. -/
namespace Go.Proofs.Ytbmdjmnjbflfeaa
open Go.RowKit
set_option linter.unusedVariables false
set_option linter.unusedSimpArgs false

/-- A short number's bytes. -/
def varL (v : Nat) : List Nat := if v < 128 then [v] else (v % 128 + 128) :: varL (v / 128)
termination_by v
theorem varL_lt {v : Nat} (h : v < 128) : varL v = [v] := by rw [varL, if_pos h]
theorem varL_ge {v : Nat} (h : ¬ v < 128) : varL v = (v % 128 + 128) :: varL (v / 128) := by rw [varL, if_neg h]
theorem varL_byt : ∀ v : Nat, Byt (varL v) := by
  intro v
  induction v using Nat.strongRecOn with
  | ind v ih =>
    by_cases h : v < 128
    · rw [varL_lt h]; exact Byt.cons (by omega) Byt.nil
    · rw [varL_ge h]; exact Byt.cons (by omega) (ih _ (by omega))
theorem varL_len_le : ∀ (k v : Nat), v < 128 ^ (k + 1) → 1 ≤ (varL v).length ∧ (varL v).length ≤ k + 1
  | 0, v, h => by rw [varL_lt (by simpa using h)]; simp
  | k + 1, v, h => by
    by_cases hv : v < 128
    · rw [varL_lt hv]; simp
    · rw [varL_ge hv]
      have := varL_len_le k (v / 128) (by rw [Nat.div_lt_iff_lt_mul (by decide)]; rwa [Nat.pow_succ] at h)
      simp; omega
theorem varL_len {v : Nat} (h : v < 4294967296) : 1 ≤ (varL v).length ∧ (varL v).length ≤ 5 := varL_len_le 4 v (by omega)
def szL (v : Nat) : Nat := if v = 0 then 0 else (varL v).length
theorem szL_next {v : Nat} (h : v ≠ 0) : szL v = szL (v / 128) + 1 := by
  unfold szL
  rw [if_neg h]
  by_cases hv : v < 128
  · rw [varL_lt hv, if_pos (by omega)]; rfl
  · rw [varL_ge hv, if_neg (by omega)]; rfl
theorem len_szL (v : Nat) : (varL v).length = szL (v / 128) + 1 := by
  by_cases hv : v = 0
  · subst hv; rw [varL_lt (by decide)]; rfl
  · have := szL_next hv
    unfold szL at this ⊢
    rw [if_neg hv] at this
    exact this
/-- The digits, each with the mark that one more follows. -/
def digs : Nat → Nat → List Nat
  | 0, _ => []
  | k + 1, v => (v % 128 + 128) :: digs k (v / 128)
theorem digs_length : ∀ k v, (digs k v).length = k
  | 0, _ => rfl
  | k + 1, v => by simp [digs, digs_length k]
theorem digs_succ : ∀ k v, digs (k + 1) v = digs k v ++ [v / 128 ^ k % 128 + 128]
  | 0, v => by simp [digs]
  | k + 1, v => by
    rw [digs, digs_succ k (v / 128), digs]
    simp [Nat.div_div_eq_div_mul, Nat.pow_succ, Nat.mul_comm]
theorem varL_digs : ∀ (k v : Nat), (varL v).length = k + 1 → varL v = digs k v ++ [v / 128 ^ k % 128]
  | 0, v, h => by
    by_cases hv : v < 128
    · rw [varL_lt hv]; simp [digs]; omega
    · rw [varL_ge hv] at h
      have : (varL (v / 128)).length = 0 := by simpa using h
      have h2 := len_szL (v / 128)
      omega
  | k + 1, v, h => by
    by_cases hv : v < 128
    · rw [varL_lt hv] at h; simp at h
    · rw [varL_ge hv] at h ⊢
      rw [varL_digs k (v / 128) (by simpa using h), digs]
      simp [Nat.div_div_eq_div_mul, Nat.pow_succ, Nat.mul_comm]

theorem bits_and_u32 (a : Nat) (ha : a < 4294967296) : bits .and .u32 (a : Int) 127 = ((a % 128 : Nat) : Int) := by
  show IntKind.u32.wrap ((BitVec.ofInt 32 (a : Int) &&& BitVec.ofInt 32 127).toNat : Int) = _
  rw [BitVec.toNat_and, BitVec.ofInt_natCast, BitVec.toNat_ofNat, Nat.mod_eq_of_lt (show a < 2 ^ 32 by omega)]
  have e1 : (BitVec.ofInt 32 127).toNat = 2 ^ 7 - 1 := by decide
  rw [e1, Nat.and_two_pow_sub_one_eq_mod]
  rw [IntKind.wrap_u32]; omega
theorem bits_or_u8 (a : Nat) (ha : a < 128) : bits .or .u8 (a : Int) 128 = ((a + 128 : Nat) : Int) := by
  show IntKind.u8.wrap ((BitVec.ofInt 8 (a : Int) ||| BitVec.ofInt 8 128).toNat : Int) = _
  rw [BitVec.toNat_or, BitVec.ofInt_natCast, BitVec.toNat_ofNat, Nat.mod_eq_of_lt (show a < 2 ^ 8 by omega)]
  have e1 : (BitVec.ofInt 8 128).toNat = 2 ^ 7 * 1 := by decide
  rw [e1, Nat.or_comm, ← Nat.two_pow_add_eq_or_of_lt (show a < 2 ^ 7 by omega)]
  rw [IntKind.wrap_u8]; omega
theorem bits_andNot_u8 : ∀ (a : Nat), a < 256 → bits .andNot .u8 (a : Int) 128 = ((a % 128 : Nat) : Int) := by decide +kernel
theorem shr7 (a : Nat) : (Op.shift .shr .u32 (a : Int) .u64 7 : Sem Value) = pure (.int .u32 ((a / 128 : Nat) : Int)) := by
  rw [shift_shr_any _ _ _ _ (by decide)]
  rfl

theorem var_set (l : List Nat) (L i v : Nat) (h : i < L) : (l ++ (digs i v ++ List.replicate (L - i) 0)).set (l.length + i) (v / 128 ^ i % 128 + 128) = l ++ (digs (i + 1) v ++ List.replicate (L - (i + 1)) 0) := by
  rw [List.set_append_right _ _ (by omega), Nat.add_sub_cancel_left, List.set_append_right _ _ (by rw [digs_length]; omega), digs_length, Nat.sub_self]
  rw [show L - i = (L - (i + 1)) + 1 by omega, List.replicate_succ, digs_succ, List.append_assoc]
  rfl
theorem var_last (l : List Nat) (k v : Nat) (h : (varL v).length = k + 1) : (l ++ digs (k + 1) v).getD (l.length + k) 0 = v / 128 ^ k % 128 + 128 ∧ (l ++ digs (k + 1) v).set (l.length + k) (v / 128 ^ k % 128) = l ++ varL v := by
  rw [digs_succ, varL_digs k v h]
  constructor
  · rw [List.getD_eq_getElem?_getD, List.getElem?_append_right (by omega), Nat.add_sub_cancel_left, List.getElem?_append_right (by rw [digs_length]; omega), digs_length, Nat.sub_self]
    rfl
  · rw [List.set_append_right _ _ (by omega), Nat.add_sub_cancel_left, List.set_append_right _ _ (by rw [digs_length]; omega), digs_length, Nat.sub_self]
    rfl

end Go.Proofs.Ytbmdjmnjbflfeaa

/- The reader: made, asked, failed; its errors. -/
namespace Go.Proofs.Ytbmdjmnjbflfeaa
open Go.RowKit
set_option linter.unusedVariables false
set_option linter.unusedSimpArgs false

theorem grown_cell {w w' : World} {row : Option Nat} (h : w.grownBy w' row) {a : Addr} (ha : a.block < w.heap.size) (hne : some a.block ≠ row) : w'.cell? a = w.cell? a := by
  unfold World.cell?
  rw [h.block a.block ha hne]
theorem grown_frozen {w w' : World} {row : Option Nat} (h : w.grownBy w' row) {a : Addr} (ha : a.block < w.heap.size) (hne : some a.block ≠ row) : w'.frozen? a = w.frozen? a := by
  unfold World.frozen?
  rw [h.block a.block ha hne]
theorem grown_setCell (w : World) (a : Addr) (u : Value) : w.grownBy (w.setCell a u) (some a.block) :=
  ⟨rfl, rfl, rfl, by simp [World.setCell], fun k _ hne => by
    unfold World.setCell
    rw [Array.getElem?_modify, if_neg (fun h => hne (by rw [h]))]⟩
theorem RdB.kept {w w' : World} {A : Option Addr} {n : Nat} {l : List Nat} (h : RdB w A n l) {row : Option Nat} (hg : w.grownBy w' row) (hne : ∀ a, A = some a → some a.block ≠ row) : RdB w' A n l :=
  ⟨⟨h.rd.len, h.rd.max, fun hn => by
    obtain ⟨ad, e, hc⟩ := h.rd.cell hn
    exact ⟨ad, e, fun j hj => by
      have hb : (ad.add j).block = ad.block := by unfold Addr.add; split <;> rfl
      rw [grown_cell hg (cell_lt' (hc j hj)) (by rw [hb]; exact hne ad e)]
      exact hc j hj⟩⟩, h.byt⟩

/-- A reader: its block, what is left, its error; its bytes lie in a block between lo and hi. -/
structure Rdr (w : World) (g : Nat) (l : List Nat) (e : Int) (lo hi : Nat) : Prop where
  b : ∃ A n c, w.cell? ⟨g, 0, none⟩ = some (.slice A n c) ∧ n ≤ c ∧ c ≤ 9223372036854775807 ∧ RdB w A n l ∧ ∀ a, A = some a → lo ≤ a.block ∧ a.block < hi
  err : w.cell? ⟨g, 1, none⟩ = some (.int .i64 e)
  made : w.cell? ⟨g, 2, none⟩ = some (.bool true)
  f0 : w.frozen? ⟨g, 0, none⟩ = false
  f1 : w.frozen? ⟨g, 1, none⟩ = false
  out : g < lo ∨ hi ≤ g
theorem Rdr.lt {w : World} {g : Nat} {l : List Nat} {e : Int} {lo hi : Nat} (h : Rdr w g l e lo hi) : g < w.heap.size := cell_lt' h.err
theorem Rdr.kept {w w' : World} {g : Nat} {l : List Nat} {e : Int} {lo hi : Nat} (h : Rdr w g l e lo hi) {row : Option Nat} (hg : w.grownBy w' row) (h1 : some g ≠ row) (h2 : ∀ k, lo ≤ k → k < hi → some k ≠ row) : Rdr w' g l e lo hi := by
  obtain ⟨A, n, c, k0, k1, k2, k3, k4⟩ := h.b
  refine ⟨⟨A, n, c, ?_, k1, k2, k3.kept hg fun a ha => h2 _ (k4 a ha).1 (k4 a ha).2, k4⟩, ?_, ?_, ?_, ?_, h.out⟩
  · rw [grown_cell hg h.lt h1]; exact k0
  · rw [grown_cell hg h.lt h1]; exact h.err
  · rw [grown_cell hg h.lt h1]; exact h.made
  · rw [grown_frozen hg h.lt h1]; exact h.f0
  · rw [grown_frozen hg h.lt h1]; exact h.f1
theorem Rdr.below {w w' : World} {g : Nat} {l : List Nat} {e : Int} {lo hi : Nat} (h : Rdr w g l e lo hi) (hb : Below w.heap.size w w') : Rdr w' g l e lo hi :=
  h.kept (grown_below hb none) (by simp) (fun k _ _ => by simp)

theorem Rdr.new {w : World} (A : Option Addr) (n c : Nat) (l : List Nat) (h : RdB w A n l) (h1 : n ≤ c) (h2 : c ≤ 9223372036854775807) (lo hi : Nat) (hA : ∀ a, A = some a → lo ≤ a.block ∧ a.block < hi) (hh : hi ≤ w.heap.size) (t : TypeId) :
    Rdr (w.alloc (.cells #[.slice A n c, .int .i64 0, .bool true] t)) w.heap.size l 0 lo hi := by
  have hc : ∀ j : Nat, (w.alloc (.cells #[.slice A n c, .int .i64 0, .bool true] t)).cell? ⟨w.heap.size, j, none⟩ = #[.slice A n c, .int .i64 0, .bool true][j]? := fun j => World.cell?_alloc_mark w _ t (0, 0) j
  have hf : ∀ j : Nat, (w.alloc (.cells #[.slice A n c, .int .i64 0, .bool true] t)).frozen? ⟨w.heap.size, j, none⟩ = false := fun j => World.frozen?_alloc_at _ t _ j rfl
  exact ⟨⟨A, n, c, hc 0, h1, h2, h.below ((Below.refl _ _).alloc (Nat.le_refl _) _), hA⟩, hc 1, hc 2, hf 0, hf 1, .inr hh⟩

set_option maxRecDepth 100000 in
theorem Read_bs {vb : Value} {l : List Nat} (w : World) (h : BS w vb l) (hn : l.length ≤ 70368744177600) :
    Calls Try.prog 53 #[vb] w fun e w' => ∃ g, e = .returned (.pointer (some ⟨g, 0, none⟩)) ∧ w.heap.size < g ∧ Rdr w' g l 0 w.heap.size g ∧ Below w.heap.size w w' := by
  obtain ⟨A, n, c, rfl, _, _, h1⟩ := h
  have C := Lib.hid (grown_any A n c 0 l w h1 (by rw [h1.len] at hn; omega))
  have hlen := Lib.hid h1.len
  obtain ⟨g, hg⟩ : ∃ g, g = w.heap.size := ⟨_, rfl⟩
  rw [← hg] at C ⊢
  have HG := Lib.hid hg
  have hbd : ∀ (W : World) (A : Option Addr) (n c : Nat), (Instr.build 128 #[(0, .slice A n c), (2, .bool true)]).run Try.prog W = .ok (.agg #[.slice A n c, .int .i64 0, .bool true]) W := fun W A n c => run_build W 128 _ _ (by kernel_rfl)
  clear h1 hg
  go_enter Try.func53, Try.ntmps53
  go_wp2_with fail
  refine C.out.mono ?_
  rintro e w1 ⟨rfl, ho, hb⟩
  have HO := Lib.hid ho
  have HB := Lib.hid hb
  clear ho hb
  go_wp2
  go_ret
  have hsz := HB.out.size
  have hh := HO.out
  simp only [List.replicate_zero, List.append_nil, Nat.add_zero] at hh
  have hlt : g < w1.heap.size := (hh.1.base g rfl).2
  obtain ⟨A', c', he, h1, h2, h3⟩ := hh.1.rd
  injection he with q1 q2 q3
  subst q1 q3
  refine ⟨_, rfl, hlt, ?_, HB.out.alloc (by rw [HG.out]; exact hsz) _⟩
  exact Rdr.new _ n n l ⟨by rw [q2]; exact h3, hh.2⟩ (Nat.le_refl _) (by have := hh.1.rd.choose_spec.choose_spec; omega) _ _ (fun a ha => by injection ha with ha; subst ha; exact ⟨Nat.le_refl _, hlt⟩) (Nat.le_refl _) _

set_option maxRecDepth 100000 in
theorem none_any {w : World} {g : Nat} {l : List Nat} {e : Int} {lo hi : Nat} (h : Rdr w g l e lo hi) :
    Calls Try.prog 82 #[.pointer (some ⟨g, 0, none⟩)] w fun e' w' => e' = .returned (.bool (decide (e ≠ 0))) ∧ w = w' := by
  have k1 := h.err
  have k2 := h.made
  clear h
  by_cases h0 : e = 0
  · subst h0
    go_enter Try.func82, Try.ntmps82
    go_wp2
    go_ret
    exact ⟨rfl, rfl⟩
  · have hd : decide (e ≠ 0) = true := decide_eq_true h0
    have hb : (e == 0) = false := by simp [h0]
    have hb2 : (e != 0) = true := by simp [h0]
    rw [hd]
    go_enter Try.func82, Try.ntmps82
    go_wp2
    go_ret
    exact ⟨rfl, rfl⟩

theorem Rdr.fail {w : World} {g : Nat} {l : List Nat} {e : Int} {lo hi : Nat} (h : Rdr w g l e lo hi) (e2 : Int) : Rdr (w.setCell ⟨g, 1, none⟩ (.int .i64 e2)) g l e2 lo hi ∧ w.grownBy (w.setCell ⟨g, 1, none⟩ (.int .i64 e2)) (some g) := by
  have hg : w.grownBy (w.setCell ⟨g, 1, none⟩ (.int .i64 e2)) (some g) := grown_setCell w _ _
  obtain ⟨A, n, c, k0, k1, k2, k3, k4⟩ := h.b
  have hne : ∀ a, A = some a → some a.block ≠ some g := fun a ha he => by
    injection he with he
    have := k4 a ha
    have := h.out
    omega
  refine ⟨⟨⟨A, n, c, ?_, k1, k2, k3.kept hg hne, k4⟩, World.cell?_setCell_same _ _ _ h.err, ?_, ?_, ?_, h.out⟩, hg⟩
  · rw [World.cell?_setCell_other _ _ _ _ (by simp)]; exact k0
  · rw [World.cell?_setCell_other _ _ _ _ (by simp)]; exact h.made
  · rw [World.frozen?_setCell]; exact h.f0
  · rw [World.frozen?_setCell]; exact h.f1
theorem Rdr.cut {w : World} {g : Nat} {l : List Nat} {e : Int} {lo hi : Nat} (h : Rdr w g l e lo hi) {A : Option Addr} {n c : Nat} (hc : w.cell? ⟨g, 0, none⟩ = some (.slice A n c)) {k : Nat} (hk : k ≤ n) :
    Rdr (w.setCell ⟨g, 0, none⟩ (.slice (cutAt A c k) (n - k) (c - k))) g (l.drop k) e lo hi ∧ w.grownBy (w.setCell ⟨g, 0, none⟩ (.slice (cutAt A c k) (n - k) (c - k))) (some g) := by
  have hg : w.grownBy (w.setCell ⟨g, 0, none⟩ (.slice (cutAt A c k) (n - k) (c - k))) (some g) := grown_setCell w _ _
  obtain ⟨A', n', c', k0, k1, k2, k3, k4⟩ := h.b
  rw [hc] at k0
  injection k0 with k0
  injection k0 with q1 q2 q3
  subst q1 q2 q3
  have hA : ∀ a, cutAt A c k = some a → lo ≤ a.block ∧ a.block < hi := fun a ha => by
    unfold cutAt at ha
    split at ha
    · exact k4 a ha
    · obtain ⟨a', h1, rfl⟩ := Option.map_eq_some_iff.1 ha
      have hb : (a'.add k).block = a'.block := by unfold Addr.add; split <;> rfl
      rw [hb]; exact k4 a' h1
  have hne : ∀ a, cutAt A c k = some a → some a.block ≠ some g := fun a ha he => by
    injection he with he
    have := hA a ha
    have := h.out
    omega
  refine ⟨⟨⟨_, _, _, World.cell?_setCell_same _ _ _ hc, by omega, by omega, (k3.cut hk k1).kept hg hne, hA⟩, ?_, ?_, ?_, ?_, h.out⟩, hg⟩
  · rw [World.cell?_setCell_other _ _ _ _ (by simp)]; exact h.err
  · rw [World.cell?_setCell_other _ _ _ _ (by simp)]; exact h.made
  · rw [World.frozen?_setCell]; exact h.f0
  · rw [World.frozen?_setCell]; exact h.f1
set_option maxRecDepth 100000 in
theorem fails_any {w : World} {g : Nat} {l : List Nat} {e : Int} {lo hi : Nat} (h : Rdr w g l e lo hi) (e2 : Int) :
    Calls Try.prog 83 #[.pointer (some ⟨g, 0, none⟩), .int .i64 e2] w fun e' w' => e' = .returned (.tuple #[]) ∧ w' = w.setCell ⟨g, 1, none⟩ (.int .i64 e2) := by
  have k1 := h.err
  have k2 := h.f1
  clear h
  go_enter Try.func83, Try.ntmps83
  go_wp2
  exact bodyPost_end (results_none rfl _ _ _) rfl ⟨rfl, rfl⟩
set_option maxRecDepth 100000 in
theorem Err_any {w : World} {g : Nat} {l : List Nat} {e : Int} {lo hi : Nat} (h : Rdr w g l e lo hi) :
    Calls Try.prog 85 #[.pointer (some ⟨g, 0, none⟩)] w fun e' w' => e' = .returned (.int .i64 e) ∧ w = w' := by
  have k1 := h.err
  have k2 := h.made
  clear h
  go_enter Try.func85, Try.ntmps85
  go_wp2
  go_ret
  exact ⟨rfl, rfl⟩
/-- The end: the first error, or that bytes are left. -/
def endE (l : List Nat) (e : Int) : Int := if e = 0 then (if l.length = 0 then 0 else 12) else e
set_option maxRecDepth 100000 in
theorem End_any {w : World} {g : Nat} {l : List Nat} {e : Int} {lo hi : Nat} (h : Rdr w g l e lo hi) :
    Calls Try.prog 57 #[.pointer (some ⟨g, 0, none⟩)] w fun e' w' => e' = .returned (.int .i64 (endE l e)) ∧ w = w' := by
  have C := Lib.hid (Err_any h)
  obtain ⟨A, n, c, k0, _, _, k3, _⟩ := h.b
  have hlen := k3.len
  have hn := k3.max
  clear h k3
  by_cases h0 : e = 0
  · subst h0
    by_cases h1 : 0 < (n : Int)
    · have hv : endE l 0 = 12 := by unfold endE; rw [if_pos rfl, if_neg (by omega)]
      rw [hv]
      clear hv hlen
      go_enter Try.func57, Try.ntmps57
      go_wp2_with fail
      refine C.out.mono ?_
      rintro e w1 ⟨rfl, rfl⟩
      go_wp2
      go_ret
      exact ⟨rfl, rfl⟩
    · have hv : endE l 0 = 0 := by unfold endE; rw [if_pos rfl, if_pos (by omega)]
      rw [hv]
      clear hv hlen
      go_enter Try.func57, Try.ntmps57
      go_wp2_with fail
      refine C.out.mono ?_
      rintro e w1 ⟨rfl, rfl⟩
      go_wp2
      go_ret
      exact ⟨rfl, rfl⟩
  · have hv : endE l e = e := if_neg h0
    have hb : (e == 0) = false := by simp [h0]
    have hb2 : (e != 0) = true := by simp [h0]
    rw [hv]
    clear hv hlen
    go_enter Try.func57, Try.ntmps57
    go_wp2_with fail
    refine C.out.mono ?_
    rintro e w1 ⟨rfl, rfl⟩
    go_wp2
    go_ret
    exact ⟨rfl, rfl⟩
end Go.Proofs.Ytbmdjmnjbflfeaa

/- A short number is taken. -/
namespace Go.Proofs.Ytbmdjmnjbflfeaa
open Go.RowKit
set_option linter.unusedVariables false
set_option linter.unusedSimpArgs false

/-- What taking a short number answers, from its byte i on, v being taken: the number and its error. -/
def tvF : List Nat → Nat → Nat → Nat × Int
  | [], _, _ => (0, 10)
  | c :: r, i, v => if (i = 4 ∧ 15 < c) ∨ (0 < i ∧ c = 0) then (0, 11) else if c < 128 then (v + c * 128 ^ i, 0) else tvF r (i + 1) (v + c % 128 * 128 ^ i)
/-- How many bytes are taken. -/
def tvN : List Nat → Nat → Nat
  | [], i => i
  | c :: r, i => if (i = 4 ∧ 15 < c) ∨ (0 < i ∧ c = 0) then i else if c < 128 then i + 1 else tvN r (i + 1)
def takeV (l : List Nat) : Nat × Int := tvF l 0 0
def takeR (l : List Nat) : List Nat := if (takeV l).2 = 0 then l.drop (tvN l 0) else l

theorem bits_or_u32 (v x i : Nat) (hv : v < 2 ^ i) (hx : v + x * 2 ^ i < 4294967296) : bits .or .u32 (v : Int) ((x * 2 ^ i : Nat) : Int) = ((v + x * 2 ^ i : Nat) : Int) := by
  show IntKind.u32.wrap ((BitVec.ofInt 32 (v : Int) ||| BitVec.ofInt 32 ((x * 2 ^ i : Nat) : Int)).toNat : Int) = _
  rw [BitVec.toNat_or, BitVec.ofInt_natCast, BitVec.ofInt_natCast, BitVec.toNat_ofNat, BitVec.toNat_ofNat, Nat.mod_eq_of_lt (show v < 2 ^ 32 by omega), Nat.mod_eq_of_lt (show x * 2 ^ i < 2 ^ 32 by omega)]
  rw [Nat.or_comm, Nat.mul_comm x, ← Nat.two_pow_add_eq_or_of_lt hv, Nat.add_comm (2 ^ i * x) v, Nat.mul_comm (2 ^ i) x]
  generalize x * 2 ^ i = y at *
  rw [IntKind.wrap_u32]; omega
theorem bits_and_u8 : ∀ (a : Nat), a < 256 → bits .and .u8 (a : Int) 127 = ((a % 128 : Nat) : Int) := by decide +kernel

theorem shl_or (v x i : Nat) (hi : i ≤ 4) (hv : v < 128 ^ i) (hx : x < 128 ∧ (i = 4 → x ≤ 15)) : bits .or .u32 (v : Int) ((x : Int) * 2 ^ (7 * i) % 4294967296) = ((v + x * 128 ^ i : Nat) : Int) := by
  have e : (128 : Nat) ^ i = 2 ^ (7 * i) := by rw [Nat.pow_mul]
  rw [e] at hv ⊢
  have hb : 2 ^ (7 * i) + x * 2 ^ (7 * i) ≤ 4294967296 := by
    rcases (show i = 0 ∨ i = 1 ∨ i = 2 ∨ i = 3 ∨ i = 4 by omega) with rfl | rfl | rfl | rfl | rfl <;> omega
  have e2 : (x : Int) * 2 ^ (7 * i) % 4294967296 = ((x * 2 ^ (7 * i) : Nat) : Int) := by
    have e3 : (x : Int) * 2 ^ (7 * i) = ((x * 2 ^ (7 * i) : Nat) : Int) := by rw [Int.natCast_mul, Int.natCast_pow]; rfl
    rw [e3]
    have h0 := Nat.two_pow_pos (7 * i)
    omega
  rw [e2]
  exact bits_or_u32 v x (7 * i) hv (by omega)

theorem shl_lt (v x i : Nat) (hi : i < 4) (hv : v < 128 ^ i) (hx : x < 128) : v + x * 128 ^ i < 128 ^ (i + 1) ∧ v + x * 128 ^ i < 4294967296 := by
  rcases (show i = 0 ∨ i = 1 ∨ i = 2 ∨ i = 3 by omega) with rfl | rfl | rfl | rfl <;> omega

end Go.Proofs.Ytbmdjmnjbflfeaa

/- Join: one behind the other. -/
namespace Go.Proofs.Ytbmdjmnjbflfeaa
open Go.RowKit
set_option linter.unusedVariables false
set_option linter.unusedSimpArgs false

end Go.Proofs.Ytbmdjmnjbflfeaa

/- Bytes and numbers are taken. -/
namespace Go.Proofs.Ytbmdjmnjbflfeaa
open Go.RowKit
set_option linter.unusedVariables false
set_option linter.unusedSimpArgs false

/-- So many bytes are taken: they, what is left, the error. -/
def rawL (k : Nat) (l : List Nat) (e : Int) : List Nat × List Nat × Int := if e = 0 then (if k ≤ l.length then (l.take k, l.drop k, 0) else ([], l, 10)) else ([], l, e)
theorem rawL_err {k : Nat} {l : List Nat} {e : Int} (h : e ≠ 0) : rawL k l e = ([], l, e) := if_neg h
theorem rawL_ok {k : Nat} {l : List Nat} (h : k ≤ l.length) : rawL k l 0 = (l.take k, l.drop k, 0) := by unfold rawL; rw [if_pos rfl, if_pos h]
theorem rawL_short {k : Nat} {l : List Nat} (h : ¬ k ≤ l.length) : rawL k l 0 = ([], l, 10) := by unfold rawL; rw [if_pos rfl, if_neg h]
theorem rawL_len (k : Nat) (l : List Nat) (e : Int) : (rawL k l e).1.length ≤ k := by
  unfold rawL
  split
  · split
    · simp; omega
    · simp
  · simp

/-- Bytes that lie in a block between lo and hi. -/
def BSin (w : World) (v : Value) (l : List Nat) (lo hi : Nat) : Prop := ∃ A n c, v = .slice A n c ∧ n ≤ c ∧ c ≤ 9223372036854775807 ∧ RdB w A n l ∧ ∀ a, A = some a → lo ≤ a.block ∧ a.block < hi
theorem BSin.bs {w : World} {v : Value} {l : List Nat} {lo hi : Nat} (h : BSin w v l lo hi) : BS w v l := by
  obtain ⟨A, n, c, e, h1, h2, h3, _⟩ := h
  exact ⟨A, n, c, e, h1, h2, h3⟩
theorem BSin.nil (w : World) (lo hi : Nat) : BSin w (.slice none 0 0) [] lo hi := ⟨_, _, _, rfl, Nat.le_refl _, by decide, RdB.empty w, fun a h => by cases h⟩
theorem BSin.kept {w w' : World} {v : Value} {l : List Nat} {lo hi k : Nat} (h : BSin w v l lo hi) (hg : w.grownBy w' (some k)) (hk : ¬ (lo ≤ k ∧ k < hi)) : BSin w' v l lo hi := by
  obtain ⟨A, n, c, e, h1, h2, h3, h4⟩ := h
  exact ⟨A, n, c, e, h1, h2, h3.kept hg (fun a ha he => by injection he with he; have := h4 a ha; rw [he] at this; exact hk this), h4⟩
theorem cutAt_in {A : Option Addr} {c k lo hi : Nat} (h : ∀ a, A = some a → lo ≤ a.block ∧ a.block < hi) : ∀ a, cutAt A c k = some a → lo ≤ a.block ∧ a.block < hi := fun a ha => by
  unfold cutAt at ha
  split at ha
  · exact h a ha
  · obtain ⟨a', h1, rfl⟩ := Option.map_eq_some_iff.1 ha
    have hb : (a'.add k).block = a'.block := by unfold Addr.add; split <;> rfl
    rw [hb]; exact h a' h1

set_option maxRecDepth 100000 in
set_option maxHeartbeats 2000000 in
theorem next_any {w : World} {g : Nat} {l : List Nat} {e : Int} {lo hi : Nat} (k : Nat) (hk : k ≤ 9223372036854775807) (h : Rdr w g l e lo hi) :
    Calls Try.prog 84 #[.pointer (some ⟨g, 0, none⟩), .int .i64 k] w fun e' w' => ∃ r, e' = .returned r ∧ BSin w' r (rawL k l e).1 lo hi ∧ Rdr w' g (rawL k l e).2.1 (rawL k l e).2.2 lo hi ∧ w.grownBy w' (some g) := by
  have C0 := Lib.hid (none_any h)
  have HH := Lib.hid h
  by_cases h0 : e = 0
  · subst h0
    rw [show decide ((0 : Int) ≠ 0) = false by decide] at C0
    obtain ⟨A, n, c, k0, hnc, hc, k3, k4⟩ := h.b
    have kf := h.f0
    have hlen := k3.len
    have hn := k3.max
    by_cases hkn : k ≤ n
    · have HV := Lib.hid (rawL_ok (k := k) (l := l) (by omega))
      have hsl := run_cut_hm A n c k k (Nat.le_refl _) (by omega)
      have q1 : ¬ (n : Int) < (k : Int) := by omega
      have q2 : k ≤ c := by omega
      have hcu := Lib.hid (h.cut k0 hkn)
      have hne : ∀ a, A = some a → some a.block ≠ some g := fun a ha he => by
        injection he with he
        have := k4 a ha
        have := h.out
        omega
      have hbs : Hid (∀ (w' : World), w.grownBy w' (some g) → BSin w' (.slice A k k) (l.take k) lo hi) := Lib.hid (fun (w' : World) (hg : w.grownBy w' (some g)) => ⟨A, k, k, rfl, Nat.le_refl _, hk, (k3.take k hkn).kept hg hne, k4⟩)
      clear h k3 k4 hlen hne
      go_enter Try.func84, Try.ntmps84
      go_wp2_with fail
      refine C0.out.mono ?_
      rintro e w1 ⟨rfl, rfl⟩
      go_wp2
      all_goals
        go_ret
        rw [HV.out]
        have hc2 := hcu.out
        unfold cutAt at hc2
        first
          | (have hcase : ¬ c = k := by assumption
             rw [if_neg hcase] at hc2
             exact ⟨_, rfl, hbs.out _ hc2.2, hc2.1, hc2.2⟩)
          | (have hcase : c = k := by assumption
             rw [if_pos hcase, show c - k = 0 from by omega] at hc2
             exact ⟨_, rfl, hbs.out _ hc2.2, hc2.1, hc2.2⟩)
    · have HV := Lib.hid (rawL_short (k := k) (l := l) (by omega))
      have q1 : (n : Int) < (k : Int) := by omega
      have HCF := Lib.hid (fails_any h 10)
      have HF := Lib.hid (h.fail 10)
      clear h k3 k4 hlen hkn
      go_enter Try.func84, Try.ntmps84
      go_wp2_with fail
      refine C0.out.mono ?_
      rintro e w1 ⟨rfl, rfl⟩
      go_wp2_with fail
      refine HCF.out.mono ?_
      rintro e w2 ⟨rfl, rfl⟩
      go_wp2
      go_ret
      rw [HV.out]
      exact ⟨_, rfl, BSin.nil _ _ _, HF.out.1, HF.out.2⟩
  · have HV := Lib.hid (rawL_err (k := k) (l := l) h0)
    rw [decide_eq_true h0] at C0
    clear h h0
    go_enter Try.func84, Try.ntmps84
    go_wp2_with fail
    refine C0.out.mono ?_
    rintro e w1 ⟨rfl, rfl⟩
    go_wp2
    go_ret
    rw [HV.out]
    exact ⟨_, rfl, BSin.nil _ _ _, HH.out, World.grownBy.refl w _⟩

/-- A number of bytes, the highest first. -/
def beN (l : List Nat) : Nat := l.foldl (fun v c => v * 256 + c) 0
theorem beN_succ {l : List Nat} {i : Nat} (h : i < l.length) : beN (l.take (i + 1)) = beN (l.take i) * 256 + l.getD i 0 := by
  unfold beN
  rw [List.take_add_one, List.foldl_append, List.getD_eq_getElem?_getD, List.getElem?_eq_getElem h]
  rfl
theorem beN_lt : ∀ (l : List Nat), Byt l → beN l < 256 ^ l.length := by
  intro l hl
  have key : ∀ i, i ≤ l.length → beN (l.take i) < 256 ^ i := by
    intro i
    induction i with
    | zero => intro _; simp [beN]
    | succ i ih =>
      intro hi
      rw [beN_succ (by omega), Nat.pow_succ]
      have := ih (by omega)
      have := hl.getD i
      omega
  have := key l.length (Nat.le_refl _)
  rwa [List.take_length] at this
theorem bits_or_u64 (v x : Nat) (hv : v < 72057594037927936) (hx : x < 256) : bits .or .u64 ((v : Int) * 256) (x : Int) = ((v * 256 + x : Nat) : Int) := by
  have e : (v : Int) * 256 = ((2 ^ 8 * v : Nat) : Int) := by omega
  rw [e]
  show IntKind.u64.wrap ((BitVec.ofInt 64 ((2 ^ 8 * v : Nat) : Int) ||| BitVec.ofInt 64 (x : Int)).toNat : Int) = _
  rw [BitVec.toNat_or, BitVec.ofInt_natCast, BitVec.ofInt_natCast, BitVec.toNat_ofNat, BitVec.toNat_ofNat, Nat.mod_eq_of_lt (show 2 ^ 8 * v < 2 ^ 64 by omega), Nat.mod_eq_of_lt (show x < 2 ^ 64 by omega)]
  rw [← Nat.two_pow_add_eq_or_of_lt (show x < 2 ^ 8 by omega)]
  rw [IntKind.wrap_u64]; omega

set_option maxRecDepth 100000 in
set_option maxHeartbeats 2000000 in
theorem number_any {w : World} {g : Nat} {l : List Nat} {e : Int} {lo hi : Nat} (k : Nat) (hk : k ≤ 8) (h : Rdr w g l e lo hi) :
    Calls Try.prog 81 #[.pointer (some ⟨g, 0, none⟩), .int .i64 k] w fun e' w' => e' = .returned (.int .u64 (beN (rawL k l e).1 : Nat)) ∧ Rdr w' g (rawL k l e).2.1 (rawL k l e).2.2 lo hi ∧ w.grownBy w' (some g) := by
  have C := Lib.hid (next_any k (by omega) h)
  have hL := rawL_len k l e
  obtain ⟨R, hR⟩ : ∃ R, R = rawL k l e := ⟨_, rfl⟩
  rw [← hR] at C hL ⊢
  clear h hR
  go_enter Try.func81, Try.ntmps81
  go_wp2_with fail
  refine C.out.mono ?_
  rintro e' w1 ⟨r, rfl, hbs, hrd, hgr⟩
  obtain ⟨A, n, c, rfl, hnc, hc, hrb, _⟩ := hbs
  have HR := Lib.hid hrb
  have HX := Lib.hid (And.intro hrd hgr)
  have hn : n ≤ 8 := by rw [← hrb.len]; omega
  clear hrd hgr hrb hL
  go_wp2_with fail
  go_loop [5, 12] (fun y x => ∃ i v : Nat, x = .int .i64 i ∧ y = .int .u64 v ∧ i ≤ n ∧ Hid (v = beN (R.1.take i))) (fun _ x => n - (intOf x).toNat)
  case atStart => exact ⟨0, 0, rfl, rfl, Nat.zero_le _, Lib.hid rfl⟩
  case round =>
    rename_i hwr
    clear hwr
    obtain ⟨i, v, rfl, rfl, hi, HV⟩ := hrel
    by_cases hlt : (i : Int) < (n : Int)
    · obtain ⟨ad, x, rfl, HXX, hxb, hcell⟩ := HR.out.at (k := i) (by omega)
      have hvl : v < 256 ^ i := by
        have h1 := beN_lt (R.1.take i) (HR.out.byt.take i)
        rw [← HV.out, List.length_take, HR.out.len, Nat.min_eq_left (by omega)] at h1
        exact h1
      have hvb : v < 72057594037927936 := by
        have : 256 ^ i ≤ 256 ^ 7 := Nat.pow_le_pow_right (by decide) (by omega)
        omega
      have hor := Lib.hid (bits_or_u64 v x hvb hxb)
      have HV2 : Hid (v * 256 + x = beN (R.1.take (i + 1))) := Lib.hid (by rw [beN_succ (by rw [HR.out.len]; omega), ← HV.out, ← HXX.out])
      clear hvl
      go_wp2
      refine ⟨⟨i + 1, v * 256 + x, by go_num, by rw [hor.out], by omega, HV2⟩, by simp [intOf]; omega⟩
    · have HV3 : Hid (v = beN R.1) := Lib.hid (by rw [HV.out, List.take_of_length_le (by rw [HR.out.len]; omega)])
      clear HV
      go_wp2
      go_ret
      exact ⟨by rw [HV3.out]; rfl, HX.out⟩
theorem Rdr.byt {w : World} {g : Nat} {l : List Nat} {e : Int} {lo hi : Nat} (h : Rdr w g l e lo hi) : Byt l := by
  obtain ⟨A, n, c, _, _, _, k3, _⟩ := h.b
  exact k3.byt
theorem rawL_byt {l : List Nat} (h : Byt l) {k : Nat} {e : Int} : Byt (rawL k l e).1 := by
  unfold rawL
  split
  · split
    · exact h.take k
    · exact Byt.nil
  · exact Byt.nil
theorem beN_rawL {l : List Nat} (h : Byt l) {k : Nat} {e : Int} : beN (rawL k l e).1 < 256 ^ k :=
  Nat.lt_of_lt_of_le (beN_lt _ (rawL_byt h)) (Nat.pow_le_pow_right (by decide) (rawL_len k l e))

set_option maxRecDepth 100000 in
theorem RU8_any {w : World} {g : Nat} {l : List Nat} {e : Int} {lo hi : Nat} (h : Rdr w g l e lo hi) :
    Calls Try.prog 54 #[.pointer (some ⟨g, 0, none⟩)] w fun e' w' => e' = .returned (.int .u8 (beN (rawL 1 l e).1 : Nat)) ∧ Rdr w' g (rawL 1 l e).2.1 (rawL 1 l e).2.2 lo hi ∧ w.grownBy w' (some g) := by
  have C := Lib.hid (number_any 1 (by decide) h)
  have hV := beN_rawL h.byt (k := 1) (e := e)
  obtain ⟨V, hVd⟩ : ∃ V, V = beN (rawL 1 l e).1 := ⟨_, rfl⟩
  rw [← hVd] at C hV ⊢
  clear h hVd
  go_enter Try.func54, Try.ntmps54
  go_wp2_with fail
  refine C.out.mono ?_
  rintro e' w1 ⟨rfl, hX⟩
  have HX := Lib.hid hX
  clear hX
  go_wp2
  go_ret
  refine ⟨?_, HX.out⟩
  first
    | rfl
    | (have e0 : (V : Int) % 256 = (V : Int) := by omega
       exact congrArg (fun z => Ending.returned (Value.int .u8 z)) e0)
    | (have e0 : IntKind.u8.wrap (V : Int) = (V : Int) := by (simp [IntKind.wrap, IntKind.bits, IntKind.signed]; omega)
       exact congrArg (fun z => Ending.returned (Value.int .u8 z)) e0)

set_option maxRecDepth 100000 in
theorem RU16_any {w : World} {g : Nat} {l : List Nat} {e : Int} {lo hi : Nat} (h : Rdr w g l e lo hi) :
    Calls Try.prog 55 #[.pointer (some ⟨g, 0, none⟩)] w fun e' w' => e' = .returned (.int .u16 (beN (rawL 2 l e).1 : Nat)) ∧ Rdr w' g (rawL 2 l e).2.1 (rawL 2 l e).2.2 lo hi ∧ w.grownBy w' (some g) := by
  have C := Lib.hid (number_any 2 (by decide) h)
  have hV := beN_rawL h.byt (k := 2) (e := e)
  obtain ⟨V, hVd⟩ : ∃ V, V = beN (rawL 2 l e).1 := ⟨_, rfl⟩
  rw [← hVd] at C hV ⊢
  clear h hVd
  go_enter Try.func55, Try.ntmps55
  go_wp2_with fail
  refine C.out.mono ?_
  rintro e' w1 ⟨rfl, hX⟩
  have HX := Lib.hid hX
  clear hX
  go_wp2
  go_ret
  refine ⟨?_, HX.out⟩
  first
    | rfl
    | (have e0 : (V : Int) % 65536 = (V : Int) := by omega
       exact congrArg (fun z => Ending.returned (Value.int .u16 z)) e0)
    | (have e0 : IntKind.u16.wrap (V : Int) = (V : Int) := by (simp [IntKind.wrap, IntKind.bits, IntKind.signed]; omega)
       exact congrArg (fun z => Ending.returned (Value.int .u16 z)) e0)

/-- So many bytes are taken, the number of bytes being any. -/
def rawI (k : Int) (l : List Nat) (e : Int) : List Nat × List Nat × Int := if e = 0 then (if k < 0 then ([], l, 1) else rawL k.toNat l 0) else ([], l, e)
end Go.Proofs.Ytbmdjmnjbflfeaa

/- A text is taken. -/
namespace Go.Proofs.Ytbmdjmnjbflfeaa
open Go.RowKit
set_option linter.unusedVariables false
set_option linter.unusedSimpArgs false

/-- A text is taken: its bytes, what is left, the error. -/
def txtL (most : Int) (l : List Nat) (e : Int) : List Nat × List Nat × Int :=
  if e = 0 then (if most < 0 then ([], l, 1) else if l.length = 0 then ([], l, 10) else if most < (l.getD 0 0 : Nat) then ([], l, 3) else if l.length ≤ l.getD 0 0 then ([], l, 10) else ((l.take (1 + l.getD 0 0)).drop 1, l.drop (1 + l.getD 0 0), 0)) else ([], l, e)

set_option maxRecDepth 100000 in
set_option maxHeartbeats 2000000 in
theorem RText_any {w : World} {g : Nat} {l : List Nat} {e : Int} {lo hi : Nat} (k : Int) (hk : k ≤ 9223372036854775807) (h : Rdr w g l e lo hi) :
    Calls Try.prog 56 #[.pointer (some ⟨g, 0, none⟩), .int .i64 k] w fun e' w' => ∃ r, e' = .returned r ∧ BSin w' r (txtL k l e).1 lo hi ∧ Rdr w' g (txtL k l e).2.1 (txtL k l e).2.2 lo hi ∧ w.grownBy w' (some g) := by
  have C0 := Lib.hid (none_any h)
  have HH := Lib.hid h
  by_cases h0 : e = 0
  · subst h0
    rw [show decide ((0 : Int) ≠ 0) = false by decide] at C0
    obtain ⟨A, n, c, k0, hnc, hc, k3, k4⟩ := h.b
    have hlen := k3.len
    have hn := k3.max
    have HR := Lib.hid k3
    have HJ : Hid (∀ j, Rdr (w.drewN j) g l 0 lo hi ∧ w.grownBy (w.drewN j) (some g)) := Lib.hid (fun j => ⟨h.below (Below.pk_drewN w j), grown_below (Below.pk_drewN w j) _⟩)
    clear h k3 k4
    by_cases hk0 : k < 0
    · skip
      have HV : Hid (txtL k l 0 = ([], l, 1)) := Lib.hid (by unfold txtL; rw [if_pos rfl, if_pos hk0])
      have HCF : Hid (∀ j, Calls Try.prog 83 #[.pointer (some ⟨g, 0, none⟩), .int .i64 1] (w.drewN j) fun e' w' => e' = .returned (.tuple #[]) ∧ w' = (w.drewN j).setCell ⟨g, 1, none⟩ (.int .i64 1)) := Lib.hid (fun j => fails_any (HJ.out j).1 1)
      have HF := Lib.hid (fun j => (HJ.out j).1.fail 1)
      clear hlen
      go_enter Try.func56, Try.ntmps56
      go_wp2_with fail
      refine C0.out.mono ?_
      rintro e w1 ⟨rfl, rfl⟩
      go_wp2_with fail
      refine (HCF.out 0).mono ?_
      rintro e w2 ⟨rfl, rfl⟩
      go_wp2
      go_ret
      rw [HV.out]
      exact ⟨_, rfl, BSin.nil _ _ _, (HF.out 0).1, (HJ.out 0).2.trans (HF.out 0).2⟩
    · skip
      have r0 := Lib.hid hk0
      by_cases hn0 : n = 0
      · skip
        have b1 : ((n : Int) == 0) = true := by simp [hn0]
        have HV : Hid (txtL k l 0 = ([], l, 10)) := Lib.hid (by unfold txtL; rw [if_pos rfl, if_neg hk0, if_pos (by omega)])
        have HCF : Hid (∀ j, Calls Try.prog 83 #[.pointer (some ⟨g, 0, none⟩), .int .i64 10] (w.drewN j) fun e' w' => e' = .returned (.tuple #[]) ∧ w' = (w.drewN j).setCell ⟨g, 1, none⟩ (.int .i64 10)) := Lib.hid (fun j => fails_any (HJ.out j).1 10)
        have HF := Lib.hid (fun j => (HJ.out j).1.fail 10)
        clear hlen hn0
        go_enter Try.func56, Try.ntmps56
        go_wp2_with fail
        refine C0.out.mono ?_
        rintro e w1 ⟨rfl, rfl⟩
        go_wp2_with fail
        refine (HCF.out 0).mono ?_
        rintro e w2 ⟨rfl, rfl⟩
        go_wp2
        go_ret
        rw [HV.out]
        exact ⟨_, rfl, BSin.nil _ _ _, (HF.out 0).1, (HJ.out 0).2.trans (HF.out 0).2⟩
      · skip
        have b1 : ((n : Int) == 0) = false := by simp; omega
        obtain ⟨ad, x, rfl, HX, hxb, hcell⟩ := HR.out.at (k := 0) (by omega)
        have hcell0 : w.cell? ad = some (.int .u8 (x : Int)) := by simpa [Addr.add] using hcell
        have q0 : 0 < n := by omega
        have q00 : (0 : Int) < (n : Int) := by omega
        clear hcell
        have HL0 := Lib.hid (show l.length ≠ 0 by omega)
        by_cases hxm : k < (x : Int)
        · skip
          have HV : Hid (txtL k l 0 = ([], l, 3)) := Lib.hid (by unfold txtL; rw [if_pos rfl, if_neg r0.out, if_neg HL0.out, if_pos (by rw [← HX.out]; exact hxm)])
          have HCF : Hid (∀ j, Calls Try.prog 83 #[.pointer (some ⟨g, 0, none⟩), .int .i64 3] (w.drewN j) fun e' w' => e' = .returned (.tuple #[]) ∧ w' = (w.drewN j).setCell ⟨g, 1, none⟩ (.int .i64 3)) := Lib.hid (fun j => fails_any (HJ.out j).1 3)
          have HF := Lib.hid (fun j => (HJ.out j).1.fail 3)
          clear hlen hn0
          go_enter Try.func56, Try.ntmps56
          go_wp2_with fail
          refine C0.out.mono ?_
          rintro e w1 ⟨rfl, rfl⟩
          go_wp2_with fail
          refine (HCF.out 0).mono ?_
          rintro e w2 ⟨rfl, rfl⟩
          go_wp2
          go_ret
          rw [HV.out]
          exact ⟨_, rfl, BSin.nil _ _ _, (HF.out 0).1, (HJ.out 0).2.trans (HF.out 0).2⟩
        · skip
          have r1 := Lib.hid hxm
          by_cases hxn : n ≤ x
          · skip
            have q2 : (n : Int) ≤ (x : Int) := by omega
            have b2 : decide ((n : Int) ≤ (x : Int)) = true := decide_eq_true q2
            have HV : Hid (txtL k l 0 = ([], l, 10)) := Lib.hid (by unfold txtL; rw [if_pos rfl, if_neg r0.out, if_neg HL0.out, if_neg (by rw [← HX.out]; exact r1.out), if_pos (by rw [← HX.out]; omega)])
            have HCF : Hid (∀ j, Calls Try.prog 83 #[.pointer (some ⟨g, 0, none⟩), .int .i64 10] (w.drewN j) fun e' w' => e' = .returned (.tuple #[]) ∧ w' = (w.drewN j).setCell ⟨g, 1, none⟩ (.int .i64 10)) := Lib.hid (fun j => fails_any (HJ.out j).1 10)
            have HF := Lib.hid (fun j => (HJ.out j).1.fail 10)
            clear hlen hn0 hxn
            go_enter Try.func56, Try.ntmps56
            go_wp2_with fail
            refine C0.out.mono ?_
            rintro e w1 ⟨rfl, rfl⟩
            go_upto_region 10 with fail
            go_quiet (fail)
            go_wp2_with fail
            refine (HCF.out nq).mono ?_
            rintro e w2 ⟨rfl, rfl⟩
            go_wp2
            go_ret
            rw [HV.out]
            exact ⟨_, rfl, BSin.nil _ _ _, (HF.out nq).1, (HJ.out nq).2.trans (HF.out nq).2⟩
          · skip
            have q2 : ¬ (n : Int) ≤ (x : Int) := by omega
            have b2 : decide ((n : Int) ≤ (x : Int)) = false := decide_eq_false q2
            obtain ⟨m, hm⟩ : ∃ m, m = 1 + x := ⟨_, rfl⟩
            have HV : Hid (txtL k l 0 = ((l.take m).drop 1, l.drop m, 0)) := Lib.hid (by unfold txtL; rw [if_pos rfl, if_neg r0.out, if_neg HL0.out, if_neg (by rw [← HX.out]; exact r1.out), if_neg (by rw [← HX.out]; omega), ← HX.out, hm])
            have HC := Lib.hid (fun j => next_any m (by omega) (HJ.out j).1)
            rw [rawL_ok (k := m) (l := l) (by omega)] at HC
            have e1 : (1 : Int) + (x : Int) = (m : Int) := by omega
            have HM : Hid ((l.take m).length = m) := Lib.hid (by rw [List.length_take]; omega)
            have hm1 : 1 ≤ m := by omega
            clear hlen hn0 hxn hm
            go_enter Try.func56, Try.ntmps56
            go_wp2_with fail
            refine C0.out.mono ?_
            rintro e w1 ⟨rfl, rfl⟩
            go_upto_region 10 with fail
            go_quiet (fail)
            go_wp2_with fail
            refine (HC.out _).mono ?_
            rintro e w2 ⟨r, rfl, hbs, hrd, hgr⟩
            obtain ⟨A', n', c', rfl, hnc', hc', hrb, hin⟩ := hbs
            have hn' : n' = m := by rw [← hrb.len]; exact HM.out
            subst hn'
            have hcu : Hid (BSin w2 (.slice (cutAt A' c' 1) (n' - 1) (c' - 1)) ((l.take n').drop 1) lo hi) := Lib.hid ⟨_, _, _, rfl, by omega, by omega, hrb.cut (c := c') hm1 hnc', cutAt_in hin⟩
            have HX2 := Lib.hid (And.intro hrd ((HJ.out _).2.trans hgr))
            clear hrb hrd hgr
            go_wp2
            all_goals
              go_ret
              rw [HV.out]
              have hc2 := hcu.out
              unfold cutAt at hc2
              first
                | (have hcase : ¬ c' = 1 := by assumption
                   rw [if_neg hcase] at hc2
                   exact ⟨_, rfl, hc2, HX2.out⟩)
                | (have hcase : c' = 1 := by assumption
                   rw [if_pos hcase, show c' - 1 = 0 from by omega] at hc2
                   exact ⟨_, rfl, hc2, HX2.out⟩)
  · have HV := Lib.hid (show txtL k l e = ([], l, e) from if_neg h0)
    rw [decide_eq_true h0] at C0
    clear h h0
    go_enter Try.func56, Try.ntmps56
    go_wp2_with fail
    refine C0.out.mono ?_
    rintro e w1 ⟨rfl, rfl⟩
    go_wp2
    go_ret
    rw [HV.out]
    exact ⟨_, rfl, BSin.nil _ _ _, HH.out, World.grownBy.refl w _⟩
end Go.Proofs.Ytbmdjmnjbflfeaa

/- A text behind bytes, the document's numbers. -/
namespace Go.Proofs.Ytbmdjmnjbflfeaa
open Go.RowKit
set_option linter.unusedVariables false
set_option linter.unusedSimpArgs false

def textL_pk (b t : List Nat) : List Nat := if t.length ≤ 255 then b ++ (t.length :: t) else []
def textE (t : List Nat) : Int := if t.length ≤ 255 then 0 else 3

set_option maxRecDepth 100000 in
set_option maxHeartbeats 2000000 in
theorem Text_bs {vb vt : Value} {b t : List Nat} (w : World) (hb : BS w vb b) (ht : BS w vt t) (hn : b.length ≤ 70368744177300) :
    Calls Try.prog 52 #[vb, vt] w fun e w' => ∃ r, e = .returned (.tuple #[r, .int .i64 (textE t)]) ∧ OwnB w' w.heap.size r (textL_pk b t) ∧ Below w.heap.size w w' := by
  obtain ⟨A, n, c, rfl, _, _, h1⟩ := hb
  obtain ⟨B, m, c', rfl, hc1, hc2, h2⟩ := ht
  have HA := Lib.hid h1
  have HB := Lib.hid h2
  have hla := Lib.hid h1.len
  have hlb := Lib.hid h2.len
  rw [h1.len] at hn
  have hm := h2.max
  clear h1 h2
  by_cases hbig : 255 < m
  · have q1 : (255 : Int) < (m : Int) := by omega
    have e1 := Lib.hid (show textL_pk b t = [] from if_neg (by rw [hlb.out]; omega))
    have e2 := Lib.hid (show textE t = 3 from if_neg (by rw [hlb.out]; omega))
    clear hbig
    go_enter Try.func52, Try.ntmps52
    go_wp2
    go_ret2
    exact ⟨.slice none 0 0, by rw [e2.out]; rfl, by rw [e1.out]; exact OwnB.nil _ _, Below.refl _ _⟩
  · have q1 : ¬ (255 : Int) < (m : Int) := by omega
    have e1 := Lib.hid (show textL_pk b t = b ++ (m :: t) by unfold textL_pk; rw [if_pos (by rw [hlb.out]; omega), hlb.out])
    have e2 := Lib.hid (show textE t = 0 from if_pos (by rw [hlb.out]; omega))
    have hcm : m = 0 ∨ 0 < m := by omega
    rcases hcm with hm0 | hm0
    · subst hm0
      have C := Lib.hid (grown_any A n c 1 b w HA.out (by omega))
      rw [cutAt_own (g := w.heap.size) (c := n + 1) (k := n) (by omega)] at C
      have ht0 : t = [] := List.eq_nil_of_length_eq_zero hlb.out
      have e1' : Hid (textL_pk b t = (b ++ List.replicate 1 0).set n 0) := Lib.hid <| by
        rw [e1.out, ht0, List.set_append_right _ _ (by rw [hla.out]; omega), hla.out, Nat.sub_self]; rfl
      have HN : Hid ((b ++ List.replicate 1 0).length = n + 1) := Lib.hid (by rw [List.length_append, List.length_replicate, hla.out])
      have hcp : ∀ W : World, (Builtin.copy_ #[26, 26] 3 #[.slice (some ⟨w.heap.size, n, none⟩) 0 0, .slice B 0 c']).run Try.prog W = .ok (.int .i64 0) W := fun W => run_copy_none W 26 26 3 5 _ B 0 0 0 c' Try.underlying26 (by kernel_rfl) (by simp)
      clear hbig e1 ht0
      go_enter Try.func52, Try.ntmps52
      go_wp2_with fail
      refine C.out.mono ?_
      rintro e w1 ⟨rfl, ho, hb⟩
      obtain ⟨⟨cv, hc3, hc4⟩, hs1, hs2⟩ := ho.put HN.out (i := n) (x := 0) (by omega) (by omega)
      have HBB := Lib.hid (below_grown hb hs2 (Nat.le_refl _))
      rw [← e1'.out] at hs1
      have HS := Lib.hid hs1
      clear ho hb hs1 hs2
      go_wp2
      go_ret2
      exact ⟨_, by rw [e2.out]; rfl, HS.out, HBB.out⟩
    · have C := Lib.hid (grown_any A n c (1 + m) b w HA.out (by omega))
      rw [cutAt_own (g := w.heap.size) (c := n + (1 + m)) (k := n) (by omega)] at C
      obtain ⟨L, hL⟩ : ∃ L, L = 1 + m := ⟨_, rfl⟩
      have q2 : 1 + (m : Int) = (L : Int) := by omega
      have q3 : 1 ≤ L := by omega
      have q4 : L - 1 = m := by omega
      have hm2 : m ≤ 255 := by omega
      rw [← hL] at C
      obtain ⟨N, hN⟩ : ∃ N, N = n + L := ⟨_, rfl⟩
      rw [← hN] at C
      have hwb : IntKind.u8.wrap (m : Int) = (m : Int) := by rw [IntKind.wrap_u8]; omega
      have HL := Lib.hid hL
      have HN := Lib.hid hN
      have Q4 := Lib.hid q4
      clear hbig hL hN q4
      go_enter Try.func52, Try.ntmps52
      go_wp2_with fail
      refine C.out.mono ?_
      rintro e w1 ⟨rfl, ho, hb⟩
      have hL := HL.out
      have hN := HN.out
      have q4 := Q4.out
      have hlenl : (b ++ List.replicate L 0).length = N := by rw [List.length_append, List.length_replicate, hla.out, hN]
      obtain ⟨⟨cv, hc3, hc4⟩, hs1, hs2⟩ := ho.put hlenl (i := n) (x := m) (by omega) (by omega)
      have hb2 := below_grown hb hs2 (Nat.le_refl _)
      have hlens : ((b ++ List.replicate L 0).set n m).length = N := by rw [List.length_set]; exact hlenl
      obtain ⟨w3, hcp, hs3, hs4⟩ := run_copy_own _ w.heap.size 3 w.heap.size (n + 1) N N (L - 1) (L - 1) _ t B m c' hs1 hlens (HB.out.below hb2) (by omega) (by omega)
      rw [setR_eq _ _ _ (by rw [hlens, hlb.out]; omega)] at hs3
      have hfin : ((b ++ List.replicate L 0).set n m).take (n + 1) ++ t ++ ((b ++ List.replicate L 0).set n m).drop (n + 1 + t.length) = textL_pk b t := by
        rw [e1.out]
        have hset : (b ++ List.replicate L 0).set n m = b ++ (m :: List.replicate m 0) := by
          rw [List.set_append_right _ _ (by rw [hla.out]; omega), hla.out, Nat.sub_self, show L = m + 1 by omega, List.replicate_succ]
          rfl
        rw [hset]
        have e3 : (b ++ (m :: List.replicate m 0)).take (n + 1) = b ++ [m] := by
          rw [List.take_append, List.take_of_length_le (by rw [hla.out]; omega), hla.out, Nat.add_sub_cancel_left]
          rfl
        have e4 : (b ++ (m :: List.replicate m 0)).drop (n + 1 + t.length) = [] := by
          rw [List.drop_eq_nil_iff]
          simp [hla.out, hlb.out]
          omega
        rw [e3, e4]
        simp
      rw [hfin] at hs3
      have HS := Lib.hid hs3
      have HBB := Lib.hid (below_grown hb2 hs4 (Nat.le_refl _))
      have hcut := run_cut_l (some ⟨w.heap.size, n, none⟩) L L 1 q3 (Nat.le_refl _)
      clear hL hN q4 ho hb hs1 hs2 hb2 hs3 hs4 hlenl hlens hfin
      have hL1 : ¬ L = 1 := by have := HL.out; omega
      go_wp2
      go_ret2
      exact ⟨_, by rw [e2.out]; rfl, HS.out, HBB.out⟩

theorem be_set2 (k j v : Nat) (h : j < k) : (List.replicate (k - j) 0 ++ be j v).set (k - 1 - j) (v / 256 ^ j % 256) = List.replicate (k - (j + 1)) 0 ++ be (j + 1) v := by
  have := be_set [] k j (v / 256 ^ j % 256) (be j v) h (be_length j v)
  simpa [be] using this

end Go.Proofs.Ytbmdjmnjbflfeaa
