/- What is read stays so behind new blocks; the law's guard live answers true. -/
import Derived.Test.YtkciljeojifofaaDoorWalkC
import Derived.Lib.SlBytesConst
namespace Go.Proofs.YtkciljeojifofaaDoor
open Go.RowKit Crc

theorem cell_lt {w : World} {a : Addr} {v : Value} (h : w.cell? a = some v) : a.block < w.heap.size := World.block_lt_of_cell? w a h
theorem cell_below {w w' : World} (hb : Below w.heap.size w w') {a : Addr} {v : Value} (h : w.cell? a = some v) : w'.cell? a = some v :=
  (hb.cell (cell_lt h)).trans h
theorem Tab.below {w w' : World} (h : Tab w) (hb : Below w.heap.size w w') : Tab w' := fun j hj => cell_below hb (h j hj)
theorem RdB.below {w w' : World} {A : Option Addr} {n : Nat} {l : List Nat} (h : RdB w A n l) (hb : Below w.heap.size w w') : RdB w' A n l :=
  ⟨h.1, h.2.1, h.2.2.1, fun hn => by
    obtain ⟨ad, e, hc⟩ := h.2.2.2 hn
    exact ⟨ad, e, fun j hj => cell_below hb (hc j hj)⟩⟩
theorem RdBB.below {w w' : World} {A : Option Addr} {n : Nat} {ls : List (List Nat)} (h : RdBB w A n ls) (hb : Below w.heap.size w w') : RdBB w' A n ls :=
  ⟨h.1, h.2.1, fun hn => by
    obtain ⟨ad, e, hc⟩ := h.2.2 hn
    exact ⟨ad, e, fun j hj => by
      obtain ⟨a, m, c, h1, h2⟩ := hc j hj
      exact ⟨a, m, c, cell_below hb h1, h2.below hb⟩⟩⟩
/-- Below from one world on, and from there on. -/
theorem Below.then {w a b : World} (h : Below w.heap.size w a) (k : Below a.heap.size a b) : Below w.heap.size w b := h.trans (k.mono h.size)
/-- A new block of bytes is read. -/
theorem RdB.new (w : World) (t : TypeId) (l : List Nat) (C : Array Value) (n : Nat) (fr : Nat × Nat) (hC : C = (l.map fun c => Value.int .u8 (c : Nat)).toArray) (hn : l.length = n) (h : ∀ c ∈ l, c < 256) (hm : n ≤ 9223372036854775807) :
    RdB (w.alloc (.cells C t fr)) (some ⟨w.heap.size, 0, none⟩) n l :=
  ⟨hn, hm, h, fun _ => ⟨_, rfl, fun j hj => by
    subst hC
    subst hn
    rw [Addr.add_lit, Nat.zero_add, World.cell?_alloc_mark]
    simp [List.getD_eq_getElem?_getD, List.getElem?_eq_getElem hj]⟩⟩
/-- A new block of one slice of bytes is read. -/
theorem RdBB.new1 (w : World) (t : TypeId) (A : Option Addr) (n c : Nat) (l : List Nat) (h : RdB w A n l) :
    RdBB (w.alloc (.cells #[.slice A n c] t)) (some ⟨w.heap.size, 0, none⟩) 1 [l] :=
  ⟨rfl, by decide, fun _ => ⟨_, rfl, fun j hj => by
    obtain rfl : j = 0 := by omega
    exact ⟨A, n, c, by rw [Addr.add_lit, Nat.zero_add, World.cell?_alloc_mark]; rfl, h.below ((Below.refl _ _).alloc (Nat.le_refl _) _)⟩⟩⟩

set_option maxHeartbeats 400000 in
theorem live_any (w : World) (hT : Tab w) :
    Calls Tryd.prog 9 #[] w fun e w' => e = .returned (.bool true) ∧ Below w.heap.size w w' := by
  have kc := fun (w : World) (C : Array Value) (n c : Nat) => Lib.run_convert_bytes_const (P := Tryd.prog) w 31 5 C n c Tryd.underlying31 Tryd.underlying5
  have h1 := RdB.new w 5 [49, 50, 51, 52, 53, 54, 55, 56, 57] #[.int .u8 49, .int .u8 50, .int .u8 51, .int .u8 52, .int .u8 53, .int .u8 54, .int .u8 55, .int .u8 56, .int .u8 57] 9 (9, 10) rfl rfl (by decide) (by decide)
  have h2 := RdBB.new1 _ 31 _ 9 9 _ h1
  rw [World.size_alloc] at h2
  have hb1 : Below w.heap.size w (w.alloc (.cells #[.int .u8 49, .int .u8 50, .int .u8 51, .int .u8 52, .int .u8 53, .int .u8 54, .int .u8 55, .int .u8 56, .int .u8 57] 5 (9, 10))) := (Below.refl _ _).alloc (Nat.le_refl _) _
  have hb2 := hb1.alloc (by simp) (.cells #[.slice (some ⟨w.heap.size, 0, none⟩) 9 9] 31)
  have HT := Lib.hid (hT.below hb2)
  have H2 := Lib.hid h2
  have HB2 := Lib.hid hb2
  have HV : Hid (crcAdd 0 ([[49, 50, 51, 52, 53, 54, 55, 56, 57]] : List (List Nat)).flatten = 3808858755) := by show _ = _; decide +kernel
  clear hT h1 h2 hb1 hb2
  go_enter Tryd.func9, Tryd.ntmps9
  go_wp2_with fail
  refine (Of_any _ _ _ _ _ HT.out H2.out).mono ?_
  rintro e w' ⟨rfl, rfl⟩
  rw [HV.out]
  go_wp2
  go_ret
  exact ⟨rfl, HB2.out⟩
end Go.Proofs.YtkciljeojifofaaDoor
