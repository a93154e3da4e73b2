/- Byte slices: read, owned, and as a value that says which bytes it holds. No condition. -/
import Derived.Test.YtkkeodlnejckjaaGreatProg
import Derived.Test.YtkkeodlnejckjaaGreatOwn
import Derived.Lib.Hide
import Derived.Laws.MakeOwn
import Derived.WalkKit
import Derived.BigQuiet
import Derived.Deep.DeepCutAuto
namespace Go.Proofs.YtkkeodlnejckjaaGreat
open Go.RowKit
set_option linter.unusedVariables false
set_option linter.unusedSimpArgs false

abbrev encB : Nat → Value := fun c => .int .u8 (c : Int)
theorem encB_one (x : Nat) : (encB x).oneCell' = true := rfl
theorem infoB : (Tryz.prog.info? 5).map (fun i => (i.zero, i.size, i.bytes)) = some (some (.int .u8 0), 1, 1) := by kernel_rfl

/-- Bytes. -/
def Byt (l : List Nat) : Prop := ∀ c ∈ l, c < 256
theorem Byt.nil : Byt [] := fun _ h => by cases h
theorem Byt.append {l m : List Nat} (h : Byt l) (k : Byt m) : Byt (l ++ m) := fun c hc => by
  rcases List.mem_append.1 hc with h1 | h1
  · exact h c h1
  · exact k c h1
theorem Byt.take {l : List Nat} (h : Byt l) (k : Nat) : Byt (l.take k) := fun c hc => h c (List.mem_of_mem_take hc)
theorem Byt.drop {l : List Nat} (h : Byt l) (k : Nat) : Byt (l.drop k) := fun c hc => h c (List.mem_of_mem_drop hc)
theorem Byt.getD {l : List Nat} (h : Byt l) (k : Nat) : l.getD k 0 < 256 := by
  rcases Nat.lt_or_ge k l.length with hk | hk
  · rw [List.getD_eq_getElem?_getD, List.getElem?_eq_getElem hk]; exact h _ (by simp)
  · rw [List.getD_eq_getElem?_getD, List.getElem?_eq_none hk]; decide
theorem Byt.replicate (n k : Nat) (h : k < 256) : Byt (List.replicate n k) := fun c hc => by
  rw [(List.mem_replicate.1 hc).2]; exact h
theorem Byt.set {l : List Nat} (h : Byt l) (i x : Nat) (hx : x < 256) : Byt (l.set i x) := fun c hc => by
  rcases List.mem_or_eq_of_mem_set hc with h1 | h1
  · exact h c h1
  · rw [h1]; exact hx
theorem Byt.cons {l : List Nat} {x : Nat} (hx : x < 256) (h : Byt l) : Byt (x :: l) := fun c hc => by
  rcases List.mem_cons.1 hc with h1 | h1
  · rw [h1]; exact hx
  · exact h c h1

/-- A slice of bytes that is read. -/
structure RdB (w : World) (A : Option Addr) (n : Nat) (l : List Nat) : Prop where
  rd : Rd encB w A n l
  byt : Byt l
theorem RdB.below {w w' : World} {A : Option Addr} {n : Nat} {l : List Nat} (h : RdB w A n l) (hb : Below w.heap.size w w') : RdB w' A n l := ⟨h.rd.below hb, h.byt⟩
theorem RdB.len {w : World} {A : Option Addr} {n : Nat} {l : List Nat} (h : RdB w A n l) : l.length = n := h.rd.len
theorem RdB.max {w : World} {A : Option Addr} {n : Nat} {l : List Nat} (h : RdB w A n l) : n ≤ 9223372036854775807 := h.rd.max
theorem RdB.at {w : World} {A : Option Addr} {n : Nat} {l : List Nat} (h : RdB w A n l) {k : Nat} (hk : k < n) : ∃ (ad : Addr) (x : Nat), A = some ad ∧ Hid (x = l.getD k 0) ∧ x < 256 ∧ w.cell? (ad.add k) = some (.int .u8 (x : Int)) := by
  obtain ⟨ad, e, hc⟩ := h.rd.cell (by omega)
  have hl : k < l.length := by rw [h.len]; exact hk
  refine ⟨ad, l.getD k 0, e, Lib.hid rfl, h.byt.getD k, ?_⟩
  rw [hc k hl, List.getD_eq_getElem?_getD, List.getElem?_eq_getElem hl]
  rfl
theorem RdB.take {w : World} {A : Option Addr} {n : Nat} {l : List Nat} (h : RdB w A n l) (r : Nat) (hr : r ≤ n) : RdB w A r (l.take r) := ⟨h.rd.take r hr, h.byt.take r⟩
theorem RdB.empty (w : World) : RdB w Option.none 0 [] := ⟨Rd.empty w, Byt.nil⟩
theorem RdB.nil (w : World) (A : Option Addr) : RdB w A 0 [] := ⟨Rd.nil w A, Byt.nil⟩
/-- Cuts of bytes. -/
def cutAt (A : Option Addr) (c k : Nat) : Option Addr := if c = k then A else A.map (·.add k)
theorem cutAt_own {g c k : Nat} (h : k < c) : cutAt (some ⟨g, 0, none⟩) c k = some ⟨g, k, none⟩ := by
  unfold cutAt
  rw [if_neg (by omega)]
  simp only [Option.map_some]
  rw [add_lit0]
theorem RdB.cut {w : World} {A : Option Addr} {n : Nat} {l : List Nat} (h : RdB w A n l) {c k : Nat} (hk : k ≤ n) (hc : n ≤ c) : RdB w (cutAt A c k) (n - k) (l.drop k) := ⟨h.rd.drop c k hk hc, h.byt.drop k⟩
theorem sizeB (W : World) : (sizeOf 5).run Tryz.prog W = .ok 1 W := by kernel_rfl
theorem run_cut_l (A : Option Addr) (n c k : Nat) (hk : k ≤ n) (hc : n ≤ c) (W : World) : (Instr.slice 26 (.slice A n c) (some (.int .i64 (k : Int))) none none).run Tryz.prog W = .ok (.slice (cutAt A c k) (n - k) (c - k)) W := by
  rw [run_slice_l W 26 A n c (by rw [show Tryz.prog.elem 26 = 5 by kernel_rfl]; exact Tryz.underlying26) .i64 (k : Int) (Int.natCast_nonneg _) (by omega), show Tryz.prog.elem 26 = 5 by kernel_rfl]
  simp [sizeB, sliced, cutAt]
theorem run_cut_lh (A : Option Addr) (n c k m : Nat) (hk : k ≤ m) (hc : m ≤ c) (W : World) : (Instr.slice 26 (.slice A n c) (some (.int .i64 (k : Int))) (some (.int .i64 (m : Int))) none).run Tryz.prog W = .ok (.slice (cutAt A c k) (m - k) (c - k)) W := by
  rw [run_slice_lh W 26 A n c (by rw [show Tryz.prog.elem 26 = 5 by kernel_rfl]; exact Tryz.underlying26) .i64 .i64 (k : Int) (m : Int) (Int.natCast_nonneg _) (by omega) (by omega), show Tryz.prog.elem 26 = 5 by kernel_rfl]
  simp [sizeB, sliced, cutAt]
theorem run_cut_h (A : Option Addr) (n c m : Nat) (hc : m ≤ c) (W : World) : (Instr.slice 26 (.slice A n c) none (some (.int .i64 (m : Int))) none).run Tryz.prog W = .ok (.slice A m c) W := by
  rw [run_slice_h W 26 A n c (by rw [show Tryz.prog.elem 26 = 5 by kernel_rfl]; exact Tryz.underlying26) .i64 (m : Int) (Int.natCast_nonneg _) (by omega), show Tryz.prog.elem 26 = 5 by kernel_rfl]
  simp [sizeB, sliced]
  intro _
  cases A <;> simp [Addr.add]
theorem run_cut_hm (A : Option Addr) (n c m x : Nat) (hm : m ≤ x) (hc : x ≤ c) (W : World) : (Instr.slice 26 (.slice A n c) none (some (.int .i64 (m : Int))) (some (.int .i64 (x : Int)))).run Tryz.prog W = .ok (.slice A m x) W := by
  rw [run_slice_hm W 26 A n c (by rw [show Tryz.prog.elem 26 = 5 by kernel_rfl]; exact Tryz.underlying26) .i64 .i64 (m : Int) (x : Int) (Int.natCast_nonneg _) (by omega) (by omega), show Tryz.prog.elem 26 = 5 by kernel_rfl]
  simp [sizeB, sliced]
  intro _
  cases A <;> simp [Addr.add]

theorem run_makeB (n : Nat) (h : n ≤ 70368744177664) (W : World) : (Instr.makeSlice 26 (.int .i64 (n : Int)) (.int .i64 (n : Int))).run Tryz.prog W = .ok (.slice (some ⟨W.heap.size, 0, none⟩) n n) (W.alloc (.cells (madeCells #[.int .u8 0] n) 5)) := by
  obtain ⟨i, hi, hz⟩ := Option.map_eq_some_iff.1 infoB
  simp only [Prod.mk.injEq] at hz
  have := run_make W 26 5 i (.int .u8 0) Tryz.underlying26 hi hz.1 .i64 .i64 (n : Int) (n : Int) (by omega) (Int.le_refl _) (by rw [hz.2.2]; omega) (by omega)
  rw [this, hz.2.1]
  simp [Value.cells]
/-- A value that holds these bytes. -/
def BS (w : World) (v : Value) (l : List Nat) : Prop := ∃ A n c, v = .slice A n c ∧ n ≤ c ∧ c ≤ 9223372036854775807 ∧ RdB w A n l
theorem BS.below {w w' : World} {v : Value} {l : List Nat} (h : BS w v l) (hb : Below w.heap.size w w') : BS w' v l := by
  obtain ⟨A, n, c, e, h1, h2, h3⟩ := h
  exact ⟨A, n, c, e, h1, h2, h3.below hb⟩
theorem BS.nil (w : World) : BS w (.slice none 0 0) [] := ⟨_, _, _, rfl, Nat.le_refl _, by decide, RdB.empty w⟩
theorem RdB.bs {w : World} {A : Option Addr} {n c : Nat} {l : List Nat} (h : RdB w A n l) (h1 : n ≤ c) (h2 : c ≤ 9223372036854775807) : BS w (.slice A n c) l := ⟨A, n, c, rfl, h1, h2, h⟩
theorem BS.byt {w : World} {v : Value} {l : List Nat} (h : BS w v l) : Byt l := by
  obtain ⟨A, n, c, e, h1, h2, h3⟩ := h
  exact h3.byt

/-- A slice of bytes of the call's own. -/
def OwnB (w : World) (base : Nat) (v : Value) (l : List Nat) : Prop := OwnL encB 5 w base v l ∧ Byt l
theorem OwnB.bs {w : World} {base : Nat} {v : Value} {l : List Nat} (h : OwnB w base v l) : BS w v l := by
  obtain ⟨A, c, e, h1, h2, h3⟩ := h.1.rd
  exact ⟨A, _, c, e, h1, h2, h3, h.2⟩
theorem OwnB.below {w w' : World} {base : Nat} {v : Value} {l : List Nat} (h : OwnB w base v l) (hb : Below w.heap.size w w') : OwnB w' base v l := ⟨h.1.below hb, h.2⟩
theorem OwnB.mono {w : World} {base base' : Nat} {v : Value} {l : List Nat} (h : OwnB w base v l) (hb : base' ≤ base) : OwnB w base' v l := ⟨h.1.mono hb, h.2⟩
theorem OwnB.nil (w : World) (base : Nat) : OwnB w base (.slice none 0 0) [] := ⟨OwnL.nil _ _ _ _, Byt.nil⟩
/-- Two slices of one's own in different blocks. -/
def Apart (u v : Value) : Prop := ∀ k, u.ownBlock = some k → v.ownBlock ≠ some k
end Go.Proofs.YtkkeodlnejckjaaGreat
