/- The reader: made, asked, failed; its errors. -/
import Derived.Test.YtmonlookmnlgnaaVar
import Derived.Laws.Tables
namespace Go.Proofs.Ytmonlookmnlgnaa
open Go.RowKit
set_option linter.unusedVariables false
set_option linter.unusedSimpArgs false

theorem grown_cell {w w' : World} {row : Option Nat} (h : w.grownBy w' row) {a : Addr} (ha : a.block < w.heap.size) (hne : some a.block ≠ row) : w'.cell? a = w.cell? a := by
  unfold World.cell?
  rw [h.block a.block ha hne]
theorem grown_frozen {w w' : World} {row : Option Nat} (h : w.grownBy w' row) {a : Addr} (ha : a.block < w.heap.size) (hne : some a.block ≠ row) : w'.frozen? a = w.frozen? a := by
  unfold World.frozen?
  rw [h.block a.block ha hne]
theorem grown_setCell (w : World) (a : Addr) (u : Value) : w.grownBy (w.setCell a u) (some a.block) :=
  ⟨rfl, rfl, rfl, by simp [World.setCell], fun k _ hne => by
    unfold World.setCell
    rw [Array.getElem?_modify, if_neg (fun h => hne (by rw [h]))]⟩
theorem RdB.kept {w w' : World} {A : Option Addr} {n : Nat} {l : List Nat} (h : RdB w A n l) {row : Option Nat} (hg : w.grownBy w' row) (hne : ∀ a, A = some a → some a.block ≠ row) : RdB w' A n l :=
  ⟨⟨h.rd.len, h.rd.max, fun hn => by
    obtain ⟨ad, e, hc⟩ := h.rd.cell hn
    exact ⟨ad, e, fun j hj => by
      have hb : (ad.add j).block = ad.block := by unfold Addr.add; split <;> rfl
      rw [grown_cell hg (cell_lt' (hc j hj)) (by rw [hb]; exact hne ad e)]
      exact hc j hj⟩⟩, h.byt⟩

/-- A reader: its block, what is left, its error; its bytes lie in a block between lo and hi. -/
structure Rdr (w : World) (g : Nat) (l : List Nat) (e : Int) (lo hi : Nat) : Prop where
  b : ∃ A n c, w.cell? ⟨g, 0, none⟩ = some (.slice A n c) ∧ n ≤ c ∧ c ≤ 9223372036854775807 ∧ RdB w A n l ∧ ∀ a, A = some a → lo ≤ a.block ∧ a.block < hi
  err : w.cell? ⟨g, 1, none⟩ = some (.int .i64 e)
  made : w.cell? ⟨g, 2, none⟩ = some (.bool true)
  f0 : w.frozen? ⟨g, 0, none⟩ = false
  f1 : w.frozen? ⟨g, 1, none⟩ = false
  out : g < lo ∨ hi ≤ g
theorem Rdr.lt {w : World} {g : Nat} {l : List Nat} {e : Int} {lo hi : Nat} (h : Rdr w g l e lo hi) : g < w.heap.size := cell_lt' h.err
theorem Rdr.kept {w w' : World} {g : Nat} {l : List Nat} {e : Int} {lo hi : Nat} (h : Rdr w g l e lo hi) {row : Option Nat} (hg : w.grownBy w' row) (h1 : some g ≠ row) (h2 : ∀ k, lo ≤ k → k < hi → some k ≠ row) : Rdr w' g l e lo hi := by
  obtain ⟨A, n, c, k0, k1, k2, k3, k4⟩ := h.b
  refine ⟨⟨A, n, c, ?_, k1, k2, k3.kept hg fun a ha => h2 _ (k4 a ha).1 (k4 a ha).2, k4⟩, ?_, ?_, ?_, ?_, h.out⟩
  · rw [grown_cell hg h.lt h1]; exact k0
  · rw [grown_cell hg h.lt h1]; exact h.err
  · rw [grown_cell hg h.lt h1]; exact h.made
  · rw [grown_frozen hg h.lt h1]; exact h.f0
  · rw [grown_frozen hg h.lt h1]; exact h.f1
theorem Rdr.below {w w' : World} {g : Nat} {l : List Nat} {e : Int} {lo hi : Nat} (h : Rdr w g l e lo hi) (hb : Below w.heap.size w w') : Rdr w' g l e lo hi :=
  h.kept (grown_below hb none) (by simp) (fun k _ _ => by simp)

theorem Rdr.new {w : World} (A : Option Addr) (n c : Nat) (l : List Nat) (h : RdB w A n l) (h1 : n ≤ c) (h2 : c ≤ 9223372036854775807) (lo hi : Nat) (hA : ∀ a, A = some a → lo ≤ a.block ∧ a.block < hi) (hh : hi ≤ w.heap.size) (t : TypeId) :
    Rdr (w.alloc (.cells #[.slice A n c, .int .i64 0, .bool true] t)) w.heap.size l 0 lo hi := by
  have hc : ∀ j : Nat, (w.alloc (.cells #[.slice A n c, .int .i64 0, .bool true] t)).cell? ⟨w.heap.size, j, none⟩ = #[.slice A n c, .int .i64 0, .bool true][j]? := fun j => World.cell?_alloc_mark w _ t (0, 0) j
  have hf : ∀ j : Nat, (w.alloc (.cells #[.slice A n c, .int .i64 0, .bool true] t)).frozen? ⟨w.heap.size, j, none⟩ = false := fun j => World.frozen?_alloc_at _ t _ j rfl
  exact ⟨⟨A, n, c, hc 0, h1, h2, h.below ((Below.refl _ _).alloc (Nat.le_refl _) _), hA⟩, hc 1, hc 2, hf 0, hf 1, .inr hh⟩

set_option maxRecDepth 100000 in
theorem Read_bs {vb : Value} {l : List Nat} (w : World) (h : BS w vb l) (hn : l.length ≤ 70368744177600) :
    Calls Try.prog 37 #[vb] w fun e w' => ∃ g, e = .returned (.pointer (some ⟨g, 0, none⟩)) ∧ w.heap.size < g ∧ Rdr w' g l 0 w.heap.size g ∧ Below w.heap.size w w' := by
  obtain ⟨A, n, c, rfl, _, _, h1⟩ := h
  have C := Lib.hid (grown_any A n c 0 l w h1 (by rw [h1.len] at hn; omega))
  have hlen := Lib.hid h1.len
  obtain ⟨g, hg⟩ : ∃ g, g = w.heap.size := ⟨_, rfl⟩
  rw [← hg] at C ⊢
  have HG := Lib.hid hg
  have hbd : ∀ (W : World) (A : Option Addr) (n c : Nat), (Instr.build 80 #[(0, .slice A n c), (2, .bool true)]).run Try.prog W = .ok (.agg #[.slice A n c, .int .i64 0, .bool true]) W := fun W A n c => run_build W 80 _ _ (by kernel_rfl)
  clear h1 hg
  go_enter Try.func37, Try.ntmps37
  go_wp2_with fail
  refine C.out.mono ?_
  rintro e w1 ⟨rfl, ho, hb⟩
  have HO := Lib.hid ho
  have HB := Lib.hid hb
  clear ho hb
  go_wp2
  go_ret
  have hsz := HB.out.size
  have hh := HO.out
  simp only [List.replicate_zero, List.append_nil, Nat.add_zero] at hh
  have hlt : g < w1.heap.size := (hh.1.base g rfl).2
  obtain ⟨A', c', he, h1, h2, h3⟩ := hh.1.rd
  injection he with q1 q2 q3
  subst q1 q3
  refine ⟨_, rfl, hlt, ?_, HB.out.alloc (by rw [HG.out]; exact hsz) _⟩
  exact Rdr.new _ n n l ⟨by rw [q2]; exact h3, hh.2⟩ (Nat.le_refl _) (by have := hh.1.rd.choose_spec.choose_spec; omega) _ _ (fun a ha => by injection ha with ha; subst ha; exact ⟨Nat.le_refl _, hlt⟩) (Nat.le_refl _) _

set_option maxRecDepth 100000 in
theorem none_any {w : World} {g : Nat} {l : List Nat} {e : Int} {lo hi : Nat} (h : Rdr w g l e lo hi) :
    Calls Try.prog 47 #[.pointer (some ⟨g, 0, none⟩)] w fun e' w' => e' = .returned (.bool (decide (e ≠ 0))) ∧ w = w' := by
  have k1 := h.err
  have k2 := h.made
  clear h
  by_cases h0 : e = 0
  · subst h0
    go_enter Try.func47, Try.ntmps47
    go_wp2
    go_ret
    exact ⟨rfl, rfl⟩
  · have hd : decide (e ≠ 0) = true := decide_eq_true h0
    have hb : (e == 0) = false := by simp [h0]
    have hb2 : (e != 0) = true := by simp [h0]
    rw [hd]
    go_enter Try.func47, Try.ntmps47
    go_wp2
    go_ret
    exact ⟨rfl, rfl⟩

theorem Rdr.fail {w : World} {g : Nat} {l : List Nat} {e : Int} {lo hi : Nat} (h : Rdr w g l e lo hi) (e2 : Int) : Rdr (w.setCell ⟨g, 1, none⟩ (.int .i64 e2)) g l e2 lo hi ∧ w.grownBy (w.setCell ⟨g, 1, none⟩ (.int .i64 e2)) (some g) := by
  have hg : w.grownBy (w.setCell ⟨g, 1, none⟩ (.int .i64 e2)) (some g) := grown_setCell w _ _
  obtain ⟨A, n, c, k0, k1, k2, k3, k4⟩ := h.b
  have hne : ∀ a, A = some a → some a.block ≠ some g := fun a ha he => by
    injection he with he
    have := k4 a ha
    have := h.out
    omega
  refine ⟨⟨⟨A, n, c, ?_, k1, k2, k3.kept hg hne, k4⟩, World.cell?_setCell_same _ _ _ h.err, ?_, ?_, ?_, h.out⟩, hg⟩
  · rw [World.cell?_setCell_other _ _ _ _ (by simp)]; exact k0
  · rw [World.cell?_setCell_other _ _ _ _ (by simp)]; exact h.made
  · rw [World.frozen?_setCell]; exact h.f0
  · rw [World.frozen?_setCell]; exact h.f1
theorem Rdr.cut {w : World} {g : Nat} {l : List Nat} {e : Int} {lo hi : Nat} (h : Rdr w g l e lo hi) {A : Option Addr} {n c : Nat} (hc : w.cell? ⟨g, 0, none⟩ = some (.slice A n c)) {k : Nat} (hk : k ≤ n) :
    Rdr (w.setCell ⟨g, 0, none⟩ (.slice (cutAt A c k) (n - k) (c - k))) g (l.drop k) e lo hi ∧ w.grownBy (w.setCell ⟨g, 0, none⟩ (.slice (cutAt A c k) (n - k) (c - k))) (some g) := by
  have hg : w.grownBy (w.setCell ⟨g, 0, none⟩ (.slice (cutAt A c k) (n - k) (c - k))) (some g) := grown_setCell w _ _
  obtain ⟨A', n', c', k0, k1, k2, k3, k4⟩ := h.b
  rw [hc] at k0
  injection k0 with k0
  injection k0 with q1 q2 q3
  subst q1 q2 q3
  have hA : ∀ a, cutAt A c k = some a → lo ≤ a.block ∧ a.block < hi := fun a ha => by
    unfold cutAt at ha
    split at ha
    · exact k4 a ha
    · obtain ⟨a', h1, rfl⟩ := Option.map_eq_some_iff.1 ha
      have hb : (a'.add k).block = a'.block := by unfold Addr.add; split <;> rfl
      rw [hb]; exact k4 a' h1
  have hne : ∀ a, cutAt A c k = some a → some a.block ≠ some g := fun a ha he => by
    injection he with he
    have := hA a ha
    have := h.out
    omega
  refine ⟨⟨⟨_, _, _, World.cell?_setCell_same _ _ _ hc, by omega, by omega, (k3.cut hk k1).kept hg hne, hA⟩, ?_, ?_, ?_, ?_, h.out⟩, hg⟩
  · rw [World.cell?_setCell_other _ _ _ _ (by simp)]; exact h.err
  · rw [World.cell?_setCell_other _ _ _ _ (by simp)]; exact h.made
  · rw [World.frozen?_setCell]; exact h.f0
  · rw [World.frozen?_setCell]; exact h.f1
set_option maxRecDepth 100000 in
theorem fails_any {w : World} {g : Nat} {l : List Nat} {e : Int} {lo hi : Nat} (h : Rdr w g l e lo hi) (e2 : Int) :
    Calls Try.prog 48 #[.pointer (some ⟨g, 0, none⟩), .int .i64 e2] w fun e' w' => e' = .returned (.tuple #[]) ∧ w' = w.setCell ⟨g, 1, none⟩ (.int .i64 e2) := by
  have k1 := h.err
  have k2 := h.f1
  clear h
  go_enter Try.func48, Try.ntmps48
  go_wp2
  exact bodyPost_end (results_none rfl _ _ _) rfl ⟨rfl, rfl⟩
set_option maxRecDepth 100000 in
theorem Err_any {w : World} {g : Nat} {l : List Nat} {e : Int} {lo hi : Nat} (h : Rdr w g l e lo hi) :
    Calls Try.prog 39 #[.pointer (some ⟨g, 0, none⟩)] w fun e' w' => e' = .returned (.int .i64 e) ∧ w = w' := by
  have k1 := h.err
  have k2 := h.made
  clear h
  go_enter Try.func39, Try.ntmps39
  go_wp2
  go_ret
  exact ⟨rfl, rfl⟩
/-- The end: the first error, or that bytes are left. -/
def endE (l : List Nat) (e : Int) : Int := if e = 0 then (if l.length = 0 then 0 else 12) else e
end Go.Proofs.Ytmonlookmnlgnaa
