/- The document's reader. -/
import Derived.Test.YtmonlookmnlgnaaRText
import Derived.Test.YtmonlookmnlgnaaJoin
namespace Go.Proofs.Ytmonlookmnlgnaa
open Go.RowKit
set_option linter.unusedVariables false
set_option linter.unusedSimpArgs false

/-- The document's reader: its block, what is left, its error; its bytes lie neither there nor in block z. -/
structure Rf (w : World) (g : Nat) (l : List Nat) (e : Int) (z : Nat) : Prop where
  b : ∃ A n c, w.cell? ⟨g, 0, none⟩ = some (.slice A n c) ∧ n ≤ c ∧ c ≤ 9223372036854775807 ∧ RdB w A n l ∧ ∀ a, A = some a → a.block ≠ g ∧ a.block ≠ z
  err : w.cell? ⟨g, 1, none⟩ = some (.int .i64 e)
  f0 : w.frozen? ⟨g, 0, none⟩ = false
  f1 : w.frozen? ⟨g, 1, none⟩ = false
theorem Rf.lt {w : World} {g : Nat} {l : List Nat} {e : Int} {z : Nat} (h : Rf w g l e z) : g < w.heap.size := cell_lt' h.err
theorem Rf.kept {w w' : World} {g : Nat} {l : List Nat} {e : Int} {z k : Nat} (h : Rf w g l e z) (hg : w.grownBy w' (some k)) (h1 : k ≠ g) (h2 : k = z) : Rf w' g l e z := by
  obtain ⟨A, n, c, k0, k1, k2, k3, k4⟩ := h.b
  have hne : some g ≠ some k := fun e => by injection e with e; exact h1 e.symm
  refine ⟨⟨A, n, c, ?_, k1, k2, k3.kept hg fun a ha e => ?_, k4⟩, ?_, ?_, ?_⟩
  · rw [grown_cell hg h.lt hne]; exact k0
  · injection e with e
    exact (k4 a ha).2 (by rw [e, h2])
  · rw [grown_cell hg h.lt hne]; exact h.err
  · rw [grown_frozen hg h.lt hne]; exact h.f0
  · rw [grown_frozen hg h.lt hne]; exact h.f1
theorem Rf.kept2 {w w' : World} {g : Nat} {l l' : List Nat} {e e' : Int} {z z' : Nat} (h : Rf w g l e z) (h' : Rf w g l' e' z') (hg : w.grownBy w' (some z')) (h1 : z' ≠ g) : Rf w' g l e z := by
  obtain ⟨A, n, c, k0, k1, k2, k3, k4⟩ := h.b
  obtain ⟨A', n', c', j0, _, _, _, j4⟩ := h'.b
  rw [k0] at j0
  injection j0 with j0
  injection j0 with q1 q2 q3
  subst q1
  have hne : some g ≠ some z' := fun e => by injection e with e; exact h1 e.symm
  refine ⟨⟨A, n, c, ?_, k1, k2, k3.kept hg fun a ha e => ?_, k4⟩, ?_, ?_, ?_⟩
  · rw [grown_cell hg h.lt hne]; exact k0
  · injection e with e
    exact (j4 a ha).2 e
  · rw [grown_cell hg h.lt hne]; exact h.err
  · rw [grown_frozen hg h.lt hne]; exact h.f0
  · rw [grown_frozen hg h.lt hne]; exact h.f1
theorem Rf.below {w w' : World} {g : Nat} {l : List Nat} {e : Int} {z : Nat} (h : Rf w g l e z) (hb : Below w.heap.size w w') : Rf w' g l e z := by
  obtain ⟨A, n, c, k0, k1, k2, k3, k4⟩ := h.b
  have hg := grown_below hb none
  have hne : some g ≠ none := by simp
  refine ⟨⟨A, n, c, ?_, k1, k2, k3.below hb, k4⟩, ?_, ?_, ?_⟩
  · rw [grown_cell hg h.lt hne]; exact k0
  · rw [grown_cell hg h.lt hne]; exact h.err
  · rw [grown_frozen hg h.lt hne]; exact h.f0
  · rw [grown_frozen hg h.lt hne]; exact h.f1
theorem Rf.byt {w : World} {g : Nat} {l : List Nat} {e : Int} {z : Nat} (h : Rf w g l e z) : Byt l := by
  obtain ⟨A, n, c, _, _, _, k3, _⟩ := h.b
  exact k3.byt
/-- Its error is set. -/
theorem Rf.fail {w : World} {g : Nat} {l : List Nat} {e : Int} {z : Nat} (h : Rf w g l e z) (e2 : Int) : Rf (w.setCell ⟨g, 1, none⟩ (.int .i64 e2)) g l e2 z ∧ w.grownBy (w.setCell ⟨g, 1, none⟩ (.int .i64 e2)) (some g) := by
  have hg : w.grownBy (w.setCell ⟨g, 1, none⟩ (.int .i64 e2)) (some g) := grown_setCell w _ _
  obtain ⟨A, n, c, k0, k1, k2, k3, k4⟩ := h.b
  refine ⟨⟨⟨A, n, c, ?_, k1, k2, k3.kept hg fun a ha he => ?_, k4⟩, World.cell?_setCell_same _ _ _ h.err, ?_, ?_⟩, hg⟩
  · rw [World.cell?_setCell_other _ _ _ _ (by simp)]; exact k0
  · injection he with he; exact (k4 a ha).1 he
  · rw [World.frozen?_setCell]; exact h.f0
  · rw [World.frozen?_setCell]; exact h.f1
/-- Its bytes are others. -/
theorem Rf.put {w : World} {g : Nat} {l l2 : List Nat} {e : Int} {z base : Nat} {v : Value} (h : Rf w g l e z) (hv : OwnB w base v l2) (hb : g < base ∧ z < base) :
    Rf (w.setCell ⟨g, 0, none⟩ v) g l2 e z ∧ w.grownBy (w.setCell ⟨g, 0, none⟩ v) (some g) := by
  have hg : w.grownBy (w.setCell ⟨g, 0, none⟩ v) (some g) := grown_setCell w _ _
  obtain ⟨A', n', c', k0, _⟩ := h.b
  obtain ⟨A, c, rfl, h1, h2, h3⟩ := hv.1.rd
  have hA : ∀ a, A = some a → base ≤ a.block := fun a ha => by
    subst ha
    exact (hv.1.base a.block rfl).1
  refine ⟨⟨⟨A, _, c, World.cell?_setCell_same _ _ _ k0, h1, h2, RdB.kept ⟨h3, hv.2⟩ hg fun a ha he => ?_, fun a ha => ?_⟩, ?_, ?_, ?_⟩, hg⟩
  · injection he with he
    have := hA a ha
    omega
  · have := hA a ha
    omega
  · rw [World.cell?_setCell_other _ _ _ _ (by simp)]; exact h.err
  · rw [World.frozen?_setCell]; exact h.f0
  · rw [World.frozen?_setCell]; exact h.f1
/-- Bytes that lie in neither block. -/
def BSne (w : World) (v : Value) (l : List Nat) (g z : Nat) : Prop := ∃ A n c, v = .slice A n c ∧ n ≤ c ∧ c ≤ 9223372036854775807 ∧ RdB w A n l ∧ ∀ a, A = some a → a.block ≠ g ∧ a.block ≠ z
theorem BSne.bs {w : World} {v : Value} {l : List Nat} {g z : Nat} (h : BSne w v l g z) : BS w v l := by
  obtain ⟨A, n, c, e, h1, h2, h3, _⟩ := h
  exact ⟨A, n, c, e, h1, h2, h3⟩
theorem BSne.nil (w : World) (g z : Nat) : BSne w (.slice none 0 0) [] g z := ⟨_, _, _, rfl, Nat.le_refl _, by decide, RdB.empty w, fun a h => by cases h⟩
theorem BSne.kept {w w' : World} {v : Value} {l : List Nat} {g z k : Nat} (h : BSne w v l g z) (hg : w.grownBy w' (some k)) (hk : k = g ∨ k = z) : BSne w' v l g z := by
  obtain ⟨A, n, c, e, h1, h2, h3, h4⟩ := h
  exact ⟨A, n, c, e, h1, h2, h3.kept hg (fun a ha he => by injection he with he; have := h4 a ha; omega), h4⟩
theorem BSne.swap {w : World} {v : Value} {l : List Nat} {g z : Nat} (h : BSne w v l g z) : BSne w v l z g := by
  obtain ⟨A, n, c, e, h1, h2, h3, h4⟩ := h
  exact ⟨A, n, c, e, h1, h2, h3, fun a ha => ⟨(h4 a ha).2, (h4 a ha).1⟩⟩
theorem BSin.ne {w : World} {v : Value} {l : List Nat} {lo hi g z : Nat} (h : BSin w v l lo hi) (h1 : ¬ (lo ≤ g ∧ g < hi)) (h2 : ¬ (lo ≤ z ∧ z < hi)) : BSne w v l g z := by
  obtain ⟨A, n, c, e, k1, k2, k3, k4⟩ := h
  exact ⟨A, n, c, e, k1, k2, k3, fun a ha => by have := k4 a ha; omega⟩
theorem OwnB.ne {w : World} {base : Nat} {v : Value} {l : List Nat} {g z : Nat} (h : OwnB w base v l) (h1 : g < base) (h2 : z < base) : BSne w v l g z := by
  obtain ⟨A, c, rfl, k1, k2, k3⟩ := h.1.rd
  exact ⟨A, _, c, rfl, k1, k2, ⟨k3, h.2⟩, fun a ha => by
    subst ha
    have := (h.1.base a.block rfl).1
    omega⟩
theorem OwnB.sh {w : World} {base : Nat} {v : Value} {l : List Nat} (h : OwnB w base v l) : ∃ A n c, v = .slice A n c := by
  obtain ⟨A, c, e, _⟩ := h.1.rd
  exact ⟨A, _, c, e⟩
theorem OwnB.keptG {w w' : World} {base : Nat} {v : Value} {l : List Nat} (h : OwnB w base v l) {g : Nat} (hg : w.grownBy w' (some g)) (hlt : g < base) : OwnB w' base v l :=
  ⟨h.1.kept hg (by
    cases hk : v.ownBlock with
    | none => exact .inl rfl
    | some k => exact .inr (fun e => by have := (h.1.base k hk).1; injection e with e; omega)), h.2⟩
set_option maxRecDepth 100000 in
theorem rfail_any {w : World} {g : Nat} {l : List Nat} {z : Nat} (h : Rf w g l 0 z) (e2 : Int) :
    Calls Try.prog 49 #[.pointer (some ⟨g, 0, none⟩), .int .i64 e2] w fun e' w' => e' = .returned (.tuple #[]) ∧ w' = w.setCell ⟨g, 1, none⟩ (.int .i64 e2) := by
  have k1 := h.err
  have k2 := h.f1
  clear h
  go_enter Try.func49, Try.ntmps49
  go_wp2
  exact bodyPost_end (results_none rfl _ _ _) rfl ⟨rfl, rfl⟩
set_option maxRecDepth 100000 in
theorem rRead_bs {vb : Value} {l : List Nat} (w : World) (h : BS w vb l) (hn : l.length ≤ 70368744177600) :
    Calls Try.prog 41 #[vb] w fun e w' => ∃ g, e = .returned (.pointer (some ⟨g, 0, none⟩)) ∧ w.heap.size ≤ g ∧ (∀ z, z < w.heap.size → Rf w' g l 0 z) ∧ Below w.heap.size w w' := by
  have HH := Lib.hid h
  have hn' := Lib.hid hn
  have hbd : ∀ (W : World) (A : Option Addr) (n c : Nat), (Instr.build 73 #[(0, .slice A n c)]).run Try.prog W = .ok (.agg #[.slice A n c, .int .i64 0]) W := fun W A n c => run_build W 73 _ _ (by kernel_rfl)
  clear h hn
  go_enter Try.func41, Try.ntmps41
  go_wp2_with fail
  refine (Join_bs w (BS.nil w) HH.out (by have := hn'.out; simp; omega)).mono ?_
  rintro e w1 ⟨r, rfl, ho, hb⟩
  rw [List.nil_append] at ho
  obtain ⟨A, c, rfl, h1, h2, h3⟩ := ho.1.rd
  have HO := Lib.hid ho
  have H3 := Lib.hid h3
  have HB := Lib.hid hb
  clear ho hb h3
  go_wp2
  go_ret
  have hsz := HB.out.size
  have hc : ∀ j : Nat, (w1.alloc (.cells #[.slice A l.length c, .int .i64 0] 73)).cell? ⟨w1.heap.size, j, none⟩ = #[.slice A l.length c, .int .i64 0][j]? := fun j => World.cell?_alloc_mark w1 _ _ (0, 0) j
  have hf : ∀ j : Nat, (w1.alloc (.cells #[.slice A l.length c, .int .i64 0] 73)).frozen? ⟨w1.heap.size, j, none⟩ = false := fun j => World.frozen?_alloc_at _ _ _ j rfl
  have hA : ∀ a, A = some a → w.heap.size ≤ a.block ∧ a.block < w1.heap.size := fun a ha => by
    subst ha
    exact HO.out.1.base a.block rfl
  refine ⟨_, rfl, hsz, fun z hz => ⟨⟨A, _, c, hc 0, h1, h2, RdB.below ⟨H3.out, HO.out.2⟩ ((Below.refl _ _).alloc (Nat.le_refl _) _), fun a ha => ?_⟩, hc 1, hf 0, hf 1⟩, HB.out.alloc hsz _⟩
  have := hA a ha
  omega

end Go.Proofs.Ytmonlookmnlgnaa
