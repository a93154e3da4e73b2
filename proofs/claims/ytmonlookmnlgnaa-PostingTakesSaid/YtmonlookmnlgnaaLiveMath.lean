/- What the first check writes and reads. -/
import Derived.Test.YtmonlookmnlgnaaFind
import Derived.Test.YtmonlookmnlgnaaSames
namespace Go.Proofs.Ytmonlookmnlgnaa
open Go.RowKit
set_option linter.unusedVariables false
set_option linter.unusedSimpArgs false

def lvL : List Po := [(3, [0, 5]), (300, [7])]
def lvB : List Nat := [3, 2, 0, 5, 169, 2, 1, 7]
theorem lv1 : okP 0 (3, [0, 5]) := ⟨by decide, by decide, by decide, by decide, fun i h => by
  rcases (show i = 0 ∨ i = 1 by simp at h; omega) with rfl | rfl <;> unfold okAt <;> decide⟩
theorem lv2 : okP 3 (300, [7]) := ⟨by decide, by decide, by decide, by decide, fun i h => by
  rcases (show i = 0 by simp at h; omega) with rfl
  unfold okAt
  decide⟩
theorem lv_ok : okLs lvL lvL.length := fun i h => by
  rcases (show i = 0 ∨ i = 1 by simp [lvL] at h; omega) with rfl | rfl
  · exact lv1
  · exact lv2
theorem lv_bytes : bytesLs lvL lvL.length = lvB := by
  show bytesLs lvL 2 = lvB
  have v3 : varL 3 = [3] := varL_lt (by decide)
  have v2 : varL 2 = [2] := varL_lt (by decide)
  have v0 : varL 0 = [0] := varL_lt (by decide)
  have v5 : varL 5 = [5] := varL_lt (by decide)
  have v1 : varL 1 = [1] := varL_lt (by decide)
  have v7 : varL 7 = [7] := varL_lt (by decide)
  have v297 : varL 297 = [169, 2] := by rw [varL_ge (by decide)]; show _ :: varL 2 = _; rw [v2]
  simp [bytesLs, bytesP, posF, lvL, prevOf, lastN, v3, v2, v0, v5, v1, v7, v297, lvB]
theorem lv_list : lsE lvL = 0 ∧ lsB lvL = lvB := by
  obtain ⟨h1, h2⟩ := lsE_yes lv_ok
  exact ⟨h1, by rw [h2, lv_bytes]⟩
theorem lv_t1 : tkR lvB (0 : Nat) 0 = ((3, [0, 5]), ((4 : Nat) : Int), 0) := by
  refine (tkR_yes (b := lvB) (k := 0) (x := ((3, [0, 5]), [169, 2, 1, 7])) (by decide) ?_).trans (by simp [lvB])
  exact finP_yes (prev := 0) (doc := 3) (x := ([0, 5], [169, 2, 1, 7])) lv1
theorem lv_t2 : tkR lvB (4 : Nat) 3 = ((300, [7]), ((8 : Nat) : Int), 0) := by
  refine (tkR_yes (b := lvB) (k := 4) (x := ((300, [7]), [])) (by decide) ?_).trans (by simp [lvB])
  exact finP_yes (prev := 3) (doc := 300) (x := ([7], [])) lv2
theorem lv_find : fndP (allL lvB 0) 300 = ((300, [7]), true) := by
  unfold allL
  rw [allAt_step (by decide) lv_t1, allAt_step (by decide) lv_t2]
  rfl
def fewL (ls : List Po) : Bool := decide (ls.length ≤ 60) && ls.all fun p => decide (p.2.length ≤ 2100)
theorem fewL_no {ls : List Po} {k : Nat} {p : Po} (h : ∃ hl : k < ls.length, ls[k] = p) (hp : 2100 < p.2.length) : fewL ls = false := by
  obtain ⟨hl, rfl⟩ := h
  unfold fewL
  rw [Bool.and_eq_false_iff]
  right
  rw [List.all_eq_false]
  exact ⟨_, List.getElem_mem hl, by simp; omega⟩
theorem fewL_yes {ls : List Po} (h0 : ls.length ≤ 60) (h : ∀ i (hl : i < ls.length), ls[i].2.length ≤ 2100) : fewL ls = true := by
  unfold fewL
  rw [Bool.and_eq_true]
  refine ⟨by simp [h0], ?_⟩
  rw [List.all_eq_true]
  intro x hx
  obtain ⟨i, hl, rfl⟩ := List.mem_iff_getElem.1 hx
  simpa using h i hl
theorem fewL_long {ls : List Po} (h : 60 < ls.length) : fewL ls = false := by
  unfold fewL
  rw [Bool.and_eq_false_iff]
  left
  simp; omega
theorem fewL_out {ls : List Po} (h : fewL ls = true) : ls.length ≤ 60 ∧ ∀ p ∈ ls, p.2.length ≤ 2100 := by
  unfold fewL at h
  rw [Bool.and_eq_true, List.all_eq_true] at h
  exact ⟨by simpa using h.1, fun p hp => by simpa using h.2 p hp⟩
end Go.Proofs.Ytmonlookmnlgnaa
