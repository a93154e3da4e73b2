/- The document's way of taking a posting: plain. What a reader reads stays where a block without bytes turns. -/
import Derived.Test.YtmonlookmnlgnaaTakeP
import Derived.Test.YtmonlookmnlgnaaRefVar
namespace Go.Proofs.Ytmonlookmnlgnaa
open Go.RowKit
set_option linter.unusedVariables false
set_option linter.unusedSimpArgs false

def takeN2 : Nat → Nat → List Nat → Option (List Int × List Nat)
  | 0, _, l => some ([], l)
  | n + 1, last, l => if (takeV l).2 ≠ 0 ∨ 1048576 < (takeV l).1 then none else (takeN2 n (last + (takeV l).1) (takeR l)).map fun x => (((last + (takeV l).1 : Nat) : Int) :: x.1, x.2)
theorem takeN2_step {n last : Nat} {l : List Nat} (h1 : (takeV l).2 = 0) (h2 : (takeV l).1 ≤ 1048576) :
    takeN2 (n + 1) last l = (takeN2 n (last + (takeV l).1) (takeR l)).map fun x => (((last + (takeV l).1 : Nat) : Int) :: x.1, x.2) := by
  rw [takeN2, if_neg (by rintro (h | h); exact h h1; omega)]
theorem takeN2_no {n last : Nat} {l : List Nat} (h : (takeV l).2 ≠ 0 ∨ 1048576 < (takeV l).1) : takeN2 (n + 1) last l = none := by rw [takeN2, if_pos h]
theorem takeN2_some : ∀ (n last : Nat) (l : List Nat) (x : List Int × List Nat), takeN n last l = some x → takeN2 n last l = some x
  | 0, last, l, x, h => h
  | n + 1, last, l, x, h => by
    unfold takeN at h
    split at h
    · cases h
    · rename_i h1
      simp only [not_or, Classical.not_not, Nat.not_lt] at h1
      obtain ⟨y, hy, rfl⟩ := Option.map_eq_some_iff.1 h
      rw [takeN2_step h1.1 (by omega), takeN2_some n _ _ y hy]
      rfl
theorem takeN2_big : ∀ (n last : Nat) (l : List Nat) (x : List Int × List Nat), takeN n last l = none → takeN2 n last l = some x → ∃ y ∈ x.1, 1048576 < y
  | 0, last, l, x, h, _ => by simp [takeN] at h
  | n + 1, last, l, x, h, h2 => by
    unfold takeN2 at h2
    split at h2
    · cases h2
    · rename_i h1
      simp only [not_or, Classical.not_not, Nat.not_lt] at h1
      obtain ⟨y, hy, rfl⟩ := Option.map_eq_some_iff.1 h2
      by_cases hb : 1048576 < last + (takeV l).1
      · exact ⟨_, List.mem_cons_self, by omega⟩
      · rw [takeN_step h1.1 (by omega), Option.map_eq_none_iff] at h
        obtain ⟨z, hz, hz2⟩ := takeN2_big n _ _ y h hy
        exact ⟨z, List.mem_cons_of_mem _ hz, hz2⟩
theorem not_ok_big {prev doc : Nat} {xs : List Int} {y : Int} (hy : y ∈ xs) (hb : 1048576 < y) : ¬ okP prev (doc, xs) := by
  intro h
  obtain ⟨j, hj, rfl⟩ := List.mem_iff_getElem.1 hy
  have := (h.2.2.2.2 j hj).2.1
  rw [posAt ⟨hj, rfl⟩] at this
  omega
theorem fin_same (prev doc n : Nat) (l : List Nat) : finP prev doc (takeN2 n 0 l) = finP prev doc (takeN n 0 l) := by
  cases h : takeN n 0 l with
  | some x => rw [takeN2_some n 0 l x h]
  | none =>
    cases h2 : takeN2 n 0 l with
    | none => rfl
    | some x =>
      obtain ⟨y, hy, hb⟩ := takeN2_big n 0 l x h h2
      exact finP_no (not_ok_big hy hb)
theorem takeP_ref {l : List Nat} {prev : Nat} (h : ¬ ((takeV l).2 ≠ 0 ∨ (takeV (takeR l)).2 ≠ 0 ∨ 2147483647 < prev + (takeV l).1 ∨ 2000 < (takeV (takeR l)).1)) :
    takeP l prev = finP prev (prev + (takeV l).1) (takeN2 (takeV (takeR l)).1 0 (takeR (takeR l))) := by
  rw [fin_same]
  unfold takeP
  rw [if_neg h]
/-- Bytes stay where a block turns that holds none. -/
theorem RdB.keptc {w w' : World} {A : Option Addr} {n : Nat} {l : List Nat} {k : Nat} (h : RdB w A n l) (hg : w.grownBy w' (some k)) (hk : ∀ off x, w.cell? ⟨k, off, none⟩ ≠ some (.int .u8 x)) : RdB w' A n l :=
  ⟨⟨h.rd.len, h.rd.max, fun h0 => by
    obtain ⟨ad, e, hc⟩ := h.rd.cell h0
    refine ⟨ad, e, fun j hj => ?_⟩
    have hcj := hc j hj
    have hne : some (ad.add j).block ≠ some k := by
      intro e1
      have e2 : (ad.add j).block = k := by injection e1
      have hsp : (ad.add j).spot = none := by
        cases hs : (ad.add j).spot with
        | none => rfl
        | some s =>
          unfold World.cell? at hcj
          split at hcj
          · simp [hs] at hcj
          · cases hcj
      refine hk (ad.add j).off l[j] ?_
      have e3 : (⟨k, (ad.add j).off, none⟩ : Addr) = ad.add j := by rw [← e2, ← hsp]
      rw [e3]
      exact hcj
    rw [grown_cell hg (cell_lt' hcj) hne]
    exact hcj⟩, h.byt⟩
theorem Rf.keptc {w w' : World} {g : Nat} {l : List Nat} {e : Int} {z k : Nat} (h : Rf w g l e z) (hg : w.grownBy w' (some k)) (h1 : k ≠ g) (hk : ∀ off x, w.cell? ⟨k, off, none⟩ ≠ some (.int .u8 x)) : Rf w' g l e z := by
  obtain ⟨A, n, c, k0, k1, k2, k3, k4⟩ := h.b
  have hne : some g ≠ some k := fun e => by injection e with e; exact h1 e.symm
  refine ⟨⟨A, n, c, ?_, k1, k2, k3.keptc hg hk, k4⟩, ?_, ?_, ?_⟩
  · rw [grown_cell hg h.lt hne]; exact k0
  · rw [grown_cell hg h.lt hne]; exact h.err
  · rw [grown_frozen hg h.lt hne]; exact h.f0
  · rw [grown_frozen hg h.lt hne]; exact h.f1
theorem Box2.no_u8 {w : World} {g : Nat} {t : TypeId} {x y : Value} (h : Box2 w g t x y) (hx : ∀ z, x ≠ .int .u8 z) (hy : ∀ z, y ≠ .int .u8 z) : ∀ off z, w.cell? ⟨g, off, none⟩ ≠ some (.int .u8 z) := by
  intro off z e
  unfold World.cell? at e
  rw [show w.heap[g]? = _ from h] at e
  match off with
  | 0 => simp at e; exact hx z e
  | 1 => simp at e; exact hy z e
  | off + 2 => simp at e
end Go.Proofs.Ytmonlookmnlgnaa
