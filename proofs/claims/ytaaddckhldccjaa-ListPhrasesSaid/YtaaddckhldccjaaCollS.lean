/- A slice in a variable's box, appended to: what stays. No condition. -/
import Derived.Test.YtaaddckhldccjaaRangeS
import Derived.Test.YtaaddckhldccjaaOwnIn
namespace Go.Proofs.Ytaaddckhldccjaa
open Go.RowKit
set_option linter.unusedVariables false
set_option linter.unusedSimpArgs false

section
variable {α : Type} {enc : α → List Value} {sz : Nat} {P : Program}
/-- What lies in cells of its own stays where a block that is no cells turns. -/
theorem ownsRow_from {W W' : World} {row : Option Nat} {b s k : Nat} {e : TypeId} {v : Value} {xs : List Value} (h : W.ownsRow b e s v k xs) (hg : W.grownBy W' row) (hr : ∀ r, row = some r → ∃ o : Obj, W.heap[r]? = some o ∧ o.isCells = false) : W'.ownsRow b e s v k xs := by
  refine h.kept hg ?_
  rcases h.2 with ⟨rfl, _⟩ | ⟨g, cap, cur, rfl, _, hgb, _⟩
  · exact .inl rfl
  · right
    intro e'
    obtain ⟨o, ho, hc⟩ := hr g (by simpa [Value.ownBlock] using e'.symm)
    rw [hgb] at ho
    cases ho
    cases hc
theorem Boxed.from' {W W' : World} {row : Option Nat} {B : Nat} {t : TypeId} {v : Value} (h : Boxed W B t v) (hg : W.grownBy W' row) (hr : ∀ r, row = some r → ∃ o : Obj, W.heap[r]? = some o ∧ o.isCells = false) : Boxed W' B t v :=
  h.kept hg fun e => by
    obtain ⟨o, ho, hc⟩ := hr B e.symm
    rw [show W.heap[B]? = _ from h] at ho
    cases ho
    cases hc
theorem Boxed.eq {W : World} {B : Nat} {t t' : TypeId} {v v' : Value} (h : Boxed W B t v) (h' : Boxed W B t' v') : v = v' := by
  have := (show W.heap[B]? = _ from h).symm.trans h'
  simp at this
  exact this.1
/-- What comes of 'v = append(v, x)', to one who goes through a sequence: W the world ahead of it, w1 behind the new row of one, w2 behind the append, the store last. -/
structure CollStep (W w2 : World) (n₀ B : Nat) (t e : TypeId) (sz : Nat) (v v1 : Value) (k : Nat) (ys : List Value) : Prop where
  box : Boxed w2 B t v
  out : Boxed (w2.setCell ⟨B, 0, none⟩ v1) B t v1
  row : (w2.setCell ⟨B, 0, none⟩ v1).ownsRow n₀ e sz v1 (k + 1) ys
  ks : KeepsOthers W (w2.setCell ⟨B, 0, none⟩ v1)
  bl : Below n₀ W (w2.setCell ⟨B, 0, none⟩ v1)
  sh : ∃ g c, v1 = .slice (some ⟨g, 0, none⟩) (k + 1) c
  keep : ∀ (j : Nat) (o : Obj), W.heap[j]? = some o → some j ≠ v.ownBlock → j ≠ B → (w2.setCell ⟨B, 0, none⟩ v1).heap[j]? = some o
  at_ : v1.ownBlock = v.ownBlock ∨ ∃ j, v1.ownBlock = some j ∧ W.heap.size < j
theorem collStep {W : World} {n₀ B : Nat} (t e : TypeId) (z : Value) (by_ : Nat) (ht : P.underlying t = some (.slice e)) (hinfo : (P.info? e).map (fun i => (i.zero, i.size, i.bytes)) = some (some z, sz, by_))
    (hz : z.cells.size = sz) (hs0 : 0 < sz) (hb0 : 0 < by_) (hsz : ∀ x, (enc x).length = sz) (h1 : ∀ x, ∀ u ∈ enc x, u.oneCell' = true) (hte : t ≠ e) {v : Value} {pre : List α} {x : α}
    (hv : Boxed W B t v) (hrow : W.ownsRow n₀ e sz v pre.length (pre.flatMap enc)) (hn : n₀ ≤ W.heap.size) (hB : n₀ ≤ B) (hl : (pre.length + 1) * by_ ≤ 140737488355328) (ty : TypeId) (C : Array Value) (hC : C = (enc x).toArray) :
    ∃ v1 w2, (Builtin.append_ #[t, t] ty #[v, .slice (some ⟨W.heap.size, 0, none⟩) 1 1]).run P (W.alloc (.cells C e)) = .ok v1 w2 ∧ CollStep W w2 n₀ B t e sz v v1 pre.length ((pre ++ [x]).flatMap enc) := by
  have hbl : (W.alloc (.cells C e)).ownsRow n₀ e sz v pre.length (pre.flatMap enc) := hrow.alloc _
  have hrd := RdK.one (enc := enc) (sz := sz) W e x C (0, 0) hC (hsz x)
  obtain ⟨v1, w2, r1, o1, g1, at1⟩ := run_append_rdK (P := P) (c := 1) n₀ t ty e z by_ ht hinfo hz hs0 hb0 hsz h1 (show OwnK enc sz e _ n₀ v pre from hbl) hrd hl (by simp; omega)
  have o2 : w2.ownsRow n₀ e sz v1 (pre.length + 1) ((pre ++ [x]).flatMap enc) := by
    have := o1
    unfold OwnK at this
    simpa using this
  obtain ⟨b1, b2, b3, b4, b5⟩ := Boxed.appended hv hte hrow hn hB o2 g1
  refine ⟨v1, w2, r1, b1, b2, b3, b4, b5, ownsRow_succ o2, fun j o hj h2 h3 => ?_, ?_⟩
  · have hlt := (Array.getElem?_eq_some_iff.1 hj).1
    have e1 := ((World.grownBy_alloc W (.cells C e) none).block j hlt (by simp)).trans hj
    have e2 := (g1.block j (by simp; omega) h2).trans e1
    exact ((grownBy_setCell' w2 B v1).block j (Array.getElem?_eq_some_iff.1 e2).1 (fun e => h3 (by injection e))).trans e2
  · rcases at1 with h | h
    · exact .inl h
    · right
      -- a new block lies behind the row of one
      exact ⟨_, h, by simp⟩
variable {W w2 : World} {n₀ B : Nat} {t e : TypeId} {v v1 : Value} {k : Nat} {ys : List Value}
theorem CollStep.boxed (h : CollStep W w2 n₀ B t e sz v v1 k ys) {b s k' : Nat} {xs : List Value} (hrow : W.ownsRow b e s v k' xs) {B' : Nat} {t' : TypeId} {u : Value} (hu : Boxed W B' t' u) (hne : B' ≠ B) (hte : t' ≠ e) : Boxed (w2.setCell ⟨B, 0, none⟩ v1) B' t' u :=
  h.keep _ _ hu (hu.not_row hte hrow) hne
theorem CollStep.rows (h : CollStep W w2 n₀ B t e sz v v1 k ys) (hv : Boxed W B t v) {b s k' : Nat} {xs : List Value} (hrow : W.ownsRow b e s v k' xs) {b' s' k2 : Nat} {e' : TypeId} {u : Value} {zs : List Value}
    (hu : W.ownsRow b' e' s' u k2 zs) (h1 : e' ≠ e) (h2 : t ≠ e') : (w2.setCell ⟨B, 0, none⟩ v1).ownsRow b' e' s' u k2 zs := by
  rcases hu.2 with ⟨rfl, h0⟩ | ⟨g, cap, cur, rfl, hb, hh, hn, hc, hs, ht⟩
  · exact ⟨hu.1, .inl ⟨rfl, h0⟩⟩
  · refine ⟨hu.1, .inr ⟨g, cap, cur, rfl, hb, h.keep g _ hh ?_ ?_, hn, hc, hs, ht⟩⟩
    · rcases rows_apart hu hrow h1 with h3 | h3
      · simp [Value.ownBlock] at h3
      · simpa [Value.ownBlock] using h3
    · have := hv.not_row h2 hu
      intro e1
      exact this (by simp [Value.ownBlock, e1])
/-- .. to one who goes through a sequence. -/
theorem CollStep.keepQ (h : CollStep W w2 n₀ B t e sz v v1 k ys) (hv : Boxed W B t v) {b' s' k' : Nat} {xs : List Value} (hrow : W.ownsRow b' e s' v k' xs) {b D : Nat} {S : Nat → TypeId → Bool} (hb : b ≤ b') (hB : b ≤ B) (hSt : S B t = true) (hSe : ∀ k, S k e = true) (hbn : b ≤ n₀) (hn : n₀ ≤ W.heap.size) :
    Keep b D S W (w2.setCell ⟨B, 0, none⟩ v1) := by
  have own : ∀ k, v.ownBlock = some k → b' ≤ k ∧ ∃ C fr, W.heap[k]? = some (.cells C e fr) := by
    intro k hk
    rcases hrow.2 with ⟨rfl, _⟩ | ⟨g, cap, cur, rfl, hg, hh, _⟩
    · simp [Value.ownBlock] at hk
    · simp only [Value.ownBlock, Option.some.injEq] at hk
      subst hk
      exact ⟨hg, _, _, hh⟩
  refine ⟨h.bl.os, h.bl.tape, h.bl.output, h.bl.size, fun k o hk ho => h.keep k o ho ?_ ?_, fun k C t' fr ht ho => h.keep k _ ho ?_ ?_, fun k o _ hw ho => h.ks.same k o ho hw⟩
  · intro e1
    have := (own k e1.symm).1
    omega
  · omega
  · intro e1
    obtain ⟨_, C', fr', hc⟩ := own k e1.symm
    rw [ho] at hc
    cases hc
    rw [hSe] at ht
    cases ht
  · intro e1
    subst e1
    rw [show W.heap[k]? = _ from hv] at ho
    cases ho
    rw [hSt] at ht
    cases ht
theorem ownsRow_step {D : Nat} {S : Nat → TypeId → Bool} {W W' : World} {b s k : Nat} {e : TypeId} {v : Value} {xs : List Value} (h : W.ownsRow b e s v k xs) (hst : Step D S W W') (hS : ∀ k, S k e = true) : W'.ownsRow b e s v k xs := by
  rcases h.2 with ⟨rfl, h0⟩ | ⟨g, cap, cur, rfl, hb, hh, rest⟩
  · exact ⟨h.1, .inl ⟨rfl, h0⟩⟩
  · exact ⟨h.1, .inr ⟨g, cap, cur, rfl, hb, hst.own _ _ _ _ (hS _) hh, rest⟩⟩
theorem Boxed.step {D : Nat} {S : Nat → TypeId → Bool} {W W' : World} {B : Nat} {t : TypeId} {v : Value} (h : Boxed W B t v) (hst : Step D S W W') (hS : S B t = true) : Boxed W' B t v := hst.own _ _ _ _ hS h
theorem Boxed.low {D : Nat} {S : Nat → TypeId → Bool} {W W' : World} {B : Nat} {t : TypeId} {v : Value} (h : Boxed W B t v) (hst : Step D S W W') (hB : B < D) : Boxed W' B t v := hst.low _ _ hB h
end
end Go.Proofs.Ytaaddckhldccjaa
