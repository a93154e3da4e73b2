/- What a text is folded to. -/
import Derived.Test.YtkkeodlnejckjaaGreatTab
import Derived.Test.YtkkeodlnejckjaaGreatIter
import Derived.Test.YtkkeodlnejckjaaGreatReg
import Derived.Maps.AppendAt
namespace Go.Proofs.YtkkeodlnejckjaaGreat
open Go.RowKit Go.Shelf
set_option linter.unusedVariables false
set_option linter.unusedSimpArgs false
attribute [local go_sem] Oper.semAt_some

noncomputable def eff (l : List Fo) : List Fo := open Classical in if okTb l then l else []
noncomputable def textL (tb : List Fo) (l : List Nat) : List Nat := encsL ((rnsL l).map fun r : Nat => oneR (eff tb) (r : Int))
theorem eff_yes {l : List Fo} (h : okTb l) : eff l = l := if_pos h
theorem eff_no {l : List Fo} (h : ¬ okTb l) : eff l = [] := if_neg h
abbrev enc32 : Int → Value := fun x => .int .i32 x
theorem info32 : (Tryz.prog.info? 21).map (fun i => (i.zero, i.size, i.bytes)) = some (some (.int .i32 0), 1, 4) := by kernel_rfl
theorem Own.and {β : Type} {I I' : β → World → Prop} (h : Own I) (h' : Own I') : Own (fun s W => I s W ∧ I' s W) := fun s W W' row hs hg hr => ⟨h s W W' row hs.1 hg hr, h' s W W' row hs.2 hg hr⟩
theorem Boxed.below {W W' : World} {B : Nat} {t : TypeId} {v : Value} (h : Boxed W B t v) (hb : Below W.heap.size W W') : Boxed W' B t v := (hb.block B h.lt).trans h
theorem ownsRow_below {W W' : World} {base : Nat} {e : TypeId} {size : Nat} {v : Value} {k : Nat} {xs : List Value} (h : W.ownsRow base e size v k xs) (hb : Below W.heap.size W W') : W'.ownsRow base e size v k xs :=
  h.kept (grown_below hb Option.none) (by cases v.ownBlock <;> simp)
theorem Boxed.appended_other {W w1 : World} {n₀ B B' : Nat} {t t' e : TypeId} {size : Nat} {v v' u : Value} {k m : Nat} {xs ys : List Value} {tmp : Obj}
    (hu : Boxed W B' t' u) (hne : B' ≠ B) (hv : Boxed W B t v) (hte : t' ≠ e) (hrow : W.ownsRow n₀ e size v k xs)
    (hown' : w1.ownsRow n₀ e size v' m ys) (hgrow : (W.alloc tmp).grownBy w1 v.ownBlock) : Boxed (w1.setCell ⟨B, 0, none⟩ v') B' t' u :=
  (((hu.alloc tmp).kept hgrow (hu.not_row hte hrow)).kept (grownBy_setCell' w1 B v') (by simpa using hne))
theorem keeps_of_below {W W' : World} (h : Below W.heap.size W W') : KeepsOthers W W' :=
  ⟨h.size, fun k o hk _ => (h.block k (Array.getElem?_eq_some_iff.1 hk).1).trans hk⟩

theorem run_runes {w : World} {base : Nat} {v : Value} {XS : List Int} (h : w.ownsRow base 21 1 v XS.length (XS.map enc32)) : (convert 86 9 v).run Tryz.prog w = .ok (.string (strL (encsL XS))) w := by
  have h32 : Tryz.prog.underlying 21 = some (.int .i32) := Tryz.underlying21
  rcases h.2 with ⟨rfl, h0⟩ | ⟨g, cap, cur, rfl, _, _⟩
  · obtain rfl : XS = [] := List.eq_nil_of_length_eq_zero h0
    exact run_convert_runes_nil w _ _ _ _ _ Tryz.underlying86 h32 Tryz.underlying9
  · have hc := fun j (hj : j < XS.length) => World.ownsRow.cells h (g := g) rfl j (enc32 XS[j]) (by simp [hj])
    rw [run_convert_runes w _ _ _ _ _ _ XS (Nat.le_refl _) Tryz.underlying86 h32 Tryz.underlying9 (fun j hj => by rw [hc j hj]; simp [List.getD, List.getElem?_eq_getElem hj]), List.take_of_length_le (Nat.le_refl _), runesBytes_eq]

/-- The frame of a round, and what holds in it as its operations come up. -/
abbrev TextFr (tv v9 v10 bv : Value) (g0 bo rp : Nat) (x1 x2 : Int) (u15 u16 u17 u18 u19 u20 : Value) : Act :=
  { tmps := #[tv, bv, .pointer (some ⟨g0, 0, none⟩), undef, .string ⟨#[]⟩, .pointer (some ⟨bo, 0, none⟩), undef, .int .i32 x2, tv, v9, v10, bv, .func (.func 125) #[] #[.pointer (some ⟨rp, 0, none⟩)], .int .i64 x1, .int .i32 x2, u15, u16, u17, u18, u19, u20, undef, undef], defers := [] }
structure TextApp (W w : World) (n₀ g0 bo : Nat) (v TV u : Value) (k : Nat) (XS : List Value) : Prop where
  sh : ∃ g c, u = .slice (some ⟨g, 0, none⟩) k c
  box : Boxed w bo 86 v
  out : Boxed (w.setCell ⟨bo, 0, none⟩ u) bo 86 u
  row : (w.setCell ⟨bo, 0, none⟩ u).ownsRow n₀ 21 1 u k XS
  tab : Boxed (w.setCell ⟨bo, 0, none⟩ u) g0 22 TV
  ks : KeepsOthers W (w.setCell ⟨bo, 0, none⟩ u)
  bl : Below n₀ W (w.setCell ⟨bo, 0, none⟩ u)
theorem textApp {W w2 w3 : World} {n₀ g0 bo : Nat} {v TV u : Value} {k m : Nat} {xs ys : List Value} (hb : Below W.heap.size W w2) (hv : Boxed w2 bo 86 v) (hbx : Boxed w2 g0 22 TV) (hrow : w2.ownsRow n₀ 21 1 v k xs)
    (hn : n₀ ≤ W.heap.size) (hB : n₀ ≤ bo) (hne : g0 ≠ bo) (hown' : w3.ownsRow n₀ 21 1 u (m + 1) ys) (hg : w2.grownBy w3 v.ownBlock) : TextApp W w3 n₀ g0 bo v TV u (m + 1) ys := by
  have hv3 : Boxed w3 bo 86 v := hv.kept hg (hv.not_row (by decide) hrow)
  refine ⟨ownsRow_succ hown', hv3, hv3.set u, hown'.kept (grownBy_setCell' w3 bo u) (.inr (hv3.not_row (by decide) hown').symm), ?_, ?_, ?_⟩
  · exact (hbx.kept hg (hbx.not_row (by decide) hrow)).kept (grownBy_setCell' w3 bo u) (by simpa using hne)
  · refine (keeps_of_below hb).trans ((KeepsOthers.of_grownBy hg fun j o ej hj => ?_).trans (KeepsOthers.setCell _ _ _))
    rcases hrow.2 with ⟨rfl, _⟩ | ⟨g, cap, cur, rfl, _, hgb, _⟩
    · simp [Value.ownBlock] at ej
    · obtain rfl : g = j := by simpa [Value.ownBlock] using ej
      rw [hgb] at hj; cases hj; rfl
  · refine ((hb.mono hn).grown hg (Nat.le_trans hn hb.size) fun j ej => ?_).setCell (p := ⟨bo, 0, none⟩) hB u
    rcases hrow.2 with ⟨rfl, _⟩ | ⟨g, cap, cur, rfl, h0, _, _⟩
    · simp [Value.ownBlock] at ej
    · obtain rfl : g = j := by simpa [Value.ownBlock] using ej
      exact h0
structure TextEnd (W w : World) (n₀ g0 bo : Nat) (TV : Value) (k : Nat) (XS : List Value) : Prop where
  out : ∃ u, Boxed w bo 86 u ∧ w.ownsRow n₀ 21 1 u k XS
  tab : Boxed w g0 22 TV
  ks : KeepsOthers W w
  bl : Below n₀ W w
structure TextJ (W : World) (tv v9 v10 bv : Value) (g0 bo rp : Nat) (x1 x2 y : Int) (n₀ : Nat) (v TV : Value) (k : Nat) (XS : List Value) (S : Nat → Prop) (u15 u16 u17 u18 u19 u20 : Value) (w : World) : Prop where
  s0 : S 0 → u15 = v
  s1 : S 1 → u16 = TV
  s2 : S 2 → u17 = .int .i32 x2
  s3 : S 3 → u18 = .int .i32 y
  s4 : ¬ S 5 → S 4 → ∃ g, u19 = .slice (some ⟨g, 0, none⟩) 1 1 ∧ W.heap.size ≤ g ∧ w.heap[g]? = some (.cells #[.int .i32 y] 21 (0, 0))
  b : ¬ S 5 → Below W.heap.size W w
  s5 : S 5 → ¬ S 6 → TextApp W w n₀ g0 bo v TV u20 k XS
  s6 : S 6 → TextEnd W w n₀ g0 bo TV k XS

end Go.Proofs.YtkkeodlnejckjaaGreat
