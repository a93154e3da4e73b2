/- What a text is folded to. -/
import Derived.Test.YtlbphgbhkbgknaaCheck
import Derived.Test.YtlbphgbhkbgknaaIter
import Derived.Test.YtlbphgbhkbgknaaRegJ
import Derived.Maps.AppendAt
namespace Go.Proofs.Ytlbphgbhkbgknaa
open Go.RowKit Go.Shelf
set_option linter.unusedVariables false
set_option linter.unusedSimpArgs false
attribute [local go_sem] Oper.semAt_some

noncomputable def eff (l : List Fo) : List Fo := open Classical in if okTb l then l else []
noncomputable def textL (tb : List Fo) (l : List Nat) : List Nat := encsL ((rnsL l).map fun r : Nat => oneR (eff tb) (r : Int))
theorem eff_yes {l : List Fo} (h : okTb l) : eff l = l := if_pos h
theorem eff_no {l : List Fo} (h : ¬ okTb l) : eff l = [] := if_neg h
abbrev enc32 : Int → Value := fun x => .int .i32 x
theorem info32 : (Try.prog.info? 21).map (fun i => (i.zero, i.size, i.bytes)) = some (some (.int .i32 0), 1, 4) := by kernel_rfl
theorem Own.and {β : Type} {I I' : β → World → Prop} (h : Own I) (h' : Own I') : Own (fun s W => I s W ∧ I' s W) := fun s W W' row hs hg hr => ⟨h s W W' row hs.1 hg hr, h' s W W' row hs.2 hg hr⟩
theorem Boxed.below {W W' : World} {B : Nat} {t : TypeId} {v : Value} (h : Boxed W B t v) (hb : Below W.heap.size W W') : Boxed W' B t v := (hb.block B h.lt).trans h
theorem ownsRow_below {W W' : World} {base : Nat} {e : TypeId} {size : Nat} {v : Value} {k : Nat} {xs : List Value} (h : W.ownsRow base e size v k xs) (hb : Below W.heap.size W W') : W'.ownsRow base e size v k xs :=
  h.kept (grown_below hb Option.none) (by cases v.ownBlock <;> simp)
theorem Boxed.appended_other {W w1 : World} {n₀ B B' : Nat} {t t' e : TypeId} {size : Nat} {v v' u : Value} {k m : Nat} {xs ys : List Value} {tmp : Obj}
    (hu : Boxed W B' t' u) (hne : B' ≠ B) (hv : Boxed W B t v) (hte : t' ≠ e) (hrow : W.ownsRow n₀ e size v k xs)
    (hown' : w1.ownsRow n₀ e size v' m ys) (hgrow : (W.alloc tmp).grownBy w1 v.ownBlock) : Boxed (w1.setCell ⟨B, 0, none⟩ v') B' t' u :=
  (((hu.alloc tmp).kept hgrow (hu.not_row hte hrow)).kept (grownBy_setCell' w1 B v') (by simpa using hne))
theorem keeps_of_below {W W' : World} (h : Below W.heap.size W W') : KeepsOthers W W' :=
  ⟨h.size, fun k o hk _ => (h.block k (Array.getElem?_eq_some_iff.1 hk).1).trans hk⟩

theorem run_runes {w : World} {base : Nat} {v : Value} {XS : List Int} (h : w.ownsRow base 21 1 v XS.length (XS.map enc32)) : (convert 50 9 v).run Try.prog w = .ok (.string (strL (encsL XS))) w := by
  have h32 : Try.prog.underlying 21 = some (.int .i32) := Try.underlying21
  rcases h.2 with ⟨rfl, h0⟩ | ⟨g, cap, cur, rfl, _, _⟩
  · obtain rfl : XS = [] := List.eq_nil_of_length_eq_zero h0
    exact run_convert_runes_nil w _ _ _ _ _ Try.underlying50 h32 Try.underlying9
  · have hc := fun j (hj : j < XS.length) => World.ownsRow.cells h (g := g) rfl j (enc32 XS[j]) (by simp [hj])
    rw [run_convert_runes w _ _ _ _ _ _ XS (Nat.le_refl _) Try.underlying50 h32 Try.underlying9 (fun j hj => by rw [hc j hj]; simp [List.getD, List.getElem?_eq_getElem hj]), List.take_of_length_le (Nat.le_refl _), runesBytes_eq]

/-- The frame of a round, and what holds in it as its operations come up. -/
abbrev TextFr (tv v9 v10 bv : Value) (g0 bo rp : Nat) (x1 x2 : Int) (u15 u16 u17 u18 u19 u20 : Value) : Act :=
  { tmps := #[tv, bv, .pointer (some ⟨g0, 0, none⟩), undef, .string ⟨#[]⟩, .pointer (some ⟨bo, 0, none⟩), undef, .int .i32 x2, tv, v9, v10, bv, .func (.func 34) #[] #[.pointer (some ⟨rp, 0, none⟩)], .int .i64 x1, .int .i32 x2, u15, u16, u17, u18, u19, u20, undef, undef], defers := [] }
structure TextApp (W w : World) (n₀ g0 bo : Nat) (v TV u : Value) (k : Nat) (XS : List Value) : Prop where
  sh : ∃ g c, u = .slice (some ⟨g, 0, none⟩) k c
  box : Boxed w bo 50 v
  out : Boxed (w.setCell ⟨bo, 0, none⟩ u) bo 50 u
  row : (w.setCell ⟨bo, 0, none⟩ u).ownsRow n₀ 21 1 u k XS
  tab : Boxed (w.setCell ⟨bo, 0, none⟩ u) g0 22 TV
  ks : KeepsOthers W (w.setCell ⟨bo, 0, none⟩ u)
  bl : Below n₀ W (w.setCell ⟨bo, 0, none⟩ u)
theorem textApp {W w2 w3 : World} {n₀ g0 bo : Nat} {v TV u : Value} {k m : Nat} {xs ys : List Value} (hb : Below W.heap.size W w2) (hv : Boxed w2 bo 50 v) (hbx : Boxed w2 g0 22 TV) (hrow : w2.ownsRow n₀ 21 1 v k xs)
    (hn : n₀ ≤ W.heap.size) (hB : n₀ ≤ bo) (hne : g0 ≠ bo) (hown' : w3.ownsRow n₀ 21 1 u (m + 1) ys) (hg : w2.grownBy w3 v.ownBlock) : TextApp W w3 n₀ g0 bo v TV u (m + 1) ys := by
  have hv3 : Boxed w3 bo 50 v := hv.kept hg (hv.not_row (by decide) hrow)
  refine ⟨ownsRow_succ hown', hv3, hv3.set u, hown'.kept (grownBy_setCell' w3 bo u) (.inr (hv3.not_row (by decide) hown').symm), ?_, ?_, ?_⟩
  · exact (hbx.kept hg (hbx.not_row (by decide) hrow)).kept (grownBy_setCell' w3 bo u) (by simpa using hne)
  · refine (keeps_of_below hb).trans ((KeepsOthers.of_grownBy hg fun j o ej hj => ?_).trans (KeepsOthers.setCell _ _ _))
    rcases hrow.2 with ⟨rfl, _⟩ | ⟨g, cap, cur, rfl, _, hgb, _⟩
    · simp [Value.ownBlock] at ej
    · obtain rfl : g = j := by simpa [Value.ownBlock] using ej
      rw [hgb] at hj; cases hj; rfl
  · refine ((hb.mono hn).grown hg (Nat.le_trans hn hb.size) fun j ej => ?_).setCell (p := ⟨bo, 0, none⟩) hB u
    rcases hrow.2 with ⟨rfl, _⟩ | ⟨g, cap, cur, rfl, h0, _, _⟩
    · simp [Value.ownBlock] at ej
    · obtain rfl : g = j := by simpa [Value.ownBlock] using ej
      exact h0
structure TextEnd (W w : World) (n₀ g0 bo : Nat) (TV : Value) (k : Nat) (XS : List Value) : Prop where
  out : ∃ u, Boxed w bo 50 u ∧ w.ownsRow n₀ 21 1 u k XS
  tab : Boxed w g0 22 TV
  ks : KeepsOthers W w
  bl : Below n₀ W w
structure TextJ (W : World) (tv v9 v10 bv : Value) (g0 bo rp : Nat) (x1 x2 y : Int) (n₀ : Nat) (v TV : Value) (k : Nat) (XS : List Value) (S : Nat → Prop) (u15 u16 u17 u18 u19 u20 : Value) (w : World) : Prop where
  s0 : S 0 → u15 = v
  s1 : S 1 → u16 = TV
  s2 : S 2 → u17 = .int .i32 x2
  s3 : S 3 → u18 = .int .i32 y
  s4 : ¬ S 5 → S 4 → ∃ g, u19 = .slice (some ⟨g, 0, none⟩) 1 1 ∧ W.heap.size ≤ g ∧ w.heap[g]? = some (.cells #[.int .i32 y] 21 (0, 0))
  b : ¬ S 5 → Below W.heap.size W w
  s5 : S 5 → ¬ S 6 → TextApp W w n₀ g0 bo v TV u20 k XS
  s6 : S 6 → TextEnd W w n₀ g0 bo TV k XS

set_option maxRecDepth 100000 in
set_option maxHeartbeats 2000000 in
theorem Text_any (A : Option Addr) (n c : Nat) (tb : List Fo) (B : Option Addr) (m d : Nat) (l : List Nat) (w : World) (ht : RdT w A n tb) (hl : RdB w B m l) (hd : m ≤ d) (hm : m ≤ 100000000) :
    Calls Try.prog 10 #[.slice A n c, .slice B m d] w fun e w' => e = .returned (.string (strL (textL tb l))) ∧ Below w.heap.size w w' := by
  have HL := Lib.hid hl
  have HT := Lib.hid (ht.below ((Below.refl w.heap.size w).alloc (Nat.le_refl _) (.cells #[.slice A n c] 22)))
  have HB := Lib.hid ((Below.refl w.heap.size w).alloc (Nat.le_refl _) (.cells #[.slice A n c] 22))
  have HX := Lib.hid (Boxed.new w 22 (.slice A n c))
  clear hl
  have h1 : 1 ≤ 10 := by omega
  by_cases hok : okTb tb
  · have C := Lib.hid (Check_any A n c tb _ HT.out)
    rw [chk_yes hok] at C
    obtain ⟨T, hT⟩ : ∃ T, T = textL tb l := ⟨_, rfl⟩
    rw [← hT]
    have HTx := Lib.hid hT
    have HOk := Lib.hid hok
    clear hT hok
    refine (callsIn_wide (n := 10)).1 ?_
    refine callsIn_of_wp_marks Try.func10 rfl trivial ?_ rfl
    simp only [Try.ntmps10, List.size_toArray, List.length_cons, List.length_nil, Nat.reduceAdd, Nat.reduceSub, Array.replicate_succ, Array.replicate_zero, List.push_toArray, List.append_toArray, List.nil_append, List.cons_append]
    have c0 := HX.out.cell
    gi_wp2_with fail
    refine ⟨trivial, (callsIn_wide.2 C.out).mono ?_⟩
    rintro e w1 ⟨rfl, hb⟩
    have HB1 := Lib.hid (Below.thn HB.out hb)
    have HT1 := Lib.hid (HT.out.below hb)
    have HX1 : Hid (Boxed w1 w.heap.size 22 (.slice A n c)) := Lib.hid ((hb.block _ HX.out.lt).trans HX.out)
    clear hb c0 C
    have c0 := HX1.out.cell
    gi_wp2_with fail
    refine ⟨trivial, (callsIn_wide.2 (Runes_any B m d _)).mono ?_⟩
    rintro e w2 ⟨rfl, rfl⟩
    gi_wp2_with fail
    have HTw : Hid (RdT w A n tb) := Lib.hid ht
    obtain ⟨W0, hW0⟩ : ∃ W0, W0 = (w1.alloc (.cells #[.slice none 0 0] 50)).alloc (.cells #[.slice B m d] 23) := ⟨_, rfl⟩
    have hbO : Boxed W0 w1.heap.size 50 (.slice none 0 0) := by rw [hW0]; exact (Boxed.new w1 _ _).alloc _
    have hbR : W0.cell? ⟨w1.heap.size + 1, 0, none⟩ = some (.slice B m d) := by
      have := (Boxed.new (w1.alloc (.cells #[.slice none 0 0] 50)) 23 (.slice B m d)).cell
      rw [World.size_alloc] at this
      rw [hW0]; exact this
    have hbT : Boxed W0 w.heap.size 22 (.slice A n c) := by rw [hW0]; exact (HX1.out.alloc _).alloc _
    have hB0 : Below w.heap.size w W0 := by rw [hW0]; exact (HB1.out.alloc HB1.out.size _).alloc (by have := HB1.out.size; simp; omega) _
    have hsz0 : W0.heap.size = w1.heap.size + 2 := by rw [hW0]; simp
    have hRd : RdB W0 B m l := HL.out.below hB0
    have hlt0 : w.heap.size < w1.heap.size := HX1.out.lt
    rw [← hW0]
    clear hW0 HB HT HX HX1 HB1 c0
    refine wpIn_rangeFunc_ownG rfl h1 (gf := 34) (lb := #[.pointer (some ⟨w1.heap.size + 1, 0, none⟩)]) rfl trivial (enters_of Try.func34 (by kernel_rfl) rfl)
      (runes_stops 9 (w1.heap.size + 1) (by omega) B m d l W0 hbR hRd hd) walksK_t walksK_b (Below.refl _ _) (fun _ => rfl)
      (fun pre W => ((∃ v, Boxed W w1.heap.size 50 v ∧ W.ownsRow w.heap.size 21 1 v (pre.map fun x => oneR (tb) (x.2 : Int)).length ((pre.map fun x => oneR (tb) (x.2 : Int)).map enc32) ∧ True) ∧ Boxed W w.heap.size 22 (.slice A n c)) ∧ Below w.heap.size w W)
      (fun _ _ _ => False)
      (OwnFrom.and (Own.from (Own.and (holdsRow_own w.heap.size w1.heap.size 50 21 1 (fun pre : List (Nat × Nat) => (pre.map fun x => oneR (tb) (x.2 : Int)).length) (fun pre => (pre.map fun x => oneR (tb) (x.2 : Int)).map enc32) (fun _ _ => True)) (boxed_own _ _ _)) _) (ownFrom_below (Nat.le_refl _) (by omega)))
      (fun _ _ _ _ _ hs _ _ => hs)
      ⟨⟨⟨_, hbO, World.ownsRow_nil _ _ _ _, trivial⟩, hbT⟩, hB0⟩
      (fun x => { tmps := #[.slice A n c, .slice B m d, .pointer (some ⟨w.heap.size, 0, none⟩), undef, .string ⟨#[]⟩, .pointer (some ⟨w1.heap.size, 0, none⟩), undef, .int .i32 x.2, .slice A n c, .int .i64 0, .bool false, .slice B m d, .func (.func 34) #[] #[.pointer (some ⟨w1.heap.size + 1, 0, none⟩)], .int .i64 x.1, .int .i32 x.2, undef, undef, undef, undef, undef, undef, undef, undef], defers := [] }) ?assign1 ?body1 ?done1 ?stop1
    case assign1 =>
      intro L x W K hK
      gi_wp2
      exact hK
    case body1 =>
      rintro L pre x W ⟨⟨⟨v, hv, hrow, _⟩, hbx⟩, hB⟩ hlt
      have hc := hv.cell
      have hcb := hbx.cell
      have hpl : (pre.map fun x => oneR (tb) (x.2 : Int)).length ≤ 100000000 := by
        have := marksL_len l
        have := HL.out.len
        simp; omega
      have C : Hid (∀ w2, Below W.heap.size W w2 → Calls Try.prog 31 #[.slice A n c, .int .i32 (x.2 : Int)] w2 fun e w' => e = .returned (.int .i32 (oneR (tb) (x.2 : Int))) ∧ Below w2.heap.size w2 w') := Lib.hid fun w2 h2 => one_any A n c (tb) (x.2 : Int) w2 (HTw.out.below (hB.trans (h2.mono hB.size)))
      have hd1 : 1 ≤ 10 - 1 - 1 := by omega
      have hmx : Try.prog.follows .mixedOrders = true := by kernel_rfl
      obtain ⟨XS, hXS⟩ : ∃ XS, XS = pre.map fun x => oneR (tb) (x.2 : Int) := ⟨_, rfl⟩
      obtain ⟨y, hy⟩ : ∃ y, y = oneR (tb) (x.2 : Int) := ⟨_, rfl⟩
      rw [← hXS] at hrow hpl
      rw [← hy] at C
      have HV := Lib.hid hv
      have HRow := Lib.hid hrow
      have HBX := Lib.hid hbx
      have HBw := Lib.hid hB
      have HXS := Lib.hid hXS
      have HY := Lib.hid hy
      clear hv hrow hbx hB hXS hy hbO hbR hbT hB0 hRd hlt HTx
      obtain ⟨i0, hi, hz0, hz1, hz2⟩ := info_parts info32
      gi_wp2
      refine wpIn_region_J (by kernel_rfl) hmx (fun S a w' => ∃ u15 u16 u17 u18 u19 u20, a = TextFr (.slice A n c) (.int .i64 0) (.bool false) (.slice B m d) w.heap.size w1.heap.size (w1.heap.size + 1) x.1 x.2 u15 u16 u17 u18 u19 u20 ∧
        TextJ W (.slice A n c) (.int .i64 0) (.bool false) (.slice B m d) w.heap.size w1.heap.size (w1.heap.size + 1) x.1 x.2 y w.heap.size v (.slice A n c) (XS.length + 1) (XS.map enc32 ++ [enc32 y]) S u15 u16 u17 u18 u19 u20 w') (by kernel_rfl) ?_ ?_ ?_
      case refine_1 =>
        exact ⟨_, _, _, _, _, _, rfl, ⟨fun h => h.elim, fun h => h.elim, fun h => h.elim, fun h => h.elim, fun _ h => h.elim, fun _ => (Below.refl _ W).drew, fun h => h.elim, fun h => h.elim⟩⟩
      case refine_2 =>
        rintro i o ho S a w2 ⟨u15, u16, u17, u18, u19, u20, rfl, hJ⟩ hnS hneeds hcl
        have hi6 := (Array.getElem?_eq_some_iff.1 ho).1
        rcases Nat.lt_or_ge i 7 with hi2 | hi2
        case inr => simp at hi6; omega
        have h5n : i < 6 → ¬ S 5 := by
          intro hlt h5
          have c5 := hcl 5 _ rfl h5
          have c4 := hcl 4 _ rfl (c5 4 (by kernel_rfl))
          have c3 := hcl 3 _ rfl (c4 3 (by kernel_rfl))
          obtain rfl | rfl | rfl | rfl | rfl | rfl : i = 0 ∨ i = 1 ∨ i = 2 ∨ i = 3 ∨ i = 4 ∨ i = 5 := by omega
          · exact hnS (c5 0 (by kernel_rfl))
          · exact hnS (c3 1 (by kernel_rfl))
          · exact hnS (c3 2 (by kernel_rfl))
          · exact hnS (c4 3 (by kernel_rfl))
          · exact hnS (c5 4 (by kernel_rfl))
          · exact hnS h5
        have h6n : i < 7 → ¬ S 6 := by
          intro hlt h6
          have c6 := hcl 6 _ rfl h6
          obtain rfl | rfl | rfl | rfl | rfl | rfl | rfl : i = 0 ∨ i = 1 ∨ i = 2 ∨ i = 3 ∨ i = 4 ∨ i = 5 ∨ i = 6 := by omega
          all_goals first | exact hnS h6 | exact hnS (c6 _ (by kernel_rfl))
        obtain rfl | rfl | rfl | rfl | rfl | rfl | rfl : i = 0 ∨ i = 1 ∨ i = 2 ∨ i = 3 ∨ i = 4 ∨ i = 5 ∨ i = 6 := by omega
        · cases ho
          rw [if_pos (show Region.wanted _ _ = true from rfl)]
          have h5 := h5n (by decide)
          have hb := hJ.b h5
          have hc := (Boxed.below HV.out hb).cell
          exact does_ok (v := v) (w' := w2) (by simp [go_sem, hc]) ⟨_, _, _, _, _, _, rfl, ⟨fun _ => rfl, fun h => hJ.s1 (h.resolve_left (by decide)), fun h => hJ.s2 (h.resolve_left (by decide)), fun h => hJ.s3 (h.resolve_left (by decide)), fun h h4 => hJ.s4 h5 (h4.resolve_left (by decide)), fun _ => hb, fun h => absurd (h.resolve_left (by decide)) h5, fun h => absurd (h.resolve_left (by decide)) (h6n (by decide))⟩⟩
        · cases ho
          rw [if_pos (show Region.wanted _ _ = true from rfl)]
          have h5 := h5n (by decide)
          have hb := hJ.b h5
          have hc := (Boxed.below HBX.out hb).cell
          exact does_ok (v := .slice A n c) (w' := w2) (by simp [go_sem, hc]) ⟨_, _, _, _, _, _, rfl, ⟨fun h => hJ.s0 (h.resolve_left (by decide)), fun _ => rfl, fun h => hJ.s2 (h.resolve_left (by decide)), fun h => hJ.s3 (h.resolve_left (by decide)), fun h h4 => hJ.s4 h5 (h4.resolve_left (by decide)), fun _ => hb, fun h => absurd (h.resolve_left (by decide)) h5, fun h => absurd (h.resolve_left (by decide)) (h6n (by decide))⟩⟩
        · cases ho
          rw [if_pos (show Region.wanted _ _ = true from rfl)]
          have h5 := h5n (by decide)
          have hb := hJ.b h5
          exact does_ok (v := .int .i32 x.2) (w' := w2) (by simp [go_sem]) ⟨_, _, _, _, _, _, rfl, ⟨fun h => hJ.s0 (h.resolve_left (by decide)), fun h => hJ.s1 (h.resolve_left (by decide)), fun _ => rfl, fun h => hJ.s3 (h.resolve_left (by decide)), fun h h4 => hJ.s4 h5 (h4.resolve_left (by decide)), fun _ => hb, fun h => absurd (h.resolve_left (by decide)) h5, fun h => absurd (h.resolve_left (by decide)) (h6n (by decide))⟩⟩
        · cases ho
          rw [if_pos (show Region.wanted _ _ = true from rfl)]
          have h5 := h5n (by decide)
          have hb := hJ.b h5
          obtain rfl := hJ.s1 (hneeds 1 (by kernel_rfl))
          obtain rfl := hJ.s2 (hneeds 2 (by kernel_rfl))
          refine does_enter (f := 31) (args := #[.slice A n c, .int .i32 x.2]) (w' := w2) (by simp [go_sem]) ?_
          refine (C.out w2 hb).mono ?_
          rintro e w3 ⟨rfl, hb3⟩
          exact ⟨_, rfl, ⟨_, _, _, _, _, _, rfl, ⟨fun h => hJ.s0 (h.resolve_left (by decide)), fun h => hJ.s1 (h.resolve_left (by decide)), fun h => hJ.s2 (h.resolve_left (by decide)), fun _ => rfl, fun h h4 => absurd (h4.resolve_left (by decide)) (fun h4 => hnS (hcl 4 _ rfl h4 3 (by kernel_rfl))), fun _ => hb.trans (hb3.mono hb.size), fun h => absurd (h.resolve_left (by decide)) h5, fun h => absurd (h.resolve_left (by decide)) (h6n (by decide))⟩⟩⟩
        · cases ho
          rw [if_pos (show Region.wanted _ _ = true from rfl)]
          have h5 := h5n (by decide)
          have hb := hJ.b h5
          obtain rfl := hJ.s3 (hneeds 3 (by kernel_rfl))
          exact does_ok (v := .slice (some ⟨w2.heap.size, 0, none⟩) 1 1) (w' := w2.alloc (.cells #[.int .i32 y] 21)) (by simp [go_sem, hi, hz0, hz1, hz2]) ⟨_, _, _, _, _, _, rfl, ⟨fun h => hJ.s0 (h.resolve_left (by decide)), fun h => hJ.s1 (h.resolve_left (by decide)), fun h => hJ.s2 (h.resolve_left (by decide)), fun h => hJ.s3 (h.resolve_left (by decide)), fun h h4 => ⟨_, rfl, hb.size, World.alloc_heap_new w2 _⟩, fun _ => hb.alloc hb.size _, fun h => absurd (h.resolve_left (by decide)) h5, fun h => absurd (h.resolve_left (by decide)) (h6n (by decide))⟩⟩
        · cases ho
          rw [if_pos (show Region.wanted _ _ = true from rfl)]
          have h5 := h5n (by decide)
          have hb := hJ.b h5
          obtain rfl := hJ.s0 (hneeds 0 (by kernel_rfl))
          obtain ⟨g, rfl, hg1, hg2⟩ := hJ.s4 h5 (hneeds 4 (by kernel_rfl))
          have hRd : Rd enc32 w2 (some ⟨g, 0, none⟩) 1 [y] := ⟨rfl, by decide, fun _ => ⟨_, rfl, fun j hj => by
            obtain rfl : j = 0 := by simpa using hj
            rw [add_lit0]
            simp [World.cell?, hg2]⟩⟩
          have hO : OwnL enc32 21 w2 w.heap.size u15 XS := by
            have := ownsRow_below HRow.out hb
            simpa [OwnL] using this
          obtain ⟨v1, w3, hr, hO2, hg3, _⟩ := run_append_rd (P := Try.prog) (c := 1) w.heap.size 50 50 21 (.int .i32 0) 4 Try.underlying50 info32 rfl (by decide) (fun _ => rfl) hO hRd (by omega) (Nat.le_trans HBw.out.size hb.size)
          have hO3 : w3.ownsRow w.heap.size 21 1 v1 (XS.length + 1) (XS.map enc32 ++ [enc32 y]) := by
            have := hO2
            unfold OwnL at this
            simpa using this
          have hA : TextApp W w3 w.heap.size w.heap.size w1.heap.size u15 (.slice A n c) v1 (XS.length + 1) (XS.map enc32 ++ [enc32 y]) := textApp hb (Boxed.below HV.out hb) (Boxed.below HBX.out hb) (ownsRow_below HRow.out hb) HBw.out.size (by omega) (by omega) hO3 hg3
          have hr' : ∀ pos af, (execOp (TextFr (.slice A n c) (.int .i64 0) (.bool false) (.slice B m d) w.heap.size w1.heap.size (w1.heap.size + 1) x.1 x.2 u15 u16 u17 u18 (.slice (some ⟨g, 0, none⟩) 1 1) u20).eval ⟨some 20, .call { callee := .builtin .append, args := #[.tmp 15, .tmp 19], argTypes := #[50, 50] }, 50, pos, af, none⟩).run Try.prog w2 = .ok (.value v1) w3 := by
            intro pos af
            simp only [execOp, resolve, invoke, builtin, Sem.run_bind, Sem.run_pure, Result.andThen_ok, List.map_toArray, List.map_cons, List.map_nil]
            simp [Act.eval, Array.getD, hr]
          refine does_ok (v := v1) (w' := w3) (hr' _ _) ⟨_, _, _, _, _, _, rfl, ⟨fun h => hJ.s0 (h.resolve_left (by decide)), fun h => hJ.s1 (h.resolve_left (by decide)), fun h => hJ.s2 (h.resolve_left (by decide)), fun h => hJ.s3 (h.resolve_left (by decide)), fun h => absurd (.inl rfl) h, fun h => absurd (.inl rfl) h, fun _ _ => hA, fun h => absurd (h.resolve_left (by decide)) (h6n (by decide))⟩⟩
        · cases ho
          rw [if_pos (show Region.wanted _ _ = true from rfl)]
          have hA := hJ.s5 (hneeds 5 (by kernel_rfl)) (h6n (by decide))
          have hc := hA.box.cell
          have hf := hA.box.frozen
          obtain ⟨g', cap', rfl⟩ := hA.sh
          have hE : TextEnd W (w2.setCell ⟨w1.heap.size, 0, none⟩ (.slice (some ⟨g', 0, none⟩) (XS.length + 1) cap')) w.heap.size w.heap.size w1.heap.size (.slice A n c) (XS.length + 1) (XS.map enc32 ++ [enc32 y]) := ⟨⟨_, hA.out, hA.row⟩, hA.tab, hA.ks, hA.bl⟩
          exact does_skip (w' := w2.setCell ⟨w1.heap.size, 0, none⟩ (.slice (some ⟨g', 0, none⟩) (XS.length + 1) cap')) (by simp [go_sem, hc, hf]) ⟨_, _, _, _, _, _, rfl, ⟨fun h => hJ.s0 (h.resolve_left (by decide)), fun h => hJ.s1 (h.resolve_left (by decide)), fun h => hJ.s2 (h.resolve_left (by decide)), fun h => hJ.s3 (h.resolve_left (by decide)), fun h => absurd (.inr (hneeds 5 (by kernel_rfl))) h, fun h => absurd (.inr (hneeds 5 (by kernel_rfl))) h, fun _ h => absurd (.inl rfl) h, fun _ => hE⟩⟩
      case refine_3 =>
        rintro a w2 S ⟨u15, u16, u17, u18, u19, u20, rfl, hJ⟩ hS
        have hE := hJ.s6 (hS 6 (by decide))
        obtain ⟨u, hu1, hu2⟩ := hE.out
        have e1 : (pre ++ [x]).map (fun x => oneR (tb) (x.2 : Int)) = XS ++ [y] := by rw [HXS.out, HY.out]; simp
        refine ⟨hE.ks.from _, hE.ks.walks, ⟨⟨u, hu1, ?_, trivial⟩, hE.tab⟩, HBw.out.trans hE.bl⟩
        rw [e1]
        simpa using hu2
    case done1 =>
      rintro D ys W hD rfl ⟨⟨⟨v, hv, hrow, _⟩, hbx⟩, hB⟩ hK
      have hc := hv.cell
      have hr := run_runes hrow
      have HB := Lib.hid hB
      have e1 : encsL ((marksL l).map fun x => oneR (tb) (x.2 : Int)) = T := by
        rw [HTx.out]
        unfold textL rnsL
        rw [eff_yes HOk.out, List.map_map]
        rfl
      rw [e1] at hr
      clear e1 hrow hbx hv hB
      gi_wp2
      refine ⟨by simp, .inl ⟨_, _, rfl, run_takeDeferred hK, ?_⟩⟩
      exact ⟨_, results_tmp rfl _ _ _, rfl, HB.out.trans (belowK_b (w := w) (Nat.le_refl _) W D _ _ (by omega) hK rfl rfl)⟩
    case stop1 =>
      rintro D c pre W _ _ h _
      exact h.elim
  · have C := Lib.hid (Check_any A n c tb _ HT.out)
    rw [chk_no hok] at C
    obtain ⟨T, hT⟩ : ∃ T, T = textL tb l := ⟨_, rfl⟩
    rw [← hT]
    have HTx := Lib.hid hT
    have HOk := Lib.hid hok
    clear hT hok
    refine (callsIn_wide (n := 10)).1 ?_
    refine callsIn_of_wp_marks Try.func10 rfl trivial ?_ rfl
    simp only [Try.ntmps10, List.size_toArray, List.length_cons, List.length_nil, Nat.reduceAdd, Nat.reduceSub, Array.replicate_succ, Array.replicate_zero, List.push_toArray, List.append_toArray, List.nil_append, List.cons_append]
    have c0 := HX.out.cell
    gi_wp2_with fail
    refine ⟨trivial, (callsIn_wide.2 C.out).mono ?_⟩
    rintro e w1' ⟨rfl, hb⟩
    have HB1' := Lib.hid (Below.thn HB.out hb)
    have HX1' : Hid (Boxed w1' w.heap.size 22 (.slice A n c)) := Lib.hid (Boxed.below HX.out hb)
    clear hb c0 C
    have c0 := HX1'.out.cell
    have f0 := HX1'.out.frozen
    have HX1 : Hid (Boxed (w1'.setCell ⟨w.heap.size, 0, none⟩ (.slice none 0 0)) w.heap.size 22 (.slice none 0 0)) := Lib.hid (Boxed.set _ HX1'.out)
    have HB1 : Hid (Below w.heap.size w (w1'.setCell ⟨w.heap.size, 0, none⟩ (.slice none 0 0))) := Lib.hid (HB1'.out.setCell (p := ⟨w.heap.size, 0, none⟩) (Nat.le_refl _) _)
    gi_wp2_with fail
    obtain ⟨w1, hw1⟩ : ∃ w1, w1 = w1'.setCell ⟨w.heap.size, 0, none⟩ (.slice none 0 0) := ⟨_, rfl⟩
    have hsz : w1'.heap.size = w1.heap.size := by rw [hw1]; simp
    rw [hsz]
    rw [← hw1] at HX1 HB1 ⊢
    clear hw1 hsz f0 c0 HX1' HB1'
    refine ⟨trivial, (callsIn_wide.2 (Runes_any B m d _)).mono ?_⟩
    rintro e w2 ⟨rfl, rfl⟩
    have c0 := HX1.out.cell
    gi_wp2_with fail
    have HTw : Hid (RdT w Option.none 0 ([] : List Fo)) := Lib.hid (RdT.empty w)
    obtain ⟨W0, hW0⟩ : ∃ W0, W0 = (w1.alloc (.cells #[.slice none 0 0] 50)).alloc (.cells #[.slice B m d] 23) := ⟨_, rfl⟩
    have hbO : Boxed W0 w1.heap.size 50 (.slice none 0 0) := by rw [hW0]; exact (Boxed.new w1 _ _).alloc _
    have hbR : W0.cell? ⟨w1.heap.size + 1, 0, none⟩ = some (.slice B m d) := by
      have := (Boxed.new (w1.alloc (.cells #[.slice none 0 0] 50)) 23 (.slice B m d)).cell
      rw [World.size_alloc] at this
      rw [hW0]; exact this
    have hbT : Boxed W0 w.heap.size 22 (.slice none 0 0) := by rw [hW0]; exact (HX1.out.alloc _).alloc _
    have hB0 : Below w.heap.size w W0 := by rw [hW0]; exact (HB1.out.alloc HB1.out.size _).alloc (by have := HB1.out.size; simp; omega) _
    have hsz0 : W0.heap.size = w1.heap.size + 2 := by rw [hW0]; simp
    have hRd : RdB W0 B m l := HL.out.below hB0
    have hlt0 : w.heap.size < w1.heap.size := HX1.out.lt
    rw [← hW0]
    clear hW0 HB HT HX HX1 HB1 c0
    refine wpIn_rangeFunc_ownG rfl h1 (gf := 34) (lb := #[.pointer (some ⟨w1.heap.size + 1, 0, none⟩)]) rfl trivial (enters_of Try.func34 (by kernel_rfl) rfl)
      (runes_stops 9 (w1.heap.size + 1) (by omega) B m d l W0 hbR hRd hd) walksK_t walksK_b (Below.refl _ _) (fun _ => rfl)
      (fun pre W => ((∃ v, Boxed W w1.heap.size 50 v ∧ W.ownsRow w.heap.size 21 1 v (pre.map fun x => oneR (([] : List Fo)) (x.2 : Int)).length ((pre.map fun x => oneR (([] : List Fo)) (x.2 : Int)).map enc32) ∧ True) ∧ Boxed W w.heap.size 22 (.slice none 0 0)) ∧ Below w.heap.size w W)
      (fun _ _ _ => False)
      (OwnFrom.and (Own.from (Own.and (holdsRow_own w.heap.size w1.heap.size 50 21 1 (fun pre : List (Nat × Nat) => (pre.map fun x => oneR (([] : List Fo)) (x.2 : Int)).length) (fun pre => (pre.map fun x => oneR (([] : List Fo)) (x.2 : Int)).map enc32) (fun _ _ => True)) (boxed_own _ _ _)) _) (ownFrom_below (Nat.le_refl _) (by omega)))
      (fun _ _ _ _ _ hs _ _ => hs)
      ⟨⟨⟨_, hbO, World.ownsRow_nil _ _ _ _, trivial⟩, hbT⟩, hB0⟩
      (fun x => { tmps := #[.slice A n c, .slice B m d, .pointer (some ⟨w.heap.size, 0, none⟩), undef, .string ⟨#[]⟩, .pointer (some ⟨w1.heap.size, 0, none⟩), undef, .int .i32 x.2, .slice A n c, .int .i64 130, .bool true, .slice B m d, .func (.func 34) #[] #[.pointer (some ⟨w1.heap.size + 1, 0, none⟩)], .int .i64 x.1, .int .i32 x.2, undef, undef, undef, undef, undef, undef, undef, undef], defers := [] }) ?assign2 ?body2 ?done2 ?stop2
    case assign2 =>
      intro L x W K hK
      gi_wp2
      exact hK
    case body2 =>
      rintro L pre x W ⟨⟨⟨v, hv, hrow, _⟩, hbx⟩, hB⟩ hlt
      have hc := hv.cell
      have hcb := hbx.cell
      have hpl : (pre.map fun x => oneR (([] : List Fo)) (x.2 : Int)).length ≤ 100000000 := by
        have := marksL_len l
        have := HL.out.len
        simp; omega
      have C : Hid (∀ w2, Below W.heap.size W w2 → Calls Try.prog 31 #[.slice none 0 0, .int .i32 (x.2 : Int)] w2 fun e w' => e = .returned (.int .i32 (oneR (([] : List Fo)) (x.2 : Int))) ∧ Below w2.heap.size w2 w') := Lib.hid fun w2 h2 => one_any Option.none 0 0 (([] : List Fo)) (x.2 : Int) w2 (HTw.out.below (hB.trans (h2.mono hB.size)))
      have hd1 : 1 ≤ 10 - 1 - 1 := by omega
      have hmx : Try.prog.follows .mixedOrders = true := by kernel_rfl
      obtain ⟨XS, hXS⟩ : ∃ XS, XS = pre.map fun x => oneR (([] : List Fo)) (x.2 : Int) := ⟨_, rfl⟩
      obtain ⟨y, hy⟩ : ∃ y, y = oneR (([] : List Fo)) (x.2 : Int) := ⟨_, rfl⟩
      rw [← hXS] at hrow hpl
      rw [← hy] at C
      have HV := Lib.hid hv
      have HRow := Lib.hid hrow
      have HBX := Lib.hid hbx
      have HBw := Lib.hid hB
      have HXS := Lib.hid hXS
      have HY := Lib.hid hy
      clear hv hrow hbx hB hXS hy hbO hbR hbT hB0 hRd hlt HTx
      obtain ⟨i0, hi, hz0, hz1, hz2⟩ := info_parts info32
      gi_wp2
      refine wpIn_region_J (by kernel_rfl) hmx (fun S a w' => ∃ u15 u16 u17 u18 u19 u20, a = TextFr (.slice A n c) (.int .i64 130) (.bool true) (.slice B m d) w.heap.size w1.heap.size (w1.heap.size + 1) x.1 x.2 u15 u16 u17 u18 u19 u20 ∧
        TextJ W (.slice A n c) (.int .i64 130) (.bool true) (.slice B m d) w.heap.size w1.heap.size (w1.heap.size + 1) x.1 x.2 y w.heap.size v (.slice none 0 0) (XS.length + 1) (XS.map enc32 ++ [enc32 y]) S u15 u16 u17 u18 u19 u20 w') (by kernel_rfl) ?_ ?_ ?_
      case refine_1 =>
        exact ⟨_, _, _, _, _, _, rfl, ⟨fun h => h.elim, fun h => h.elim, fun h => h.elim, fun h => h.elim, fun _ h => h.elim, fun _ => (Below.refl _ W).drew, fun h => h.elim, fun h => h.elim⟩⟩
      case refine_2 =>
        rintro i o ho S a w2 ⟨u15, u16, u17, u18, u19, u20, rfl, hJ⟩ hnS hneeds hcl
        have hi6 := (Array.getElem?_eq_some_iff.1 ho).1
        rcases Nat.lt_or_ge i 7 with hi2 | hi2
        case inr => simp at hi6; omega
        have h5n : i < 6 → ¬ S 5 := by
          intro hlt h5
          have c5 := hcl 5 _ rfl h5
          have c4 := hcl 4 _ rfl (c5 4 (by kernel_rfl))
          have c3 := hcl 3 _ rfl (c4 3 (by kernel_rfl))
          obtain rfl | rfl | rfl | rfl | rfl | rfl : i = 0 ∨ i = 1 ∨ i = 2 ∨ i = 3 ∨ i = 4 ∨ i = 5 := by omega
          · exact hnS (c5 0 (by kernel_rfl))
          · exact hnS (c3 1 (by kernel_rfl))
          · exact hnS (c3 2 (by kernel_rfl))
          · exact hnS (c4 3 (by kernel_rfl))
          · exact hnS (c5 4 (by kernel_rfl))
          · exact hnS h5
        have h6n : i < 7 → ¬ S 6 := by
          intro hlt h6
          have c6 := hcl 6 _ rfl h6
          obtain rfl | rfl | rfl | rfl | rfl | rfl | rfl : i = 0 ∨ i = 1 ∨ i = 2 ∨ i = 3 ∨ i = 4 ∨ i = 5 ∨ i = 6 := by omega
          all_goals first | exact hnS h6 | exact hnS (c6 _ (by kernel_rfl))
        obtain rfl | rfl | rfl | rfl | rfl | rfl | rfl : i = 0 ∨ i = 1 ∨ i = 2 ∨ i = 3 ∨ i = 4 ∨ i = 5 ∨ i = 6 := by omega
        · cases ho
          rw [if_pos (show Region.wanted _ _ = true from rfl)]
          have h5 := h5n (by decide)
          have hb := hJ.b h5
          have hc := (Boxed.below HV.out hb).cell
          exact does_ok (v := v) (w' := w2) (by simp [go_sem, hc]) ⟨_, _, _, _, _, _, rfl, ⟨fun _ => rfl, fun h => hJ.s1 (h.resolve_left (by decide)), fun h => hJ.s2 (h.resolve_left (by decide)), fun h => hJ.s3 (h.resolve_left (by decide)), fun h h4 => hJ.s4 h5 (h4.resolve_left (by decide)), fun _ => hb, fun h => absurd (h.resolve_left (by decide)) h5, fun h => absurd (h.resolve_left (by decide)) (h6n (by decide))⟩⟩
        · cases ho
          rw [if_pos (show Region.wanted _ _ = true from rfl)]
          have h5 := h5n (by decide)
          have hb := hJ.b h5
          have hc := (Boxed.below HBX.out hb).cell
          exact does_ok (v := .slice none 0 0) (w' := w2) (by simp [go_sem, hc]) ⟨_, _, _, _, _, _, rfl, ⟨fun h => hJ.s0 (h.resolve_left (by decide)), fun _ => rfl, fun h => hJ.s2 (h.resolve_left (by decide)), fun h => hJ.s3 (h.resolve_left (by decide)), fun h h4 => hJ.s4 h5 (h4.resolve_left (by decide)), fun _ => hb, fun h => absurd (h.resolve_left (by decide)) h5, fun h => absurd (h.resolve_left (by decide)) (h6n (by decide))⟩⟩
        · cases ho
          rw [if_pos (show Region.wanted _ _ = true from rfl)]
          have h5 := h5n (by decide)
          have hb := hJ.b h5
          exact does_ok (v := .int .i32 x.2) (w' := w2) (by simp [go_sem]) ⟨_, _, _, _, _, _, rfl, ⟨fun h => hJ.s0 (h.resolve_left (by decide)), fun h => hJ.s1 (h.resolve_left (by decide)), fun _ => rfl, fun h => hJ.s3 (h.resolve_left (by decide)), fun h h4 => hJ.s4 h5 (h4.resolve_left (by decide)), fun _ => hb, fun h => absurd (h.resolve_left (by decide)) h5, fun h => absurd (h.resolve_left (by decide)) (h6n (by decide))⟩⟩
        · cases ho
          rw [if_pos (show Region.wanted _ _ = true from rfl)]
          have h5 := h5n (by decide)
          have hb := hJ.b h5
          obtain rfl := hJ.s1 (hneeds 1 (by kernel_rfl))
          obtain rfl := hJ.s2 (hneeds 2 (by kernel_rfl))
          refine does_enter (f := 31) (args := #[.slice none 0 0, .int .i32 x.2]) (w' := w2) (by simp [go_sem]) ?_
          refine (C.out w2 hb).mono ?_
          rintro e w3 ⟨rfl, hb3⟩
          exact ⟨_, rfl, ⟨_, _, _, _, _, _, rfl, ⟨fun h => hJ.s0 (h.resolve_left (by decide)), fun h => hJ.s1 (h.resolve_left (by decide)), fun h => hJ.s2 (h.resolve_left (by decide)), fun _ => rfl, fun h h4 => absurd (h4.resolve_left (by decide)) (fun h4 => hnS (hcl 4 _ rfl h4 3 (by kernel_rfl))), fun _ => hb.trans (hb3.mono hb.size), fun h => absurd (h.resolve_left (by decide)) h5, fun h => absurd (h.resolve_left (by decide)) (h6n (by decide))⟩⟩⟩
        · cases ho
          rw [if_pos (show Region.wanted _ _ = true from rfl)]
          have h5 := h5n (by decide)
          have hb := hJ.b h5
          obtain rfl := hJ.s3 (hneeds 3 (by kernel_rfl))
          exact does_ok (v := .slice (some ⟨w2.heap.size, 0, none⟩) 1 1) (w' := w2.alloc (.cells #[.int .i32 y] 21)) (by simp [go_sem, hi, hz0, hz1, hz2]) ⟨_, _, _, _, _, _, rfl, ⟨fun h => hJ.s0 (h.resolve_left (by decide)), fun h => hJ.s1 (h.resolve_left (by decide)), fun h => hJ.s2 (h.resolve_left (by decide)), fun h => hJ.s3 (h.resolve_left (by decide)), fun h h4 => ⟨_, rfl, hb.size, World.alloc_heap_new w2 _⟩, fun _ => hb.alloc hb.size _, fun h => absurd (h.resolve_left (by decide)) h5, fun h => absurd (h.resolve_left (by decide)) (h6n (by decide))⟩⟩
        · cases ho
          rw [if_pos (show Region.wanted _ _ = true from rfl)]
          have h5 := h5n (by decide)
          have hb := hJ.b h5
          obtain rfl := hJ.s0 (hneeds 0 (by kernel_rfl))
          obtain ⟨g, rfl, hg1, hg2⟩ := hJ.s4 h5 (hneeds 4 (by kernel_rfl))
          have hRd : Rd enc32 w2 (some ⟨g, 0, none⟩) 1 [y] := ⟨rfl, by decide, fun _ => ⟨_, rfl, fun j hj => by
            obtain rfl : j = 0 := by simpa using hj
            rw [add_lit0]
            simp [World.cell?, hg2]⟩⟩
          have hO : OwnL enc32 21 w2 w.heap.size u15 XS := by
            have := ownsRow_below HRow.out hb
            simpa [OwnL] using this
          obtain ⟨v1, w3, hr, hO2, hg3, _⟩ := run_append_rd (P := Try.prog) (c := 1) w.heap.size 50 50 21 (.int .i32 0) 4 Try.underlying50 info32 rfl (by decide) (fun _ => rfl) hO hRd (by omega) (Nat.le_trans HBw.out.size hb.size)
          have hO3 : w3.ownsRow w.heap.size 21 1 v1 (XS.length + 1) (XS.map enc32 ++ [enc32 y]) := by
            have := hO2
            unfold OwnL at this
            simpa using this
          have hA : TextApp W w3 w.heap.size w.heap.size w1.heap.size u15 (.slice none 0 0) v1 (XS.length + 1) (XS.map enc32 ++ [enc32 y]) := textApp hb (Boxed.below HV.out hb) (Boxed.below HBX.out hb) (ownsRow_below HRow.out hb) HBw.out.size (by omega) (by omega) hO3 hg3
          have hr' : ∀ pos af, (execOp (TextFr (.slice A n c) (.int .i64 130) (.bool true) (.slice B m d) w.heap.size w1.heap.size (w1.heap.size + 1) x.1 x.2 u15 u16 u17 u18 (.slice (some ⟨g, 0, none⟩) 1 1) u20).eval ⟨some 20, .call { callee := .builtin .append, args := #[.tmp 15, .tmp 19], argTypes := #[50, 50] }, 50, pos, af, none⟩).run Try.prog w2 = .ok (.value v1) w3 := by
            intro pos af
            simp only [execOp, resolve, invoke, builtin, Sem.run_bind, Sem.run_pure, Result.andThen_ok, List.map_toArray, List.map_cons, List.map_nil]
            simp [Act.eval, Array.getD, hr]
          refine does_ok (v := v1) (w' := w3) (hr' _ _) ⟨_, _, _, _, _, _, rfl, ⟨fun h => hJ.s0 (h.resolve_left (by decide)), fun h => hJ.s1 (h.resolve_left (by decide)), fun h => hJ.s2 (h.resolve_left (by decide)), fun h => hJ.s3 (h.resolve_left (by decide)), fun h => absurd (.inl rfl) h, fun h => absurd (.inl rfl) h, fun _ _ => hA, fun h => absurd (h.resolve_left (by decide)) (h6n (by decide))⟩⟩
        · cases ho
          rw [if_pos (show Region.wanted _ _ = true from rfl)]
          have hA := hJ.s5 (hneeds 5 (by kernel_rfl)) (h6n (by decide))
          have hc := hA.box.cell
          have hf := hA.box.frozen
          obtain ⟨g', cap', rfl⟩ := hA.sh
          have hE : TextEnd W (w2.setCell ⟨w1.heap.size, 0, none⟩ (.slice (some ⟨g', 0, none⟩) (XS.length + 1) cap')) w.heap.size w.heap.size w1.heap.size (.slice none 0 0) (XS.length + 1) (XS.map enc32 ++ [enc32 y]) := ⟨⟨_, hA.out, hA.row⟩, hA.tab, hA.ks, hA.bl⟩
          exact does_skip (w' := w2.setCell ⟨w1.heap.size, 0, none⟩ (.slice (some ⟨g', 0, none⟩) (XS.length + 1) cap')) (by simp [go_sem, hc, hf]) ⟨_, _, _, _, _, _, rfl, ⟨fun h => hJ.s0 (h.resolve_left (by decide)), fun h => hJ.s1 (h.resolve_left (by decide)), fun h => hJ.s2 (h.resolve_left (by decide)), fun h => hJ.s3 (h.resolve_left (by decide)), fun h => absurd (.inr (hneeds 5 (by kernel_rfl))) h, fun h => absurd (.inr (hneeds 5 (by kernel_rfl))) h, fun _ h => absurd (.inl rfl) h, fun _ => hE⟩⟩
      case refine_3 =>
        rintro a w2 S ⟨u15, u16, u17, u18, u19, u20, rfl, hJ⟩ hS
        have hE := hJ.s6 (hS 6 (by decide))
        obtain ⟨u, hu1, hu2⟩ := hE.out
        have e1 : (pre ++ [x]).map (fun x => oneR (([] : List Fo)) (x.2 : Int)) = XS ++ [y] := by rw [HXS.out, HY.out]; simp
        refine ⟨hE.ks.from _, hE.ks.walks, ⟨⟨u, hu1, ?_, trivial⟩, hE.tab⟩, HBw.out.trans hE.bl⟩
        rw [e1]
        simpa using hu2
    case done2 =>
      rintro D ys W hD rfl ⟨⟨⟨v, hv, hrow, _⟩, hbx⟩, hB⟩ hK
      have hc := hv.cell
      have hr := run_runes hrow
      have HB := Lib.hid hB
      have e1 : encsL ((marksL l).map fun x => oneR (([] : List Fo)) (x.2 : Int)) = T := by
        rw [HTx.out]
        unfold textL rnsL
        rw [eff_no HOk.out, List.map_map]
        rfl
      rw [e1] at hr
      clear e1 hrow hbx hv hB
      gi_wp2
      refine ⟨by simp, .inl ⟨_, _, rfl, run_takeDeferred hK, ?_⟩⟩
      exact ⟨_, results_tmp rfl _ _ _, rfl, HB.out.trans (belowK_b (w := w) (Nat.le_refl _) W D _ _ (by omega) hK rfl rfl)⟩
    case stop2 =>
      rintro D c pre W _ _ h _
      exact h.elim
end Go.Proofs.Ytlbphgbhkbgknaa
