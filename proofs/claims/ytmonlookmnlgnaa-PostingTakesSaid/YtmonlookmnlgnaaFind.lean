/- A document's posting: the program's. -/
import Derived.Test.YtmonlookmnlgnaaAllIter
import Derived.Test.YtmonlookmnlgnaaColl
import Derived.Scope
import Derived.WalkMore
namespace Go.Proofs.Ytmonlookmnlgnaa
open Go.RowKit Go.Shelf
set_option linter.unusedVariables false
set_option linter.unusedSimpArgs false
attribute [local go_sem] Oper.semAt_some

theorem wpIn_scope_wide {n : Nat} {P : Program} {c : Code} {Q : Exit → Act → World → Prop} {a : Act} {w : World} (h : c.wpIn Fence.wide n P (Exit.noGoto Q) a w) : (Code.scope c).wpIn Fence.wide n P Q a w :=
  wpIn_wide.2 (wp_scope_straight (wpIn_wide.1 h))
set_option maxHeartbeats 1000000 in
theorem All_any (A : Option Addr) (n c : Nat) (prev : Int) (w : World) : Calls Try.prog 16 #[.slice A n c, .int .u32 prev] w fun e w' =>
    e = .returned (.func (.func 33) #[] #[.pointer (some ⟨w.heap.size + 1, 0, none⟩), .pointer (some ⟨w.heap.size, 0, none⟩)]) ∧ w' = (w.alloc (.cells #[.slice A n c] 23)).alloc (.cells #[.int .u32 prev] 29) := by
  go_enter Try.func16, Try.ntmps16
  go_wp2
  go_ret
  simp [World.size_alloc]

theorem boxed_below {w w' : World} {B : Nat} {t : TypeId} {v : Value} (h : Boxed w B t v) (hb : Below w.heap.size w w') : Boxed w' B t v := (hb.block B h.lt).trans h
/-- A document's posting among those that rise. -/
def fndP : List (Nat × Po) → Nat → Po × Bool
  | [], _ => ((0, []), false)
  | x :: r, d => if d ≤ x.2.1 then (if x.2.1 = d then (x.2, true) else ((0, []), false)) else fndP r d
theorem fndP_none : ∀ (l : List (Nat × Po)) (d : Nat), (∀ x ∈ l, x.2.1 < d) → fndP l d = ((0, []), false)
  | [], _, _ => rfl
  | x :: r, d, h => by
    unfold fndP
    rw [if_neg (by have := h x List.mem_cons_self; omega)]
    exact fndP_none r d fun y hy => h y (List.mem_cons_of_mem _ hy)
theorem fndP_at (l r : List (Nat × Po)) (x : Nat × Po) (d : Nat) (h : ∀ y ∈ l, y.2.1 < d) (hx : d ≤ x.2.1) : fndP (l ++ x :: r) d = if x.2.1 = d then (x.2, true) else ((0, []), false) := by
  induction l with
  | nil => simp only [List.nil_append]; unfold fndP; rw [if_pos hx]
  | cons y l ih =>
    simp only [List.cons_append]
    unfold fndP
    rw [if_neg (by have := h y List.mem_cons_self; omega)]
    exact ih fun z hz => h z (List.mem_cons_of_mem _ hz)
def FindE (R : Po × Bool) (w : World) (e : Ending) (w' : World) : Prop := ∃ v, e = .returned (.tuple #[.agg #[.int .u32 (R.1.1 : Nat), v], .bool R.2]) ∧ OwnL encI 3 w' w.heap.size v R.1.2 ∧ Below w.heap.size w w'

/-- While nothing is found. -/
def FdI (w : World) (doc : Nat) (pre : List El) (W : World) : Prop :=
  (∀ x ∈ pre.map mA, x.2.1 < doc) ∧ Below w.heap.size w W ∧ Boxed W w.heap.size 29 (.int .u32 (doc : Nat)) ∧ Box2 W (w.heap.size + 1) 32 (.int .u32 0) (.slice none 0 0) ∧
  Box2 W (w.heap.size + 2) 32 (.int .u32 0) (.slice none 0 0) ∧ Boxed W (w.heap.size + 3) 4 (.bool false)
/-- What was found. -/
def FdX (w : World) (doc : Nat) (c : Code) (pre : List El) (W : World) : Prop := c = .exit 0 ∧ ∃ (p : Po) (is : Bool) (v : Value), (∀ L, pre.map mA <+: L → fndP L doc = (p, is)) ∧ Below w.heap.size w W ∧
  Box2 W (w.heap.size + 1) 32 (.int .u32 0) (.slice none 0 0) ∧
  Box2 W (w.heap.size + 2) 32 (.int .u32 (p.1 : Nat)) v ∧ Boxed W (w.heap.size + 3) 4 (.bool is) ∧ OwnL encI 3 W w.heap.size v p.2
theorem fdI_own (w : World) (doc D : Nat) (h : w.heap.size ≤ D) : OwnFrom D (FdI w doc) := by
  rintro s A B row ⟨h0, h1, h2, h3, h4, h5⟩ hg hr
  have hr2 : ∀ r, row = some r → ∃ o : Obj, A.heap[r]? = some o ∧ o.isCells = false := fun r e => (hr r e).2
  exact ⟨h0, h1.grown hg (by have := h1.size; omega) (fun r e => Nat.le_trans h (hr r e).1), Boxed.from' h2 hg hr2, h3.from' hg hr2, h4.from' hg hr2, Boxed.from' h5 hg hr2⟩
theorem fdX_own (w : World) (doc D : Nat) (h : w.heap.size ≤ D) (c : Code) : OwnFrom D (FdX w doc c) := by
  rintro s A B row ⟨hc, p, is, v, h0, h1, h2, h3, h4, h5⟩ hg hr
  have hr2 : ∀ r, row = some r → ∃ o : Obj, A.heap[r]? = some o ∧ o.isCells = false := fun r e => (hr r e).2
  exact ⟨hc, p, is, v, h0, h1.grown hg (by have := h1.size; omega) (fun r e => Nat.le_trans h (hr r e).1), h2.from' hg hr2, h3.from' hg hr2, Boxed.from' h4 hg hr2, ownsRow_from h5 hg hr2⟩
theorem kpA_put (w1 : World) (c2 : Nat) (W : World) (l : Nat) (o o' : Obj) (hl : w1.heap.size ≤ l) (h : W.heap[l]? = some o) (ho : o.isCells = false) : KpA w1 c2 W (W.putObj l o') := by
  have hp := (Later.put (o' := o') h ho)
  refine ⟨(Below.refl _ _).grown (grownBy_putObj' W l o') ?_ (fun r e => by cases e; exact hl), fun o h1 h2 => hp.2 _ _ h1 h2⟩
  have := (Array.getElem?_eq_some_iff.1 h).1
  omega
theorem kpA_trans {w1 : World} {c2 : Nat} {A B C : World} (h : KpA w1 c2 A B) (k : KpA w1 c2 B C) : KpA w1 c2 A C := ⟨h.1.trans k.1, fun o h1 h2 => k.2 o (h.2 o h1 h2) h2⟩

abbrev FdFr (s : Nat) (A : Option Addr) (m c : Nat) (doc g : Nat) (x : El) : Act :=
  { tmps := #[.slice A m c, .int .u32 (doc : Nat), undef, .pointer (some ⟨s, 0, none⟩), .pointer (some ⟨s + 1, 0, none⟩), .bool false, .pointer (some ⟨s + 1 + 1, 0, none⟩), .pointer (some ⟨s + 1 + 1 + 1, 0, none⟩), undef, .pointer (some ⟨g, 0, none⟩), .slice A m c,
      .func (.func 33) #[] #[.pointer (some ⟨s + 4 + 1, 0, none⟩), .pointer (some ⟨s + 4, 0, none⟩)], .int .i64 (x.1 : Nat), .agg #[.int .u32 (x.2.1.1 : Nat), slE x], undef, undef, undef, undef, undef, undef, undef, undef, undef, undef, undef, undef], defers := [] }
def FdA (w : World) (A : Option Addr) (m c : Nat) (b : List Nat) (doc : Nat) (pre : List El) (x : El) (a' : Act) (W : World) : Prop := ∃ g, a' = FdFr w.heap.size A m c doc g x ∧ Box2 W g 32 (.int .u32 (x.2.1.1 : Nat)) (slE x) ∧ (pre.map mA ++ [mA x]) <+: allL b 0 ∧ OwnL encI 3 W w.heap.size (slE x) x.2.1.2
theorem fdA_own (w : World) (A : Option Addr) (m c : Nat) (b : List Nat) (doc D : Nat) (pre : List El) (x : El) (a' : Act) : OwnFrom D (fun (_ : Unit) W => FdA w A m c b doc pre x a' W) := by
  rintro s X Y row ⟨g, e, h1, h2, h3⟩ hg hr
  have hr2 : ∀ r, row = some r → ∃ o : Obj, X.heap[r]? = some o ∧ o.isCells = false := fun r e => (hr r e).2
  exact ⟨g, e, h1.from' hg hr2, h2, ownsRow_from h3 hg hr2⟩
theorem grownBy_setCellO (W : World) (b o : Nat) (v : Value) : W.grownBy (W.setCell ⟨b, o, none⟩ v) (some b) :=
  ⟨rfl, rfl, rfl, (KeepsWalks.setCell W _ v).size, fun k _ hk => Below.heap_setCell _ _ _ k (fun e => hk (by rw [e]))⟩
theorem Box2.not_row {W : World} {B : Nat} {t e : TypeId} {x y : Value} (h : Box2 W B t x y) (hte : t ≠ e) {base size k : Nat} {v : Value} {xs : List Value} (hr : W.ownsRow base e size v k xs) : some B ≠ v.ownBlock := by
  rcases hr.2 with ⟨rfl, _⟩ | ⟨g, cap, cur, rfl, _, hgb, _⟩
  · simp [Value.ownBlock]
  · intro e'
    obtain rfl : B = g := by simpa [Value.ownBlock] using e'
    have := (show W.heap[B]? = _ from h).symm.trans hgb
    simp at this
    exact hte this.2
theorem Box2.ne {W : World} {g B : Nat} {t t' : TypeId} {x y v : Value} (h : Box2 W g t x y) (h' : Boxed W B t' v) (hne : t ≠ t') : g ≠ B := by
  rintro rfl
  have := (show W.heap[g]? = _ from h).symm.trans h'
  simp at this

/-- As the answer is laid. -/
structure FnJ (w : World) (D p : Nat) (v : Value) (is : Bool) (xs : List Int) (S : Nat → Prop) (wr : World) : Prop where
  f : Box2 wr (w.heap.size + 1 + 1) 32 (.int .u32 (p : Nat)) v
  i : Boxed wr (w.heap.size + 1 + 1 + 1) 4 (.bool is)
  o : OwnL encI 3 wr w.heap.size v xs
  b : Below w.heap.size w wr
  k : wr.heap[D]? = some (.deferred (some []))
  y : S 2 → Box2 wr (w.heap.size + 1) 32 (.int .u32 (p : Nat)) v
  n : ¬ S 2 → Box2 wr (w.heap.size + 1) 32 (.int .u32 0) (.slice none 0 0)
theorem FnJ.next {w wr : World} {D p : Nat} {v : Value} {is : Bool} {xs : List Int} {S : Nat → Prop} (h : FnJ w D p v is xs S wr) {i : Nat} (hi : i ≠ 2) : FnJ w D p v is xs (fun k => k = i ∨ S k) wr :=
  ⟨h.f, h.i, h.o, h.b, h.k, fun hs => h.y (hs.resolve_left (Ne.symm hi)), fun hs => h.n fun h6 => hs (.inr h6)⟩
theorem FnJ.store {w wr : World} {D p : Nat} {v : Value} {is : Bool} {xs : List Int} {S : Nat → Prop} (h : FnJ w D p v is xs S wr) (hn : ¬ S 2) :
    FnJ w D p v is xs (fun k => k = 2 ∨ S k) ((wr.setCell ⟨w.heap.size + 1, 0, none⟩ (.int .u32 (p : Nat))).setCell ⟨w.heap.size + 1, 1, none⟩ v) := by
  have g1 := grownBy_setCellO wr (w.heap.size + 1) 0 (.int .u32 (p : Nat))
  have g2 := grownBy_setCellO (wr.setCell ⟨w.heap.size + 1, 0, none⟩ (.int .u32 (p : Nat))) (w.heap.size + 1) 1 v
  have g := g1.trans g2
  have hb := h.n hn
  refine ⟨h.f.kept g (by simp), h.i.kept g (by intro e; injection e; omega), World.ownsRow.kept h.o g (.inr (Box2.not_row hb (by decide) h.o).symm), h.b.grown g h.b.size (fun k hk => by cases hk; omega), ?_, fun _ => (hb.set0 _).set1 _, fun hs => absurd (.inl rfl) hs⟩
  refine (g.block D (Array.getElem?_eq_some_iff.1 h.k).1 ?_).trans h.k
  intro e
  cases e
  have := h.k.symm.trans hb
  cases this
def FndF (w : World) (d : Nat) (u : Value) (is : Bool) : Nat → Value → World → Prop
  | 0 => fun v w => v = .agg #[.int .u32 (d : Nat), u]
  | 1 => fun v w => v = .bool is
  | 2 => fun v w => v = undef
  | 3 => fun v w => v = .bool is
  | _ => fun _ _ => True
theorem FndF.below (w : World) (d : Nat) (u : Value) (is : Bool) : ∀ i v w w', Below w.heap.size w w' → FndF w d u is i v w → FndF w d u is i v w'
  | 0, _, _, _, _, h => h
  | 1, _, _, _, _, h => h
  | 2, _, _, _, _, h => h
  | 3, _, _, _, _, h => h
  | _ + 4, _, _, _, _, _ => trivial
theorem FndF.keep (w₀ : World) (d : Nat) (u : Value) (is : Bool) : ∀ i v w w', True → FndF w₀ d u is i v w → FndF w₀ d u is i v w'
  | 0, _, _, _, _, h => h
  | 1, _, _, _, _, h => h
  | 2, _, _, _, _, h => h
  | 3, _, _, _, _, h => h
  | _ + 4, _, _, _, _, _ => trivial
set_option maxRecDepth 100000 in
set_option maxHeartbeats 4000000 in
theorem Find_any (A : Option Addr) (m c : Nat) (b : List Nat) (doc : Nat) (w : World) (hl : RdB w A m b) (hc : m ≤ c) (hc2 : c ≤ 9223372036854775807) (hm : m ≤ 1000000000) (hd : doc ≤ 4294967295) :
    Calls Try.prog 17 #[.slice A m c, .int .u32 (doc : Nat)] w (FindE (fndP (allL b 0) doc) w) := by
  have HL := Lib.hid hl
  clear hl
  have h10 : 1 ≤ 10 := by omega
  refine (callsIn_wide (n := 10)).1 ?_
  refine callsIn_of_wp_marks Try.func17 rfl trivial ?_ rfl
  simp only [Try.ntmps17, List.size_toArray, List.length_cons, List.length_nil, Nat.reduceAdd, Nat.reduceSub, Array.replicate_succ, Array.replicate_zero, List.push_toArray, List.append_toArray, List.nil_append, List.cons_append]
  gi_wp2_with fail
  refine wpIn_scope_wide ?_
  gi_wp2_with fail
  refine wpIn_label ?_
  obtain ⟨W1, hW1⟩ : ∃ W1, W1 = (((w.alloc (.cells #[.int .u32 (doc : Nat)] 29)).alloc (.cells #[.int .u32 0, .slice none 0 0] 32)).alloc (.cells #[.int .u32 0, .slice none 0 0] 32)).alloc (.cells #[.bool false] 4) := ⟨_, rfl⟩
  have hI1 : FdI w doc [] W1 := by
    have b1 := Boxed.new w 29 (.int .u32 (doc : Nat))
    have b2 := Box2.new (w.alloc (.cells #[.int .u32 (doc : Nat)] 29)) 32 (.int .u32 0) (.slice none 0 0)
    have b3 := Box2.new ((w.alloc (.cells #[.int .u32 (doc : Nat)] 29)).alloc (.cells #[.int .u32 0, .slice none 0 0] 32)) 32 (.int .u32 0) (.slice none 0 0)
    have b4 := Boxed.new (((w.alloc (.cells #[.int .u32 (doc : Nat)] 29)).alloc (.cells #[.int .u32 0, .slice none 0 0] 32)).alloc (.cells #[.int .u32 0, .slice none 0 0] 32)) 4 (.bool false)
    simp only [World.size_alloc] at b1 b2 b3 b4
    rw [hW1]
    exact ⟨by simp, ((((Below.refl _ _).alloc (Nat.le_refl _) _).alloc (by simp) _).alloc (by simp; omega) _).alloc (by simp; omega) _, ((b1.alloc _).alloc _).alloc _, (b2.kept (World.grownBy_alloc _ _ none) (by simp)).kept (World.grownBy_alloc _ _ none) (by simp), b3.kept (World.grownBy_alloc _ _ none) (by simp), b4⟩
  have hsz1 : W1.heap.size = w.heap.size + 4 := by rw [hW1]; simp
  rw [← hW1]
  have HI1 := Lib.hid hI1
  have HS1 := Lib.hid hsz1
  clear hI1 hsz1 hW1
  gi_wp2_with fail
  refine ⟨trivial, (callsIn_wide.2 (All_any A m c 0 W1)).mono ?_⟩
  rintro e W2 ⟨rfl, hW2⟩
  have h5 := Boxed.new W1 23 (.slice A m c)
  have h6 := Boxed.new (W1.alloc (.cells #[.slice A m c] 23)) 29 (.int .u32 0)
  have h5' := h5.alloc (.cells #[.int .u32 0] 29)
  rw [← hW2] at h5' h6
  have hB2 : Below W1.heap.size W1 W2 := by rw [hW2]; exact ((Below.refl _ _).alloc (Nat.le_refl _) _).alloc (by simp) _
  have hI2 : FdI w doc [] W2 := by
    obtain ⟨i0, i1, i2, i3, i4, i5⟩ := HI1.out
    exact ⟨i0, Below.thn i1 hB2, boxed_below i2 hB2, i3.below hB2, i4.below hB2, boxed_below i5 hB2⟩
  have hB5 : Below w.heap.size w W2 := hI2.2.1
  simp only [World.size_alloc] at h6
  have hsz2 : w.heap.size + 6 = W2.heap.size := by rw [hW2]; have := HS1.out; simp; omega
  rw [HS1.out] at h5' h6 ⊢
  clear h5 hB2 hW2 HI1 HS1
  gi_wp2_with fail
  clear hB5
  refine wpIn_range_R (n := 10) rfl h10 (gf := 33) (lb := #[.pointer (some ⟨w.heap.size + 4 + 1, 0, none⟩), .pointer (some ⟨w.heap.size + 4, 0, none⟩)]) rfl trivial (enters_of Try.func33 (by kernel_rfl) rfl)
    (all_stops 9 (w.heap.size + 4 + 1) (w.heap.size + 4) (by omega) A m c b 0 w W2 HL.out hc hc2 hm hI2.2.1 (by decide) h6.cell h5')
    kpA_trans (fun W l o o' hl h ho hw => kpA_put w _ W l o o' (by omega) h ho) (Below.refl _ _) (fun _ => rfl)
    (FdI w doc) (FdX w doc) (fdI_own w doc _ (by omega)) (fun c => fdX_own w doc _ (by omega) c) hI2
    (fun pre B W => w.heap.size + 3 < B) (fun pre W h => h.2.2.2.2.2.lt) (fun _ _ _ _ h _ => h)
    (fun _ => FdA w A m c b doc) (fun _ pre x a' => fdA_own w A m c b doc _ pre x a') ?assign ?body ?done ?stop
  case assign =>
    intro L B0 pre x W K hI hR hK
    have HI := Lib.hid hI
    have HR := Lib.hid hR
    have HK := Lib.hid hK
    clear hI hR hK hI2 h5' h6
    gi_wp2
    have hbA : Below W.heap.size W (W.alloc (.cells #[.int .u32 (x.2.1.1 : Nat), slE x] 32)) := (Below.refl _ _).alloc (Nat.le_refl _) _
    obtain ⟨i0, i1, i2, i3, i4, i5⟩ := HI.out
    exact HK.out _ _ ((KeepsOthers.alloc W _).from _) ⟨hbA.mono i1.size, fun o h1 _ => (hbA.block _ (Array.getElem?_eq_some_iff.1 h1).1).trans h1⟩ (Later.below hbA)
      ⟨i0, Below.thn i1 hbA, boxed_below i2 hbA, i3.below hbA, i4.below hbA, boxed_below i5 hbA⟩ ⟨W.heap.size, rfl, Box2.new _ _ _ _, HR.out.1, (HR.out.2.1.below hbA).mono (by omega)⟩
  case body =>
    rintro L pre x a' W B hI ⟨g, rfl, hg, hpf, ho⟩ hM
    obtain ⟨i0, i1, i2, i3, i4, i5⟩ := hI
    have c2 := i2.cell
    have c5 := i5.cell
    have f5 := i5.frozen
    obtain ⟨g0, g1, g2, g3⟩ := hg.facts
    obtain ⟨k0, k1, k2, k3⟩ := i4.facts
    have HI := Lib.hid i0
    have HI1 := Lib.hid i1
    have HI3 := Lib.hid i3
    have HI4 := Lib.hid i4
    have HI5 := Lib.hid i5
    have HI2 := Lib.hid i2
    have HG := Lib.hid hg
    have HPf := Lib.hid hpf
    have HO := Lib.hid ho
    have HM := Lib.hid hM
    clear i0 i1 i2 i3 i4 i5 hg hpf ho hI2 h5' h6 hM
    obtain ⟨en, ⟨d, xs⟩, A5, n5, c5'⟩ := x
    simp only [slE] at g1
    by_cases hlt : (doc : Int) ≤ (d : Int)
    · have hnb : g ≠ w.heap.size + 1 + 1 + 1 := HG.out.ne HI5.out (by decide)
      have HBl : ∀ v, Hid (Box2 (W.setCell ⟨w.heap.size + 1 + 1 + 1, 0, none⟩ v) g 32 (.int .u32 (d : Nat)) (.slice A5 n5 c5')) := fun v => Lib.hid (HG.out.kept (grownBy_setCell' W _ v) (by simpa using hnb))
      have HBf : ∀ v, Hid (Box2 (W.setCell ⟨w.heap.size + 1 + 1 + 1, 0, none⟩ v) (w.heap.size + 1 + 1) 32 (.int .u32 0) (.slice none 0 0)) := fun v => Lib.hid (HI4.out.kept (grownBy_setCell' W _ v) (by simp))
      have HBr : ∀ v, Hid (Box2 (W.setCell ⟨w.heap.size + 1 + 1 + 1, 0, none⟩ v) (w.heap.size + 1) 32 (.int .u32 0) (.slice none 0 0)) := fun v => Lib.hid (HI3.out.kept (grownBy_setCell' W _ v) (by simp))
      have HBi : ∀ v, Hid (Boxed (W.setCell ⟨w.heap.size + 1 + 1 + 1, 0, none⟩ v) (w.heap.size + 1 + 1 + 1) 4 v) := fun v => Lib.hid (HI5.out.set v)
      have HBo : ∀ v, Hid (OwnL encI 3 (W.setCell ⟨w.heap.size + 1 + 1 + 1, 0, none⟩ v) w.heap.size (.slice A5 n5 c5') xs) := fun v => Lib.hid (World.ownsRow.kept HO.out (grownBy_setCell' W _ v) (.inr (HI5.out.not_row (by decide) HO.out).symm))
      have HBb : ∀ v, Hid (Below w.heap.size w (W.setCell ⟨w.heap.size + 1 + 1 + 1, 0, none⟩ v) ∧ KeepsFrom W2.heap.size W (W.setCell ⟨w.heap.size + 1 + 1 + 1, 0, none⟩ v)) := fun v => Lib.hid ⟨HI1.out.setCell (p := ⟨w.heap.size + 1 + 1 + 1, 0, none⟩) (by simp; omega) v, (KeepsOthers.setCell _ _ _).from _⟩
      have HFn : Hid (∀ Ls, pre.map mA ++ [(en, (d, xs))] <+: Ls → fndP Ls doc = if d = doc then ((d, xs), true) else ((0, []), false)) := Lib.hid (by
        rintro Ls ⟨r, rfl⟩
        rw [List.append_assoc, List.singleton_append]
        exact fndP_at _ _ _ _ HI.out (by simp only; omega))
      by_cases hq : d = doc
      · subst hq
        obtain ⟨q0, q1, q2, q3⟩ := (HBl (.bool true)).out.facts
        obtain ⟨r0, r1, r2, r3⟩ := (HBf (.bool true)).out.facts
        clear g2 g3 k0 k1 k2 k3
        gi_wp2
        have hs0 := (HBf (.bool true)).out.set0 (.int .u32 (d : Nat))
        have hs1 := hs0.set1 (.slice A5 n5 c5')
        have gA := grownBy_setCellO (W.setCell ⟨w.heap.size + 1 + 1 + 1, 0, none⟩ (.bool true)) (w.heap.size + 1 + 1) 0 (.int .u32 (d : Nat))
        have gB := grownBy_setCellO ((W.setCell ⟨w.heap.size + 1 + 1 + 1, 0, none⟩ (.bool true)).setCell ⟨w.heap.size + 1 + 1, 0, none⟩ (.int .u32 (d : Nat))) (w.heap.size + 1 + 1) 1 (.slice A5 n5 c5')
        have hnr : some (w.heap.size + 1 + 1) ≠ (Value.slice A5 n5 c5').ownBlock := Box2.not_row (HBf (.bool true)).out (by decide) (HBo (.bool true)).out
        refine ⟨((HBb (.bool true)).out.2.trans ((KeepsOthers.setCell _ _ _).from _)).trans ((KeepsOthers.setCell _ _ _).from _), rfl, (d, xs), true, _, ?_, ((HBb (.bool true)).out.1.setCell (p := ⟨w.heap.size + 1 + 1, 0, none⟩) (by simp; omega) _).setCell (p := ⟨w.heap.size + 1 + 1, 1, none⟩) (by simp; omega) _,
          ((HBr (.bool true)).out.kept gA (by simp)).kept gB (by simp), hs1, ((HBi (.bool true)).out.kept gA (by simp)).kept gB (by simp), (World.ownsRow.kept ((HBo (.bool true)).out) gA (.inr hnr.symm)).kept gB (.inr hnr.symm)⟩
        intro Ls hL
        have := HFn.out Ls (by simpa [mA] using hL)
        simpa using this
      · gi_wp2
        refine ⟨(HBb (.bool false)).out.2, rfl, (0, []), false, _, ?_, (HBb (.bool false)).out.1, (HBr (.bool false)).out, (HBf (.bool false)).out, (HBi (.bool false)).out, World.ownsRow_nil _ _ _ _⟩
        intro Ls hL
        have := HFn.out Ls (by simpa [mA] using hL)
        rw [if_neg hq] at this
        exact this
    · gi_wp2
      refine ⟨KeepsFrom.refl _ _, ⟨Below.refl _ _, fun o h1 _ => h1⟩, Mid.refl _ _, ?_⟩
      refine ⟨?_, HI1.out, HI2.out, HI3.out, HI4.out, HI5.out⟩
      intro y hy
      rw [List.map_append, List.mem_append] at hy
      rcases hy with hy | hy
      · exact HI.out y hy
      · simp [mA] at hy
        rw [hy]
        simp only
        omega
  case done =>
    rintro D ys W hD hS ⟨i0, i1, i2, i3, i4, i5⟩ hK
    obtain ⟨p, is, v, hfd, h1, h2, h3, h4, h5⟩ : ∃ (p : Po) (is : Bool) (v : Value), fndP (allL b 0) doc = (p, is) ∧ Below w.heap.size w W ∧ Box2 W (w.heap.size + 1) 32 (.int .u32 0) (.slice none 0 0) ∧
      Box2 W (w.heap.size + 2) 32 (.int .u32 (p.1 : Nat)) v ∧ Boxed W (w.heap.size + 3) 4 (.bool is) ∧ OwnL encI 3 W w.heap.size v p.2 :=
      ⟨(0, []), false, .slice none 0 0, by rw [← hS]; exact fndP_none _ _ i0, i1, i3, i4, i5, World.ownsRow_nil _ _ _ _⟩
    clear i0 i1 i2 i3 i4 i5 hS
    rw [hfd]
    have HK := Lib.hid hK
    have H1 := Lib.hid h1
    have H2 := Lib.hid h2
    have H3 := Lib.hid h3
    have H4 := Lib.hid h4
    have H5 := Lib.hid h5
    clear h1 h2 h3 h4 h5 hK hI2 h5' h6
    obtain ⟨d, xs⟩ := p
    obtain ⟨A5, c5', hv, hl5, _⟩ := H5.out.rd
    simp only at hv hl5
    obtain ⟨u, hu⟩ : ∃ u, u = v := ⟨_, rfl⟩
    rw [← hu] at hv H3 H5
    clear hu
    have HE : Hid (OwnL encI 3 W w.heap.size u xs) := H5
    clear H5
    gi_wp2
    refine wpIn_wide.2 ?_
    refine wp_region_flowJ (by kernel_rfl) (FndF w d u is) (fun _ _ => True) (FnJ w D d u is xs) (FndF.keep w d u is) ?_ (by kernel_rfl) (by kernel_rfl) ?_ ?_
    case refine_1 =>
      exact ⟨(H3.out.below (Below.drewN W 1)), boxed_below H4.out (Below.drewN W 1), HE.out.below (Below.drewN W 1), Below.thn H1.out (Below.drewN W 1), ((Below.drewN W 1).block D (Array.getElem?_eq_some_iff.1 HK.out).1).trans HK.out, fun h => h.elim, fun _ => H2.out.below (Below.drewN W 1)⟩
    case refine_2 =>
          intro i o ho ρ y w2 S hJ hnS hneeds hcl hreg hn hf hyb hyn
          have hi := (Array.getElem?_eq_some_iff.1 ho).1
          rcases Nat.lt_or_ge i 4 with hi2 | hi2
          case inr => simp at hi; omega
          obtain rfl | rfl | rfl | rfl : i = 0 ∨ i = 1 ∨ i = 2 ∨ i = 3 := by omega
          · cases ho
            rw [if_pos (show Region.wanted _ y = true from rfl)]
            have f6 : ρ (.tmp 6) = .pointer (some ⟨w.heap.size + 1 + 1, 0, none⟩) := hf 6 (by kernel_rfl)
            obtain ⟨b1, b2, _, _⟩ := hJ.f.facts
            exact does_ok (v := .agg #[.int .u32 (d : Nat), u]) (w' := w2) (by simp [go_sem, hreg.const, f6, b1, b2]) ⟨rfl, trivial, hJ.next (by decide)⟩
          · cases ho
            rw [if_pos (show Region.wanted _ y = true from rfl)]
            have f7 : ρ (.tmp 7) = .pointer (some ⟨w.heap.size + 1 + 1 + 1, 0, none⟩) := hf 7 (by kernel_rfl)
            have b1 := hJ.i.cell
            exact does_ok (v := .bool is) (w' := w2) (by simp [go_sem, hreg.const, f7, b1]) ⟨rfl, trivial, hJ.next (by decide)⟩
          · cases ho
            rw [if_pos (show Region.wanted _ y = true from rfl)]
            have f4 : ρ (.tmp 4) = .pointer (some ⟨w.heap.size + 1, 0, none⟩) := hf 4 (by kernel_rfl)
            have f24 : ρ (.tmp 24) = .agg #[.int .u32 (d : Nat), u] := hn 0 _ 24 rfl (by kernel_rfl) rfl
            obtain ⟨b1, b2, b3, b4⟩ := (hJ.n hnS).facts
            exact does_skip (w' := (w2.setCell ⟨w.heap.size + 1, 0, none⟩ (.int .u32 (d : Nat))).setCell ⟨w.heap.size + 1, 1, none⟩ u) (by subst hv; simp [go_sem, f4, f24, b1, b2, b3, b4]) ⟨rfl, trivial, hJ.store hnS⟩
          · cases ho
            rw [if_pos (show Region.wanted _ y = true from rfl)]
            have f25 : ρ (.tmp 25) = .bool is := hn 1 _ 25 rfl (by kernel_rfl) rfl
            exact ⟨f25, trivial, hJ.next (by decide)⟩
    case refine_3 =>
      intro a w2 S hJ hall hd hs hfacts hrest
      have q5 : a.tmps.getD 5 undef = .bool is := hfacts 3 _ 5 rfl rfl
      have ha := frame_of hd hs hrest [5, 24, 25] (by kernel_rfl)
      simp only [q5, List.foldl, List.setIfInBounds_toArray, List.set_cons_succ, List.set_cons_zero] at ha
      clear q5 hd hs hfacts hrest
      generalize a.tmps.getD = gg at ha
      subst ha
      have hy := hJ.y (hall 2 (by decide))
      obtain ⟨z0, z1, z2, z3⟩ := hy.facts
      have HJ := Lib.hid hJ
      have HY := Lib.hid hy
      clear hy hJ hall
      gi_wp2
      refine ⟨by simp, .inl ⟨_, _, rfl, run_takeDeferred HJ.out.k, ?_⟩⟩
      have hy9 : Box2 (w2.putObj D (.deferred none)) (w.heap.size + 1) 32 (.int .u32 (d : Nat)) u := (Later.put HJ.out.k rfl).2 _ _ HY.out rfl
      obtain ⟨y0, y1, y2, y3⟩ := hy9.facts
      rw [hfd]
      exact ⟨.tuple #[.agg #[.int .u32 (d : Nat), u], .bool is], by simp [results, Try.results17, go_sem, y0, y1], u, rfl, ownsRow_putObj HJ.out.o _ HJ.out.k rfl, HJ.out.b.grown (grownBy_putObj' w2 D _) HJ.out.b.size (fun k hk => by cases hk; omega)⟩
  case stop =>
    rintro D cc pre W hD hSp ⟨rfl, p, is, v, h0, h1, h2, h3, h4, h5⟩ hK
    have hfd := h0 _ hSp
    clear h0 hSp
    rw [hfd]
    have HK := Lib.hid hK
    have H1 := Lib.hid h1
    have H2 := Lib.hid h2
    have H3 := Lib.hid h3
    have H4 := Lib.hid h4
    have H5 := Lib.hid h5
    clear h1 h2 h3 h4 h5 hK hI2 h5' h6
    obtain ⟨d, xs⟩ := p
    obtain ⟨A5, c5', hv, hl5, _⟩ := H5.out.rd
    simp only at hv hl5
    obtain ⟨u, hu⟩ : ∃ u, u = v := ⟨_, rfl⟩
    rw [← hu] at hv H3 H5
    clear hu
    have HE : Hid (OwnL encI 3 W w.heap.size u xs) := H5
    clear H5
    gi_wp2
    refine wpIn_wide.2 ?_
    refine wp_region_flowJ (by kernel_rfl) (FndF w d u is) (fun _ _ => True) (FnJ w D d u is xs) (FndF.keep w d u is) ?_ (by kernel_rfl) (by kernel_rfl) ?_ ?_
    case refine_1 =>
      exact ⟨(H3.out.below (Below.drewN W 1)), boxed_below H4.out (Below.drewN W 1), HE.out.below (Below.drewN W 1), Below.thn H1.out (Below.drewN W 1), ((Below.drewN W 1).block D (Array.getElem?_eq_some_iff.1 HK.out).1).trans HK.out, fun h => h.elim, fun _ => H2.out.below (Below.drewN W 1)⟩
    case refine_2 =>
          intro i o ho ρ y w2 S hJ hnS hneeds hcl hreg hn hf hyb hyn
          have hi := (Array.getElem?_eq_some_iff.1 ho).1
          rcases Nat.lt_or_ge i 4 with hi2 | hi2
          case inr => simp at hi; omega
          obtain rfl | rfl | rfl | rfl : i = 0 ∨ i = 1 ∨ i = 2 ∨ i = 3 := by omega
          · cases ho
            rw [if_pos (show Region.wanted _ y = true from rfl)]
            have f6 : ρ (.tmp 6) = .pointer (some ⟨w.heap.size + 1 + 1, 0, none⟩) := hf 6 (by kernel_rfl)
            obtain ⟨b1, b2, _, _⟩ := hJ.f.facts
            exact does_ok (v := .agg #[.int .u32 (d : Nat), u]) (w' := w2) (by simp [go_sem, hreg.const, f6, b1, b2]) ⟨rfl, trivial, hJ.next (by decide)⟩
          · cases ho
            rw [if_pos (show Region.wanted _ y = true from rfl)]
            have f7 : ρ (.tmp 7) = .pointer (some ⟨w.heap.size + 1 + 1 + 1, 0, none⟩) := hf 7 (by kernel_rfl)
            have b1 := hJ.i.cell
            exact does_ok (v := .bool is) (w' := w2) (by simp [go_sem, hreg.const, f7, b1]) ⟨rfl, trivial, hJ.next (by decide)⟩
          · cases ho
            rw [if_pos (show Region.wanted _ y = true from rfl)]
            have f4 : ρ (.tmp 4) = .pointer (some ⟨w.heap.size + 1, 0, none⟩) := hf 4 (by kernel_rfl)
            have f24 : ρ (.tmp 24) = .agg #[.int .u32 (d : Nat), u] := hn 0 _ 24 rfl (by kernel_rfl) rfl
            obtain ⟨b1, b2, b3, b4⟩ := (hJ.n hnS).facts
            exact does_skip (w' := (w2.setCell ⟨w.heap.size + 1, 0, none⟩ (.int .u32 (d : Nat))).setCell ⟨w.heap.size + 1, 1, none⟩ u) (by subst hv; simp [go_sem, f4, f24, b1, b2, b3, b4]) ⟨rfl, trivial, hJ.store hnS⟩
          · cases ho
            rw [if_pos (show Region.wanted _ y = true from rfl)]
            have f25 : ρ (.tmp 25) = .bool is := hn 1 _ 25 rfl (by kernel_rfl) rfl
            exact ⟨f25, trivial, hJ.next (by decide)⟩
    case refine_3 =>
      intro a w2 S hJ hall hd hs hfacts hrest
      have q5 : a.tmps.getD 5 undef = .bool is := hfacts 3 _ 5 rfl rfl
      have ha := frame_of hd hs hrest [5, 24, 25] (by kernel_rfl)
      simp only [q5, List.foldl, List.setIfInBounds_toArray, List.set_cons_succ, List.set_cons_zero] at ha
      clear q5 hd hs hfacts hrest
      generalize a.tmps.getD = gg at ha
      subst ha
      have hy := hJ.y (hall 2 (by decide))
      obtain ⟨z0, z1, z2, z3⟩ := hy.facts
      have HJ := Lib.hid hJ
      have HY := Lib.hid hy
      clear hy hJ hall
      gi_wp2
      refine ⟨by simp, .inl ⟨_, _, rfl, run_takeDeferred HJ.out.k, ?_⟩⟩
      have hy9 : Box2 (w2.putObj D (.deferred none)) (w.heap.size + 1) 32 (.int .u32 (d : Nat)) u := (Later.put HJ.out.k rfl).2 _ _ HY.out rfl
      obtain ⟨y0, y1, y2, y3⟩ := hy9.facts
      rw [hfd]
      exact ⟨.tuple #[.agg #[.int .u32 (d : Nat), u], .bool is], by simp [results, Try.results17, go_sem, y0, y1], u, rfl, ownsRow_putObj HJ.out.o _ HJ.out.k rfl, HJ.out.b.grown (grownBy_putObj' w2 D _) HJ.out.b.size (fun k hk => by cases hk; omega)⟩
end Go.Proofs.Ytmonlookmnlgnaa
