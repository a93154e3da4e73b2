/- Postings that are told, at most so many, and where each ends. -/
import Derived.Test.YtmonlookmnlgnaaParse
namespace Go.Proofs.Ytmonlookmnlgnaa
open Go.RowKit Go.Shelf
set_option linter.unusedVariables false
set_option linter.unusedSimpArgs false
attribute [local go_sem] Oper.semAt_some

theorem run_eql_nilF2 (gf : Nat) (lb : Array Value) (W : World) : (binOp .eql 43 (.func (.func gf) #[] lb) .nilFunc).run Try.prog W = .ok (.bool false) W := by
  have hu := Try.underlying43
  have h : (Op.equalIn (9999 + 1) 43 (.func (.func gf) #[] lb) .nilFunc).run Try.prog W = .ok false W := by
    rw [Op.equalIn]
    simp [run_underlying hu]
  simp only [binOp]
  simp [Op.equal, Op.maxDepth, h]
theorem size_coll {W w2 : World} {n₀ B sz : Nat} {t e : TypeId} {v v1 : Value} {k : Nat} {ys : List Value} (h : CollStep W w2 n₀ B t e sz v v1 k ys) : W.heap.size ≤ (w2.setCell ⟨B, 0, none⟩ v1).heap.size := h.bl.size
/-- What lies apart from the row and the box stays. -/
theorem CollStep.sep {W w2 : World} {n₀ B sz : Nat} {t e : TypeId} {v v1 : Value} {k : Nat} {ys : List Value} (h : CollStep W w2 n₀ B t e sz v v1 k ys) {b' s' k2 : Nat} {e' : TypeId} {u : Value} {zs : List Value}
    (hu : W.ownsRow b' e' s' u k2 zs) (h1 : ∀ j, u.ownBlock = some j → v.ownBlock ≠ some j ∧ j ≠ B) : (w2.setCell ⟨B, 0, none⟩ v1).ownsRow b' e' s' u k2 zs := by
  rcases hu.2 with ⟨rfl, h0⟩ | ⟨g, cap, cur, rfl, hb, hh, hn, hc, hs, ht⟩
  · exact ⟨hu.1, .inl ⟨rfl, h0⟩⟩
  · obtain ⟨e1, e2⟩ := h1 g (by simp [Value.ownBlock])
    exact ⟨hu.1, .inr ⟨g, cap, cur, rfl, hb, h.keep g _ hh (Ne.symm e1) e2, hn, hc, hs, ht⟩⟩
abbrev encN (x : El) : List Value := [.int .i64 (x.1 : Nat)]
theorem encN_one : ∀ x, ∀ u ∈ encN x, u.oneCell' = true := by
  intro x u hu
  simp at hu
  subst hu
  rfl
theorem gatheredN {w : World} {n₀ : Nat} {v : Value} {pre : List El} (hr : w.ownsRow n₀ 3 1 v pre.length (pre.flatMap encN)) : IS w v (pre.map fun y => (y.1 : Int)) := by
  obtain ⟨A, c, rfl, h1, h2, h3⟩ := OwnK.rd (enc := encN) (fun _ => rfl) (show OwnK encN 1 3 w n₀ v pre from hr)
  refine ⟨A, pre.length, c, rfl, h1, h2, by simp, by omega, fun h0 => ?_⟩
  obtain ⟨ad, e, hc⟩ := h3.cell h0
  refine ⟨ad, e, fun j hj => ?_⟩
  have hj' : j < pre.length := by simpa using hj
  have := hc j hj' 0 _ rfl
  simpa using this
/-- What told answers. -/
def ToldE (L : List (Nat × Po)) (w : World) (e : Ending) (w' : World) : Prop := ∃ v u, e = .returned (.tuple #[v, u]) ∧ LS w' v (L.map (·.2)) ∧ IS w' u (L.map fun x => (x.1 : Int)) ∧ Below w.heap.size w w'
def TdI (w : World) (n₁ most : Nat) (pre : List El) (W : World) : Prop :=
  Below w.heap.size w W ∧ Boxed W w.heap.size 3 (.int .i64 (most : Nat)) ∧ (∃ v, Boxed W (w.heap.size + 1) 22 v ∧ W.ownsRow w.heap.size 32 2 v pre.length (pre.flatMap encX)) ∧
  (∃ u, Boxed W (w.heap.size + 2) 30 u ∧ W.ownsRow w.heap.size 3 1 u pre.length (pre.flatMap encN) ∧ u.ownBlock ≠ some w.heap.size ∧ ∀ y ∈ pre, ∀ j, (slE y).ownBlock = some j → u.ownBlock ≠ some j) ∧
  (∀ y ∈ pre, OwnL encI 3 W n₁ (slE y) y.2.1.2 ∧ y.2.1.1 < 4294967296) ∧ pre.length ≤ most
def TdX (w : World) (n₁ most : Nat) (c : Code) (pre : List El) (W : World) : Prop := c = .exit 0 ∧ ∃ p x, pre = p ++ [x] ∧ p.length = most ∧ TdI w n₁ most p W
theorem tdI_own (w : World) (n₁ most D : Nat) (h : w.heap.size ≤ D) : OwnFrom D (TdI w n₁ most) := by
  rintro s A B row ⟨h1, h2, ⟨v, h3, h4⟩, ⟨u, h5, h6, h6', h7⟩, h8, h9⟩ hg hr
  have hr2 : ∀ r, row = some r → ∃ o : Obj, A.heap[r]? = some o ∧ o.isCells = false := fun r e => (hr r e).2
  exact ⟨h1.grown hg (by have := h1.size; omega) (fun r e => Nat.le_trans h (hr r e).1), Boxed.from' h2 hg hr2, ⟨v, Boxed.from' h3 hg hr2, ownsRow_from h4 hg hr2⟩, ⟨u, Boxed.from' h5 hg hr2, ownsRow_from h6 hg hr2, h6', h7⟩, fun y hy => ⟨ownsRow_from (h8 y hy).1 hg hr2, (h8 y hy).2⟩, h9⟩
theorem tdX_own (w : World) (n₁ most D : Nat) (h : w.heap.size ≤ D) (c : Code) : OwnFrom D (TdX w n₁ most c) := by
  rintro s A B row ⟨hc, p, x, e1, e2, hI⟩ hg hr
  exact ⟨hc, p, x, e1, e2, tdI_own w n₁ most D h p A B row hI hg hr⟩
theorem tdI_below {w : World} {n₁ most : Nat} {pre : List El} {W W' : World} (hI : TdI w n₁ most pre W) (hb : Below W.heap.size W W') : TdI w n₁ most pre W' := by
  obtain ⟨h1, h2, ⟨v, h3, h4⟩, ⟨u, h5, h6, h6', h7⟩, h8, h9⟩ := hI
  exact ⟨Below.thn h1 hb, boxed_below h2 hb, ⟨v, boxed_below h3 hb, OwnK.below (enc := encX) h4 hb⟩, ⟨u, boxed_below h5 hb, OwnK.below (enc := encN) h6 hb, h6', h7⟩, fun y hy => ⟨(h8 y hy).1.below hb, (h8 y hy).2⟩, h9⟩
def TdM (w : World) (pre : List El) (B : Nat) (W : World) : Prop := w.heap.size + 2 < B ∧ (∃ v, Boxed W (w.heap.size + 1) 22 v ∧ ∀ j, v.ownBlock = some j → j < B) ∧ ∃ u, Boxed W (w.heap.size + 2) 30 u ∧ ∀ j, u.ownBlock = some j → j < B
theorem tdM_0 {w : World} {n₁ most : Nat} {pre : List El} {W : World} (h : TdI w n₁ most pre W) : TdM w pre W.heap.size W := by
  obtain ⟨h1, h2, ⟨v, h3, h4⟩, ⟨u, h5, h6, h6', h7⟩, h8, h9⟩ := h
  exact ⟨h5.lt, ⟨v, h3, fun j hj => (World.ownsRow.lt h4 j hj).2⟩, u, h5, fun j hj => (World.ownsRow.lt h6 j hj).2⟩
theorem tdM_later {w : World} {pre : List El} {B : Nat} {W W' : World} (h : TdM w pre B W) (hl : Later W W') : TdM w pre B W' := by
  obtain ⟨h1, ⟨v, h2, h3⟩, u, h4, h5⟩ := h
  exact ⟨h1, ⟨v, Boxed.later h2 hl, h3⟩, u, Boxed.later h4 hl, h5⟩
abbrev TdFr (s : Nat) (c1 c2 most g : Nat) (x : El) : Act :=
  { tmps := #[.func (.func 33) #[] #[.pointer (some ⟨c1, 0, none⟩), .pointer (some ⟨c2, 0, none⟩)], .int .i64 (most : Nat), undef, .pointer (some ⟨s, 0, none⟩), .slice none 0 0, .slice none 0 0, .pointer (some ⟨s + 1, 0, none⟩), .pointer (some ⟨s + 1 + 1, 0, none⟩), .int .i64 (x.1 : Nat), .pointer (some ⟨g, 0, none⟩), .func (.func 33) #[] #[.pointer (some ⟨c1, 0, none⟩), .pointer (some ⟨c2, 0, none⟩)], .bool false,
      .func (.func 33) #[] #[.pointer (some ⟨c1, 0, none⟩), .pointer (some ⟨c2, 0, none⟩)], .int .i64 (x.1 : Nat), .agg #[.int .u32 (x.2.1.1 : Nat), slE x], undef, undef, undef, undef, undef, undef, undef, undef, undef, undef, undef, undef, undef, undef], defers := [] }
def TdA (w : World) (c1 c2 most : Nat) (b : List Nat) (prev n₁ : Nat) (B : Nat) (pre : List El) (x : El) (a' : Act) (W : World) : Prop := ∃ g, a' = TdFr w.heap.size c1 c2 most g x ∧ Box2 W g 32 (.int .u32 (x.2.1.1 : Nat)) (slE x) ∧ (pre.map mA ++ [mA x]) <+: allL b prev ∧ OwnL encI 3 W n₁ (slE x) x.2.1.2 ∧ ∀ k, (slE x).ownBlock = some k → B ≤ k
theorem tdA_own (w : World) (c1 c2 most : Nat) (b : List Nat) (prev n₁ D B : Nat) (pre : List El) (x : El) (a' : Act) : OwnFrom D (fun (_ : Unit) W => TdA w c1 c2 most b prev n₁ B pre x a' W) := by
  rintro s X Y row ⟨g, e, h1, h2, h3, h4⟩ hg hr
  have hr2 : ∀ r, row = some r → ∃ o : Obj, X.heap[r]? = some o ∧ o.isCells = false := fun r e => (hr r e).2
  exact ⟨g, e, h1.from' hg hr2, h2, ownsRow_from h3 hg hr2, h4⟩

set_option maxRecDepth 100000 in
set_option maxHeartbeats 4000000 in
theorem told_any (c1 c2 : Nat) (A : Option Addr) (m c : Nat) (b : List Nat) (prev most : Nat) (w : World) (hl : RdB w A m b) (hc : m ≤ c) (hc2 : c ≤ 9223372036854775807) (hm : m ≤ 1000000000) (hp : prev < 4294967296) (hmost : most ≤ 9223372036854775807)
    (h1 : w.cell? ⟨c1, 0, none⟩ = some (.int .u32 (prev : Nat))) (h2 : Boxed w c2 23 (.slice A m c)) :
    Calls Try.prog 15 #[.func (.func 33) #[] #[.pointer (some ⟨c1, 0, none⟩), .pointer (some ⟨c2, 0, none⟩)], .int .i64 (most : Nat)] w (ToldE ((allL b prev).take most) w) := by
  have HL := Lib.hid hl
  have HLn := Lib.hid hl.len
  have HC1 := Lib.hid h1
  have HC2 := Lib.hid h2
  clear hl h1 h2
  have h10 : 1 ≤ 10 := by omega
  have hnil := run_eql_nilF2 33 #[.pointer (some ⟨c1, 0, none⟩), .pointer (some ⟨c2, 0, none⟩)]
  refine (callsIn_wide (n := 10)).1 ?_
  refine callsIn_of_wp_marks Try.func15 rfl trivial ?_ rfl
  simp only [Try.ntmps15, List.size_toArray, List.length_cons, List.length_nil, Nat.reduceAdd, Nat.reduceSub, Array.replicate_succ, Array.replicate_zero, List.push_toArray, List.append_toArray, List.nil_append, List.cons_append]
  gi_wp2_with fail
  clear hnil
  obtain ⟨W2, hW2⟩ : ∃ W2, W2 = ((w.alloc (.cells #[.int .i64 (most : Nat)] 3)).alloc (.cells #[.slice none 0 0] 22)).alloc (.cells #[.slice none 0 0] 30) := ⟨_, rfl⟩
  have hI2 : TdI w W2.heap.size most [] W2 := by
    have b1 := Boxed.new w 3 (.int .i64 (most : Nat))
    have b2 := Boxed.new (w.alloc (.cells #[.int .i64 (most : Nat)] 3)) 22 (.slice none 0 0)
    have b3 := Boxed.new ((w.alloc (.cells #[.int .i64 (most : Nat)] 3)).alloc (.cells #[.slice none 0 0] 22)) 30 (.slice none 0 0)
    simp only [World.size_alloc] at b2 b3
    rw [hW2]
    exact ⟨(((Below.refl _ _).alloc (Nat.le_refl _) _).alloc (by simp) _).alloc (by simp; omega) _, (b1.alloc _).alloc _, ⟨_, b2.alloc _, World.ownsRow_nil _ _ _ _⟩, ⟨_, b3, World.ownsRow_nil _ _ _ _, by simp [Value.ownBlock], fun y hy => by cases hy⟩, (fun y hy => by cases hy), Nat.zero_le _⟩
  have hsz2 : w.heap.size + 3 = W2.heap.size := by rw [hW2]; simp
  rw [← hW2]
  have h6 := cell_keep hI2.1 HC1.out
  have h5' := boxed_below HC2.out hI2.1
  clear hW2
  have hc2l : c2 < w.heap.size := HC2.out.lt
  refine wpIn_range_R (n := 10) rfl h10 (gf := 33) (lb := #[.pointer (some ⟨c1, 0, none⟩), .pointer (some ⟨c2, 0, none⟩)]) rfl trivial (enters_of Try.func33 (by kernel_rfl) rfl)
    (all_stops 9 c1 c2 (by omega) A m c b prev w W2 HL.out hc hc2 hm hI2.1 hp h6 h5')
    kpA_trans (fun W l o o' hl h ho hw => kpA_put w _ W l o o' (by omega) h ho) (Below.refl _ _) (fun _ => rfl)
    (TdI w W2.heap.size most) (TdX w W2.heap.size most) (tdI_own w _ _ _ (by omega)) (fun c => tdX_own w _ _ _ (by omega) c) hI2
    (TdM w) (fun pre W h => tdM_0 h) (fun _ _ _ _ h hl => tdM_later h hl)
    (TdA w c1 c2 most b prev W2.heap.size) (fun B pre x a' => tdA_own w c1 c2 most b prev _ _ B pre x a') ?assign ?body ?done ?stop
  case assign =>
    intro L B0 pre x W K hI hR hK
    have HI := Lib.hid hI
    have HR := Lib.hid hR
    have HK := Lib.hid hK
    clear hI hR hK hI2 h5' h6
    gi_wp2
    have hbA : Below W.heap.size W (W.alloc (.cells #[.int .u32 (x.2.1.1 : Nat), slE x] 32)) := (Below.refl _ _).alloc (Nat.le_refl _) _
    exact HK.out _ _ ((KeepsOthers.alloc W _).from _) ⟨hbA.mono HI.out.1.size, fun o h1 _ => (hbA.block _ (Array.getElem?_eq_some_iff.1 h1).1).trans h1⟩ (Later.below hbA)
      (tdI_below HI.out hbA) ⟨W.heap.size, rfl, Box2.new _ _ _ _, HR.out.1, HR.out.2.1.below hbA, HR.out.2.2⟩
  case body =>
    rintro L pre x a' W B hI ⟨g, rfl, hg, hpf, ho, hoB⟩ ⟨hm1, ⟨v', hv', hm2⟩, u', hu', hm3⟩
    have hI0 := hI
    obtain ⟨i1, i2, ⟨v, hv, hrow⟩, ⟨u, hu, hrowu, hub0, hub⟩, i4, i9⟩ := hI
    obtain rfl : v' = v := Boxed.eq hv' hv
    obtain rfl : u' = u := Boxed.eq hu' hu
    have hpl := pre_len hpf
    obtain ⟨hen, hd⟩ := pre_ok hpf
    obtain ⟨en, ⟨d, xs⟩, A5, n5, c5⟩ := x
    simp only at hen hd
    rw [HLn.out] at hpl hen
    obtain ⟨A1, cc1, hvs, hl1, hc1, _⟩ := OwnK.rd (enc := encX) (fun _ => rfl) (show OwnK encX 2 32 W w.heap.size v' pre from hrow)
    by_cases hfull : (most : Int) ≤ (pre.length : Int)
    · have hc := hv.cell
      have hcm := i2.cell
      subst hvs
      obtain ⟨pl, hpl2⟩ : ∃ pl, pl = pre.length := ⟨_, rfl⟩
      have HFin : Hid (∀ a, postR W2.heap.size B (KpA w c2) (TdI w W2.heap.size most) (TdX w W2.heap.size most) (pre ++ [(en, (d, xs), A5, n5, c5)]) W (.exit 0) a W) := Lib.hid fun a => ⟨KeepsFrom.refl _ _, rfl, pre, _, rfl, by omega, hI0⟩
      rw [← hpl2] at hc hl1 hfull hpl
      clear hv hrow i1 i2 i4 hg hpf ho hm1 hv' hm2 hpl2 hI2 h5' h6 hI0 hu' hu hrowu hub hub0 hm3 hoB
      gi_wp2_with fail
      exact HFin.out _
    · obtain ⟨v1, w2, r1, hC⟩ := collStep (P := Try.prog) (enc := encX) (x := (en, (d, xs), A5, n5, c5)) 22 32 (.agg #[.int .u32 0, .slice none 0 0]) 32 Try.underlying22 infoP rfl (by decide) (by decide) (fun _ => rfl) encX_one (by decide) hv hrow i1.size (by omega) (by omega) 22 #[.int .u32 (d : Nat), .slice A5 n5 c5] rfl
      obtain ⟨g6, c6, hv1⟩ := hC.sh
      obtain ⟨S1, hS1⟩ : ∃ S1, S1 = w2.setCell ⟨w.heap.size + 1, 0, none⟩ v1 := ⟨_, rfl⟩
      have hu1 := hC.boxed hrow hu (by omega) (by decide)
      have hrowu1 := hC.rows hv hrow hrowu (by decide) (by decide)
      have hb1 := hC.bl
      rw [← hS1] at hu1 hrowu1 hb1
      have hsS : w.heap.size ≤ S1.heap.size := by have := i1.size; have := hb1.size; omega
      obtain ⟨u1, w3, r2, hD⟩ := collStep (P := Try.prog) (enc := encN) (x := (en, (d, xs), A5, n5, c5)) (n₀ := w.heap.size) 30 3 (.int .i64 0) 8 Try.underlying30 infoI rfl (by decide) (by decide) (fun _ => rfl) encN_one (by decide) hu1 hrowu1 hsS (by omega) (by omega) 30 #[.int .i64 (en : Nat)] rfl
      obtain ⟨g7, c7, hu1e⟩ := hD.sh
      have hi2 : Boxed S1 w.heap.size 3 (.int .i64 (most : Nat)) := by rw [hS1]; exact hC.boxed hrow i2 (by omega) (by decide)
      have hvS : Boxed S1 (w.heap.size + 1) 22 v1 := by rw [hS1]; exact hC.out
      have hrS : S1.ownsRow w.heap.size 32 2 v1 (pre.length + 1) ((pre ++ [(en, (d, xs), A5, n5, c5)]).flatMap encX) := by rw [hS1]; exact hC.row
      have hks : KeepsOthers W S1 := by rw [hS1]; exact hC.ks
      have hmid : Mid B W S1 := by rw [hS1]; exact hC.mid hm2 (by omega)
      have key1 : ∀ {sl : Value} {zs : List Int}, OwnL encI 3 W W2.heap.size sl zs → OwnL encI 3 S1 W2.heap.size sl zs := fun ho => by rw [hS1]; exact hC.rows hv hrow ho (by decide) (by decide)
      have hsep : ∀ y ∈ pre ++ [(en, (d, xs), A5, n5, c5)], OwnL encI 3 W W2.heap.size (slE y) y.2.1.2 ∧ y.2.1.1 < 4294967296 ∧ ∀ j, (slE y).ownBlock = some j → u'.ownBlock ≠ some j := by
        intro y hy
        rcases List.mem_append.1 hy with hy | hy
        · exact ⟨(i4 y hy).1, (i4 y hy).2, hub y hy⟩
        · simp at hy
          subst hy
          exact ⟨ho, by show d < _; omega, fun j hj e => by have := hoB j hj; have := hm3 j e; omega⟩
      have hWS : W.heap.size ≤ S1.heap.size := by rw [hS1]; exact size_coll hC
      have hsW : w.heap.size < W.heap.size := i2.lt
      have HFin : Hid (∀ a, postR W2.heap.size B (KpA w c2) (TdI w W2.heap.size most) (TdX w W2.heap.size most) (pre ++ [(en, (d, xs), A5, n5, c5)]) W .normal a (w3.setCell ⟨w.heap.size + 2, 0, none⟩ u1)) := Lib.hid (fun a => by
        refine ⟨(hks.trans hD.ks).from _, ⟨hb1.trans hD.bl, fun o h1 _ => ((hb1.trans hD.bl).block _ hc2l).trans h1⟩, hmid.trans (hD.mid hm3 hm1), ?_⟩
        refine ⟨i1.trans (hb1.trans hD.bl), hD.keep _ _ hi2 (Ne.symm hub0) (by omega), ⟨v1, hD.boxed hrowu1 hvS (by omega) (by decide), ?_⟩, ⟨u1, hD.out, ?_, ?_, ?_⟩, ?_, ?_⟩
        · have := hD.rows hu1 hrowu1 hrS (by decide) (by decide)
          simpa using this
        · simpa using hD.row
        · rcases hD.at_ with e | ⟨j, e, hj⟩
          · rw [e]; exact hub0
          · rw [e]; intro e'; injection e' with e'; omega
        · intro y hy j hj
          obtain ⟨h1, _, h3⟩ := hsep y hy
          rcases hD.at_ with e | ⟨j', e, hj'⟩
          · rw [e]; exact h3 j hj
          · rw [e]; intro e'; injection e' with e'; have := (World.ownsRow.lt (key1 h1) j hj).2; omega
        · intro y hy
          obtain ⟨h1, h2, h3⟩ := hsep y hy
          exact ⟨hD.sep (key1 h1) (fun j hj => ⟨h3 j hj, by have := (World.ownsRow.lt (key1 h1) j hj).1; omega⟩), h2⟩
        · simp; omega)
      have hc := hv.cell
      have hcm := i2.cell
      obtain ⟨g0, g1, _, _⟩ := hg.facts
      have f0 := hC.box.cell
      have f1 := hC.box.frozen
      have f2 := hu1.cell
      have f4 := hD.box.cell
      have f5 := hD.box.frozen
      simp only [slE] at g1
      obtain ⟨A2, cc2, hus, hl2, hc2', _⟩ := OwnK.rd (enc := encN) (fun _ => rfl) (show OwnK encN 1 3 W w.heap.size u' pre from hrowu)
      subst hS1
      subst hv1
      subst hu1e
      subst hvs
      subst hus
      obtain ⟨pl, hpl2⟩ : ∃ pl, pl = pre.length := ⟨_, rfl⟩
      rw [← hpl2] at hc r1 r2 f0 f2 f4 hl1 hl2 hfull HFin
      have hpl3 : pl ≤ 1000000000 := by omega
      clear hv hrow hC hD hu1 hrowu1 hb1 hi2 hvS hrS hks hmid key1 hsep i1 i2 i4 i9 hg hpf ho hm1 hv' hm2 hpl2 hI2 h5' h6 hI0 hu' hu hrowu hub hub0 hm3 hoB hWS hsW hsS hpl
      simp only [World.size_setCell] at r2
      gi_wp2_with (first | (gi_at_builtin; refine wplIn_append_run rfl _ _ _ rfl rfl rfl r1 ?_) | (gi_at_builtin; refine wplIn_append_run rfl _ _ _ rfl rfl rfl r2 ?_))
      exact HFin.out _
  case done =>
    rintro D ys W hD hS hI hK
    have hT : ys.map mA = (allL b prev).take most := by
      have := hI.2.2.2.2.2
      rw [List.take_of_length_le (by rw [← hS]; simpa using this), hS]
    clear hS
    obtain ⟨i1, i2, ⟨v, hv, hrow⟩, ⟨u, hu, hrowu, _, _⟩, i4, _⟩ := hI
    have hLS : LS W v (((allL b prev).take most).map (·.2)) := by
      have := gathered hrow i4
      rw [← hT, List.map_map]
      exact this
    have hIS : IS W u (((allL b prev).take most).map fun x => (x.1 : Int)) := by
      have := gatheredN hrowu
      rw [← hT, List.map_map]
      exact this
    obtain ⟨A1, cc1, hvs, hl1, hc1, _⟩ := OwnK.rd (enc := encX) (fun _ => rfl) (show OwnK encX 2 32 W w.heap.size v ys from hrow)
    obtain ⟨A2, cc2, hus, hl2, hc2', _⟩ := OwnK.rd (enc := encN) (fun _ => rfl) (show OwnK encN 1 3 W w.heap.size u ys from hrowu)
    subst hvs
    subst hus
    have c4 := hv.cell
    have c5 := hu.cell
    have HK := Lib.hid hK
    have HLS := Lib.hid hLS
    have HIS := Lib.hid hIS
    have HB := Lib.hid i1
    obtain ⟨yl, hyl⟩ : ∃ yl, yl = ys.length := ⟨_, rfl⟩
    rw [← hyl] at c4 c5 hl1 hl2 HLS HIS
    clear hT hv hrow hu hrowu i1 i2 i4 hK hLS hIS hyl hI2 h5' h6
    gi_wp2
    refine wpIn_wide.2 ?_
    go_quiet (fail)
    clear c4 c5
    obtain ⟨Wd, hWd⟩ : ∃ Wd, Wd = W.drewN nq := ⟨_, rfl⟩
    have hbd : Below W.heap.size W Wd := by rw [hWd]; exact Below.drewN W nq
    have HKd : Hid (Wd.heap[D]? = some (.deferred (some []))) := Lib.hid ((hbd.block D (Array.getElem?_eq_some_iff.1 HK.out).1).trans HK.out)
    have HB9 : Hid (Below w.heap.size w (Wd.putObj D (.deferred none))) := Lib.hid ((Below.thn HB.out hbd).grown (grownBy_putObj' Wd D _) (Below.thn HB.out hbd).size (fun k hk => by cases hk; omega))
    have HL9 := Lib.hid ((HLS.out.later (Later.below hbd)).later (Later.put (o' := .deferred none) HKd.out rfl))
    have HI9 : Hid (IS (Wd.putObj D (.deferred none)) (.slice A2 yl cc2) (((allL b prev).take most).map fun x => (x.1 : Int))) := Lib.hid (by
      obtain ⟨A, n, c, e, h1, h2, h3⟩ := HIS.out
      exact ⟨A, n, c, e, h1, h2, Rd.later (Rd.later h3 (Later.below hbd)) (Later.put HKd.out rfl)⟩)
    rw [← hWd]
    clear hWd hbd HK HLS HIS HB
    gi_wp2
    refine ⟨by simp, .inl ⟨_, _, rfl, run_takeDeferred HKd.out, ?_⟩⟩
    exact ⟨.tuple #[.slice A1 yl cc1, .slice A2 yl cc2], by simp [results, Try.results15, go_sem], _, _, rfl, HL9.out, HI9.out, HB9.out⟩
  case stop =>
    rintro D cc pre W hD hSp ⟨rfl, ys, x, rfl, hlen, hI⟩ hK
    have hT : ys.map mA = (allL b prev).take most := by
      have h1 : ys.map mA <+: allL b prev := List.IsPrefix.trans ⟨[mA x], by simp⟩ hSp
      have := List.prefix_iff_eq_take.1 h1
      rw [List.length_map, hlen] at this
      exact this
    clear hSp hlen
    obtain ⟨i1, i2, ⟨v, hv, hrow⟩, ⟨u, hu, hrowu, _, _⟩, i4, _⟩ := hI
    have hLS : LS W v (((allL b prev).take most).map (·.2)) := by
      have := gathered hrow i4
      rw [← hT, List.map_map]
      exact this
    have hIS : IS W u (((allL b prev).take most).map fun x => (x.1 : Int)) := by
      have := gatheredN hrowu
      rw [← hT, List.map_map]
      exact this
    obtain ⟨A1, cc1, hvs, hl1, hc1, _⟩ := OwnK.rd (enc := encX) (fun _ => rfl) (show OwnK encX 2 32 W w.heap.size v ys from hrow)
    obtain ⟨A2, cc2, hus, hl2, hc2', _⟩ := OwnK.rd (enc := encN) (fun _ => rfl) (show OwnK encN 1 3 W w.heap.size u ys from hrowu)
    subst hvs
    subst hus
    have c4 := hv.cell
    have c5 := hu.cell
    have HK := Lib.hid hK
    have HLS := Lib.hid hLS
    have HIS := Lib.hid hIS
    have HB := Lib.hid i1
    obtain ⟨yl, hyl⟩ : ∃ yl, yl = ys.length := ⟨_, rfl⟩
    rw [← hyl] at c4 c5 hl1 hl2 HLS HIS
    clear hT hv hrow hu hrowu i1 i2 i4 hK hLS hIS hyl hI2 h5' h6
    gi_wp2
    refine wpIn_wide.2 ?_
    go_quiet (fail)
    clear c4 c5
    obtain ⟨Wd, hWd⟩ : ∃ Wd, Wd = W.drewN nq := ⟨_, rfl⟩
    have hbd : Below W.heap.size W Wd := by rw [hWd]; exact Below.drewN W nq
    have HKd : Hid (Wd.heap[D]? = some (.deferred (some []))) := Lib.hid ((hbd.block D (Array.getElem?_eq_some_iff.1 HK.out).1).trans HK.out)
    have HB9 : Hid (Below w.heap.size w (Wd.putObj D (.deferred none))) := Lib.hid ((Below.thn HB.out hbd).grown (grownBy_putObj' Wd D _) (Below.thn HB.out hbd).size (fun k hk => by cases hk; omega))
    have HL9 := Lib.hid ((HLS.out.later (Later.below hbd)).later (Later.put (o' := .deferred none) HKd.out rfl))
    have HI9 : Hid (IS (Wd.putObj D (.deferred none)) (.slice A2 yl cc2) (((allL b prev).take most).map fun x => (x.1 : Int))) := Lib.hid (by
      obtain ⟨A, n, c, e, h1, h2, h3⟩ := HIS.out
      exact ⟨A, n, c, e, h1, h2, Rd.later (Rd.later h3 (Later.below hbd)) (Later.put HKd.out rfl)⟩)
    rw [← hWd]
    clear hWd hbd HK HLS HIS HB
    gi_wp2
    refine ⟨by simp, .inl ⟨_, _, rfl, run_takeDeferred HKd.out, ?_⟩⟩
    exact ⟨.tuple #[.slice A1 yl cc1, .slice A2 yl cc2], by simp [results, Try.results15, go_sem], _, _, rfl, HL9.out, HI9.out, HB9.out⟩
end Go.Proofs.Ytmonlookmnlgnaa
