/- Ways to take texts apart that came in, opened; whether they have little. -/
import Derived.Test.YtkkeodlnejckjaaGreatOpenF
import Derived.Test.YtkkeodlnejckjaaGreatMay2
import Derived.SliceStrings
import Derived.Lib.SlBytesConst
namespace Go.Proofs.YtkkeodlnejckjaaGreat
open Go.ChangeShapes Go.WideShapes Go.ChangeAt Go.RowKit
set_option linter.unusedVariables false
set_option linter.unusedSimpArgs false

/-- A way that came in, of whatever size. -/
structure RdC0 (w : World) (A : Option Addr) (n c : Nat) (B : Option Addr) (m d : Nat) (cf : Cf) : Prop where
  fo : RdT w A n cf.fo
  st : Rd encS w B m cf.st
  nc : n ≤ c
  c2 : c ≤ 9223372036854775807
  md : m ≤ d
  d2 : d ≤ 9223372036854775807
  wf : wfT cf.fo
theorem RdC0.below {w w' : World} {A : Option Addr} {n c : Nat} {B : Option Addr} {m d : Nat} {cf : Cf} (h : RdC0 w A n c B m d cf) (hb : Below w.heap.size w w') : RdC0 w' A n c B m d cf :=
  ⟨h.fo.below hb, h.st.below hb, h.nc, h.c2, h.md, h.d2, h.wf⟩
theorem RdC0.full {w : World} {A : Option Addr} {n c : Nat} {B : Option Addr} {m d : Nat} {cf : Cf} (h : RdC0 w A n c B m d cf) (hs : ∀ s ∈ cf.st, s.size ≤ 200) : RdC w A n c B m d cf :=
  ⟨h.fo, h.st, h.nc, h.c2, h.md, h.d2, h.wf, fun s hs' => Nat.le_trans (hs s hs') (by decide)⟩
theorem confFields : ∃ fs : Array Field, Tryz.prog.underlying 25 = some (.struct fs) ∧ fs.size = 3 ∧ (∀ (j : Nat) (f : Field), fs[j]? = some f → f.offset = j ∧ Tryz.prog.cellsOf f.type = 1) ∧
    (∃ f : Field, fs[0]? = some f ∧ f.type = 22) ∧ (∃ f : Field, fs[1]? = some f ∧ f.type = 23) ∧ (∃ f : Field, fs[2]? = some f ∧ f.type = 3) := by
  refine ⟨_, Tryz.underlying25, rfl, ?_, ⟨_, rfl, rfl⟩, ⟨_, rfl, rfl⟩, ⟨_, rfl, rfl⟩⟩
  intro j f hf
  match j with
  | 0 => cases hf; exact ⟨rfl, by kernel_rfl⟩
  | 1 => cases hf; exact ⟨rfl, by kernel_rfl⟩
  | 2 => cases hf; exact ⟨rfl, by kernel_rfl⟩
  | j + 3 => simp at hf
theorem trod_mem1 {H : Type} {enc : TypeId × Value → H} {P : Program} {w : World} {base : Nat} {spare : Nat → Bool} {held : Bool} {fs : Array Field} {k : Nat} {fuel : Nat} {cs : List Value} {x : DataW H × List MemPlace} {t : TypeId}
    (he : P.underlying t = some (.struct fs)) (ho : ∀ (j : Nat) (f : Field), fs[j]? = some f → f.offset = j ∧ P.cellsOf f.type = 1)
    (h : DataW.trod enc P w base spare held fuel t cs = some x) : ∃ n, ∀ (j : Nat) (f : Field) (v : Value), fs[j]? = some f → cs[j]? = some v → ∃ y, DataW.trod enc P w base spare held n f.type [v] = some y := by
  obtain ⟨xs, k', hk', hxy, _, hxl, hf⟩ := DataW.trod_struct he h
  refine ⟨k', fun j f v hfj hv => ?_⟩
  have g := hf j f hfj
  obtain ⟨o1, c1⟩ := ho j f hfj
  rw [o1, c1] at g
  have hj : j < cs.length := (List.getElem?_eq_some_iff.1 hv).1
  have e1 : (cs.drop j).take 1 = [v] := by
    rw [List.drop_eq_getElem_cons hj]
    have := (List.getElem?_eq_some_iff.1 hv).2
    simp [this]
  rw [e1] at g
  have hjx : j < xs.length := by
    rw [hxl]
    exact (Array.getElem?_eq_some_iff.1 hfj).1
  exact ⟨xs[j], by rw [g, List.getElem?_eq_getElem hjx]⟩
set_option maxRecDepth 100000 in
theorem open_st {H : Type} {enc : TypeId × Value → H} {W : World} {base : Nat} {spare : Nat → Bool} {held : Bool} {fuel : Nat} {v : Value} {x : DataW H × List MemPlace}
    (h : DataW.trod enc Tryz.prog W base spare held fuel 23 [v] = some x) : ∃ B m d ss, v = .slice B m d ∧ (m ≤ d ∧ d ≤ 9223372036854775807) ∧ Rd encS W B m ss := by
  rcases Go.ChangeShapes.open_strings Tryz.underlying23 Tryz.underlying9 (by kernel_rfl) h with ⟨hcs, _⟩ | ⟨a, l, cp, ss, hcs, _, hl, hm, hz, _, hcell, _⟩
  · simp at hcs
    subst hcs
    exact ⟨none, 0, 0, [], rfl, ⟨Nat.le_refl _, by decide⟩, Rd.empty W⟩
  · simp at hcs
    subst hcs
    unfold maxLen at hm
    have hll : l ≤ ss.length := by rw [hz]; split <;> omega
    refine ⟨some a, l, cp, ss.take l, rfl, ⟨hl, by omega⟩, by rw [List.length_take]; omega, by omega, fun h0 => ⟨a, rfl, fun j hj => ?_⟩⟩
    rw [List.length_take] at hj
    rw [hcell j (by omega), List.getElem_take, List.getD_eq_getElem?_getD, List.getElem?_eq_getElem (by omega)]
    rfl
set_option maxRecDepth 100000 in
theorem open_fk {H : Type} {enc : TypeId × Value → H} {W : World} {base fuel : Nat} {v : Value} {x : DataW H × List MemPlace}
    (hf : DataW.trod enc Tryz.prog W base (fun _ => true) true fuel 22 [v] = some x) : ∃ A n c ls, v = .slice A n c ∧ (n ≤ c ∧ c ≤ 9223372036854775807 ∧ wfT ls) ∧ RdT W A n ls := by
  obtain ⟨fs, he, h3, ho, ⟨f0, g0, t0⟩, ⟨f1, g1, t1⟩, ⟨f2, g2, t2⟩⟩ := foldFields
  rcases open_structs Tryz.underlying22 he (by kernel_rfl) h3 ho hf with hcs | ⟨a, l, cp, m, k, hcs, hl, hm, hlm, hx⟩
  · simp at hcs
    subst hcs
    exact ⟨none, 0, 0, [], rfl, ⟨Nat.le_refl _, by decide, fun x hx => by cases hx⟩, RdT.empty W⟩
  · simp at hcs
    subst hcs
    have hq : ∀ i, i < l → ∃ x : Fo, ((-2147483648 ≤ x.1 ∧ x.1 ≤ 2147483647) ∧ (-2147483648 ≤ x.2.1 ∧ x.2.1 ≤ 2147483647) ∧ (-9223372036854775808 ≤ x.2.2 ∧ x.2.2 ≤ 9223372036854775807)) ∧ W.cell? (a.add (i * 3)) = some (.int .i32 x.1) ∧ W.cell? ⟨(a.add (i * 3)).block, (a.add (i * 3)).off + 1, none⟩ = some (.int .i32 x.2.1) ∧
        W.cell? ⟨(a.add (i * 3)).block, (a.add (i * 3)).off + 2, none⟩ = some (.int .i64 x.2.2) := by
      intro i hi
      obtain ⟨vs, hvl, hc, ht⟩ := hx i (by omega)
      match vs, hvl with
      | [v0, v1, v2], _ =>
        obtain ⟨y0, k0⟩ := ht 0 f0 v0 g0 rfl
        obtain ⟨y1, k1⟩ := ht 1 f1 v1 g1 rfl
        obtain ⟨y2, k2⟩ := ht 2 f2 v2 g2 rfl
        rw [t0] at k0
        rw [t1] at k1
        rw [t2] at k2
        obtain ⟨p0, e0, _, w0⟩ := DataW.trod_int Tryz.underlying21 k0
        obtain ⟨p1, e1, _, w1⟩ := DataW.trod_int Tryz.underlying21 k1
        obtain ⟨p2, e2, _, w2⟩ := DataW.trod_int Tryz.underlying3 k2
        simp only [List.cons.injEq, and_true] at e0 e1 e2
        subst e0
        subst e1
        subst e2
        have b0 := bounds_i32 w0
        have b1 := bounds_i32 w1
        have b2 := bounds_i64 w2
        have c0 := hc 0 _ rfl
        have c1 := hc 1 _ rfl
        have c2 := hc 2 _ rfl
        have ea : ∀ j, 0 < j → a.add (i * 3 + j) = ⟨(a.add (i * 3)).block, (a.add (i * 3)).off + j, none⟩ := by
          intro j hj
          rw [← add_add'']
          unfold Addr.add
          have : ¬ j = 0 := by omega
          simp [this]
        rw [ea 1 (by decide)] at c1
        rw [ea 2 (by decide)] at c2
        exact ⟨(p0, p1, p2), ⟨⟨b0.1, by have := b0.2; omega⟩, ⟨b1.1, by have := b1.2; omega⟩, ⟨b2.1, by have := b2.2; omega⟩⟩, c0, c1, c2⟩
    obtain ⟨f, hf'⟩ := Deep.choose_lt hq
    refine ⟨some a, l, cp, (List.range l).map f, rfl, ⟨hl, by unfold maxLen at hm; omega, fun x hx' => ?_⟩, by simp, by unfold maxLen at hm; omega, fun h0 => ⟨a, rfl, fun j hj => ?_⟩⟩
    · obtain ⟨i, hi, rfl⟩ := List.mem_map.1 hx'
      exact (hf' i (List.mem_range.1 hi)).1
    · have hj' : j < l := by simpa using hj
      have := (hf' j hj').2
      simpa using this
set_option maxRecDepth 100000 in
theorem open_c {H : Type} {enc : TypeId × Value → H} {W : World} {base base' : Nat} {v : Value} {d : DataW H} {p : List MemPlace} (hv : Value.okWide Tryz.prog W .any base' 25 v)
    (h : DataW.Trod enc Tryz.prog W base (fun _ => true) true 25 v d p) : ∃ A n c B m dd cf, v = .agg #[.slice A n c, .slice B m dd, .int .i64 cf.cap] ∧ (-9223372036854775808 ≤ cf.cap ∧ cf.cap ≤ 9223372036854775807) ∧ RdC0 W A n c B m dd cf := by
  obtain ⟨fs, he, h3, ho, ⟨f0, g0, t0⟩, ⟨f1, g1, t1⟩, ⟨f2, g2, t2⟩⟩ := confFields
  obtain ⟨cs, rfl, hsz⟩ := okWide_struct he hv
  have h33 : Tryz.prog.cellsOf 25 = 3 := by kernel_rfl
  rw [h33] at hsz
  obtain ⟨fuel, hf⟩ := h
  obtain ⟨k, hk⟩ := trod_mem1 (k := 0) he ho hf
  obtain ⟨v0, v1, v2, rfl⟩ : ∃ v0 v1 v2, cs = #[v0, v1, v2] := by
    obtain ⟨l⟩ := cs
    match l, hsz with
    | [a, b, c], _ => exact ⟨a, b, c, rfl⟩
  obtain ⟨y0, k0⟩ := hk 0 f0 v0 g0 (by simp [Value.cells])
  obtain ⟨y1, k1⟩ := hk 1 f1 v1 g1 (by simp [Value.cells])
  obtain ⟨y2, k2⟩ := hk 2 f2 v2 g2 (by simp [Value.cells])
  rw [t0] at k0
  rw [t1] at k1
  rw [t2] at k2
  obtain ⟨p2, e2, _, w2⟩ := DataW.trod_int Tryz.underlying3 k2
  simp only [List.cons.injEq, and_true] at e2
  subst e2
  have b2 := bounds_i64 w2
  obtain ⟨B, m, dd, ss, rfl, hm, hst⟩ := open_st k1
  obtain ⟨A, n, c, ls, rfl, ⟨hn1, hn2, hwf⟩, hfo⟩ := open_fk k0
  exact ⟨A, n, c, B, m, dd, ⟨ls, ss, p2⟩, rfl, b2, hfo, hst, hn1, hn2, hm.1, hm.2, hwf⟩
end Go.Proofs.YtkkeodlnejckjaaGreat
