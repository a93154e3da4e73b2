/- What is in any: one pass, two by two. -/
import Derived.Test.YtaaddckhldccjaaOrMath
import Derived.Test.YtaaddckhldccjaaTold
namespace Go.Proofs.Ytaaddckhldccjaa
open Go.RowKit
set_option linter.unusedVariables false
set_option linter.unusedSimpArgs false

section
variable {α : Type} {enc : α → List Value} {sz : Nat} {P : Program}
/-- 'v = append(v, x)', the row of one made ahead, wherever. -/
theorem collStepG {W Wg : World} {n₀ B : Nat} (t e : TypeId) (z : Value) (by_ : Nat) (ht : P.underlying t = some (.slice e)) (hinfo : (P.info? e).map (fun i => (i.zero, i.size, i.bytes)) = some (some z, sz, by_))
    (hz : z.cells.size = sz) (hs0 : 0 < sz) (hb0 : 0 < by_) (hsz : ∀ x, (enc x).length = sz) (h1 : ∀ x, ∀ u ∈ enc x, u.oneCell' = true) (hte : t ≠ e) {v : Value} {pre : List α} {x : α}
    (hv : Boxed W B t v) (hrow : W.ownsRow n₀ e sz v pre.length (pre.flatMap enc)) (hn : n₀ ≤ W.heap.size) (hB : n₀ ≤ B) (hl : (pre.length + 1) * by_ ≤ 140737488355328) (ty : TypeId)
    (hbg : Below W.heap.size W Wg) (g : Nat) (hg : Wg.heap[g]? = some (.cells (enc x).toArray e (0, 0))) (hgw : W.heap.size ≤ g) :
    ∃ v1 w2, (Builtin.append_ #[t, t] ty #[v, .slice (some ⟨g, 0, none⟩) 1 1]).run P Wg = .ok v1 w2 ∧ CollStep W w2 n₀ B t e sz v v1 pre.length ((pre ++ [x]).flatMap enc) := by
  have hrd : RdK enc sz Wg (some ⟨g, 0, none⟩) 1 [x] := ⟨rfl, by decide, fun _ => ⟨_, rfl, fun j hj i u hu => by
    obtain rfl : j = 0 := by simp at hj; omega
    simp only [List.getElem_cons_zero] at hu
    have hi : i < (enc x).length := (List.getElem?_eq_some_iff.1 hu).1
    rw [Nat.zero_mul, Nat.zero_add, add_lit0]
    simp [World.cell?, hg, hu]⟩⟩
  have hrg : Wg.ownsRow n₀ e sz v pre.length (pre.flatMap enc) := OwnK.below (enc := enc) hrow hbg
  have hvg : Boxed Wg B t v := (hbg.block _ hv.lt).trans hv
  obtain ⟨v1, w2, r1, o1, g1, at1⟩ := run_append_rdK (P := P) (c := 1) n₀ t ty e z by_ ht hinfo hz hs0 hb0 hsz h1 (show OwnK enc sz e _ n₀ v pre from hrg) hrd hl (by have := hbg.size; omega)
  have o2 : w2.ownsRow n₀ e sz v1 (pre.length + 1) ((pre ++ [x]).flatMap enc) := by
    have := o1
    unfold OwnK at this
    simpa using this
  have hv1 : Boxed w2 B t v := hvg.kept g1 (hvg.not_row hte hrg)
  have hks : KeepsOthers W w2 := by
    refine KeepsOthers.trans ⟨hbg.size, fun k o hk _ => (hbg.block k (Array.getElem?_eq_some_iff.1 hk).1).trans hk⟩ (KeepsOthers.of_grownBy g1 fun j o ej hj => ?_)
    rcases hrg.2 with ⟨rfl, _⟩ | ⟨gg, cap, cur, rfl, _, hgb, _⟩
    · simp [Value.ownBlock] at ej
    · obtain rfl : gg = j := by simpa [Value.ownBlock] using ej
      rw [hgb] at hj; cases hj; rfl
  refine ⟨v1, w2, r1, hv1, hv1.set v1, o2.kept (grownBy_setCell' w2 B v1) (.inr (hv1.not_row hte o2).symm), hks.trans (KeepsOthers.setCell _ _ _), ?_, ownsRow_succ o2, fun j o hj h2 h3 => ?_, ?_⟩
  · refine ((Below.mono hbg hn).grown g1 (by have := hbg.size; omega) fun j ej => ?_).setCell (p := ⟨B, 0, none⟩) hB v1
    rcases hrow.2 with ⟨rfl, _⟩ | ⟨gg, cap, cur, rfl, hb, _, _⟩
    · simp [Value.ownBlock] at ej
    · obtain rfl : gg = j := by simpa [Value.ownBlock] using ej
      exact hb
  · have e1 := (hbg.block j (Array.getElem?_eq_some_iff.1 hj).1).trans hj
    have e2 := (g1.block j (Array.getElem?_eq_some_iff.1 e1).1 h2).trans e1
    exact ((grownBy_setCell' w2 B v1).block j (Array.getElem?_eq_some_iff.1 e2).1 (fun e => h3 (by injection e))).trans e2
  · rcases at1 with h | h
    · exact .inl h
    · right
      have := (Array.getElem?_eq_some_iff.1 hg).1
      exact ⟨_, h, by omega⟩
end
/-- The types that a pass writes: the box of next, its row, the rows put together. -/
def SO (D k : Nat) (t : TypeId) : Bool := (t == 43 && k == D) || t == 38 || t == 30
abbrev encE : UV → List Value := fun x => [encUV x]
theorem flat_e (L : List UV) : L.flatMap encE = L.map encUV := by
  induction L with
  | nil => rfl
  | cons a L ih => rw [List.flatMap_cons, ih]; rfl
theorem encE_len (x : UV) : (encE x).length = 1 := rfl
theorem encE_one : ∀ x, ∀ u ∈ encE x, u.oneCell' = true := by
  intro x u hu
  simp at hu
  rcases hu with rfl
  rfl
theorem ownU_ok {W : World} {D : Nat} {y : UV} (h : OwnU W D (encUV y) y.l) : y.ok W := by
  obtain ⟨A, c, e, h1, h2, h3⟩ := OwnL.rd h.1
  simp only [encUV, Value.slice.injEq] at e
  obtain ⟨rfl, e2, rfl⟩ := e
  exact ⟨by omega, h2, by rw [e2]; exact ⟨h3, h.2⟩⟩
/-- What a pass has put together as yet. -/
structure PIv (W0 : World) (D : Nat) (pre : List CK) (nl : List UV) (v : Value) (W : World) : Prop where
  be : Below D W0 W
  box : Boxed W D 43 v
  row : W.ownsRow D 38 1 v nl.length (nl.flatMap encE)
  el : ∀ y ∈ nl, y.ok W0 ∨ OwnU W D (encUV y) y.l
  rel : PRel pre nl
def PI (W0 : World) (D : Nat) (pre : List CK) (W : World) : Prop := ∃ nl v, PIv W0 D pre nl v W
theorem PIv.below {W0 : World} {D : Nat} {pre : List CK} {nl : List UV} {v : Value} {W W' : World} (h : PIv W0 D pre nl v W) (hb : Below W.heap.size W W') (hD : D ≤ W.heap.size) : PIv W0 D pre nl v W' :=
  ⟨h.be.trans (hb.mono hD), (hb.block _ h.box.lt).trans h.box, OwnK.below (enc := encE) h.row hb, fun y hy => (h.el y hy).imp id (fun h => h.below hb), h.rel⟩
theorem pi_firm (W0 : World) (D D' : Nat) (hD : D < D') (h0 : W0.heap.size = D) : Firm D' (SO D) (PI W0 D) := by
  rintro s A B ⟨nl, v, h⟩ hst
  have hA : D ≤ A.heap.size := by have := h.be.size; omega
  exact ⟨nl, v, h.be.trans ((hst.mono (Nat.le_of_lt hD)).belowB hA), Boxed.low h.box hst hD, ownsRow_step h.row hst (fun _ => rfl), fun y hy => (h.el y hy).imp id (fun h => ⟨ownsRow_step h.1 hst (fun _ => rfl), h.2⟩), h.rel⟩
theorem PIv.step {W0 : World} {D : Nat} {pre : List CK} {nl : List UV} {v v1 : Value} {W w2 : World} {p : CK} {y : UV} (h : PIv W0 D pre nl v W) (hC : CollStep W w2 D D 43 38 1 v v1 nl.length ((nl ++ [y]).flatMap encE))
    (hy : y.ok W0 ∨ OwnU W D (encUV y) y.l) (hr : PRel (pre ++ [p]) (nl ++ [y])) : PIv W0 D (pre ++ [p]) (nl ++ [y]) v1 (w2.setCell ⟨D, 0, none⟩ v1) := by
  have own : ∀ z : UV, z.ok W0 ∨ OwnU W D (encUV z) z.l → z.ok W0 ∨ OwnU (w2.setCell ⟨D, 0, none⟩ v1) D (encUV z) z.l := fun z hz => hz.imp id fun hz => ⟨hC.rows h.box h.row hz.1 (by decide) (by decide), hz.2⟩
  refine ⟨h.be.trans hC.bl, hC.out, by simpa using hC.row, fun z hz => ?_, hr⟩
  rcases List.mem_append.1 hz with hz | hz
  · exact own z (h.el z hz)
  · rw [List.mem_singleton] at hz
    subst hz
    exact own z hy
/-- A row of rows, as it stands ahead of a pass. -/
structure HdO (w : World) (ls : List UV) (W : World) (A : Option Addr) (n c : Nat) (cur : List UV) : Prop where
  be : Below w.heap.size w W
  nc : n ≤ c
  c2 : c ≤ 9223372036854775807
  rd : RdUU W A n cur
  up : allUp cur
  mem : ∀ d, uni cur d ↔ uni ls d
  tot : tot cur ≤ tot ls
/-- .. behind it. -/
theorem PIv.head {w : World} {ls : List UV} {W0 W : World} {A : Option Addr} {n c : Nat} {cur : List UV} {ad : Addr} {nl : List UV} {v : Value} {D : Nat} (hD : W0.heap.size = D) (h : PIv W0 D (chunks ad n cur) nl v W) (h0 : HdO w ls W0 A n c cur) :
    ∃ A' c', v = .slice A' ((n + 1) / 2) c' ∧ HdO w ls W A' ((n + 1) / 2) c' nl := by
  subst hD
  obtain ⟨A', c', e, h1, h2, h3⟩ := OwnK.rd (enc := encE) encE_len (show OwnK encE 1 38 W W0.heap.size v nl from h.row)
  have hn : nl.length = (n + 1) / 2 := by rw [h.rel.len, chunks_len]
  have hall := chunks_all ad n cur h0.rd.len
  have hm := h.rel.uni
  have ht := h.rel.tot
  rw [hall] at hm ht
  rw [hn] at e h1 h3
  refine ⟨A', c', e, Below.trans h0.be (h.be.mono h0.be.size), h1, h2, ⟨⟨hn, h3.max, fun hp => ?_⟩, fun y hy => ?_⟩, h.rel.up, fun d => (hm d).trans (h0.mem d), Nat.le_trans ht h0.tot⟩
  · obtain ⟨ad', ea, hc⟩ := h3.cell hp
    exact ⟨ad', ea, fun j hj => by have := hc j hj 0 _ rfl; simpa using this⟩
  · rcases h.el y hy with hy | hy
    · exact hy.below h.be
    · exact ownU_ok hy
theorem chunk_at {ad : Addr} {n : Nat} {ls : List UV} {pre : List CK} {q : CK} (h : pre ++ [q] <+: chunks ad n ls) : 2 * pre.length < n ∧ q = ckAt ad n ls pre.length := by
  have hl := h.length_le
  rw [List.length_append, List.length_singleton, chunks_len] at hl
  refine ⟨by omega, ?_⟩
  obtain ⟨t, e⟩ := h
  have h1 : (chunks ad n ls)[pre.length]? = some q := by rw [← e]; simp
  unfold chunks at h1
  rw [List.getElem?_map, List.getElem?_range (by omega)] at h1
  simpa using h1.symm
theorem chunk_1 {W : World} {A : Option Addr} {n : Nat} {cur : List UV} {ad : Addr} {k : Nat} (h : RdUU W A n cur) (hA : A = some ad) (hk : 2 * k + 1 = n) :
    ∃ x, ckAt ad n cur k = ⟨some (ad.add (2 * k)), 1, [x]⟩ ∧ x ∈ cur ∧ W.cell? (ad.add (2 * k)) = some (.slice x.A x.n x.c) := by
  obtain ⟨ad', e, hc⟩ := h.rd.cell (by omega)
  rw [hA] at e
  cases e
  have hl : 2 * k < cur.length := by rw [h.len]; omega
  refine ⟨cur[2 * k], ?_, List.getElem_mem hl, hc _ hl⟩
  unfold ckAt
  rw [show min 2 (n - 2 * k) = 1 by omega, List.drop_eq_getElem_cons hl]
  rfl
theorem chunk_2 {W : World} {A : Option Addr} {n : Nat} {cur : List UV} {ad : Addr} {k : Nat} (h : RdUU W A n cur) (hA : A = some ad) (hk : 2 * k + 1 < n) :
    ∃ x z, ckAt ad n cur k = ⟨some (ad.add (2 * k)), 2, [x, z]⟩ ∧ x ∈ cur ∧ z ∈ cur ∧ W.cell? (ad.add (2 * k)) = some (.slice x.A x.n x.c) ∧ W.cell? ⟨(ad.add (2 * k)).block, (ad.add (2 * k)).off + 1, none⟩ = some (.slice z.A z.n z.c) := by
  obtain ⟨ad', e, hc⟩ := h.rd.cell (by omega)
  rw [hA] at e
  cases e
  have hl : 2 * k < cur.length := by rw [h.len]; omega
  have hl1 : 2 * k + 1 < cur.length := by rw [h.len]; omega
  refine ⟨cur[2 * k], cur[2 * k + 1], ?_, List.getElem_mem hl, List.getElem_mem hl1, hc _ hl, by have h1 := hc _ hl1; rw [← add_add', show (ad.add (2 * k)).add 1 = ⟨(ad.add (2 * k)).block, (ad.add (2 * k)).off + 1, none⟩ from by simp [Addr.add]] at h1; exact h1⟩
  unfold ckAt
  rw [show min 2 (n - 2 * k) = 2 by omega, List.drop_eq_getElem_cons hl, List.drop_eq_getElem_cons hl1]
  rfl
theorem tot_mem {ls : List UV} {x : UV} (h : x ∈ ls) : x.l.length ≤ tot ls := by
  induction ls with
  | nil => cases h
  | cons a ls ih =>
    rw [show tot (a :: ls) = a.l.length + tot ls from by simp [tot]]
    rcases List.mem_cons.1 h with rfl | h
    · omega
    · have := ih h
      omega
theorem add_none (a : Addr) : a.add 0 = a := by simp [Addr.add]
end Go.Proofs.Ytaaddckhldccjaa
