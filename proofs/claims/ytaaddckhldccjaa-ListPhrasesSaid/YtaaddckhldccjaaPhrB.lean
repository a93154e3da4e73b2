/- Phrases: what stands as one goes. -/
import Derived.Test.YtaaddckhldccjaaPhrA
namespace Go.Proofs.Ytaaddckhldccjaa
open Go.RowKit
set_option linter.unusedVariables false
set_option linter.unusedSimpArgs false

theorem apart_own {w w' : World} {b s k b' s' k' : Nat} {e e' : TypeId} {u v : Value} {xs ys : List Value} (hu : w.ownsRow b' e' s' u k' ys) (hv : w.ownsRow b e s v k xs) (hne : e' ≠ e) (hg : w.grownBy w' v.ownBlock) : w'.ownsRow b' e' s' u k' ys :=
  hu.kept hg (rows_apart hu hv hne)
/-- The list that is built. -/
structure OutI (w : World) (ga : Nat) (o : Value) (os : List DV) (W : World) : Prop where
  own : OwnD W w.heap.size o os
  rows : ∀ y ∈ os, OwnI W (ga + 1) (slV y) y.1.2 ∧ y.1.1 < 4294967296
theorem OutI.nil (w : World) (ga : Nat) (W : World) : OutI w ga (.slice none 0 0) [] W := ⟨OwnK.nil _ _ _ _ _, fun y hy => by cases hy⟩
theorem OutI.below {w : World} {ga : Nat} {o : Value} {os : List DV} {W W' : World} (h : OutI w ga o os W) (hb : Below W.heap.size W W') : OutI w ga o os W' :=
  ⟨OwnK.below (enc := encD) h.own hb, fun y hy => ⟨(h.rows y hy).1.below hb, (h.rows y hy).2⟩⟩
theorem OutI.kept {w : World} {ga : Nat} {o : Value} {os : List DV} {W W' : World} (h : OutI w ga o os W) {b m c : Nat} {ks : List Int} (ha : OwnI W b (.slice (some ⟨ga, 0, none⟩) m c) ks) (hg : W.grownBy W' (some ga)) : OutI w ga o os W' :=
  ⟨apart_own h.own ha (by decide) hg, fun y hy => ⟨(h.rows y hy).1.kept hg (by
    cases hob : (slV y).ownBlock with
    | none => exact .inl rfl
    | some k => exact .inr (fun e => by have := (OwnL.base (h.rows y hy).1 k hob).1; injection e with e; omega)), (h.rows y hy).2⟩⟩
theorem OutI.ls {w : World} {ga : Nat} {o : Value} {os : List DV} {W : World} (h : OutI w ga o os W) : LS W o (os.map (·.1)) :=
  gatheredD h.own fun y hy => ⟨by
    obtain ⟨A, c, e, h1, h2, h3⟩ := OwnL.rd (h.rows y hy).1
    exact ⟨A, _, c, e, h1, h2, h3⟩, (h.rows y hy).2⟩
theorem OutI.push {w : World} {ga : Nat} {o : Value} {os : List DV} {W : World} (h : OutI w ga o os W) (hb : Below w.heap.size w W) {m c : Nat} {ks : List Int} (ha : OwnI W w.heap.size (.slice (some ⟨ga, 0, none⟩) m c) ks) (x : DV) (hx : OwnI W (ga + 1) (slV x) x.1.2) (hd : x.1.1 < 4294967296) (hl : os.length ≤ 1000000000) :
    ∃ A' c' w2, (Builtin.append_ #[28, 28] 28 #[o, .slice (some ⟨W.heap.size, 0, none⟩) 1 1]).run Try.prog (W.alloc (.cells #[.int .u32 (x.1.1 : Nat), slV x] 32)) = .ok (.slice A' (os.length + 1) c') w2 ∧ OutI w ga (.slice A' (os.length + 1) c') (os ++ [x]) w2 ∧
      Below w.heap.size w w2 ∧ OwnI w2 w.heap.size (.slice (some ⟨ga, 0, none⟩) m c) ks ∧ os.length + 1 ≤ c' ∧ c' ≤ 9223372036854775807 := by
  have hba : Below W.heap.size W (W.alloc (.cells #[.int .u32 (x.1.1 : Nat), slV x] 32)) := (Below.refl _ _).alloc (Nat.le_refl _) _
  have hrd := RdK.one (enc := encD) (sz := 2) W 32 x #[.int .u32 (x.1.1 : Nat), slV x] (0, 0) rfl rfl
  have a1 := OwnK.below (enc := encD) h.own hba
  obtain ⟨v1, w2, r1, o1, g1, _⟩ := run_append_rdK (P := Try.prog) (enc := encD) (c := 1) w.heap.size 28 28 32 (.agg #[.int .u32 0, .slice none 0 0]) 32 Try.underlying28 infoP rfl (by decide) (by decide) (fun _ => rfl) encD_one a1 hrd (by omega) (by have := hb.size; simp; omega)
  obtain ⟨A', c', e, h1, h2, _⟩ := OwnK.rd (enc := encD) (fun _ => rfl) o1
  have hlen : (os ++ [x]).length = os.length + 1 := by simp
  rw [hlen] at e h1
  subst e
  refine ⟨A', c', w2, r1, ⟨o1, fun y hy => ?_⟩, (Below.thn hb hba).grown g1 (Below.thn hb hba).size (fun k hk => (OwnK.base a1 k hk).1), apart_own (ha.below hba) a1 (by decide) g1, h1, h2⟩
  have hy' : OwnI W (ga + 1) (slV y) y.1.2 ∧ y.1.1 < 4294967296 := by
    rcases List.mem_append.1 hy with hy | hy
    · exact h.rows y hy
    · rw [List.mem_singleton] at hy; subst hy; exact ⟨hx, hd⟩
  exact ⟨apart_own (hy'.1.below hba) a1 (by decide) g1, hy'.2⟩
/-- The places that the looks begin at. -/
def KsOk (L : List VV) (ks : List Int) (D : Nat) : Prop := ∀ j x, (∃ hl : j < L.length, L[j] = x) → ∃ k' : Nat, (∃ h : j < ks.length, ks[j] = (k' : Nat)) ∧ k' ≤ x.n ∧ DocLt x.l k' D
theorem KsOk.le {L : List VV} {ks : List Int} {D D' : Nat} (h : KsOk L ks D) (hd : D ≤ D') : KsOk L ks D' := fun j x hx => by
  obtain ⟨k', h1, h2, h3⟩ := h j x hx
  exact ⟨k', h1, h2, docLt_le h3 hd⟩
theorem KsOk.zero (L : List VV) (D : Nat) : KsOk L (List.replicate L.length 0) D := fun j x hx => ⟨0, ⟨by simpa using hx.1, by simp⟩, Nat.zero_le _, fun i _ hi => absurd hi (Nat.not_lt_zero _)⟩
theorem KsOk.set {L : List VV} {ks : List Int} {D i k' : Nat} {x : VV} (h : KsOk L ks D) (hx : ∃ hl : i < L.length, L[i] = x) (h1 : k' ≤ x.n) (h2 : DocLt x.l k' D) : KsOk L (ks.set i (k' : Nat)) D := fun j y hy => by
  obtain ⟨k2, ⟨hl, e⟩, h3, h4⟩ := h j y hy
  by_cases hij : i = j
  · subst hij
    have : x = y := by obtain ⟨_, e1⟩ := hx; obtain ⟨_, e2⟩ := hy; rw [← e1, ← e2]
    subst this
    exact ⟨k', ⟨by simpa using hl, by simp⟩, h1, h2⟩
  · exact ⟨k2, ⟨by simpa using hl, by rw [List.getElem_set_ne hij]; exact e⟩, h3, h4⟩
/-- What stands ahead of a document. -/
structure PhO (w : World) (lo : List Int) (L : List VV) (l0 : List Po) (m ga k : Nat) (o : Value) (ks : List Int) (os : List DV) (W : World) : Prop where
  be : Below w.heap.size w W
  at_ : OwnI W w.heap.size (.slice (some ⟨ga, 0, none⟩) m m) ks
  kl : ks.length = m
  ko : KsOk L ks (prevOf l0 k)
  out : OutI w ga o os W
  eq : os.map (·.1) = phL lo L (l0.take k)
/-- What stands as a document's words are looked for. -/
structure PhI (w W1 : World) (L : List VV) (m ga gp gw d : Nat) (pv : Value) (i : Nat) (ks : List Int) (vs : List DV) (W : World) : Prop where
  be : Below w.heap.size w W
  at_ : OwnI W w.heap.size (.slice (some ⟨ga, 0, none⟩) m m) ks
  kl : ks.length = m
  ko : KsOk L ks d
  gr : W1.grownBy W (some ga)
  box : Box2 W gp 32 (.int .u32 (d : Nat)) pv
  ws : OwnD W w.heap.size (.slice (some ⟨gw, 0, none⟩) m m) vs
  vl : vs.length = m
  done : ∀ j x, j < i → (∃ hl : j < L.length, L[j] = x) → ∃ h : j < vs.length, vs[j].1 = (d, posDoc x.l d)
  read : ∀ y ∈ vs, IS w (slV y) y.1.2 ∧ y.1.1 < 4294967296
theorem PhI.full {w W1 : World} {L : List VV} {m ga gp gw d : Nat} {pv : Value} {i : Nat} {ks : List Int} {vs : List DV} {W : World} (h : PhI w W1 L m ga gp gw d pv i ks vs W) (hi : L.length ≤ i) (hm : L.length = m) : LS W (.slice (some ⟨gw, 0, none⟩) m m) (wsOf L d) := by
  have e : wsOf L d = vs.map (·.1) := by
    apply List.ext_getElem
    · rw [wsOf_len, List.length_map, hm, h.vl]
    · intro j h1 h2
      rw [wsOf_len] at h1
      obtain ⟨h3, e3⟩ := h.done j _ (by omega) ⟨h1, rfl⟩
      rw [List.getElem_map, e3]
      simp [wsOf]
  rw [e]
  exact gatheredD h.ws fun y hy => ⟨(h.read y hy).1.below h.be, (h.read y hy).2⟩
/-- Behind a look. -/
theorem PhI.look {w W1 : World} {L : List VV} {m ga gp gw d : Nat} {pv : Value} {i : Nat} {ks : List Int} {vs : List DV} {W W' : World} (h : PhI w W1 L m ga gp gw d pv i ks vs W) (hg : W.grownBy W' (some ga)) {x : VV} (hx : ∃ hl : i < L.length, L[i] = x) {k' : Nat} (h1 : k' ≤ x.n) (h2 : DocLt x.l k' d)
    (ho : OwnI W' w.heap.size (.slice (some ⟨ga, 0, none⟩) m m) (ks.set i (k' : Nat))) (hp : gp ≠ ga) (hwa : gw ≠ ga) (hb : Below w.heap.size w W') : PhI w W1 L m ga gp gw d pv i (ks.set i (k' : Nat)) vs W' :=
  ⟨hb, ho, by simpa using h.kl, h.ko.set hx h1 h2, h.gr.trans hg, h.box.kept hg (fun e => hp (by injection e)), OwnK.kept h.ws hg (.inr (fun e => hwa (by injection e))), h.vl, h.done, h.read⟩
/-- Behind a word's posting that was found. -/
theorem PhI.put {w W1 : World} {L : List VV} {m ga gp gw d : Nat} {pv : Value} {i : Nat} {ks : List Int} {vs : List DV} {W : World} (h : PhI w W1 L m ga gp gw d pv i ks vs W) {x : VV} (hx : ∃ hl : i < L.length, L[i] = x) (him : i < m) (y : DV) (hy : y.1 = (d, posDoc x.l d)) (hr : IS w (slV y) y.1.2) (hd : d < 4294967296)
    (hp : gp ≠ gw) (hwa : gw ≠ ga) (hW1 : W1.heap.size ≤ gw) : PhI w W1 L m ga gp gw d pv (i + 1) ks (vs.set i y) ((W.setCell ⟨gw, i * 2, none⟩ (.int .u32 (d : Nat))).setCell ⟨gw, i * 2 + 1, none⟩ (slV y)) := by
  have h0 := h.ws
  rw [← h.vl] at h0
  have h1 := OwnD.set h0 i y
  rw [hy] at h1
  have g1 := grownBy_set W ⟨gw, i * 2, none⟩ (.int .u32 (d : Nat))
  have g2 := grownBy_set (W.setCell ⟨gw, i * 2, none⟩ (.int .u32 (d : Nat))) ⟨gw, i * 2 + 1, none⟩ (slV y)
  have hw0 : w.heap.size ≤ gw := (OwnK.base h.ws gw rfl).1
  have hn : (Value.slice (some ⟨ga, 0, none⟩) m m).ownBlock = none ∨ (Value.slice (some ⟨ga, 0, none⟩) m m).ownBlock ≠ some gw := .inr (fun e => hwa (by injection e with e; exact e.symm))
  refine ⟨(h.be.setCell hw0 _).setCell hw0 _, (h.at_.kept g1 hn).kept g2 hn, h.kl, h.ko, grownBy_new (grownBy_new h.gr g1 hW1) g2 hW1, (h.box.kept g1 (fun e => hp (by injection e))).kept g2 (fun e => hp (by injection e)), by rw [h.vl] at h1; exact h1, by simpa using h.vl, fun j z hj hz => ?_, fun z hz => ?_⟩
  · rcases Nat.lt_succ_iff_lt_or_eq.1 hj with h2 | rfl
    · obtain ⟨h3, e3⟩ := h.done j z h2 hz
      exact ⟨by simpa using h3, by rw [List.getElem_set_ne (by omega)]; exact e3⟩
    · have : x = z := by obtain ⟨_, e1⟩ := hx; obtain ⟨_, e2⟩ := hz; rw [← e1, ← e2]
      subst this
      exact ⟨by rw [List.length_set, h.vl]; exact him, by simpa using hy⟩
  · rcases List.mem_or_eq_of_mem_set hz with h2 | rfl
    · exact h.read z h2
    · exact ⟨hr, by rw [hy]; exact hd⟩
end Go.Proofs.Ytaaddckhldccjaa
