import Derived.Test.YtkkeodlnejckjaaGreatOwn
import Derived.Lib.Hide
import Derived.OwnWalkIn
import Derived.RangeFuncBox

/- Slices of elements of several cells: read, owned, appended to. No condition. -/
namespace Go.Proofs.YtkkeodlnejckjaaGreat
open Go.RowKit
set_option linter.unusedVariables false
set_option linter.unusedSimpArgs false

theorem add_at (a : Addr) (i j : Nat) (h : 0 < j) : a.add (i + j) = ⟨(a.add i).block, (a.add i).off + j, none⟩ := by
  unfold Addr.add
  by_cases h1 : i = 0
  · subst h1
    have : ¬ j = 0 := by omega
    simp [this]
  · have h2 : ¬ (i + j = 0) := by omega
    simp [h1, h2, Nat.add_assoc]
section
variable {α : Type} {enc : α → List Value} {sz : Nat}

/-- A slice that is read; each element is sz cells. -/
structure RdK (enc : α → List Value) (sz : Nat) (w : World) (A : Option Addr) (n : Nat) (l : List α) : Prop where
  len : l.length = n
  max : n ≤ 9223372036854775807
  cell : 0 < n → ∃ ad, A = some ad ∧ ∀ j (h : j < l.length) i v, (enc l[j])[i]? = some v → w.cell? (ad.add (j * sz + i)) = some v

theorem RdK.below {w w' : World} {A : Option Addr} {n : Nat} {l : List α} (h : RdK enc sz w A n l) (hb : Below w.heap.size w w') : RdK enc sz w' A n l :=
  ⟨h.len, h.max, fun hn => by
    obtain ⟨ad, e, hc⟩ := h.cell hn
    exact ⟨ad, e, fun j hj i v hv => cell_keep hb (hc j hj i v hv)⟩⟩
theorem RdK.empty (w : World) : RdK enc sz w Option.none 0 [] := ⟨rfl, by decide, fun h => by omega⟩
theorem RdK.nil (w : World) (A : Option Addr) : RdK enc sz w A 0 [] := ⟨rfl, by decide, fun h => by omega⟩
theorem RdK.take {w : World} {A : Option Addr} {n : Nat} {l : List α} (h : RdK enc sz w A n l) (r : Nat) (hr : r ≤ n) : RdK enc sz w A r (l.take r) :=
  ⟨by rw [List.length_take, h.len]; omega, by have := h.max; omega, fun h0 => by
    obtain ⟨ad, e, hcl⟩ := h.cell (by omega)
    exact ⟨ad, e, fun j hj i v hv => by rw [List.getElem_take] at hv; exact hcl j (by simp at hj; omega) i v hv⟩⟩
theorem RdK.drop {w : World} {A : Option Addr} {n : Nat} {l : List α} (h : RdK enc sz w A n l) (c r : Nat) (hr : r ≤ n) (hc : n ≤ c) : RdK enc sz w (if c = r then A else A.map (·.add (r * sz))) (n - r) (l.drop r) :=
  ⟨by rw [List.length_drop, h.len], by have := h.max; omega, fun h0 => by
    obtain ⟨ad, rfl, hcl⟩ := h.cell (by omega)
    rw [if_neg (by omega)]
    exact ⟨ad.add (r * sz), rfl, fun j hj i v hv => by
      rw [List.getElem_drop] at hv
      have := hcl (r + j) (by simp at hj; omega) i v hv
      rw [add_add', show r * sz + (j * sz + i) = (r + j) * sz + i from by rw [Nat.add_mul]; omega]
      exact this⟩⟩
/-- Two cells an element. -/
theorem RdK.at2 {f g : α → Value} {w : World} {A : Option Addr} {n : Nat} {l : List α} (h : RdK (fun x => [f x, g x]) 2 w A n l) {k : Nat} (hk : k < n) : ∃ (ad : Addr) (x : α), A = some ad ∧ Hid (∃ hl : k < l.length, l[k] = x) ∧
    w.cell? (ad.add (k * 2)) = some (f x) ∧ w.cell? ⟨(ad.add (k * 2)).block, (ad.add (k * 2)).off + 1, none⟩ = some (g x) := by
  obtain ⟨ad, e, hc⟩ := h.cell (by omega)
  have hl : k < l.length := by rw [h.len]; exact hk
  refine ⟨ad, l[k], e, Lib.hid ⟨hl, rfl⟩, hc k hl 0 _ rfl, ?_⟩
  rw [← add_at _ _ _ (by decide)]
  exact hc k hl 1 _ rfl
/-- Three cells an element. -/
theorem RdK.at3 {f g z : α → Value} {w : World} {A : Option Addr} {n : Nat} {l : List α} (h : RdK (fun x => [f x, g x, z x]) 3 w A n l) {k : Nat} (hk : k < n) : ∃ (ad : Addr) (x : α), A = some ad ∧ Hid (∃ hl : k < l.length, l[k] = x) ∧
    w.cell? (ad.add (k * 3)) = some (f x) ∧ w.cell? ⟨(ad.add (k * 3)).block, (ad.add (k * 3)).off + 1, none⟩ = some (g x) ∧ w.cell? ⟨(ad.add (k * 3)).block, (ad.add (k * 3)).off + 2, none⟩ = some (z x) := by
  obtain ⟨ad, e, hc⟩ := h.cell (by omega)
  have hl : k < l.length := by rw [h.len]; exact hk
  refine ⟨ad, l[k], e, Lib.hid ⟨hl, rfl⟩, hc k hl 0 _ rfl, ?_, ?_⟩
  · rw [← add_at _ _ _ (by decide)]
    exact hc k hl 1 _ rfl
  · rw [← add_at _ _ _ (by decide)]
    exact hc k hl 2 _ rfl

theorem flat_at (hsz : ∀ x, (enc x).length = sz) : ∀ (l : List α) (j : Nat) (h : j < l.length) (i : Nat) (v : Value), (enc l[j])[i]? = some v → (l.flatMap enc)[j * sz + i]? = some v
  | x :: l, 0, _, i, v, hv => by
    simp only [List.getElem_cons_zero] at hv
    have hi : i < (enc x).length := (List.getElem?_eq_some_iff.1 hv).1
    rw [List.flatMap_cons, Nat.zero_mul, Nat.zero_add, List.getElem?_append_left hi]
    exact hv
  | x :: l, j + 1, h, i, v, hv => by
    have := flat_at hsz l j (by simpa using h) i v (by simpa using hv)
    rw [List.flatMap_cons, List.getElem?_append_right (by rw [hsz, Nat.succ_mul]; omega), hsz, show (j + 1) * sz + i - sz = j * sz + i from by rw [Nat.succ_mul]; omega]
    exact this
theorem flat_len (hsz : ∀ x, (enc x).length = sz) (l : List α) : (l.flatMap enc).length = l.length * sz := by
  induction l with
  | nil => simp
  | cons x l ih => rw [List.flatMap_cons, List.length_append, ih, hsz, List.length_cons, Nat.succ_mul, Nat.add_comm]

/-- A slice of the call's own. -/
def OwnK (enc : α → List Value) (sz : Nat) (e : TypeId) (w : World) (base : Nat) (v : Value) (l : List α) : Prop := w.ownsRow base e sz v l.length (l.flatMap enc)
theorem OwnK.nil (enc : α → List Value) (sz : Nat) (e : TypeId) (w : World) (base : Nat) : OwnK enc sz e w base (.slice none 0 0) [] := ⟨by simp, .inl ⟨rfl, rfl⟩⟩
theorem OwnK.rd {e : TypeId} {w : World} {base : Nat} {v : Value} {l : List α} (hsz : ∀ x, (enc x).length = sz) (h : OwnK enc sz e w base v l) : ∃ A c, v = .slice A l.length c ∧ l.length ≤ c ∧ c ≤ 9223372036854775807 ∧ RdK enc sz w A l.length l := by
  rcases h.2 with ⟨rfl, h0⟩ | ⟨g, cap, cur, rfl, hb, hh, hn, hc, hs, ht⟩
  · obtain rfl : l = [] := List.eq_nil_of_length_eq_zero h0
    exact ⟨Option.none, 0, rfl, Nat.le_refl _, by decide, RdK.empty w⟩
  · unfold maxLen at hc
    refine ⟨_, cap, rfl, hn, hc, rfl, by omega, fun h0 => ⟨_, rfl, fun j hj i v hv => ?_⟩⟩
    have := World.ownsRow.cells h (g := g) rfl (j * sz + i) v (flat_at hsz l j hj i v hv)
    exact this
theorem OwnK.base {e : TypeId} {w : World} {base : Nat} {v : Value} {l : List α} (h : OwnK enc sz e w base v l) (k : Nat) (hk : v.ownBlock = some k) : base ≤ k ∧ k < w.heap.size := World.ownsRow.lt h k hk
theorem OwnK.kept {e : TypeId} {w w' : World} {base : Nat} {v : Value} {l : List α} (h : OwnK enc sz e w base v l) {row : Option Nat} (hg : w.grownBy w' row) (hne : v.ownBlock = Option.none ∨ v.ownBlock ≠ row) : OwnK enc sz e w' base v l := World.ownsRow.kept h hg hne
theorem OwnK.below {e : TypeId} {w w' : World} {base : Nat} {v : Value} {l : List α} (h : OwnK enc sz e w base v l) (hb : Below w.heap.size w w') : OwnK enc sz e w' base v l :=
  h.kept (grown_below hb Option.none) (by cases v.ownBlock <;> simp)
theorem OwnK.mono {e : TypeId} {w : World} {base base' : Nat} {v : Value} {l : List α} (h : OwnK enc sz e w base v l) (hb : base' ≤ base) : OwnK enc sz e w base' v l := World.ownsRow.mono h hb
/-- A literal's block. -/
theorem OwnK.lit (hsz : ∀ x, (enc x).length = sz) (w : World) (base : Nat) (e : TypeId) (l : List α) (C : Array Value) (n : Nat) (hC : C = (l.flatMap enc).toArray) (hn : l.length = n) (hb : base ≤ w.heap.size) (hm : n ≤ 9223372036854775807) :
    OwnK enc sz e (w.alloc (.cells C e)) base (.slice (some ⟨w.heap.size, 0, none⟩) n n) l := by
  subst hC
  subst hn
  refine ⟨flat_len hsz l, .inr ⟨w.heap.size, l.length, _, rfl, hb, heap_alloc_new w _, Nat.le_refl _, by unfold maxLen; omega, by simpa using flat_len hsz l, ?_⟩⟩
  exact List.take_of_length_le (by rw [flat_len hsz l]; exact Nat.le_refl _)
/-- append of what is read onto an own slice. -/
theorem run_append_rdK {P : Program} {w : World} (base : Nat) (t ty e : TypeId) (z : Value) (by_ : Nat) (ht : P.underlying t = some (.slice e)) (hinfo : (P.info? e).map (fun i => (i.zero, i.size, i.bytes)) = some (some z, sz, by_))
    (hz : z.cells.size = sz) (hs0 : 0 < sz) (hb0 : 0 < by_) (hsz : ∀ x, (enc x).length = sz) (h1 : ∀ x, ∀ u ∈ enc x, u.oneCell' = true) {v : Value} {xs ys : List α} {A : Option Addr} {m c : Nat}
    (HO : OwnK enc sz e w base v xs) (HR : RdK enc sz w A m ys) (hl : (xs.length + m) * by_ ≤ 140737488355328) (hbase : base ≤ w.heap.size) :
    ∃ v1 w1, (Builtin.append_ #[t, t] ty #[v, .slice A m c]).run P w = .ok v1 w1 ∧ OwnK enc sz e w1 base v1 (xs ++ ys) ∧ w.grownBy w1 v.ownBlock ∧ (v1.ownBlock = v.ownBlock ∨ v1.ownBlock = some w.heap.size) := by
  obtain ⟨i0, hi, hzz⟩ := Option.map_eq_some_iff.1 hinfo
  simp only [Prod.mk.injEq] at hzz
  obtain ⟨hz0, hz1, hz2⟩ := hzz
  have hlen : xs.length + m ≤ 140737488355328 := Nat.le_trans (Nat.le_mul_of_pos_right _ hb0) hl
  have hm : ys.length = m := HR.len
  rcases A with _ | ad
  · have h0 : m = 0 := by
      rcases Nat.eq_zero_or_pos m with h0 | h0
      · exact h0
      · obtain ⟨ad, h, _⟩ := HR.cell h0
        cases h
    subst h0
    obtain rfl : ys = [] := List.eq_nil_of_length_eq_zero hm
    refine ⟨v, w, ?_, by simpa using HO, World.grownBy.refl w _, .inl rfl⟩
    rcases HO.2 with ⟨rfl, hn⟩ | ⟨g, cap, cur, rfl, _, _, hnc, _⟩
    · simp [Builtin.append_, run_underlying ht, sizeOf, typeInfo, hi, Builtin.lenOf, Builtin.firstCells]
    · simp [Builtin.append_, run_underlying ht, sizeOf, typeInfo, hi, Builtin.lenOf, Builtin.firstCells, hnc, storeCells]
  · have hcells : ∀ j u, (ys.flatMap enc)[j]? = some u → w.cell? (ad.add j) = some u := by
      intro j u hu
      have hj : j < (ys.flatMap enc).length := (List.getElem?_eq_some_iff.1 hu).1
      rw [flat_len hsz] at hj
      have hq : j / sz < ys.length := Nat.div_lt_of_lt_mul (by rw [Nat.mul_comm]; exact hj)
      have hr : j % sz < (enc ys[j / sz]).length := by rw [hsz]; exact Nat.mod_lt _ hs0
      obtain ⟨ad', h', hc⟩ := HR.cell (by rw [← hm]; exact Nat.lt_of_le_of_lt (Nat.zero_le _) hq)
      injection h' with h'
      subst h'
      have e1 := flat_at hsz ys (j / sz) hq (j % sz) _ (List.getElem?_eq_getElem hr)
      have e2 : j / sz * sz + j % sz = j := by rw [Nat.mul_comm]; exact Nat.div_add_mod j sz
      rw [e2, hu] at e1
      have e3 := hc (j / sz) hq (j % sz) _ (List.getElem?_eq_getElem hr)
      rw [e2] at e3
      rw [e3]
      exact e1.symm
    obtain ⟨v1, w1, hr, h2, h3, _, h5⟩ := run_append_own_at (P := P) w base t ty e i0 z sz by_ ht hi hz0 hz1 hz2 hz hs0 v xs.length (xs.flatMap enc) HO ad m c (ys.flatMap enc) (by rw [flat_len hsz, hm]) hcells
      (by intro u hu; obtain ⟨q, _, h⟩ := List.mem_flatMap.1 hu; exact h1 q u h) (by unfold maxLen; omega) hl hbase
    exact ⟨v1, w1, hr, by unfold OwnK; rw [List.length_append, hm, List.flatMap_append]; exact h2, h3, h5⟩
/-- The same as a law of the walk; behind 'at_builtin'. -/
theorem wpl_appendK {P : Program} {ops : Array Oper} {rest : List Oper} {o : Oper} {a : Act} {Q : Exit → Act → World → Prop} {w : World} (base : Nat) (hgd : o.guard = Option.none) (s x : Operand) (t e : TypeId) (z : Value) (by_ : Nat)
    (ho : o.op = .call { callee := .builtin .append, args := #[s, x], argTypes := #[t, t] }) (ht : P.underlying t = some (.slice e)) (hinfo : (P.info? e).map (fun i => (i.zero, i.size, i.bytes)) = some (some z, sz, by_))
    (hz : z.cells.size = sz) (hs0 : 0 < sz) (hb0 : 0 < by_) (hsz : ∀ x, (enc x).length = sz) (h1 : ∀ x, ∀ u ∈ enc x, u.oneCell' = true) {v : Value} {xs ys : List α} {A : Option Addr} {m c : Nat} (hs : a.eval s = v) (hx : a.eval x = .slice A m c)
    (HO : OwnK enc sz e w base v xs) (HR : RdK enc sz w A m ys) (hl : (xs.length + m) * by_ ≤ 140737488355328) (hbase : base ≤ w.heap.size)
    (h : ∀ v1 w1, OwnK enc sz e w1 base v1 (xs ++ ys) → w.grownBy w1 v.ownBlock → (v1.ownBlock = v.ownBlock ∨ v1.ownBlock = some w.heap.size) → wpList P ops Q rest (a.put o.dst v1) w1) :
    wpList P ops Q (o :: rest) a w := by
  obtain ⟨v1, w1, hr, hown, hg, hat⟩ := run_append_rdK (P := P) (c := c) base t o.type e z by_ ht hinfo hz hs0 hb0 hsz h1 HO HR hl hbase
  refine wpList_plain hgd fun K hK => ?_
  unfold Oper.wp execOp
  simp only [ho, resolve, invoke, builtin, Sem.run_bind, Sem.run_pure, Result.andThen_ok, List.map_toArray, List.map_cons, List.map_nil, hs, hx, hr]
  exact hK _ _ (h v1 w1 hown hg hat)
/-- A new block of one element is read. -/
theorem RdK.one (w : World) (t : TypeId) (x : α) (C : Array Value) (fr : Nat × Nat) (hC : C = (enc x).toArray) (hsz : (enc x).length = sz) :
    RdK enc sz (w.alloc (.cells C t fr)) (some ⟨w.heap.size, 0, none⟩) 1 [x] :=
  ⟨rfl, by decide, fun _ => ⟨_, rfl, fun j hj i v hv => by
    subst hC
    obtain rfl : j = 0 := by simpa using hj
    rw [add_lit0, World.cell?_alloc_mark]
    simpa using hv⟩⟩
end
/-- Rows of other types lie in other blocks. -/
theorem rows_apart {w : World} {b b' : Nat} {e e' : TypeId} {s s' k k' : Nat} {v v' : Value} {xs xs' : List Value} (h : w.ownsRow b e s v k xs) (h' : w.ownsRow b' e' s' v' k' xs') (hne : e ≠ e') : v.ownBlock = Option.none ∨ v.ownBlock ≠ v'.ownBlock := by
  rcases h.2 with ⟨rfl, _⟩ | ⟨g, cap, cur, rfl, _, hg, _⟩
  · exact .inl rfl
  · right
    intro e1
    rcases h'.2 with ⟨rfl, _⟩ | ⟨g', cap', cur', rfl, _, hg', _⟩
    · simp [Value.ownBlock] at e1
    · obtain rfl : g = g' := by simpa [Value.ownBlock] using e1
      rw [hg] at hg'
      simp at hg'
      exact hne hg'.2
end Go.Proofs.YtkkeodlnejckjaaGreat

/- append inside a fence, its run being known. No condition. -/
namespace Go.Proofs.YtkkeodlnejckjaaGreat
open Go.RowKit

theorem wplIn_append_run {F : Fence} {n : Nat} {P : Program} {ops : Array Oper} {rest : List Oper} {o : Oper} {a : Act} {Q : Exit → Act → World → Prop} {w w1 : World} {v y v1 : Value} (hgd : o.guard = Option.none) (s x : Operand) (t : TypeId)
    (ho : o.op = .call { callee := .builtin .append, args := #[s, x], argTypes := #[t, t] }) (hs : a.eval s = v) (hx : a.eval x = y)
    (hr : (Builtin.append_ #[t, t] o.type #[v, y]).run P w = .ok v1 w1) (h : wpListIn F n P ops Q rest (a.put o.dst v1) w1) : wpListIn F n P ops Q (o :: rest) a w := by
  refine wpListIn_plain hgd fun K hK' => ?_
  unfold Oper.wpIn
  refine ⟨?_, ?_⟩
  · simp [Oper.about, ho, resolve, Target.leads, Sem.run_pure]
  · rw [Oper.semAt_plain F _ _ (by rw [ho]; intro c hc'; cases hc')]
    unfold execOp
    simp only [ho, resolve, invoke, builtin, Sem.run_bind, Sem.run_pure, Result.andThen_ok, List.map_toArray, List.map_cons, List.map_nil, hs, hx, hr]
    exact hK' _ _ h
end Go.Proofs.YtkkeodlnejckjaaGreat
