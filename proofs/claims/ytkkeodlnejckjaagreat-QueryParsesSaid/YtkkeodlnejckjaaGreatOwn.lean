/- Slices of elements of one cell: read, owned, appended to, made. No condition. -/
import Derived.Below
import Derived.Maps.AppendAt
import Derived.Deep.AppendLies
import Derived.Deep.OwnRows
import Derived.Laws.OwnMore
import Derived.Laws.Slices
import Derived.Laws.IdiomStrings
import Derived.OwnWalk
import Derived.Deep.Onto
namespace Go.Proofs.YtkkeodlnejckjaaGreat
open Go.RowKit
set_option linter.unusedVariables false
set_option linter.unusedSimpArgs false

theorem cell_lt' {w : World} {a : Addr} {v : Value} (h : w.cell? a = some v) : a.block < w.heap.size := World.block_lt_of_cell? w a h
theorem cell_keep {w w' : World} (hb : Below w.heap.size w w') {a : Addr} {v : Value} (h : w.cell? a = some v) : w'.cell? a = some v :=
  (hb.cell (cell_lt' h)).trans h
theorem add_add' (a : Addr) (i j : Nat) : (a.add i).add j = a.add (i + j) := by
  unfold Addr.add
  by_cases h1 : i = 0 <;> by_cases h2 : j = 0 <;> simp [h1, h2, Nat.add_assoc]
theorem add_lit0 (g j : Nat) : (⟨g, 0, none⟩ : Addr).add j = ⟨g, j, none⟩ := by unfold Addr.add; split <;> simp_all
theorem Below.thn {w a b : World} (h : Below w.heap.size w a) (k : Below a.heap.size a b) : Below w.heap.size w b := h.trans (k.mono h.size)

section
variable {α : Type} {enc : α → Value}

/-- A slice that is read. -/
structure Rd (enc : α → Value) (w : World) (A : Option Addr) (n : Nat) (l : List α) : Prop where
  len : l.length = n
  max : n ≤ 9223372036854775807
  cell : 0 < n → ∃ ad, A = some ad ∧ ∀ j (h : j < l.length), w.cell? (ad.add j) = some (enc l[j])

theorem Rd.below {w w' : World} {A : Option Addr} {n : Nat} {l : List α} (h : Rd enc w A n l) (hb : Below w.heap.size w w') : Rd enc w' A n l :=
  ⟨h.len, h.max, fun hn => by
    obtain ⟨ad, e, hc⟩ := h.cell hn
    exact ⟨ad, e, fun j hj => cell_keep hb (hc j hj)⟩⟩
theorem Rd.empty (w : World) : Rd enc w Option.none 0 [] := ⟨rfl, by decide, fun h => by omega⟩
theorem Rd.nil (w : World) (A : Option Addr) : Rd enc w A 0 [] := ⟨rfl, by decide, fun h => by omega⟩
theorem Rd.take {w : World} {A : Option Addr} {n : Nat} {l : List α} (h : Rd enc w A n l) (r : Nat) (hr : r ≤ n) : Rd enc w A r (l.take r) :=
  ⟨by rw [List.length_take, h.len]; omega, by have := h.max; omega, fun h0 => by
    obtain ⟨ad, e, hcl⟩ := h.cell (by omega)
    exact ⟨ad, e, fun j hj => by rw [List.getElem_take]; exact hcl j (by simp at hj; omega)⟩⟩
theorem Rd.drop {w : World} {A : Option Addr} {n : Nat} {l : List α} (h : Rd enc w A n l) (c r : Nat) (hr : r ≤ n) (hc : n ≤ c) : Rd enc w (if c = r then A else A.map (·.add r)) (n - r) (l.drop r) :=
  ⟨by rw [List.length_drop, h.len], by have := h.max; omega, fun h0 => by
    obtain ⟨ad, rfl, hcl⟩ := h.cell (by omega)
    rw [if_neg (by omega)]
    exact ⟨ad.add r, rfl, fun j hj => by rw [add_add', List.getElem_drop]; exact hcl (r + j) (by simp at hj; omega)⟩⟩
/-- A cut without a case on the capacity: 'b[k:]', 'b[k:m]'. -/
theorem cut_rd {P : Program} (enc : α → Value) (t e : TypeId) {z : Value} {by_ : Nat} (ht : P.underlying t = some (.slice e)) (hinfo : (P.info? e).map (fun i => (i.zero, i.size, i.bytes)) = some (some z, 1, by_))
    (A : Option Addr) (n c k : Nat) (hk : k ≤ n) (hc : n ≤ c) : ∃ A' : Option Addr,
    (∀ W : World, (Instr.slice t (.slice A n c) (some (.int .i64 (k : Int))) none none).run P W = .ok (.slice A' (n - k) (c - k)) W) ∧
    (∀ (m : Nat), k ≤ m → m ≤ c → ∀ W : World, (Instr.slice t (.slice A n c) (some (.int .i64 (k : Int))) (some (.int .i64 (m : Int))) none).run P W = .ok (.slice A' (m - k) (c - k)) W) ∧
      ∀ (w : World) (l : List α), Rd enc w A n l → Rd enc w A' (n - k) (l.drop k) := by
  obtain ⟨i, hi, hzz⟩ := Option.map_eq_some_iff.1 hinfo
  simp only [Prod.mk.injEq] at hzz
  have hel : P.elem t = e := by simp [Program.elem, ht]
  have hu : P.underlying t = some (.slice (P.elem t)) := by rw [hel]; exact ht
  refine ⟨if c = k then A else A.map (·.add k), fun W => ?_, fun m h1 h2 W => ?_, fun w l h => h.drop c k hk hc⟩
  · rw [run_slice_l W t A n c hu .i64 (k : Int) (Int.natCast_nonneg _) (by omega), hel]
    simp [sizeOf, typeInfo, hi, hzz.2.1, sliced, Result.andThen]
  · rw [run_slice_lh W t A n c hu .i64 .i64 (k : Int) (m : Int) (Int.natCast_nonneg _) (by omega) (by omega), hel]
    simp [sizeOf, typeInfo, hi, hzz.2.1, sliced, Result.andThen]
/-- A new block is read. -/
theorem Rd.new (w : World) (t : TypeId) (l : List α) (C : Array Value) (n : Nat) (fr : Nat × Nat) (hC : C = (l.map enc).toArray) (hn : l.length = n) (hm : n ≤ 9223372036854775807) :
    Rd enc (w.alloc (.cells C t fr)) (some ⟨w.heap.size, 0, none⟩) n l :=
  ⟨hn, hm, fun _ => ⟨_, rfl, fun j hj => by
    subst hC
    rw [Addr.add_lit, Nat.zero_add, World.cell?_alloc_mark]
    simp [hj]⟩⟩

/-- A slice of the call's own. -/
def OwnL (enc : α → Value) (e : TypeId) (w : World) (base : Nat) (v : Value) (l : List α) : Prop := w.ownsRow base e 1 v l.length (l.map enc)
theorem OwnL.nil (enc : α → Value) (e : TypeId) (w : World) (base : Nat) : OwnL enc e w base (.slice none 0 0) [] := ⟨by simp, .inl ⟨rfl, rfl⟩⟩
theorem OwnL.rd {e : TypeId} {w : World} {base : Nat} {v : Value} {l : List α} (h : OwnL enc e w base v l) : ∃ A c, v = .slice A l.length c ∧ l.length ≤ c ∧ c ≤ 9223372036854775807 ∧ Rd enc w A l.length l := by
  rcases h.2 with ⟨rfl, h0⟩ | ⟨g, cap, cur, rfl, hb, hh, hn, hc, hs, ht⟩
  · obtain rfl : l = [] := List.eq_nil_of_length_eq_zero h0
    exact ⟨Option.none, 0, rfl, Nat.le_refl _, by decide, Rd.empty w⟩
  · unfold maxLen at hc
    refine ⟨_, cap, rfl, hn, hc, rfl, by omega, fun h0 => ⟨_, rfl, fun j hj => ?_⟩⟩
    exact World.ownsRow.cells h (g := g) rfl j _ (by simp [hj])
/-- Where an own slice lies, if it has a place at all. -/
theorem OwnL.place {e : TypeId} {w : World} {base : Nat} {v : Value} {l : List α} (h : OwnL enc e w base v l) (h0 : 0 < l.length) : ∃ g c, v = .slice (some ⟨g, 0, none⟩) l.length c ∧ base ≤ g ∧ g < w.heap.size ∧ l.length ≤ c ∧ c ≤ 9223372036854775807 := by
  rcases h.2 with ⟨rfl, h1⟩ | ⟨g, cap, cur, rfl, hb, hh, hn, hc, hs, ht⟩
  · omega
  · unfold maxLen at hc
    exact ⟨g, cap, rfl, hb, (Array.getElem?_eq_some_iff.1 hh).1, hn, hc⟩
theorem OwnL.base {e : TypeId} {w : World} {base : Nat} {v : Value} {l : List α} (h : OwnL enc e w base v l) (k : Nat) (hk : v.ownBlock = some k) : base ≤ k ∧ k < w.heap.size := World.ownsRow.lt h k hk
theorem OwnL.kept {e : TypeId} {w w' : World} {base : Nat} {v : Value} {l : List α} (h : OwnL enc e w base v l) {row : Option Nat} (hg : w.grownBy w' row) (hne : v.ownBlock = Option.none ∨ v.ownBlock ≠ row) : OwnL enc e w' base v l := World.ownsRow.kept h hg hne
theorem grown_below {w w1 : World} (h : Below w.heap.size w w1) (row : Option Nat) : w.grownBy w1 row := ⟨h.os, h.tape, h.output, h.size, fun i hi _ => h.block i hi⟩
theorem OwnL.below {e : TypeId} {w w' : World} {base : Nat} {v : Value} {l : List α} (h : OwnL enc e w base v l) (hb : Below w.heap.size w w') : OwnL enc e w' base v l :=
  h.kept (grown_below hb Option.none) (by cases v.ownBlock <;> simp)
theorem OwnL.mono {e : TypeId} {w : World} {base base' : Nat} {v : Value} {l : List α} (h : OwnL enc e w base v l) (hb : base' ≤ base) : OwnL enc e w base' v l := World.ownsRow.mono h hb
theorem OwnL.drew {e : TypeId} {w : World} {base : Nat} {v : Value} {l : List α} (h : OwnL enc e w base v l) : OwnL enc e w.drew base v l := h
/-- A literal's block. -/
theorem OwnL.lit (w : World) (base : Nat) (e : TypeId) (l : List α) (C : Array Value) (n : Nat) (hC : C = (l.map enc).toArray) (hn : l.length = n) (hb : base ≤ w.heap.size) (hm : n ≤ 9223372036854775807) :
    OwnL enc e (w.alloc (.cells C e)) base (.slice (some ⟨w.heap.size, 0, none⟩) n n) l := by
  subst hC
  subst hn
  refine ⟨by simp, .inr ⟨w.heap.size, l.length, _, rfl, hb, heap_alloc_new w _, Nat.le_refl _, by unfold maxLen; omega, by simp, by simp [List.take_of_length_le]⟩⟩
/-- What make has laid. -/
theorem OwnL.made (w : World) (base : Nat) (e : TypeId) (z : α) (n : Nat) (hb : base ≤ w.heap.size) (hm : n ≤ 9223372036854775807) :
    OwnL enc e (w.alloc (.cells (madeCells #[enc z] n) e)) base (.slice (some ⟨w.heap.size, 0, none⟩) n n) (List.replicate n z) := by
  have e1 : madeCells #[enc z] n = ((List.replicate n z).map enc).toArray := by
    apply Array.ext'
    apply List.ext_getElem
    · simp [madeCells]
    · intro i h1 h2
      simp [madeCells, Nat.mod_one]
  rw [e1]
  exact OwnL.lit w base e _ _ n rfl (by simp) hb hm
/-- A store. -/
theorem OwnL.set {e : TypeId} {w : World} {base g c : Nat} {l : List α} (h : OwnL enc e w base (.slice (some ⟨g, 0, none⟩) l.length c) l) (i : Nat) (x : α) :
    OwnL enc e (w.setCell ⟨g, i, none⟩ (enc x)) base (.slice (some ⟨g, 0, none⟩) l.length c) (l.set i x) ∧ w.grownBy (w.setCell ⟨g, i, none⟩ (enc x)) (some g) := by
  have hs := World.ownsRow.stored h i (enc x)
  have he : (l.map enc).set i (enc x) = (l.set i x).map enc := by rw [List.map_set]
  rw [he] at hs
  exact ⟨by unfold OwnL; rw [List.length_set]; exact hs.1, hs.2⟩
theorem OwnL.cellAt {e : TypeId} {w : World} {base g c : Nat} {l : List α} (h : OwnL enc e w base (.slice (some ⟨g, 0, none⟩) l.length c) l) (i : Nat) (hi : i < l.length) :
    w.cell? ⟨g, i, none⟩ = some (enc l[i]) ∧ w.frozen? ⟨g, i, none⟩ = false := by
  refine ⟨?_, World.ownsRow.frozenAt h i⟩
  rw [World.ownsRow.cellAt h i (by omega)]
  simp [hi]

/-- append of what is read onto an own slice. -/
theorem run_append_rd {P : Program} {w : World} (base : Nat) (t ty e : TypeId) (z : Value) (by_ : Nat) (ht : P.underlying t = some (.slice e)) (hinfo : (P.info? e).map (fun i => (i.zero, i.size, i.bytes)) = some (some z, 1, by_))
    (hz : z.cells.size = 1) (hb0 : 0 < by_) (h1 : ∀ x : α, (enc x).oneCell' = true) {v : Value} {xs ys : List α} {A : Option Addr} {m c : Nat}
    (HO : OwnL enc e w base v xs) (HR : Rd enc w A m ys) (hl : (xs.length + m) * by_ ≤ 140737488355328) (hbase : base ≤ w.heap.size) :
    ∃ v1 w1, (Builtin.append_ #[t, t] ty #[v, .slice A m c]).run P w = .ok v1 w1 ∧ OwnL enc e w1 base v1 (xs ++ ys) ∧ w.grownBy w1 v.ownBlock ∧ (v1.ownBlock = v.ownBlock ∨ v1.ownBlock = some w.heap.size) := by
  obtain ⟨i0, hi, hzz⟩ := Option.map_eq_some_iff.1 hinfo
  simp only [Prod.mk.injEq] at hzz
  obtain ⟨hz0, hz1, hz2⟩ := hzz
  have hlen : xs.length + m ≤ 140737488355328 := Nat.le_trans (Nat.le_mul_of_pos_right _ hb0) hl
  have hm : ys.length = m := HR.len
  rcases A with _ | ad
  · have h0 : m = 0 := by
      rcases Nat.eq_zero_or_pos m with h0 | h0
      · exact h0
      · obtain ⟨ad, h, _⟩ := HR.cell h0
        cases h
    subst h0
    obtain rfl : ys = [] := List.eq_nil_of_length_eq_zero hm
    refine ⟨v, w, ?_, by simpa using HO, World.grownBy.refl w _, .inl rfl⟩
    rcases HO.2 with ⟨rfl, hn⟩ | ⟨g, cap, cur, rfl, _, _, hnc, _⟩
    · simp [Builtin.append_, run_underlying ht, sizeOf, typeInfo, hi, Builtin.lenOf, Builtin.firstCells]
    · simp [Builtin.append_, run_underlying ht, sizeOf, typeInfo, hi, Builtin.lenOf, Builtin.firstCells, hnc, storeCells]
  · have hcells : ∀ j u, (ys.map enc)[j]? = some u → w.cell? (ad.add j) = some u := by
      intro j u hu
      have hj : j < ys.length := by
        rcases Nat.lt_or_ge j ys.length with h | h
        · exact h
        · simp [List.getElem?_eq_none h] at hu
      obtain ⟨ad', h', hc⟩ := HR.cell (by omega)
      injection h' with h'
      subst h'
      rw [hc j hj]
      simpa [List.getElem?_eq_getElem hj] using hu
    obtain ⟨v1, w1, hr, h2, h3, _, h5⟩ := run_append_own_at (P := P) w base t ty e i0 z 1 by_ ht hi hz0 hz1 hz2 hz (by omega) v xs.length (xs.map enc) HO ad m c (ys.map enc) (by simp [hm]) hcells
      (by intro u hu; obtain ⟨q, _, rfl⟩ := List.mem_map.1 hu; exact h1 q) (by unfold maxLen; omega) hl hbase
    exact ⟨v1, w1, hr, by unfold OwnL; rw [List.length_append, hm, List.map_append]; exact h2, h3, h5⟩

/-- The same as a law of the walk; behind 'at_builtin'. -/
theorem wpl_append {P : Program} {ops : Array Oper} {rest : List Oper} {o : Oper} {a : Act} {Q : Exit → Act → World → Prop} {w : World} (base : Nat) (hgd : o.guard = Option.none) (s x : Operand) (t e : TypeId) (z : Value) (by_ : Nat)
    (ho : o.op = .call { callee := .builtin .append, args := #[s, x], argTypes := #[t, t] }) (ht : P.underlying t = some (.slice e)) (hinfo : (P.info? e).map (fun i => (i.zero, i.size, i.bytes)) = some (some z, 1, by_))
    (hz : z.cells.size = 1) (hb0 : 0 < by_) (h1 : ∀ x : α, (enc x).oneCell' = true) {v : Value} {xs ys : List α} {A : Option Addr} {m c : Nat} (hs : a.eval s = v) (hx : a.eval x = .slice A m c)
    (HO : OwnL enc e w base v xs) (HR : Rd enc w A m ys) (hl : (xs.length + m) * by_ ≤ 140737488355328) (hbase : base ≤ w.heap.size)
    (h : ∀ v1 w1, OwnL enc e w1 base v1 (xs ++ ys) → w.grownBy w1 v.ownBlock → (v1.ownBlock = v.ownBlock ∨ v1.ownBlock = some w.heap.size) → wpList P ops Q rest (a.put o.dst v1) w1) :
    wpList P ops Q (o :: rest) a w := by
  obtain ⟨v1, w1, hr, hown, hg, hat⟩ := run_append_rd (P := P) (c := c) base t o.type e z by_ ht hinfo hz hb0 h1 HO HR hl hbase
  refine wpList_plain hgd fun K hK => ?_
  unfold Oper.wp execOp
  simp only [ho, resolve, invoke, builtin, Sem.run_bind, Sem.run_pure, Result.andThen_ok, List.map_toArray, List.map_cons, List.map_nil, hs, hx, hr]
  exact hK _ _ (h v1 w1 hown hg hat)
/-- append, its run being known; behind 'at_builtin'. -/
theorem wpl_append_run {P : Program} {ops : Array Oper} {rest : List Oper} {o : Oper} {a : Act} {Q : Exit → Act → World → Prop} {w w1 : World} {v y v1 : Value} (hgd : o.guard = Option.none) (s x : Operand) (t : TypeId)
    (ho : o.op = .call { callee := .builtin .append, args := #[s, x], argTypes := #[t, t] }) (hs : a.eval s = v) (hx : a.eval x = y)
    (hr : (Builtin.append_ #[t, t] o.type #[v, y]).run P w = .ok v1 w1) (h : wpList P ops Q rest (a.put o.dst v1) w1) : wpList P ops Q (o :: rest) a w := by
  refine wpList_plain hgd fun K hK => ?_
  unfold Oper.wp execOp
  simp only [ho, resolve, invoke, builtin, Sem.run_bind, Sem.run_pure, Result.andThen_ok, List.map_toArray, List.map_cons, List.map_nil, hs, hx, hr]
  exact hK _ _ h
end
end Go.Proofs.YtkkeodlnejckjaaGreat
