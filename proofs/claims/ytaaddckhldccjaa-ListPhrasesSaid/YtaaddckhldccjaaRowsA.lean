/- Words' postings, put together with their places: what stands in memory. -/
import Derived.Test.YtaaddckhldccjaaPst
namespace Go.Proofs.Ytaaddckhldccjaa
open Go.RowKit
set_option linter.unusedVariables false
set_option linter.unusedSimpArgs false

/-- Nothing but two rows changed. -/
def Ext (W W' : World) (a b : Option Nat) : Prop := W.heap.size ≤ W'.heap.size ∧ ∀ k, k < W.heap.size → some k ≠ a → some k ≠ b → W'.heap[k]? = W.heap[k]?
theorem Ext.of_below {W W' : World} (h : Below W.heap.size W W') (a b : Option Nat) : Ext W W' a b := ⟨h.size, fun k hk _ _ => h.block k hk⟩
theorem Ext.of_grown {W W' : World} {a : Option Nat} (h : W.grownBy W' a) (b : Option Nat) : Ext W W' a b := ⟨h.size, fun k hk ha _ => h.block k hk (fun e => ha e)⟩
theorem Ext.of_grown' {W W' : World} {b : Option Nat} (h : W.grownBy W' b) (a : Option Nat) : Ext W W' a b := ⟨h.size, fun k hk _ hb => h.block k hk (fun e => hb e)⟩
/-- A row that is the same one, or new. -/
def Anew (W : World) (a a' : Option Nat) : Prop := a' = a ∨ ∃ g, a' = some g ∧ W.heap.size ≤ g
theorem Ext.thn {W W1 W2 : World} {a b a' b' : Option Nat} (h : Ext W W1 a b) (h2 : Ext W1 W2 a' b') (ha : Anew W a a') (hb : Anew W b b') : Ext W W2 a b :=
  ⟨Nat.le_trans h.1 h2.1, fun k hk h3 h4 => (h2.2 k (by have := h.1; omega) (fun e => by
    rcases ha with h5 | ⟨g, h5, h6⟩
    · exact h3 (by rw [e, h5])
    · rw [h5] at e; injection e with e; omega) (fun e => by
    rcases hb with h5 | ⟨g, h5, h6⟩
    · exact h4 (by rw [e, h5])
    · rw [h5] at e; injection e with e; omega)).trans (h.2 k hk h3 h4)⟩
theorem OutJ.same {b : Nat} {o : Value} {os : List DV} {W W' : World} (h : OutJ b o os W) (hs : ∀ k, b ≤ k → k < W.heap.size → W'.heap[k]? = W.heap[k]?) : OutJ b o os W' := by
  have key : ∀ {e : TypeId} {s n : Nat} {v : Value} {xs : List Value}, W.ownsRow b e s v n xs → W'.ownsRow b e s v n xs := fun h => by
    obtain ⟨h1, h2⟩ := h
    refine ⟨h1, ?_⟩
    rcases h2 with h2 | ⟨g, cap, cur, h3, h4, h5, h6⟩
    · exact .inl h2
    · exact .inr ⟨g, cap, cur, h3, h4, (hs g h4 (Array.getElem?_eq_some_iff.1 h5).1).trans h5, h6⟩
  exact ⟨key h.own, fun y hy => ⟨key (h.rows y hy).1, (h.rows y hy).2⟩⟩
theorem encVV_cell (x : VV) : (encVV x).oneCell' = true := rfl
abbrev OwnV (w : World) (base : Nat) (v : Value) (l : List VV) : Prop := OwnL encVV 28 w base v l
/-- The words' lists so far, and their places. -/
structure RwI (w : World) (lv ov : Value) (L : List VV) (lo : List Int) (W : World) : Prop where
  be : Below w.heap.size w W
  l : OwnV W w.heap.size lv L
  o : OwnI W w.heap.size ov lo
  rob : ∀ x ∈ L, x.n ≤ 20 ∧ ∀ W', Ext W W' lv.ownBlock ov.ownBlock → x.ok W'
theorem RwI.rd {w : World} {lv ov : Value} {L : List VV} {lo : List Int} {W W' : World} (h : RwI w lv ov L lo W) (hb : Below W.heap.size W W') : ∃ A c B d, lv = .slice A L.length c ∧ ov = .slice B lo.length d ∧ RdVV W' A L.length L ∧ Rd encI W' B lo.length lo := by
  obtain ⟨A, c, e1, _, _, r1⟩ := OwnL.rd h.l
  obtain ⟨B, d, e2, _, _, r2⟩ := OwnL.rd h.o
  exact ⟨A, c, B, d, e1, e2, ⟨r1.below hb, fun x hx => (h.rob x hx).2 W' (Ext.of_below hb _ _)⟩, r2.below hb⟩
theorem RwI.push {w : World} {lv ov : Value} {L : List VV} {lo : List Int} {W W1 : World} (h : RwI w lv ov L lo W) {A : Option Addr} {n c : Nat} {os : List DV} (hb : Below W.heap.size W W1) (hj : OutJ W.heap.size (.slice A n c) os W1) (hn : os.length = n) (hn2 : n ≤ 20) (x : Int) (hl : L.length ≤ 1000) (hlo : lo.length ≤ 1000) :
    ∃ A' c' w2, (Builtin.append_ #[25, 25] 25 #[lv, .slice (some ⟨W1.heap.size, 0, none⟩) 1 1]).run Try.prog (W1.alloc (.cells #[.slice A n c] 28)) = .ok (.slice A' (L.length + 1) c') w2 ∧ L.length + 1 ≤ c' ∧ c' ≤ 9223372036854775807 ∧
      ∃ B' d' w3, (Builtin.append_ #[26, 26] 26 #[ov, .slice (some ⟨w2.heap.size, 0, none⟩) 1 1]).run Try.prog (w2.alloc (.cells #[.int .i64 x] 3)) = .ok (.slice B' (lo.length + 1) d') w3 ∧ lo.length + 1 ≤ d' ∧ d' ≤ 9223372036854775807 ∧
        RwI w (.slice A' (L.length + 1) c') (.slice B' (lo.length + 1) d') (L ++ [⟨A, n, c, os.map (·.1)⟩]) (lo ++ [x]) w3 := by
  have hba : Below W1.heap.size W1 (W1.alloc (.cells #[.slice A n c] 28)) := (Below.refl _ _).alloc (Nat.le_refl _) _
  obtain ⟨V, hV⟩ : ∃ V : VV, V = ⟨A, n, c, os.map (·.1)⟩ := ⟨_, rfl⟩
  have hrd := Rd.new W1 28 [V] #[.slice A n c] 1 (0, 0) (enc := encVV) (by rw [hV]; rfl) rfl (by decide)
  have a1 := (OwnL.below (OwnL.below h.l hb) hba)
  have a2 := (OwnL.below (OwnL.below h.o hb) hba)
  have hbw1 := Below.thn (Below.thn h.be hb) hba
  obtain ⟨v1, w2, r1, o1, g1, n1⟩ := run_append_rd (P := Try.prog) (c := 1) w.heap.size 25 25 28 (.slice none 0 0) 24 Try.underlying25 infoVV rfl (by decide) encVV_cell a1 hrd (by omega) hbw1.size
  have b2 : Below w.heap.size w w2 := hbw1.grown g1 hbw1.size (fun k hk => (OwnL.base a1 k hk).1)
  have o2 : OwnI w2 w.heap.size ov lo := apart_own a2 a1 (by decide) g1
  obtain ⟨A', c', e1, h1, h2, _⟩ := OwnL.rd o1
  have hlen : (L ++ [V]).length = L.length + 1 := by simp
  rw [hlen] at e1 h1
  subst e1
  have hbb : Below w2.heap.size w2 (w2.alloc (.cells #[.int .i64 x] 3)) := (Below.refl _ _).alloc (Nat.le_refl _) _
  have hrd3 := Rd.new w2 3 [x] #[.int .i64 x] 1 (0, 0) (enc := encI) rfl rfl (by decide)
  have a3 := OwnL.below o2 hbb
  have b2' := Below.thn b2 hbb
  obtain ⟨v3, w3, r3, o3, g3, n3⟩ := run_append_rd (P := Try.prog) (c := 1) w.heap.size 26 26 3 (.int .i64 0) 8 Try.underlying26 infoI rfl (by decide) encI_one a3 hrd3 (by omega) b2'.size
  have b3 : Below w.heap.size w w3 := b2'.grown g3 b2'.size (fun k hk => (OwnL.base a3 k hk).1)
  obtain ⟨B', d', e3, h3, h4, _⟩ := OwnL.rd o3
  have hlen3 : (lo ++ [x]).length = lo.length + 1 := by simp
  rw [hlen3] at e3 h3
  subst e3
  have E1 : ∀ W', Ext w3 W' (Value.slice A' (L.length + 1) c').ownBlock (Value.slice B' (lo.length + 1) d').ownBlock → Ext W1 W' lv.ownBlock ov.ownBlock := fun W' hE => by
    have x1 := Ext.of_below hba lv.ownBlock ov.ownBlock
    have x2 := x1.thn (Ext.of_grown g1 ov.ownBlock) (.inl rfl) (.inl rfl)
    have x3 := x2.thn (Ext.of_grown' ((grown_below hbb _).trans g3) lv.ownBlock) (.inl rfl) (.inl rfl)
    refine x3.thn hE ?_ ?_
    · rcases n1 with n1 | n1
      · exact .inl n1
      · exact .inr ⟨_, n1, hba.size⟩
    · rcases n3 with n3 | n3
      · exact .inl n3
      · exact .inr ⟨_, n3, Nat.le_trans x2.1 hbb.size⟩
  refine ⟨A', c', w2, r1, h1, h2, B', d', w3, r3, h3, h4, ⟨b3, by rw [← hV]; exact apart_own (OwnL.below o1 hbb) a3 (by decide) g3, o3, fun y hy => ?_⟩⟩
  rcases List.mem_append.1 hy with hy | hy
  · exact ⟨(h.rob y hy).1, fun W' hE => (h.rob y hy).2 W' ((Ext.of_below hb _ _).thn (E1 W' hE) (.inl rfl) (.inl rfl))⟩
  · rw [List.mem_singleton] at hy
    subst hy
    refine ⟨hn2, fun W' hE => ?_⟩
    have x4 := E1 W' hE
    obtain ⟨A5, n5, c5, e5, q1, q2, q3⟩ := (hj.same (W' := W') fun k hk1 hk2 => x4.2 k hk2 (fun e => by have := (OwnL.base h.l k e.symm).2; omega) (fun e => by have := (OwnL.base h.o k e.symm).2; omega)).ls
    cases e5
    exact ⟨q1, q2, q3⟩
end Go.Proofs.Ytaaddckhldccjaa
