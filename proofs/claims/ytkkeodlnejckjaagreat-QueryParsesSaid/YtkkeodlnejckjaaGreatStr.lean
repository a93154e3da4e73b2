import Derived.Test.YtkkeodlnejckjaaGreatMay2
import Derived.WalkSpells
import Derived.Lib.Builder
import Derived.Lib.UnsafeStr
import Derived.Deep.QuietTactic
import Derived.BigQuiet

/- A word's builder: a rune is put behind, the string is read. -/
namespace Go.Proofs.YtkkeodlnejckjaaGreat
open Go.RowKit Go.Shelf Go.Maps
set_option linter.unusedVariables false
set_option linter.unusedSimpArgs false

theorem encL_one {r : Nat} (h : r < 128) : encL (r : Int) = [r] := by
  rw [encL_form ⟨by omega, by omega, by omega⟩]
  simp [formN, h]
theorem encL_two {r : Nat} (h1 : 128 ≤ r) (h2 : r < 2048) : encL (r : Int) = [192 + r / 64, 128 + r % 64] := by
  rw [encL_form ⟨by omega, by omega, by omega⟩]
  simp [formN, h2, show ¬ r < 128 by omega]
set_option maxRecDepth 100000 in
set_option maxHeartbeats 2000000 in
theorem AppendRune_any (base : Nat) (v : Value) (l : List Nat) (r : Nat) (w : World) (h : OwnB w base v l) (h1 : r < 2048) (hl : l.length ≤ 1000000) (hb : base ≤ w.heap.size) :
    Calls Tryz.prog 135 #[v, .int .i32 (r : Int)] w fun e w' => ∃ v', e = .returned v' ∧ OwnB w' base v' (l ++ encL (r : Int)) ∧ (∃ o, (w.alloc o).grownBy w' v.ownBlock) ∧ (v'.ownBlock = v.ownBlock ∨ ∀ k, v'.ownBlock = some k → w.heap.size ≤ k) := by
  by_cases h7 : r < 128
  · rw [encL_one h7]
    have h7' : (r : Int) ≤ 127 := by omega
    have hA := OwnB.below h ((Below.refl w.heap.size w).alloc (Nat.le_refl _) (.cells #[.int .u8 (r : Int)] 5))
    have hR := Rd.new w 5 [r] #[.int .u8 (r : Int)] 1 (0, 0) (enc := encB) rfl rfl (by decide)
    obtain ⟨v1, w1, r1, o1, g1, at1⟩ := run_append_rd (P := Tryz.prog) (c := 1) base 26 26 5 (.int .u8 0) 1 Tryz.underlying26 infoB rfl (by decide) encB_one hA.1 hR (by omega) (by simp; omega)
    have HO : Hid (OwnB w1 base v1 (l ++ [r])) := Lib.hid ⟨o1, h.2.append (fun c hc => by simp at hc; omega)⟩
    have HG : Hid ((w.alloc (.cells #[.int .u8 (r : Int)] 5)).grownBy w1 v.ownBlock) := Lib.hid g1
    have HA := Lib.hid at1
    clear o1 g1 at1 hA hR h
    go_enter Tryz.func135, Tryz.ntmps135
    go_wp2_with (at_builtin; refine wpl_append_run rfl _ _ _ rfl rfl rfl r1 ?_)
    go_ret
    refine ⟨v1, by simp [results], HO.out, ⟨_, HG.out⟩, ?_⟩
    rcases HA.out with e | e
    · exact .inl e
    · exact .inr fun k hk => by rw [e] at hk; simp at hk; omega
  · rw [encL_two (by omega) h1]
    have h7' : ¬ (r : Int) ≤ 127 := by omega
    have h8' : (r : Int) ≤ 2047 := by omega
    have h9' : (128 : Int) ≤ (r : Int) := by omega
    have hA := OwnB.below h ((Below.refl w.heap.size w).alloc (Nat.le_refl _) (.cells #[.int .u8 (192 + (r : Int) / 64), .int .u8 (128 + (r : Int) % 64)] 5))
    have hR := Rd.new w 5 [192 + r / 64, 128 + r % 64] #[.int .u8 (192 + (r : Int) / 64), .int .u8 (128 + (r : Int) % 64)] 2 (0, 0) (enc := encB) (by simp) rfl (by decide)
    obtain ⟨v1, w1, r1, o1, g1, at1⟩ := run_append_rd (P := Tryz.prog) (c := 2) base 26 26 5 (.int .u8 0) 1 Tryz.underlying26 infoB rfl (by decide) encB_one hA.1 hR (by omega) (by simp; omega)
    have HO : Hid (OwnB w1 base v1 (l ++ [192 + r / 64, 128 + r % 64])) := Lib.hid ⟨o1, h.2.append (fun c hc => by simp at hc; omega)⟩
    have HG : Hid ((w.alloc (.cells #[.int .u8 (192 + (r : Int) / 64), .int .u8 (128 + (r : Int) % 64)] 5)).grownBy w1 v.ownBlock) := Lib.hid g1
    have HA := Lib.hid at1
    clear o1 g1 at1 hA hR h h7
    go_enter Tryz.func135, Tryz.ntmps135
    go_wp2_with fail
    have C : Calls Tryz.prog 137 #[v, .int .i32 (r : Int)] w fun e w' => e = .returned v1 ∧ w' = w1 := by
      go_enter Tryz.func137, Tryz.ntmps137
      go_wp2_with (at_builtin; refine wpl_append_run rfl _ _ _ rfl rfl rfl r1 ?_)
      go_ret
      exact ⟨by simp [results], rfl⟩
    refine C.mono ?_
    rintro e w2 ⟨rfl, rfl⟩
    go_wp2
    go_ret
    refine ⟨v1, by simp [results], HO.out, ⟨_, HG.out⟩, ?_⟩
    rcases HA.out with e | e
    · exact .inl e
    · exact .inr fun k hk => by rw [e] at hk; simp at hk; omega
end Go.Proofs.YtkkeodlnejckjaaGreat

/- A word that is being read: its builder. -/
namespace Go.Proofs.YtkkeodlnejckjaaGreat
open Go.RowKit Go.Shelf Go.Maps
set_option linter.unusedVariables false
set_option linter.unusedSimpArgs false

/-- Whatever lies below base stays, and what lies above, but M and words' own cells. -/
structure Rest (base : Nat) (M : Option Nat) (w w' : World) : Prop where
  os : w'.os = w.os
  tape : w'.tape = w.tape
  output : w'.output = w.output
  size : w.heap.size ≤ w'.heap.size
  low : ∀ (k : Nat) (o : Obj), k < base → w.heap[k]? = some o → w'.heap[k]? = some o
  own : ∀ (k : Nat) (o : Obj), w.heap[k]? = some o → some k ≠ M → (∀ C t fr, o = .cells C t fr → t ≠ 185 ∧ t ≠ 5) → w'.heap[k]? = some o
theorem Rest.refl (base : Nat) (M : Option Nat) (w : World) : Rest base M w w := ⟨rfl, rfl, rfl, Nat.le_refl _, fun _ _ _ h => h, fun _ _ h _ _ => h⟩
theorem Rest.trans {base : Nat} {M : Option Nat} {a b c : World} (h : Rest base M a b) (k : Rest base M b c) : Rest base M a c :=
  ⟨k.os.trans h.os, k.tape.trans h.tape, k.output.trans h.output, Nat.le_trans h.size k.size, fun i o hi ho => k.low i o hi (h.low i o hi ho), fun i o ho hm ht => k.own i o (h.own i o ho hm ht) hm ht⟩
theorem Rest.grown {base : Nat} {M : Option Nat} {w w' : World} {row : Option Nat} (hg : w.grownBy w' row) (hr : ∀ k, row = some k → base ≤ k ∧ (some k = M ∨ ∃ C t fr, w.heap[k]? = some (.cells C t fr) ∧ (t = 185 ∨ t = 5))) : Rest base M w w' := by
  refine ⟨hg.os, hg.tape, hg.output, hg.size, fun i o hi ho => (hg.block i (Array.getElem?_eq_some_iff.1 ho).1 ?_).trans ho, fun i o ho hm ht => (hg.block i (Array.getElem?_eq_some_iff.1 ho).1 ?_).trans ho⟩
  · intro e
    have := (hr i e.symm).1
    omega
  · intro e
    rcases (hr i e.symm).2 with h | ⟨C, t, fr, h1, h2⟩
    · exact hm h
    · rw [ho] at h1
      cases h1
      have := ht C t fr rfl
      rcases h2 with h2 | h2
      · exact this.1 h2
      · exact this.2 h2
theorem Rest.below {base : Nat} {M : Option Nat} {w w' : World} (h : Below w.heap.size w w') : Rest base M w w' := Rest.grown (row := none) (Grown.below h) (fun k e => by cases e)
theorem Rest.lowB {base : Nat} {M : Option Nat} {w w' : World} (h : Rest base M w w') (hb : base ≤ w.heap.size) : Below base w w' :=
  ⟨h.os, h.tape, h.output, h.size, fun k hk => by
    have hlt : k < w.heap.size := by omega
    rw [h.low k _ hk (Array.getElem?_eq_getElem hlt), Array.getElem?_eq_getElem hlt]⟩
theorem Rest.wid {base M : Nat} {w w' : World} (h : Rest base none w w') : Rest base (some M) w w' := ⟨h.os, h.tape, h.output, h.size, h.low, fun i o ho _ ht => h.own i o ho (by simp) ht⟩
theorem Rest.mono {base base' : Nat} {M : Option Nat} {w w' : World} (h : Rest base M w w') (hb : base' ≤ base) : Rest base' M w w' := ⟨h.os, h.tape, h.output, h.size, fun k o hk ho => h.low k o (by omega) ho, h.own⟩
theorem Fol.rest {w w' : World} {base f M : Nat} {l : List Fo} {k : Nat} (h : Fol w base f M l k) (hr : Rest base none w w') : Fol w' base f M l k := by
  obtain ⟨A, n, c, D, h1, h2, h3, h4⟩ := h.ex
  obtain ⟨es, cc, hm⟩ := mapBlock h3
  have hlt := (Array.getElem?_eq_some_iff.1 h1).1
  refine ⟨⟨A, n, c, D, hr.own f _ h1 (by simp) (fun C t fr e => by cases e; exact ⟨by decide, by decide⟩), h2.low (hr.lowB (by have := h.hf; omega)), ?_, h4⟩, h.small, h.hf, h.hM⟩
  obtain ⟨es, cc, hb, rest⟩ := h3
  exact ⟨es, cc, hr.own M _ hb (by simp) (fun C t fr e => by cases e), rest⟩
/-- The word at block b: its bytes, how many letters it has. -/
structure WordS (w : World) (base b : Nat) (l : List Nat) (many : Nat) : Prop where
  ex : ∃ p v, w.heap[b]? = some (.cells #[p, v, .int .i64 (many : Nat)] 185 (0, 0)) ∧ (p = .pointer none ∨ p = .pointer (some ⟨b, 0, none⟩)) ∧ OwnB w base v l
  hb : base ≤ b
theorem own_ne {w : World} {base b : Nat} {v : Value} {l : List Nat} {C : Array Value} {t : TypeId} {fr : Nat × Nat} (h : OwnB w base v l) (hb : w.heap[b]? = some (.cells C t fr)) (ht : t ≠ 5) : v.ownBlock ≠ some b := by
  rcases h.1.2 with ⟨rfl, _⟩ | ⟨g, cap, cur, rfl, _, hg, _⟩
  · simp [Value.ownBlock]
  · intro e
    simp only [Value.ownBlock, Option.some.injEq] at e
    subst e
    rw [hg] at hb
    cases hb
    exact ht rfl
theorem own_row {w : World} {base : Nat} {v : Value} {l : List Nat} (h : OwnB w base v l) : ∀ k, v.ownBlock = some k → base ≤ k ∧ ∃ C t fr, w.heap[k]? = some (.cells C t fr) ∧ (t = 185 ∨ t = 5) := by
  intro k hk
  rcases h.1.2 with ⟨rfl, _⟩ | ⟨g, cap, cur, rfl, hb, hg, _⟩
  · simp [Value.ownBlock] at hk
  · simp only [Value.ownBlock, Option.some.injEq] at hk
    subst hk
    exact ⟨hb, _, _, _, hg, .inr rfl⟩
theorem liesW : liesAt Tryz.prog Tryz.prog.depth 185 (3 / Tryz.prog.cellsOf 185) 0 112 1 = true := by kernel_rfl
theorem sizeBld : (Tryz.prog.info? 112).map (·.size) = some 2 := by kernel_rfl
set_option maxRecDepth 100000 in
set_option maxHeartbeats 1000000 in
theorem copyCheck_fresh (b : Nat) (x y : Value) (w : World) (h : w.heap[b]? = some (.cells #[.pointer none, x, y] 185 (0, 0))) :
    Calls Tryz.prog 90 #[.pointer (some ⟨b, 0, none⟩)] w fun e w' => e = .returned (.tuple #[]) ∧ w' = w.setCell ⟨b, 0, none⟩ (.pointer (some ⟨b, 0, none⟩)) := by
  obtain ⟨j, hj, hjs⟩ := Option.map_eq_some_iff.1 sizeBld
  obtain ⟨h0, _, _⟩ := cells3 h
  have hsh : w.shape? b = some (185, 3) := by simp [World.shape?, h]
  have hfz : w.frozen? ⟨b, 0, none⟩ = false := by simp [World.frozen?, h]
  go_enter Tryz.func90, Tryz.ntmps90
  go_wp2
  rw [Lib.run_to_unsafe w ⟨b, 0, none⟩ Tryz.underlying110 Tryz.underlying152 hj (by rw [hjs]; decide) hsh (Nat.zero_lt_succ 2)]
  simp only [Result.andThen]
  rw [Oper.upon_value]
  go_wp2
  rw [run_callFunc_extern Tryz.func106 (by kernel_rfl) (by kernel_rfl) (by kernel_rfl) (e := Extern.AbiNoEscape.same) (by kernel_rfl)]
  rw [Lib.run_noEscape]
  simp only [Result.andThen]
  rw [Oper.upon_value]
  go_wp2
  have hfu := Lib.run_from_unsafe w ⟨b, 0, none⟩ Tryz.underlying152 Tryz.underlying110 hj hsh liesW
  rw [hfu]
  simp only [Result.andThen]
  rw [Oper.upon_value]
  go_wp2
  go_end0
  exact ⟨rfl, rfl⟩
set_option maxRecDepth 100000 in
set_option maxHeartbeats 1000000 in
theorem copyCheck_used (b : Nat) (x y : Value) (w : World) (h : w.heap[b]? = some (.cells #[.pointer (some ⟨b, 0, none⟩), x, y] 185 (0, 0))) :
    Calls Tryz.prog 90 #[.pointer (some ⟨b, 0, none⟩)] w fun e w' => e = .returned (.tuple #[]) ∧ w' = w := by
  obtain ⟨j, hj, _⟩ := Option.map_eq_some_iff.1 sizeBld
  obtain ⟨h0, _, _⟩ := cells3 h
  clear h
  go_enter Tryz.func90, Tryz.ntmps90
  go_wp2
  rw [Lib.run_neq_ptr_same w _ Tryz.underlying110 hj]
  go_wp2
  go_end0
  exact ⟨rfl, rfl⟩
theorem setCell_0 {w : World} {b : Nat} {x y z u : Value} {t : TypeId} {fr : Nat × Nat} (h : w.heap[b]? = some (.cells #[x, y, z] t fr)) : (w.setCell ⟨b, 0, none⟩ u).heap[b]? = some (.cells #[u, y, z] t fr) := by simp [World.setCell, Array.getElem?_modify, h]
theorem setCell_1 {w : World} {b : Nat} {x y z u : Value} {t : TypeId} {fr : Nat × Nat} (h : w.heap[b]? = some (.cells #[x, y, z] t fr)) : (w.setCell ⟨b, 1, none⟩ u).heap[b]? = some (.cells #[x, u, z] t fr) := by simp [World.setCell, Array.getElem?_modify, h]
theorem setCell_2 {w : World} {b : Nat} {x y z u : Value} {t : TypeId} {fr : Nat × Nat} (h : w.heap[b]? = some (.cells #[x, y, z] t fr)) : (w.setCell ⟨b, 2, none⟩ u).heap[b]? = some (.cells #[x, y, u] t fr) := by simp [World.setCell, Array.getElem?_modify, h]
theorem grown_set (W : World) (b i : Nat) (v : Value) : W.grownBy (W.setCell ⟨b, i, none⟩ v) (some b) :=
  ⟨rfl, rfl, rfl, by simp [World.setCell], fun k _ hk => Below.heap_setCell _ _ _ _ (fun e => hk (by rw [e]))⟩
/-- A store into the word's block keeps its row. -/
theorem OwnB.setW {w : World} {base b i : Nat} {v u : Value} {l : List Nat} {C : Array Value} {fr : Nat × Nat} (h : OwnB w base v l) (hb : w.heap[b]? = some (.cells C 185 fr)) : OwnB (w.setCell ⟨b, i, none⟩ u) base v l :=
  ⟨h.1.kept (grown_set w b i u) (.inr (own_ne h hb (by decide))), h.2⟩
theorem setRest {w : World} {base b i : Nat} {u : Value} {C : Array Value} {fr : Nat × Nat} (hb : w.heap[b]? = some (.cells C 185 fr)) (hbb : base ≤ b) : Rest base none w (w.setCell ⟨b, i, none⟩ u) :=
  Rest.grown (grown_set w b i u) (fun k e => by cases e; exact ⟨hbb, .inr ⟨_, _, _, hb, .inl rfl⟩⟩)
theorem copyCheck_any (base b : Nat) (l : List Nat) (many : Nat) (w : World) (h : WordS w base b l many) :
    Calls Tryz.prog 90 #[.pointer (some ⟨b, 0, none⟩)] w fun e w' => e = .returned (.tuple #[]) ∧ (∃ v, w'.heap[b]? = some (.cells #[.pointer (some ⟨b, 0, none⟩), v, .int .i64 (many : Nat)] 185 (0, 0)) ∧ OwnB w' base v l) ∧ Rest base none w w' := by
  obtain ⟨p, v, hb, hp, ho⟩ := h.ex
  rcases hp with rfl | rfl
  · refine (copyCheck_fresh b _ _ w hb).mono ?_
    rintro e w' ⟨rfl, rfl⟩
    exact ⟨rfl, ⟨v, setCell_0 hb, ho.setW hb⟩, setRest hb h.hb⟩
  · refine (copyCheck_used b _ _ w hb).mono ?_
    rintro e w' ⟨rfl, rfl⟩
    exact ⟨rfl, ⟨v, hb, ho⟩, Rest.refl _ _ _⟩
set_option maxRecDepth 100000 in
set_option maxHeartbeats 2000000 in
theorem WriteRune_any (base b : Nat) (l : List Nat) (many r : Nat) (w : World) (h : WordS w base b l many) (h1 : r < 2048) (hl : l.length ≤ 1000000) (hbw : base ≤ w.heap.size) :
    Calls Tryz.prog 132 #[.pointer (some ⟨b, 0, none⟩), .int .i32 (r : Int)] w fun e w' => (∃ v, e = .returned v) ∧ WordS w' base b (l ++ encL (r : Int)) many ∧ Rest base none w w' := by
  have HW := Lib.hid h
  clear h
  go_enter Tryz.func132, Tryz.ntmps132
  go_wp2_with fail
  refine (copyCheck_any base b l many w HW.out).mono ?_
  rintro e w1 ⟨rfl, ⟨v, hb, ho⟩, hr⟩
  obtain ⟨c0, c1, c2⟩ := cells3 hb
  have HB := Lib.hid hb
  have HO := Lib.hid ho
  have HR := Lib.hid hr
  obtain ⟨A, c, hv, _, _⟩ := ho.1.rd
  have hln : (Builtin.len_ #[26] 3 #[v]).run Tryz.prog w1 = .ok (.int .i64 (l.length : Nat)) w1 := by
    rw [hv]
    simp [Builtin.len_, run_underlying Tryz.underlying26, go_sem]
  have hbw1 : base ≤ w1.heap.size := by have := hr.size; omega
  clear hb ho hr hv
  go_wp2_with fail
  refine (AppendRune_any base v l r w1 HO.out h1 hl hbw1).mono ?_
  rintro e w2 ⟨v', rfl, ho2, ⟨o, hg⟩, hat⟩
  have hlt := (Array.getElem?_eq_some_iff.1 HB.out).1
  have hne := own_ne HO.out HB.out (by decide)
  have hb2 : w2.heap[b]? = some (.cells #[.pointer (some ⟨b, 0, none⟩), v, .int .i64 (many : Nat)] 185 (0, 0)) := by
    rw [hg.block b (by simp; omega) (fun e => hne e.symm)]
    exact (Lib.alloc_old w1 o b hlt).trans HB.out
  have hr2 : Rest base none w1 w2 := by
    refine (Rest.below ((Below.refl _ _).alloc (Nat.le_refl _) o)).trans (Rest.grown hg fun k hk => ?_)
    obtain ⟨h3, C, t, fr, h4, h5⟩ := own_row HO.out k hk
    exact ⟨h3, .inr ⟨C, t, fr, (Lib.alloc_old w1 o k (Array.getElem?_eq_some_iff.1 h4).1).trans h4, h5⟩⟩
  have HB2 := Lib.hid hb2
  have HO2 := Lib.hid ho2
  have HR2 := Lib.hid (HR.out.trans hr2)
  obtain ⟨A', c', hv', _, _⟩ := ho2.1.rd
  obtain ⟨L2, hL2⟩ : ∃ L2, L2 = (l ++ encL (r : Int)).length := ⟨_, rfl⟩
  have hL3 : L2 ≤ 1000004 := by rw [hL2, List.length_append]; have := encL_len (r : Int); omega
  rw [← hL2] at hv'
  subst hv'
  obtain ⟨d0, d1, d2⟩ := cells3 hb2
  have f1 : w2.frozen? ⟨b, 1, none⟩ = false := by simp [World.frozen?, hb2]
  have HN := Lib.hid (own_ne ho2 hb2 (by decide))
  clear hb2 ho2 hg hat hr2 hlt hne c0 c1 c2 hln hL2
  go_wp2
  go_ret2
  refine ⟨⟨_, rfl⟩, ⟨⟨_, _, setCell_1 HB2.out, .inr rfl, HO2.out.setW HB2.out⟩, HW.out.hb⟩, HR2.out.trans (setRest HB2.out HW.out.hb)⟩
end Go.Proofs.YtkkeodlnejckjaaGreat

/- A word's string. -/
namespace Go.Proofs.YtkkeodlnejckjaaGreat
open Go.RowKit Go.Shelf Go.Maps
set_option linter.unusedVariables false
set_option linter.unusedSimpArgs false

theorem cellsU8 : Tryz.prog.cellsOf 5 = 1 := by kernel_rfl
theorem grown_freeze (W : World) (g n : Nat) : W.grownBy (W.freeze ⟨g, 0, none⟩ n) (some g) := by
  unfold World.freeze
  split
  · exact World.grownBy.refl W _
  · exact ⟨rfl, rfl, rfl, by simp, fun k _ hk => by
      simp only [Array.getElem?_modify]
      rw [if_neg (fun e => hk (by rw [e]))]⟩
set_option maxRecDepth 100000 in
set_option maxHeartbeats 2000000 in
theorem String_any (base b : Nat) (l : List Nat) (many : Nat) (w : World) (h : WordS w base b l many) (h0 : l ≠ []) (hbw : base ≤ w.heap.size) (hl : l.length ≤ 1000000) :
    Calls Tryz.prog 71 #[.pointer (some ⟨b, 0, none⟩)] w fun e w' => e = .returned (.string (strL l)) ∧ Rest base none w w' := by
  obtain ⟨p, v, hb, _, ho⟩ := h.ex
  have hl0 : 0 < l.length := by cases l with | nil => exact absurd rfl h0 | cons x y => simp
  obtain ⟨g, c, rfl, hbg, hg, hlc, hc2⟩ := ho.1.place hl0
  have hown := own_row ho g rfl
  obtain ⟨_, C, t, fr, hgc, _⟩ := hown
  have hc0 : c ≠ 0 := by omega
  have hrow : ∃ cur, w.heap[g]? = some (.cells cur 5 (0, 0)) ∧ l.length ≤ cur.size := by
    rcases ho.1.2 with ⟨hv, _⟩ | ⟨g', cap, cur, hv, _, hh, hcap, _, hsz, _⟩
    · cases hv
    · injection hv with e1 e2 e3
      injection e1 with e1
      injection e1 with e1
      subst e1
      exact ⟨cur, hh, by omega⟩
  obtain ⟨cur, hcur, hcs⟩ := hrow
  have hSD : (Builtin.unsafeSliceData_ #[26] 134 #[.slice (some ⟨g, 0, none⟩) l.length c]).run Tryz.prog w.drew = .ok (.pointer (some ⟨g, 0, none⟩)) w.drew :=
    Lib.run_unsafeSliceData_row _ _ _ _ _ _ hc0
  have hUS : (Builtin.unsafeString_ #[134, 3] 9 #[.pointer (some ⟨g, 0, none⟩), .int .i64 (l.length : Nat)]).run Tryz.prog w.drew = .ok (.string (strL l)) (w.drew.freeze ⟨g, 0, none⟩ l.length) := by
    have h1 := Lib.run_unsafeString_row (P := Tryz.prog) w.drew 134 3 9 5 Tryz.underlying134 cellsU8 g cur.size (by have hg' : w.drew.heap[g]? = some (.cells cur 5 (0, 0)) := hcur; simp [World.shape?, hg']) (l.map UInt8.ofNat) (by simpa using h0) (by rw [List.length_map]; exact hcs) (by rw [List.length_map]; omega) (by
      intro j x hx
      have hj : j < l.length := by
        rcases Nat.lt_or_ge j l.length with h | h
        · exact h
        · simp [List.getElem?_eq_none h] at hx
      have := (ho.1.cellAt j hj).1
      have hx2 : x = UInt8.ofNat l[j] := by simpa [List.getElem?_eq_getElem hj] using hx.symm
      have hlt := ho.2 l[j] (List.getElem_mem hj)
      rw [hx2]
      rw [add_lit0]
      have this2 : w.drew.cell? ⟨g, j, none⟩ = some (encB l[j]) := this
      rw [this2]
      simp [UInt8.toNat_ofNat', Nat.mod_eq_of_lt hlt])
    rw [List.length_map] at h1
    exact h1
  have hrest : Rest base none w (w.drew.freeze ⟨g, 0, none⟩ l.length) :=
    (Rest.below (Below.drew (Below.refl _ w))).trans (Rest.grown (grown_freeze _ _ _) (fun k e => by cases e; exact ⟨hbg, .inr ⟨_, _, _, hcur, .inr rfl⟩⟩))
  obtain ⟨N, hN⟩ : ∃ N, N = l.length := ⟨_, rfl⟩
  obtain ⟨S, hS⟩ : ∃ S, S = strL l := ⟨_, rfl⟩
  rw [← hN, ← hS] at hUS
  rw [← hN] at hSD hrest
  have c1 : w.drew.cell? ⟨b, 1, none⟩ = some (.slice (some ⟨g, 0, none⟩) N c) := by rw [hN]; exact (cells3 hb).2.1
  have c1' : w.cell? ⟨b, 1, none⟩ = some (.slice (some ⟨g, 0, none⟩) N c) := c1
  rw [← hS]
  have HR := Lib.hid hrest
  clear h ho hb hl0 hlc hcs hgc hcur hrest hN hS hg
  go_enter Tryz.func71, Tryz.ntmps71
  go_wp2
  go_region
  all_goals (go_wp2; go_ret; exact ⟨rfl, HR.out⟩)
end Go.Proofs.YtkkeodlnejckjaaGreat
