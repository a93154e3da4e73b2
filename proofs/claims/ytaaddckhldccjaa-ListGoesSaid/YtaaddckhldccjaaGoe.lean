/- Sequences of numbers: what they are, what is told of them, what is gathered. -/
import Derived.Test.YtaaddckhldccjaaGth
import Derived.Test.YtaaddckhldccjaaSets
namespace Go.Proofs.Ytaaddckhldccjaa
open Go.RowKit
set_option linter.unusedVariables false
set_option linter.unusedSimpArgs false

theorem Below.bx {q : Nat} {w W W' : World} (h : Below w.heap.size w W) (hb : BX q W W') (hq : w.heap.size ≤ q) : Below w.heap.size w W' := h.trans (hb.below h.size hq)
/-- A row of a call's own, behind q. -/
def RowP (q : Nat) (v : Value) (l : List Nat) (W : World) : Prop := ∃ s : UV, v = .slice s.A s.n s.c ∧ s.l = l ∧ OwnU W (q + 1) (.slice s.A s.n s.c) s.l
theorem RowP.bx {q : Nat} {v : Value} {l : List Nat} {W W' : World} (h : RowP q v l W) (hb : BX q W W') : RowP q v l W' := by
  obtain ⟨s, e, el, ho⟩ := h
  refine ⟨s, e, el, ⟨?_, ho.2⟩⟩
  have h1 := ho.1
  rcases h1.2 with ⟨e1, h0⟩ | ⟨g, cap, cur, e1, hg, hh, rest⟩
  · exact ⟨h1.1, .inl ⟨e1, h0⟩⟩
  · exact ⟨h1.1, .inr ⟨g, cap, cur, e1, hg, (hb.block g (Array.getElem?_eq_some_iff.1 hh).1 (by omega)).trans hh, rest⟩⟩
theorem RowP.ok {q : Nat} {v : Value} {l : List Nat} {W : World} (h : RowP q v l W) : ∃ s : UV, v = .slice s.A s.n s.c ∧ s.l = l ∧ s.ok W := by
  obtain ⟨s, e, el, ho⟩ := h
  exact ⟨s, e, el, ownU_ok ho⟩
theorem RowP.of {q base : Nat} {v : Value} {l : List Nat} {W : World} (h : OwnK encT 1 30 W base v l) (hu : U32 l) (hq : q < base) : RowP q v l W := by
  have ho : OwnU W base v l := ⟨h.l, hu⟩
  obtain ⟨A, c, rfl, _, _, _⟩ := ho.1.rd
  exact ⟨⟨A, l.length, c, l⟩, rfl, rfl, ho.mono (by omega)⟩
theorem RowP.nil (q : Nat) (W : World) : RowP q (.slice none 0 0) [] W := ⟨⟨none, 0, 0, []⟩, rfl, rfl, OwnU.nil _ _⟩
/-- All of a row, as a sequence. -/
def AllF (q : Nat) (x : UV) (v : Value) (W : World) : Prop := ∃ g, v = .func (.func 67) #[] #[.pointer (some ⟨g, 0, none⟩)] ∧ q < g ∧ W.heap[g]? = some (.cells #[.slice x.A x.n x.c] 38 (0, 0))
def BothF (q : Nat) (x y : UV) (v : Value) (W : World) : Prop := (¬ (Up x.l ∧ Up y.l) ∧ v = .func (.func 45) #[] #[]) ∨ ((Up x.l ∧ Up y.l) ∧ ∃ g h, v = .func (.func 68) #[] #[.pointer (some ⟨g, 0, none⟩), .pointer (some ⟨h, 0, none⟩)] ∧ (q < g ∧ q < h) ∧
  W.heap[g]? = some (.cells #[.slice x.A x.n x.c] 38 (0, 0)) ∧ W.heap[h]? = some (.cells #[.slice y.A y.n y.c] 38 (0, 0)))
theorem AllF.bx {q : Nat} {x : UV} {v : Value} {W W' : World} (h : AllF q x v W) (hb : BX q W W') : AllF q x v W' := by
  obtain ⟨g, e, hg, hh⟩ := h
  exact ⟨g, e, hg, (hb.block g (Array.getElem?_eq_some_iff.1 hh).1 (by omega)).trans hh⟩
theorem BothF.bx {q : Nat} {x y : UV} {v : Value} {W W' : World} (h : BothF q x y v W) (hb : BX q W W') : BothF q x y v W' := by
  rcases h with h | ⟨hu, g, k, e, ⟨hg, hk⟩, h1, h2⟩
  · exact .inl h
  · exact .inr ⟨hu, g, k, e, ⟨hg, hk⟩, (hb.block g (Array.getElem?_eq_some_iff.1 h1).1 (by omega)).trans h1, (hb.block k (Array.getElem?_eq_some_iff.1 h2).1 (by omega)).trans h2⟩
theorem values_any (x : UV) (w : World) :
    Calls Try.prog 43 #[.slice x.A x.n x.c] w fun e w' => e = .returned (.func (.func 67) #[] #[.pointer (some ⟨w.heap.size, 0, none⟩)]) ∧ w' = w.alloc (.cells #[.slice x.A x.n x.c] 38) := by
  go_enter Try.func43, Try.ntmps43
  go_wp2
  go_ret
  exact ⟨rfl, rfl⟩
theorem All_f (q : Nat) (x : UV) (w : World) (hq : q < w.heap.size) :
    Calls Try.prog 18 #[.slice x.A x.n x.c] w fun e w' => ∃ v, e = .returned v ∧ AllF q x v w' ∧ Below w.heap.size w w' := by
  have C := Lib.hid (values_any x w)
  have HQ := Lib.hid hq
  clear hq
  go_enter Try.func18, Try.ntmps18
  go_wp2_with fail
  refine C.out.mono ?_
  rintro e w1 ⟨rfl, rfl⟩
  have HF : Hid (AllF q x (.func (.func 67) #[] #[.pointer (some ⟨w.heap.size, 0, none⟩)]) (w.alloc (.cells #[.slice x.A x.n x.c] 38))) := Lib.hid ⟨_, rfl, HQ.out, World.alloc_heap_new _ _⟩
  clear C
  go_wp2
  go_ret
  exact ⟨_, rfl, HF.out, (Below.refl _ _).alloc (Nat.le_refl _) _⟩
theorem Both_f (q : Nat) (x y : UV) (w : World) (hq : q < w.heap.size) (hx : x.ok w) (hy : y.ok w) :
    Calls Try.prog 20 #[.slice x.A x.n x.c, .slice y.A y.n y.c] w fun e w' => ∃ v, e = .returned v ∧ BothF q x y v w' ∧ Below w.heap.size w w' := by
  have C1 := Lib.hid (rises_any x.A x.n x.c x.l w hx.rd)
  have HY := Lib.hid hy
  have HQ := Lib.hid hq
  clear hx hy hq
  go_enter Try.func20, Try.ntmps20
  go_wp2_with fail
  refine C1.out.mono ?_
  rintro e w1 ⟨rfl, hb⟩
  have HB1 := Lib.hid hb
  clear hb C1
  by_cases hu : Up x.l
  case neg =>
    have HF : Hid (∀ W, BothF q x y (.func (.func 45) #[] #[]) W) := Lib.hid (fun W => .inl ⟨fun h => hu h.1, rfl⟩)
    rw [show upB x.l = false from decide_eq_false hu]
    clear hu
    go_wp2
    go_ret
    exact ⟨_, rfl, HF.out _, HB1.out⟩
  rw [show upB x.l = true from decide_eq_true hu]
  have HU := Lib.hid hu
  clear hu
  have C2 := Lib.hid (rises_any y.A y.n y.c y.l w1 (HY.out.below HB1.out).rd)
  go_wp2_with fail
  refine C2.out.mono ?_
  rintro e w2 ⟨rfl, hb⟩
  have HB2 := Lib.hid (Below.thn HB1.out hb)
  clear hb C2 HB1
  by_cases hu : Up y.l
  case neg =>
    have HF : Hid (∀ W, BothF q x y (.func (.func 45) #[] #[]) W) := Lib.hid (fun W => .inl ⟨fun h => hu h.2, rfl⟩)
    rw [show upB y.l = false from decide_eq_false hu]
    clear hu
    go_wp2
    go_ret
    exact ⟨_, rfl, HF.out _, HB2.out⟩
  rw [show upB y.l = true from decide_eq_true hu]
  have HUY := Lib.hid hu
  clear hu
  have C3 := Lib.hid (both_any x.A x.n x.c y.A y.n y.c w2)
  go_wp2_with fail
  refine C3.out.mono ?_
  rintro e w3 ⟨rfl, rfl⟩
  have HF : Hid (BothF q x y (.func (.func 68) #[] #[.pointer (some ⟨w2.heap.size, 0, none⟩), .pointer (some ⟨w2.heap.size + 1, 0, none⟩)]) ((w2.alloc (.cells #[.slice x.A x.n x.c] 38)).alloc (.cells #[.slice y.A y.n y.c] 38))) := Lib.hid (.inr ⟨⟨HU.out, HUY.out⟩, _, _, rfl, (by have := HQ.out; have := HB2.out.size; omega), by
      exact (Below.heap_alloc _ _ _ (by simp)).trans (World.alloc_heap_new _ _), by
      have h1 := World.alloc_heap_new (w2.alloc (.cells #[.slice x.A x.n x.c] 38)) (.cells #[.slice y.A y.n y.c] 38)
      rwa [World.size_alloc] at h1⟩)
  have HBF : Hid (Below w.heap.size w ((w2.alloc (.cells #[.slice x.A x.n x.c] 38)).alloc (.cells #[.slice y.A y.n y.c] 38))) := Lib.hid ((HB2.out.alloc HB2.out.size _).alloc (by have := HB2.out.size; simp; omega) _)
  clear C3
  go_wp2
  go_ret
  exact ⟨_, rfl, HF.out, HBF.out⟩
theorem none_seq (n : Nat) (b : Nat) (S : Nat → TypeId → Bool) (w : World) : SeqQ Fence.wide n Try.prog 45 #[] encK b S [] w := fun L J Jx W hW hJ hJx hY h0 => by
  have HJ0 := Lib.hid h0
  clear hW hJ hJx hY h0
  refine callsIn_of_wp Try.func45 rfl trivial ?_ rfl
  simp only [Try.ntmps45, List.size_toArray, List.length_cons, List.length_nil, Nat.reduceAdd, Nat.reduceSub, Array.replicate_succ, Array.replicate_zero, List.push_toArray, List.append_toArray, List.nil_append, List.cons_append]
  gi_wp2
  exact ⟨rfl, _, results_none rfl _ _ _, ⟨_, rfl⟩, .inl HJ0.out⟩
theorem andX_2 (x y : UV) : andX [x, y] = if Up x.l ∧ Up y.l then bothL x.l y.l else [] := by
  by_cases h : Up x.l ∧ Up y.l
  · rw [if_pos h, andX_yes (allUp_2 h.1 h.2)]
    simp [andL, andI, bothL]
  · rw [if_neg h]
    exact if_neg fun ha => h ⟨ha x (by simp), ha y (by simp)⟩
/-- What is told of either. -/
theorem told_all (q : Nat) (x : UV) (v : Value) (most : Int) (w : World) (hm1 : -9223372036854775808 ≤ most) (hm2 : most ≤ 9223372036854775807) (hq : q < w.heap.size) (h : AllF q x v w) (hx : x.ok w) (hl : x.l.length ≤ 1000) :
    Calls Try.prog 17 #[v, .int .i64 most] w fun e w' => ∃ r, e = .returned r ∧ RowP q r (x.l.take most.toNat) w' ∧ Below w.heap.size w w' := by
  obtain ⟨g, rfl, hg, hh⟩ := h
  refine (told_seq _ _ (enters_of Try.func67 (by kernel_rfl) rfl) w.heap.size x.l w w most hm1 hm2 (values_seq 9 g (by decide) x.A x.n x.c x.l SU w w hh (Below.refl _ _) hx.rd) (Nat.le_refl _) (by omega)).mono ?_
  rintro e w' ⟨r, e1, ho, hb⟩
  exact ⟨r, e1, RowP.of ho (fun z hz => hx.rd.lt z (List.mem_of_mem_take hz)) hq, hb⟩
theorem told_both (q : Nat) (x y : UV) (v : Value) (most : Int) (w : World) (hm1 : -9223372036854775808 ≤ most) (hm2 : most ≤ 9223372036854775807) (hq : q < w.heap.size) (h : BothF q x y v w) (hx : x.ok w) (hy : y.ok w) (hl : x.l.length ≤ 1000) :
    Calls Try.prog 17 #[v, .int .i64 most] w fun e w' => ∃ r, e = .returned r ∧ RowP q r ((andX [x, y]).take most.toNat) w' ∧ Below w.heap.size w w' := by
  rcases h with ⟨hn, rfl⟩ | ⟨hu, g, k, rfl, _, h1, h2⟩
  · rw [andX_2, if_neg hn]
    refine (told_seq _ _ (enters_of Try.func45 (by kernel_rfl) rfl) w.heap.size [] w w most hm1 hm2 (none_seq 9 _ SU w) (Nat.le_refl _) (by simp)).mono ?_
    rintro e w' ⟨r, e1, ho, hb⟩
    exact ⟨r, e1, RowP.of ho (fun z hz => by simp at hz) hq, hb⟩
  · rw [andX_2, if_pos hu]
    refine (told_seq _ _ (enters_of Try.func68 (by kernel_rfl) rfl) w.heap.size (bothL x.l y.l) w w most hm1 hm2 (both_seq 9 g k (by decide) x.A x.n x.c x.l y.A y.n y.c y.l SU w w h1 h2 (Below.refl _ _) hx.rd hy.rd hu.1 hu.2) (Nat.le_refl _) (Nat.le_trans (List.length_filter_le _ _) (by omega))).mono ?_
    rintro e w' ⟨r, e1, ho, hb⟩
    exact ⟨r, e1, RowP.of ho (fun z hz => hx.rd.lt z (List.mem_filter.1 (List.mem_of_mem_take hz)).1) hq, hb⟩
theorem SeqX.later {α : Type} {F : Fence} {n : Nat} {P : Program} {g : Nat} {lb : Array Value} {encs : α → Array Value} {b : Nat} {S : Nat → TypeId → Bool} {q : Nat} {qv : List α → Value} {L : List α} {w W : World} (h : SeqX F n P g lb encs b S q qv L w) (hb : Below w.heap.size w W) : SeqX F n P g lb encs b S q qv L W :=
  fun l J Jx W' hW hJ hJx hY h0 hc => h l J Jx W' (Below.thn hb hW) hJ hJx hY h0 hc
/-- What is gathered of all of a row: the first ones; a cell q stays. -/
theorem gather_all (q : Nat) (u : Value) (x : UV) (v : Value) (most : Int) (w : World) (hm : most ≤ 9223372036854775807) (hq : w.cell? ⟨q, 0, none⟩ = some u) (h : AllF q x v w) (hx : x.ok w) (hl : x.l.length ≤ 1000) :
    Calls Try.prog 19 #[v, .int .i64 most] w fun e w' => ∃ r, e = .returned r ∧ RowP q r (x.l.take most.toNat) w' ∧ BX q w w' ∧ w'.cell? ⟨q, 0, none⟩ = some u := by
  obtain ⟨g, rfl, hg, hh⟩ := h
  by_cases h1 : most < 1
  · refine (gather_few _ _ most w h1).mono ?_
    rintro e w' ⟨e1, hb⟩
    refine ⟨_, e1, ?_, BX.of hb, cell_low hq fun o ho => (hb.block _ (cell_lt hq)).trans ho⟩
    rw [show most.toNat = 0 by omega]
    exact RowP.nil _ _
  · refine (gather_seq _ _ (enters_of Try.func67 (by kernel_rfl) rfl) w.heap.size q (fun _ => u) x.l w most (by omega) hm (fun W hW => SeqX.later ((values_seq 9 g (by decide) x.A x.n x.c x.l SU w w hh (Below.refl _ _) hx.rd).x (cell_lt hq) (Nat.le_refl _)) hW) (Nat.le_refl _) (by omega) hq).mono ?_
    rintro e w' ⟨r, e1, ho, hb, hc⟩
    exact ⟨r, e1, RowP.of ho (fun z hz => hx.rd.lt z (List.mem_of_mem_take hz)) (cell_lt hq), hb, hc⟩
/-- .. of one that counts. -/
theorem gather_cnt (Ba q : Nat) (x : UV) (most : Int) (we w : World) (hm : most ≤ 9223372036854775807) (hBa : w.heap[Ba]? = some (.cells #[.slice x.A x.n x.c] 38 (0, 0))) (hq : w.heap[q]? = some (.cells #[.int .i64 0] 3 (0, 0))) (hx : x.ok we) (hwe : Below we.heap.size we w) (hqe : we.heap.size ≤ q) (hl : x.l.length ≤ 1000) :
    Calls Try.prog 19 #[.func (.func 15) #[] #[.pointer (some ⟨Ba, 0, none⟩), .pointer (some ⟨q, 0, none⟩)], .int .i64 most] w fun e w' => ∃ r, e = .returned r ∧ RowP q r (x.l.take most.toNat) w' ∧ BX q w w' ∧ w'.cell? ⟨q, 0, none⟩ = some (.int .i64 ((x.l.take most.toNat).length : Nat)) := by
  have hqc : w.cell? ⟨q, 0, none⟩ = some (cntV []) := by simp [World.cell?, hq, cntV]
  by_cases h1 : most < 1
  · refine (gather_few _ _ most w h1).mono ?_
    rintro e w' ⟨e1, hb⟩
    rw [show most.toNat = 0 by omega]
    exact ⟨_, e1, RowP.nil _ _, BX.of hb, cell_low hqc fun o ho => (hb.block _ (cell_lt hqc)).trans ho⟩
  · refine (gather_seq _ _ (enters_of Try.func15 (by kernel_rfl) rfl) w.heap.size q cntV x.l w most (by omega) hm (fun W hW => SeqX.later (count_seq 9 Ba q (by decide) x.A x.n x.c x.l w.heap.size SU we w hBa hq hx.rd hwe hqe hwe.size (cell_lt hqc) rfl (by have := hx.rd.len; omega)) hW) (Nat.le_refl _) (by omega) hqc).mono ?_
    rintro e w' ⟨r, e1, ho, hb, hc⟩
    exact ⟨r, e1, RowP.of ho (fun z hz => hx.rd.lt z (List.mem_of_mem_take hz)) (cell_lt hqc), hb, hc⟩
end Go.Proofs.Ytaaddckhldccjaa
