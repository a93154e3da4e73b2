/- slices.Grow of nothing, slices.Concat of three. -/
import Derived.Test.YtbmdjmnjbflfeaaBytes
import Derived.Lib.AppendZerosOnto
namespace Go.Proofs.Ytbmdjmnjbflfeaa
open Go.RowKit
set_option linter.unusedVariables false
set_option linter.unusedSimpArgs false

theorem wpl_append_run2 {P : Program} {ops : Array Oper} {rest : List Oper} {o : Oper} {a : Act} {Q : Exit → Act → World → Prop} {w w1 : World} {v y v1 : Value} (hgd : o.guard = Option.none) (s x : Operand) (t t' : TypeId)
    (ho : o.op = .call { callee := .builtin .append, args := #[s, x], argTypes := #[t, t'] }) (hs : a.eval s = v) (hx : a.eval x = y)
    (hr : (Builtin.append_ #[t, t'] o.type #[v, y]).run P w = .ok v1 w1) (h : wpList P ops Q rest (a.put o.dst v1) w1) : wpList P ops Q (o :: rest) a w := by
  refine wpList_plain hgd fun K hK => ?_
  unfold Oper.wp execOp
  simp only [ho, resolve, invoke, builtin, Sem.run_bind, Sem.run_pure, Result.andThen_ok, List.map_toArray, List.map_cons, List.map_nil, hs, hx, hr]
  exact hK _ _ h
set_option maxRecDepth 100000 in
set_option maxHeartbeats 2000000 in
theorem Grow_nil (n : Nat) (w : World) (hn : n ≤ 1000000) :
    Calls Try.prog 50 #[.slice none 0 0, .int .i64 n] w fun e w' => ∃ v, e = .returned v ∧ OwnB w' w.heap.size v [] ∧ Below w.heap.size w w' := by
  by_cases h0 : n = 0
  · subst h0
    go_enter Try.func50, Try.ntmps50
    go_wp2
    go_ret
    exact ⟨_, rfl, OwnB.nil _ _, Below.refl _ _⟩
  · obtain ⟨i0, hi, hzz⟩ := Option.map_eq_some_iff.1 infoB
    simp only [Prod.mk.injEq] at hzz
    obtain ⟨hz0, hz1, hz2⟩ := hzz
    have hold : (Builtin.firstCells i0.size 0 (.slice none 0 0)).run Try.prog w.drew = .ok (([] : List Value)).toArray w.drew := run_firstCells_none w.drew i0.size 0 0 0
    have hgr := Lib.run_append_grow_zeros w 26 3 26 5 i0 (.int .u8 0) .i64 .i64 Try.underlying26 Try.underlying3 hi hz0 none 0 0 [] hold n (by omega) (by rw [hz1]; decide) (by omega) (by omega) (by rw [hz2]; omega) (by rw [hz2]; exact growslice_fits (by omega) (by omega))
    rw [Nat.zero_add] at hgr
    obtain ⟨G, hG⟩ : ∃ G, G = grownCap w n 0 5 := ⟨_, rfl⟩
    have hG1 : n ≤ G := by rw [hG]; exact grownCap_ge w _ _ _
    have hG2 : G ≤ maxLen := by rw [hG]; exact grownCap_le_maxLen w n 0 5 (by unfold maxLen; omega)
    rw [← hG] at hgr
    obtain ⟨C, hC⟩ : ∃ C, C = #[] ++ Builtin.zeroCells (Value.int IntKind.u8 0).cells n ++ Builtin.zeroCells (Value.int IntKind.u8 0).cells (G - n) := ⟨_, rfl⟩
    have hCs : C.size = G * 1 := by rw [hC]; simp [size_zeroCells, Value.cells]; omega
    have HO : Hid (OwnB (w.drew.alloc (.cells C 5)) w.heap.size (.slice (some ⟨w.heap.size, 0, none⟩) 0 G) []) := Lib.hid ⟨⟨by simp, .inr ⟨w.heap.size, G, C, rfl, Nat.le_refl _, heap_alloc_new w.drew _, Nat.zero_le _, hG2, hCs, by simp⟩⟩, Byt.nil⟩
    rw [← hC] at hgr
    have HB : Hid (Below w.heap.size w (w.drew.alloc (.cells C 5))) := Lib.hid ((Below.refl w.heap.size w).drew.alloc (Nat.le_refl _) _)
    unfold maxLen at hG2
    clear hold hi hz0 hz1 hz2 hC hCs hG
    have hn1 : 0 < (n : Int) := by omega
    have hgz : (0 : Int) ≤ (G : Int) := by omega
    go_enter Try.func50, Try.ntmps50
    go_wp2_with (at_builtin; refine wpl_append_run2 rfl _ _ _ _ rfl rfl rfl hgr ?_)
    go_ret
    exact ⟨_, rfl, HO.out, HB.out⟩
set_option maxRecDepth 100000 in
set_option maxHeartbeats 4000000 in
/-- Three slices of bytes in a row of three cells. -/
theorem Concat3_any (g : Nat) (A B D : Option Addr) (n c m d p q : Nat) (a b e3 : List Nat) (w : World) (c0 : w.cell? ⟨g, 0, none⟩ = some (.slice A n c)) (c1 : w.cell? ⟨g, 1, none⟩ = some (.slice B m d)) (c2 : w.cell? ⟨g, 2, none⟩ = some (.slice D p q)) (ha : RdB w A n a) (hb : RdB w B m b) (hd : RdB w D p e3) (hn : n ≤ 100000) (hm : m ≤ 100000) (hp : p ≤ 100000) :
    Calls Try.prog 23 #[.slice (some ⟨g, 0, none⟩) 3 3] w fun e w' => ∃ v, e = .returned v ∧ OwnB w' w.heap.size v (a ++ b ++ e3) ∧ Below w.heap.size w w' := by
  have HA := Lib.hid ha
  have HB := Lib.hid hb
  have HD := Lib.hid hd
  have HC0 := Lib.hid c0
  have HC1 := Lib.hid c1
  have HC2 := Lib.hid c2
  clear ha hb hd
  go_enter Try.func23, Try.ntmps23
  go_wp2_with fail
  go_loop [3, 11] (fun x3 x11 => (x11 = .int .i64 0 ∧ x3 = .int .i64 0) ∨ (x11 = .int .i64 1 ∧ x3 = .int .i64 (n : Int)) ∨ (x11 = .int .i64 2 ∧ x3 = .int .i64 ((n + m : Nat) : Int)) ∨ (x11 = .int .i64 3 ∧ x3 = .int .i64 ((n + m + p : Nat) : Int))) (fun _ x11 => 3 - (intOf x11).toNat)
  case atStart => exact .inl ⟨rfl, rfl⟩
  case round =>
    rcases hrel with ⟨rfl, rfl⟩ | ⟨rfl, rfl⟩ | ⟨rfl, rfl⟩ | ⟨rfl, rfl⟩
    · clear c1 c2
      go_wp2
      exact ⟨.inr (.inl ⟨rfl, by first | rfl | go_num⟩), by simp [intOf]⟩
    · clear c0 c2
      go_wp2
      exact ⟨.inr (.inr (.inl ⟨rfl, by first | rfl | go_num⟩)), by simp [intOf]⟩
    · clear c0 c1
      go_wp2
      exact ⟨.inr (.inr (.inr ⟨rfl, by first | rfl | go_num⟩)), by simp [intOf]⟩
    · go_wp2_with fail
      refine (Grow_nil (n + m + p) w (by omega)).mono ?_
      rintro e w1 ⟨v, rfl, ho, hb⟩
      have HO := Lib.hid ho
      have HBl := Lib.hid hb
      clear ho hb c0 c1 c2
      go_wp2_with fail
      go_loopw [6, 27] (fun x6 x27 wr => (x27 = .int .i64 0 ∧ Hid (OwnB wr w.heap.size x6 [] ∧ Below w.heap.size w wr)) ∨ (x27 = .int .i64 1 ∧ Hid (OwnB wr w.heap.size x6 a ∧ Below w.heap.size w wr)) ∨ (x27 = .int .i64 2 ∧ Hid (OwnB wr w.heap.size x6 (a ++ b) ∧ Below w.heap.size w wr)) ∨ (x27 = .int .i64 3 ∧ Hid (OwnB wr w.heap.size x6 (a ++ b ++ e3) ∧ Below w.heap.size w wr))) (fun _ x27 _ => 3 - (intOf x27).toNat)
      case atStart => exact .inl ⟨rfl, Lib.hid ⟨HO.out, HBl.out⟩⟩
      case round =>
        rcases hrel with ⟨rfl, HI⟩ | ⟨rfl, HI⟩ | ⟨rfl, HI⟩ | ⟨rfl, HI⟩
        · have c0 := cell_keep HI.out.2 HC0.out
          obtain ⟨v1, w2, r1, o1, g1, at1⟩ := run_append_rd (P := Try.prog) (c := c) w.heap.size 26 26 5 (.int .u8 0) 1 Try.underlying26 infoB rfl (by decide) encB_one HI.out.1.1 (HA.out.below HI.out.2).rd (by simp; omega) HI.out.2.size
          have HN : Hid (OwnB w2 w.heap.size v1 a ∧ Below w.heap.size w w2) := Lib.hid ⟨⟨by simpa using o1, HA.out.byt⟩, HI.out.2.grown g1 HI.out.2.size (fun k hk => (HI.out.1.1.base k hk).1)⟩
          clear o1 g1 at1
          go_wp2_with (at_builtin; refine wpl_append_run rfl _ _ _ rfl rfl rfl r1 ?_)
          exact ⟨.inr (.inl ⟨rfl, HN⟩), by simp [intOf]⟩
        · have c1 := cell_keep HI.out.2 HC1.out
          have hal := HA.out.len
          obtain ⟨v1, w2, r1, o1, g1, at1⟩ := run_append_rd (P := Try.prog) (c := d) w.heap.size 26 26 5 (.int .u8 0) 1 Try.underlying26 infoB rfl (by decide) encB_one HI.out.1.1 (HB.out.below HI.out.2).rd (by omega) HI.out.2.size
          have HN : Hid (OwnB w2 w.heap.size v1 (a ++ b) ∧ Below w.heap.size w w2) := Lib.hid ⟨⟨o1, HA.out.byt.append HB.out.byt⟩, HI.out.2.grown g1 HI.out.2.size (fun k hk => (HI.out.1.1.base k hk).1)⟩
          clear o1 g1 at1 hal
          go_wp2_with (at_builtin; refine wpl_append_run rfl _ _ _ rfl rfl rfl r1 ?_)
          exact ⟨.inr (.inr (.inl ⟨rfl, HN⟩)), by simp [intOf]⟩
        · have c2 := cell_keep HI.out.2 HC2.out
          have hal := HA.out.len
          have hbl := HB.out.len
          obtain ⟨v1, w2, r1, o1, g1, at1⟩ := run_append_rd (P := Try.prog) (c := q) w.heap.size 26 26 5 (.int .u8 0) 1 Try.underlying26 infoB rfl (by decide) encB_one HI.out.1.1 (HD.out.below HI.out.2).rd (by rw [List.length_append]; omega) HI.out.2.size
          have HN : Hid (OwnB w2 w.heap.size v1 (a ++ b ++ e3) ∧ Below w.heap.size w w2) := Lib.hid ⟨⟨o1, (HA.out.byt.append HB.out.byt).append HD.out.byt⟩, HI.out.2.grown g1 HI.out.2.size (fun k hk => (HI.out.1.1.base k hk).1)⟩
          clear o1 g1 at1 hal hbl
          go_wp2_with (at_builtin; refine wpl_append_run rfl _ _ _ rfl rfl rfl r1 ?_)
          exact ⟨.inr (.inr (.inr ⟨rfl, HN⟩)), by simp [intOf]⟩
        · go_wp2
          go_ret
          exact ⟨_, rfl, HI.out.1, HI.out.2⟩
end Go.Proofs.Ytbmdjmnjbflfeaa
