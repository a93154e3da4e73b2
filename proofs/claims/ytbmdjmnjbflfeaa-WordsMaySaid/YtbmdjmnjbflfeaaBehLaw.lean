import Derived.Test.YtbmdjmnjbflfeaaBytes
import Derived.Lib.AppendZerosOnto
import Derived.Test.YtbmdjmnjbflfeaaFoldLaw
import Derived.Test.YtbmdjmnjbflfeaaRefTk
import Derived.BigQuiet

/- slices.Grow of nothing, slices.Concat of three. -/
namespace Go.Proofs.Ytbmdjmnjbflfeaa
open Go.RowKit
set_option linter.unusedVariables false
set_option linter.unusedSimpArgs false

theorem wpl_append_run2 {P : Program} {ops : Array Oper} {rest : List Oper} {o : Oper} {a : Act} {Q : Exit → Act → World → Prop} {w w1 : World} {v y v1 : Value} (hgd : o.guard = Option.none) (s x : Operand) (t t' : TypeId)
    (ho : o.op = .call { callee := .builtin .append, args := #[s, x], argTypes := #[t, t'] }) (hs : a.eval s = v) (hx : a.eval x = y)
    (hr : (Builtin.append_ #[t, t'] o.type #[v, y]).run P w = .ok v1 w1) (h : wpList P ops Q rest (a.put o.dst v1) w1) : wpList P ops Q (o :: rest) a w := by
  refine wpList_plain hgd fun K hK => ?_
  unfold Oper.wp execOp
  simp only [ho, resolve, invoke, builtin, Sem.run_bind, Sem.run_pure, Result.andThen_ok, List.map_toArray, List.map_cons, List.map_nil, hs, hx, hr]
  exact hK _ _ h
set_option maxRecDepth 100000 in
set_option maxHeartbeats 2000000 in
theorem Grow_nil (n : Nat) (w : World) (hn : n ≤ 1000000) :
    Calls Try.prog 50 #[.slice none 0 0, .int .i64 n] w fun e w' => ∃ v, e = .returned v ∧ OwnB w' w.heap.size v [] ∧ Below w.heap.size w w' := by
  by_cases h0 : n = 0
  · subst h0
    go_enter Try.func50, Try.ntmps50
    go_wp2
    go_ret
    exact ⟨_, rfl, OwnB.nil _ _, Below.refl _ _⟩
  · obtain ⟨i0, hi, hzz⟩ := Option.map_eq_some_iff.1 infoB
    simp only [Prod.mk.injEq] at hzz
    obtain ⟨hz0, hz1, hz2⟩ := hzz
    have hold : (Builtin.firstCells i0.size 0 (.slice none 0 0)).run Try.prog w.drew = .ok (([] : List Value)).toArray w.drew := run_firstCells_none w.drew i0.size 0 0 0
    have hgr := Lib.run_append_grow_zeros w 26 3 26 5 i0 (.int .u8 0) .i64 .i64 Try.underlying26 Try.underlying3 hi hz0 none 0 0 [] hold n (by omega) (by rw [hz1]; decide) (by omega) (by omega) (by rw [hz2]; omega) (by rw [hz2]; exact growslice_fits (by omega) (by omega))
    rw [Nat.zero_add] at hgr
    obtain ⟨G, hG⟩ : ∃ G, G = grownCap w n 0 5 := ⟨_, rfl⟩
    have hG1 : n ≤ G := by rw [hG]; exact grownCap_ge w _ _ _
    have hG2 : G ≤ maxLen := by rw [hG]; exact grownCap_le_maxLen w n 0 5 (by unfold maxLen; omega)
    rw [← hG] at hgr
    obtain ⟨C, hC⟩ : ∃ C, C = #[] ++ Builtin.zeroCells (Value.int IntKind.u8 0).cells n ++ Builtin.zeroCells (Value.int IntKind.u8 0).cells (G - n) := ⟨_, rfl⟩
    have hCs : C.size = G * 1 := by rw [hC]; simp [size_zeroCells, Value.cells]; omega
    have HO : Hid (OwnB (w.drew.alloc (.cells C 5)) w.heap.size (.slice (some ⟨w.heap.size, 0, none⟩) 0 G) []) := Lib.hid ⟨⟨by simp, .inr ⟨w.heap.size, G, C, rfl, Nat.le_refl _, heap_alloc_new w.drew _, Nat.zero_le _, hG2, hCs, by simp⟩⟩, Byt.nil⟩
    rw [← hC] at hgr
    have HB : Hid (Below w.heap.size w (w.drew.alloc (.cells C 5))) := Lib.hid ((Below.refl w.heap.size w).drew.alloc (Nat.le_refl _) _)
    unfold maxLen at hG2
    clear hold hi hz0 hz1 hz2 hC hCs hG
    have hn1 : 0 < (n : Int) := by omega
    have hgz : (0 : Int) ≤ (G : Int) := by omega
    go_enter Try.func50, Try.ntmps50
    go_wp2_with (at_builtin; refine wpl_append_run2 rfl _ _ _ _ rfl rfl rfl hgr ?_)
    go_ret
    exact ⟨_, rfl, HO.out, HB.out⟩
set_option maxRecDepth 100000 in
set_option maxHeartbeats 4000000 in
/-- Three slices of bytes in a row of three cells. -/
theorem Concat3_any (g : Nat) (A B D : Option Addr) (n c m d p q : Nat) (a b e3 : List Nat) (w : World) (c0 : w.cell? ⟨g, 0, none⟩ = some (.slice A n c)) (c1 : w.cell? ⟨g, 1, none⟩ = some (.slice B m d)) (c2 : w.cell? ⟨g, 2, none⟩ = some (.slice D p q)) (ha : RdB w A n a) (hb : RdB w B m b) (hd : RdB w D p e3) (hn : n ≤ 100000) (hm : m ≤ 100000) (hp : p ≤ 100000) :
    Calls Try.prog 23 #[.slice (some ⟨g, 0, none⟩) 3 3] w fun e w' => ∃ v, e = .returned v ∧ OwnB w' w.heap.size v (a ++ b ++ e3) ∧ Below w.heap.size w w' := by
  have HA := Lib.hid ha
  have HB := Lib.hid hb
  have HD := Lib.hid hd
  have HC0 := Lib.hid c0
  have HC1 := Lib.hid c1
  have HC2 := Lib.hid c2
  clear ha hb hd
  go_enter Try.func23, Try.ntmps23
  go_wp2_with fail
  go_loop [3, 11] (fun x3 x11 => (x11 = .int .i64 0 ∧ x3 = .int .i64 0) ∨ (x11 = .int .i64 1 ∧ x3 = .int .i64 (n : Int)) ∨ (x11 = .int .i64 2 ∧ x3 = .int .i64 ((n + m : Nat) : Int)) ∨ (x11 = .int .i64 3 ∧ x3 = .int .i64 ((n + m + p : Nat) : Int))) (fun _ x11 => 3 - (intOf x11).toNat)
  case atStart => exact .inl ⟨rfl, rfl⟩
  case round =>
    rcases hrel with ⟨rfl, rfl⟩ | ⟨rfl, rfl⟩ | ⟨rfl, rfl⟩ | ⟨rfl, rfl⟩
    · clear c1 c2
      go_wp2
      exact ⟨.inr (.inl ⟨rfl, by first | rfl | go_num⟩), by simp [intOf]⟩
    · clear c0 c2
      go_wp2
      exact ⟨.inr (.inr (.inl ⟨rfl, by first | rfl | go_num⟩)), by simp [intOf]⟩
    · clear c0 c1
      go_wp2
      exact ⟨.inr (.inr (.inr ⟨rfl, by first | rfl | go_num⟩)), by simp [intOf]⟩
    · go_wp2_with fail
      refine (Grow_nil (n + m + p) w (by omega)).mono ?_
      rintro e w1 ⟨v, rfl, ho, hb⟩
      have HO := Lib.hid ho
      have HBl := Lib.hid hb
      clear ho hb c0 c1 c2
      go_wp2_with fail
      go_loopw [6, 27] (fun x6 x27 wr => (x27 = .int .i64 0 ∧ Hid (OwnB wr w.heap.size x6 [] ∧ Below w.heap.size w wr)) ∨ (x27 = .int .i64 1 ∧ Hid (OwnB wr w.heap.size x6 a ∧ Below w.heap.size w wr)) ∨ (x27 = .int .i64 2 ∧ Hid (OwnB wr w.heap.size x6 (a ++ b) ∧ Below w.heap.size w wr)) ∨ (x27 = .int .i64 3 ∧ Hid (OwnB wr w.heap.size x6 (a ++ b ++ e3) ∧ Below w.heap.size w wr))) (fun _ x27 _ => 3 - (intOf x27).toNat)
      case atStart => exact .inl ⟨rfl, Lib.hid ⟨HO.out, HBl.out⟩⟩
      case round =>
        rcases hrel with ⟨rfl, HI⟩ | ⟨rfl, HI⟩ | ⟨rfl, HI⟩ | ⟨rfl, HI⟩
        · have c0 := cell_keep HI.out.2 HC0.out
          obtain ⟨v1, w2, r1, o1, g1, at1⟩ := run_append_rd (P := Try.prog) (c := c) w.heap.size 26 26 5 (.int .u8 0) 1 Try.underlying26 infoB rfl (by decide) encB_one HI.out.1.1 (HA.out.below HI.out.2).rd (by simp; omega) HI.out.2.size
          have HN : Hid (OwnB w2 w.heap.size v1 a ∧ Below w.heap.size w w2) := Lib.hid ⟨⟨by simpa using o1, HA.out.byt⟩, HI.out.2.grown g1 HI.out.2.size (fun k hk => (HI.out.1.1.base k hk).1)⟩
          clear o1 g1 at1
          go_wp2_with (at_builtin; refine wpl_append_run rfl _ _ _ rfl rfl rfl r1 ?_)
          exact ⟨.inr (.inl ⟨rfl, HN⟩), by simp [intOf]⟩
        · have c1 := cell_keep HI.out.2 HC1.out
          have hal := HA.out.len
          obtain ⟨v1, w2, r1, o1, g1, at1⟩ := run_append_rd (P := Try.prog) (c := d) w.heap.size 26 26 5 (.int .u8 0) 1 Try.underlying26 infoB rfl (by decide) encB_one HI.out.1.1 (HB.out.below HI.out.2).rd (by omega) HI.out.2.size
          have HN : Hid (OwnB w2 w.heap.size v1 (a ++ b) ∧ Below w.heap.size w w2) := Lib.hid ⟨⟨o1, HA.out.byt.append HB.out.byt⟩, HI.out.2.grown g1 HI.out.2.size (fun k hk => (HI.out.1.1.base k hk).1)⟩
          clear o1 g1 at1 hal
          go_wp2_with (at_builtin; refine wpl_append_run rfl _ _ _ rfl rfl rfl r1 ?_)
          exact ⟨.inr (.inr (.inl ⟨rfl, HN⟩)), by simp [intOf]⟩
        · have c2 := cell_keep HI.out.2 HC2.out
          have hal := HA.out.len
          have hbl := HB.out.len
          obtain ⟨v1, w2, r1, o1, g1, at1⟩ := run_append_rd (P := Try.prog) (c := q) w.heap.size 26 26 5 (.int .u8 0) 1 Try.underlying26 infoB rfl (by decide) encB_one HI.out.1.1 (HD.out.below HI.out.2).rd (by rw [List.length_append]; omega) HI.out.2.size
          have HN : Hid (OwnB w2 w.heap.size v1 (a ++ b ++ e3) ∧ Below w.heap.size w w2) := Lib.hid ⟨⟨o1, (HA.out.byt.append HB.out.byt).append HD.out.byt⟩, HI.out.2.grown g1 HI.out.2.size (fun k hk => (HI.out.1.1.base k hk).1)⟩
          clear o1 g1 at1 hal hbl
          go_wp2_with (at_builtin; refine wpl_append_run rfl _ _ _ rfl rfl rfl r1 ?_)
          exact ⟨.inr (.inr (.inr ⟨rfl, HN⟩)), by simp [intOf]⟩
        · go_wp2
          go_ret
          exact ⟨_, rfl, HI.out.1, HI.out.2⟩
end Go.Proofs.Ytbmdjmnjbflfeaa

/- The terms of a text, a blank, and another text are those of both: the law. -/
namespace Go.Proofs.Ytbmdjmnjbflfeaa
open Go.RowKit Go.Shelf
set_option linter.unusedVariables false
set_option linter.unusedSimpArgs false

theorem rns_append (a b : List Nat) (hb : freshL b) : rnsL (a ++ b) = rnsL a ++ rnsL b := by
  unfold rnsL
  rw [marks_append a b hb, List.map_append]
  congr 1
  unfold shiftL
  rw [List.map_map]
  rfl
theorem rns_blank (b : List Nat) (hb : Byt b) : rnsL (32 :: b) = 32 :: rnsL b := by
  have h := dec_enc (n := 32) ⟨by decide, by decide, by decide⟩ b hb
  have e : encL (32 : Nat) = [32] := by
    have := encL_one (r := 32) (by decide)
    exact this
  rw [e] at h
  rw [rns_step (32 :: b) (by simp)]
  simp only [List.singleton_append] at h
  rw [h]
  rfl
theorem wdG_split (ys : List Nat) : ∀ (xs cur : List Nat), wdG (xs ++ 32 :: ys) cur = wdG xs cur ++ wdG ys []
  | [], cur => by
    have h32 : ¬ letB ((32 : Nat) : Int) = true := by decide
    rw [List.nil_append]
    conv => lhs; unfold wdG
    rw [if_neg h32]
    conv => rhs; arg 1; unfold wdG
    split <;> simp
  | x :: xs, cur => by
    rw [List.cons_append]
    conv => lhs; unfold wdG
    conv => rhs; arg 1; unfold wdG
    rw [wdG_split ys xs (cur ++ [x]), wdG_split ys xs []]
    split
    · rfl
    · split
      · rfl
      · simp
theorem words_blank (a b : List Nat) (hb : Byt b) : wordsL (a ++ [32] ++ b) = wordsL a ++ wordsL b := by
  unfold wordsL
  rw [List.append_assoc, rns_append a ([32] ++ b) (.inr (by simp)), List.singleton_append, rns_blank b hb, wdG_split]
theorem tmG_shift (cf : Cf) (n : Nat) : ∀ (ws : List (List Nat)) (k : Nat), tmG cf ws (k + n) = (tmG cf ws k).map fun x => (x.1 + n, x.2)
  | [], _ => rfl
  | w :: ws, k => by
    simp only [tmG, List.map_cons]
    rw [show k + n + 1 = k + 1 + n by omega, tmG_shift cf n ws (k + 1)]
theorem tmG_pos (cf : Cf) : ∀ (ws : List (List Nat)) (k : Nat), ∀ y ∈ tmG cf ws k, k ≤ y.1 ∧ y.1 < k + ws.length
  | [], _, y, hy => by cases hy
  | w :: ws, k, y, hy => by
    unfold tmG at hy
    rcases List.mem_cons.1 hy with h | h
    · subst h; simp
    · have := tmG_pos cf ws (k + 1) y h
      simp
      omega
theorem toks_pos (cf : Cf) (l : List Nat) : ∀ y ∈ toksL cf l, y.2 < (wordsL l).length := by
  intro y hy
  unfold toksL at hy
  obtain ⟨x, hx, rfl⟩ := List.mem_map.1 hy
  have hx := (List.mem_filter.1 hx).1
  unfold termsL at hx
  split at hx
  · have := (tmG_pos cf _ 0 x hx).2
    simpa using this
  · cases hx
theorem toks_blank (cf : Cf) (a b : List Nat) (hb : Byt b) : toksL cf (a ++ [32] ++ b) = toksL cf a ++ (toksL cf b).map fun x => (x.1, x.2 + (wordsL a).length) := by
  unfold toksL termsL
  by_cases h : mayC cf
  · rw [if_pos h, if_pos h, if_pos h, words_blank a b hb, tmG_append, tmG_shift, List.filter_append, List.map_append, List.filter_map, List.map_map, List.map_map]
    rfl
  · rw [if_neg h, if_neg h, if_neg h]
    rfl
set_option maxRecDepth 100000 in
set_option maxHeartbeats 8000000 in
theorem Behind_any (A : Option Addr) (n c : Nat) (B : Option Addr) (m d : Nat) (cf : Cf) (T : Option Addr) (nt ct : Nat) (l : List Nat) (U : Option Addr) (nu cu : Nat) (k : List Nat) (w : World) (h : RdC0 w A n c B m d cf) (ht : RdB w T nt l) (htc : nt ≤ ct) (htc2 : ct ≤ 9223372036854775807) (hu : RdB w U nu k) (huc : nu ≤ cu) (huc2 : cu ≤ 9223372036854775807) :
    Calls Try.prog 6 #[confV A n c B m d cf.cap, .slice T nt ct, .slice U nu cu] w fun e w' => e = .returned (.bool true) ∧ Below w.heap.size w w' := by
  have HR := Lib.hid h
  have HT := Lib.hid ht
  have HLn := Lib.hid ht.len
  have HU := Lib.hid hu
  have HLu := Lib.hid hu.len
  clear ht hu
  obtain ⟨cp, hcp⟩ : ∃ cp, cp = cf.cap := ⟨_, rfl⟩
  have hbx := (Below.refl w.heap.size w).alloc (Nat.le_refl _) (.cells #[.slice A n c, .slice B m d, .int .i64 cp] 25)
  have hcell := World.alloc_heap_new w (.cells #[.slice A n c, .slice B m d, .int .i64 cp] 25)
  obtain ⟨w1, hw1⟩ : ∃ w1, w1 = w.alloc (.cells #[.slice A n c, .slice B m d, .int .i64 cp] 25) := ⟨_, rfl⟩
  obtain ⟨g, hg⟩ : ∃ g, g = w.heap.size := ⟨_, rfl⟩
  rw [← hw1] at hbx hcell
  rw [← hg] at hcell
  have HW1 := Lib.hid hw1
  have HG := Lib.hid hg
  have HCP := Lib.hid hcp
  have HB1 := Lib.hid hbx
  rw [← hcp]
  have HC1 := Lib.hid hcell
  clear h hw1 hg hcp hbx hcell
  go_enter Try.func6, Try.ntmps6
  go_wp2_with fail
  rw [← HW1.out, ← HG.out]
  clear HW1
  refine (live_any w1).mono ?_
  rintro e w2 ⟨rfl, hb⟩
  have HC2 := Lib.hid ((hb.block g (Array.getElem?_eq_some_iff.1 HC1.out).1).trans HC1.out)
  have HB2 := Lib.hid (Below.thn HB1.out hb)
  obtain ⟨c0, c1, c2⟩ := cells3 HC2.out
  have CF := Lib.hid (few1_any ⟨A, n, c, B, m, d, cf⟩ w2 (HR.out.below HB2.out))
  simp only at CF
  rw [← HCP.out] at CF
  clear hb HC1 HB1
  go_wp2_with fail
  refine CF.out.mono ?_
  rintro e w3 ⟨⟨b, rfl, hbf⟩, hb⟩
  have HC3 := Lib.hid ((hb.block g (Array.getElem?_eq_some_iff.1 HC2.out).1).trans HC2.out)
  have HB3 := Lib.hid (Below.thn HB2.out hb)
  have HFw := Lib.hid hbf
  clear hb hbf CF c0 c1 c2 HC2 HB2
  cases b
  case false =>
    go_wp2_with fail
    refine (live_any _).mono ?_
    rintro e w9 ⟨rfl, hb⟩
    have HB9 := Lib.hid (Below.thn HB3.out hb)
    clear hb
    go_wp2
    go_ret
    exact ⟨rfl, HB9.out⟩
  have hfw := HFw.out.1 (by simp)
  have HRC := Lib.hid (RdC0.full HR.out (by exact hfw.2.2))
  have hm100 : m ≤ 100 := hfw.2.1
  clear hfw HFw
  by_cases hbig : (1500 : Int) < (nt : Int)
  ·
    go_wp2_with fail
    refine (live_any _).mono ?_
    rintro e w9 ⟨rfl, hb⟩
    have HB9 := Lib.hid (Below.thn HB3.out hb)
    clear hb
    go_wp2
    go_ret
    exact ⟨rfl, HB9.out⟩
  by_cases hbig2 : (1500 : Int) < (nu : Int)
  ·
    go_wp2_with fail
    refine (live_any _).mono ?_
    rintro e w9 ⟨rfl, hb⟩
    have HB9 := Lib.hid (Below.thn HB3.out hb)
    clear hb
    go_wp2
    go_ret
    exact ⟨rfl, HB9.out⟩
  have hnt : nt ≤ 1500 := by omega
  have hnu : nu ≤ 1500 := by omega
  have hnt' : ¬ (1500 : Int) < (nt : Int) := hbig
  have hnu' : ¬ (1500 : Int) < (nu : Int) := hbig2
  -- the blank; the row of three
  have km := fun (C : Array Value) (n c : Nat) => markC C n c w3
  have hbA : Below w3.heap.size w3 (w3.alloc (.cells #[.int .u8 32] 5 (1, 2))) := (Below.refl _ _).alloc (Nat.le_refl _) _
  have hR1 : RdB (w3.alloc (.cells #[.int .u8 32] 5 (1, 2))) (some ⟨w3.heap.size, 0, none⟩) 1 [32] := ⟨Rd.new w3 5 [32] #[.int .u8 32] 1 (1, 2) (enc := encB) rfl rfl (by decide), by
    intro c hc
    simp at hc
    omega⟩
  obtain ⟨wA, hwA⟩ : ∃ wA, wA = w3.alloc (.cells #[.int .u8 32] 5 (1, 2)) := ⟨_, rfl⟩
  rw [← hwA] at hbA hR1
  have hbB : Below wA.heap.size wA (wA.alloc (.cells #[.slice T nt ct, .slice (some ⟨w3.heap.size, 0, none⟩) 1 1, .slice U nu cu] 26)) := (Below.refl _ _).alloc (Nat.le_refl _) _
  have hcB := World.alloc_heap_new wA (.cells #[.slice T nt ct, .slice (some ⟨w3.heap.size, 0, none⟩) 1 1, .slice U nu cu] 26)
  obtain ⟨wB, hwB⟩ : ∃ wB, wB = wA.alloc (.cells #[.slice T nt ct, .slice (some ⟨w3.heap.size, 0, none⟩) 1 1, .slice U nu cu] 26) := ⟨_, rfl⟩
  rw [← hwB] at hbB hcB
  have hsA : wA.heap.size = w3.heap.size + 1 := by rw [hwA]; simp
  rw [hsA] at hcB
  obtain ⟨e0, e1, e2⟩ := cells3 hcB
  have HBB := Lib.hid (Below.thn (Below.thn HB3.out hbA) hbB)
  have CC := Lib.hid (Concat3_any (w3.heap.size + 1) T (some ⟨w3.heap.size, 0, none⟩) U nt ct 1 1 nu cu l [32] k wB e0 e1 e2 (HT.out.below HBB.out) (hR1.below hbB) (HU.out.below HBB.out) (by omega) (by decide) (by omega))
  have HCB := Lib.hid ((hbB.block g (by have := hbA.size; have := (Array.getElem?_eq_some_iff.1 HC3.out).1; omega)).trans ((hbA.block g (Array.getElem?_eq_some_iff.1 HC3.out).1).trans HC3.out))
  have HWA := Lib.hid hwA
  have HWB := Lib.hid hwB
  clear hbA hR1 hwA hbB hcB hwB hsA e0 e1 e2 hbig hbig2
  go_wp2_with fail
  rw [← HWA.out, ← HWB.out]
  refine CC.out.mono ?_
  rintro e w4 ⟨v7, rfl, ho, hb⟩
  obtain ⟨A7, c7, rfl, h71, h72, h73⟩ := ho.1.rd
  obtain ⟨L7, hL7⟩ : ∃ L7, L7 = l ++ [32] ++ k := ⟨_, rfl⟩
  obtain ⟨N7, hN7⟩ : ∃ N7, N7 = (l ++ [32] ++ k).length := ⟨_, rfl⟩
  rw [← hN7] at h71 h73 ⊢
  have H7 : Hid (RdB w4 A7 N7 L7) := Lib.hid (by rw [hL7]; exact ⟨h73, ho.2⟩)
  have hN7b : N7 ≤ 3001 := by
    rw [hN7]
    have := HLn.out
    have := HLu.out
    simp
    omega
  have HN7 := Lib.hid hN7
  have HL7 := Lib.hid hL7
  have HB4 := Lib.hid (Below.thn HBB.out hb)
  have HC4 := Lib.hid ((hb.block g (Array.getElem?_eq_some_iff.1 HCB.out).1).trans HCB.out)
  clear ho hb h73 hN7 hL7 CC km HWA HWB HCB HBB HC3 HB3
  have CA := Lib.hid (Count_any T nt ct l w4 (HT.out.below HB4.out) htc)
  go_wp2_with fail
  refine CA.out.mono ?_
  rintro e w5 ⟨rfl, hb⟩
  obtain ⟨nA, hnA⟩ : ∃ nA, nA = (wordsL l).length := ⟨_, rfl⟩
  rw [← hnA]
  have hnAb : nA ≤ 1501 := by
    rw [hnA]
    have := wordsL_len l
    have := HLn.out
    omega
  have HNA := Lib.hid hnA
  have HB5 := Lib.hid (Below.thn HB4.out hb)
  have HG5 : Hid (g < w5.heap.size) := Lib.hid (by have := (Array.getElem?_eq_some_iff.1 HC4.out).1; have := hb.size; omega)
  have HC5 := Lib.hid ((hb.block g (Array.getElem?_eq_some_iff.1 HC4.out).1).trans HC4.out)
  have H75 := Lib.hid (H7.out.below hb)
  obtain ⟨c0, c1, c2⟩ := cells3 HC5.out
  have CB := Lib.hid (Tokens_any A n c B m d cf T nt ct l w5 (HRC.out.below HB5.out) (HT.out.below HB5.out) htc (by have := HLn.out; omega) (by omega))
  rw [← HCP.out] at CB
  clear hb hnA CA HC4 HB4 H7
  go_wp2_with fail
  refine CB.out.mono ?_
  rintro e w6 ⟨v9, rfl, ho, hb⟩
  have HB6 := Lib.hid (Below.thn HB5.out hb)
  have HC6 := Lib.hid ((hb.block g (Array.getElem?_eq_some_iff.1 HC5.out).1).trans HC5.out)
  have HO6 := Lib.hid ho
  have HS6 := Lib.hid hb
  clear hb ho CB c0 c1 c2 HC5
  obtain ⟨c0, c1, c2⟩ := cells3 HC6.out
  have CD := Lib.hid (Tokens_any A n c B m d cf U nu cu k w6 (HRC.out.below HB6.out) (HU.out.below HB6.out) huc (by have := HLu.out; omega) (by omega))
  rw [← HCP.out] at CD
  go_wp2_with fail
  refine CD.out.mono ?_
  rintro e w7 ⟨v44, rfl, ho, hb⟩
  obtain ⟨ta, hta⟩ : ∃ ta, ta = toksL cf l := ⟨_, rfl⟩
  obtain ⟨tb, htb⟩ : ∃ tb, tb = toksL cf k := ⟨_, rfl⟩
  rw [← htb] at ho
  rw [← hta] at HO6
  have HTA := Lib.hid (show ta.length ≤ 1501 by rw [hta]; have := toks_len cf l; have := HLn.out; omega)
  have HTB := Lib.hid (show tb.length ≤ 1501 by rw [htb]; have := toks_len cf k; have := HLu.out; omega)
  have htbp : ∀ y ∈ tb, y.2 ≤ 2000 := fun y hy => by
    rw [htb] at hy
    have := toks_pos cf k y hy
    have := wordsL_len k
    have := HLu.out
    omega
  have HTP := Lib.hid htbp
  obtain ⟨A8, c8, hv44, h81, h82, h83⟩ := OwnK.rd encTk_len ho
  obtain ⟨N8, hN8⟩ : ∃ N8, N8 = tb.length := ⟨_, rfl⟩
  rw [← hN8] at hv44 h81
  subst hv44
  have HB7 := Lib.hid (Below.thn HB6.out hb)
  have HI7 : Hid (Below w.heap.size w w7 ∧ Below w5.heap.size w5 w7 ∧ OwnK encTk 2 33 w7 w5.heap.size v9 (ta ++ (tb.take 0).map fun x => (x.1, x.2 + nA)) ∧ OwnK encTk 2 33 w7 w6.heap.size (.slice A8 N8 c8) tb ∧ ∀ j, (v9).ownBlock = some j → ((Value.slice A8 N8 c8)).ownBlock ≠ some j) := Lib.hid
    ⟨HB7.out, Below.thn HS6.out hb, by simpa using OwnK.below HO6.out hb, ho, fun j hj e => by
      have := (OwnK.base HO6.out j hj).2
      have := (OwnK.base ho j e).1
      omega⟩
  have HC7 := Lib.hid ((hb.block g (Array.getElem?_eq_some_iff.1 HC6.out).1).trans HC6.out)
  have HS5 : Hid (w5.heap.size ≤ w6.heap.size ∧ w.heap.size ≤ w5.heap.size ∧ g < w5.heap.size) := Lib.hid ⟨HS6.out.size, HB5.out.size, HG5.out⟩
  have HN8 := Lib.hid hN8
  have hN8b : N8 ≤ 1501 := by have := HTB.out; omega
  have HTAe := Lib.hid hta
  have HTBe := Lib.hid htb
  clear hb ho CD c0 c1 c2 HC6 HO6 hta htb h83 hN8 htbp
  go_wp2_with fail
  go_loopw [9, 46] (fun x y wr => ∃ ix : Nat, ix ≤ N8 ∧ y = .int .i64 (ix : Nat) ∧ Hid (wr.heap[g]? = some (.cells #[.slice A n c, .slice B m d, .int .i64 cp] 25)) ∧ Hid (Below w.heap.size w wr ∧ Below w5.heap.size w5 wr ∧ OwnK encTk 2 33 wr w5.heap.size x (ta ++ (tb.take ix).map fun x => (x.1, x.2 + nA)) ∧ OwnK encTk 2 33 wr w6.heap.size (.slice A8 N8 c8) tb ∧ ∀ j, (x).ownBlock = some j → ((Value.slice A8 N8 c8)).ownBlock ≠ some j)) (fun _ y _ => N8 - (intOf y).toNat)
  case atStart => exact ⟨0, Nat.zero_le _, rfl, HC7, HI7⟩
  case round =>
    obtain ⟨ix, hi, rfl, HC8, HI⟩ := hrel
    by_cases hlt : (ix : Int) < (N8 : Int)
    · have hrd : RdK encTk 2 wr A8 N8 tb := by
        obtain ⟨A, c', e, _, _, h⟩ := OwnK.rd encTk_len HI.out.2.2.2.1
        injection e with e1 e2 e3
        subst e1
        rw [HN8.out]
        exact h
      obtain ⟨ad, x, rfl, HX, x0, x1⟩ := hrd.at2 (k := ix) (by omega)
      have hxp : x.2 ≤ 2000 := by
        obtain ⟨hl, rfl⟩ := HX.out
        exact HTP.out _ (List.getElem_mem hl)
      have hbA : Below wr.heap.size wr (wr.alloc (.cells #[.string x.1, .int .i64 (x.2 : Nat)] 33)) := (Below.refl _ _).alloc (Nat.le_refl _) _
      have hbB : Below (wr.alloc (.cells #[.string x.1, .int .i64 (x.2 : Nat)] 33)).heap.size (wr.alloc (.cells #[.string x.1, .int .i64 (x.2 : Nat)] 33)) ((wr.alloc (.cells #[.string x.1, .int .i64 (x.2 : Nat)] 33)).alloc (.cells #[.string x.1, .int .i64 ((x.2 : Int) + (nA : Int))] 33)) := (Below.refl _ _).alloc (Nat.le_refl _) _
      have hbC := Below.thn hbA hbB
      have hA := OwnK.below HI.out.2.2.1 hbC
      have hrd2 := RdK.one (enc := encTk) (sz := 2) (wr.alloc (.cells #[.string x.1, .int .i64 (x.2 : Nat)] 33)) 33 (x.1, x.2 + nA) #[.string x.1, .int .i64 ((x.2 : Int) + (nA : Int))] (0, 0) (by simp) rfl
      have htl : (ta ++ (tb.take ix).map fun x : Tok => (x.1, x.2 + nA)).length ≤ 3002 := by
        have := HTA.out
        have := HTB.out
        simp [List.length_take]
        omega
      obtain ⟨v1, w7', r1, o1, g1, at1⟩ := run_append_rdK (P := Try.prog) (c := 1) w5.heap.size 29 29 33 (.agg #[.string .empty, .int .i64 0]) 24 Try.underlying29 infoTk rfl (by decide) (by decide) encTk_len encTk_one hA hrd2 (Nat.le_trans (Nat.mul_le_mul_right _ (Nat.add_le_add_right htl 1)) (by decide)) (by have := HI.out.2.1.size; simp; omega)
      simp only [World.size_alloc] at r1
      have HNT : Hid (ta ++ (tb.take (ix + 1)).map (fun x : Tok => (x.1, x.2 + nA)) = (ta ++ (tb.take ix).map fun x : Tok => (x.1, x.2 + nA)) ++ [(x.1, x.2 + nA)]) := Lib.hid (by
        obtain ⟨hl, e⟩ := HX.out
        rw [List.take_succ_eq_append_getElem hl, List.map_append, e]
        simp)
      have hsep : ∀ j, (Value.slice (some ad) N8 c8).ownBlock = some j → u9.ownBlock ≠ some j := fun j hj e => HI.out.2.2.2.2 j e hj
      have key : ∀ (j : Nat) (o : Obj), wr.heap[j]? = some o → (∀ C fr, o ≠ .cells C 33 fr) → w7'.heap[j]? = some o := fun j o hj ho => by
        have h1 := (hbC.block j (Array.getElem?_eq_some_iff.1 hj).1).trans hj
        refine (g1.block j (Array.getElem?_eq_some_iff.1 h1).1 (fun e => ?_)).trans h1
        rcases hA.2 with ⟨e2, _⟩ | ⟨g', cap, cur, e2, _, hh, _⟩
        · rw [e2] at e; simp [Value.ownBlock] at e
        · rw [e2] at e
          simp only [Value.ownBlock, Option.some.injEq] at e
          subst e
          rw [h1] at hh
          cases hh
          exact ho _ _ rfl
      have hbW : Below w5.heap.size wr w7' := (hbC.mono HI.out.2.1.size).grown g1 (by have := HI.out.2.1.size; have := hbC.size; omega) (fun j hj => (OwnK.base hA j hj).1)
      have HN : Hid (w7'.heap[g]? = some (.cells #[.slice A n c, .slice B m d, .int .i64 cp] 25) ∧ Below w.heap.size w w7' ∧ Below w5.heap.size w5 w7' ∧ OwnK encTk 2 33 w7' w5.heap.size v1 (ta ++ (tb.take (ix + 1)).map fun x => (x.1, x.2 + nA)) ∧ OwnK encTk 2 33 w7' w6.heap.size (.slice (some ad) N8 c8) tb ∧ ∀ j, (v1).ownBlock = some j → ((Value.slice (some ad) N8 c8)).ownBlock ≠ some j) := Lib.hid
        ⟨key g _ HC8.out (fun C fr e => by cases e), HI.out.1.trans (hbW.mono HS5.out.2.1), HI.out.2.1.trans hbW, by rw [HNT.out]; exact o1, OwnK.kept (OwnK.below HI.out.2.2.2.1 hbC) g1 (by
            cases hu9 : u9.ownBlock with
            | none =>
              cases hq : (Value.slice (some ad) N8 c8).ownBlock with
              | none => exact .inl rfl
              | some j => exact .inr (fun e => by cases e)
            | some j => exact .inr fun e => hsep j e hu9), fun j hj e => by
          rcases at1 with h | h
          · rw [h] at hj; exact hsep j e hj
          · have := (OwnK.base HI.out.2.2.2.1 j e).2
            rw [h] at hj
            simp at hj
            omega⟩
      clear hbA hbB hbC hA hrd hrd2 htl o1 g1 at1 hsep key hbW
      go_wp2_with (at_builtin; refine wpl_append_run rfl _ _ _ rfl rfl rfl r1 ?_)
      exact ⟨⟨ix + 1, by omega, by simp; try go_num, Lib.hid HN.out.1, Lib.hid HN.out.2⟩, by simp [intOf]; try omega⟩
    · obtain ⟨c0, c1, c2⟩ := cells3 HC8.out
      have H7r := Lib.hid (H75.out.below HI.out.2.1)
      have HTS : Hid (TS wr u9 (toksL cf L7)) := Lib.hid (by
        have h := HI.out.2.2.1
        rw [List.take_of_length_le (by have := HN8.out; omega)] at h
        rw [HL7.out, toks_blank cf l k HU.out.byt, ← HNA.out, ← HTAe.out, ← HTBe.out]
        exact OwnK.ts h)
      have HCt : Hid (((wordsL L7).length : Int) = (nA : Int) + ((wordsL k).length : Int)) := Lib.hid (by
        rw [HL7.out, words_blank l k HU.out.byt, List.length_append, HNA.out]
        simp)
      have CE := Lib.hid (Tokens_any A n c B m d cf A7 N7 c7 L7 wr (HRC.out.below HI.out.1) H7r.out h71 (by have := H7r.out.len; omega) (by omega))
      rw [← HCP.out] at CE
      go_wp2_with fail
      refine CE.out.mono ?_
      rintro e w8 ⟨v8, rfl, ho, hb⟩
      have CQ := Lib.hid (equalTk_same (OwnK.ts ho) (HTS.out.below hb))
      have HB8 := Lib.hid (Below.thn HI.out.1 hb)
      have H78 := Lib.hid (H7r.out.below hb)
      clear ho hb CE HTS c0 c1 c2
      go_wp2_with fail
      refine CQ.out.mono ?_
      rintro e w9 ⟨rfl, hb⟩
      have HB9 := Lib.hid (Below.thn HB8.out hb)
      have H79 := Lib.hid (H78.out.below hb)
      have C1 := Lib.hid (Count_any A7 N7 c7 L7 w9 H79.out h71)
      obtain ⟨K, hK⟩ : ∃ K, K = (wordsL L7).length := ⟨_, rfl⟩
      rw [← hK] at C1 HCt
      clear hb CQ HB8 H78 hK
      go_wp2_with fail
      refine C1.out.mono ?_
      rintro e w10 ⟨rfl, hb⟩
      have HB10 := Lib.hid (Below.thn HB9.out hb)
      have C2 := Lib.hid (Count_any U nu cu k w10 (HU.out.below HB10.out) huc)
      obtain ⟨nB, hnB⟩ : ∃ nB, nB = (wordsL k).length := ⟨_, rfl⟩
      have hnBb : nB ≤ 1501 := by
        rw [hnB]
        have := wordsL_len k
        have := HLu.out
        omega
      rw [← hnB] at C2 HCt
      have heq : ((K : Int) == (nA : Int) + (nB : Int)) = true := by have := HCt.out; simp; omega
      clear hb C1 HB9 H79 hnB
      go_wp2_with fail
      refine C2.out.mono ?_
      rintro e w11 ⟨rfl, hb⟩
      have HB11 := Lib.hid (Below.thn HB10.out hb)
      clear hb C2
      go_wp2
      go_ret
      exact ⟨rfl, HB11.out⟩
end Go.Proofs.Ytbmdjmnjbflfeaa
