/- Places of a word in texts. -/
import Derived.Test.YtaaddckhldccjaaPhrB
namespace Go.Proofs.Ytaaddckhldccjaa
open Go.RowKit
set_option linter.unusedVariables false
set_option linter.unusedSimpArgs false

theorem Box2.not_row {W : World} {b : Nat} {t e : TypeId} {x y : Value} (h : Box2 W b t x y) (hte : t ≠ e) {base size k : Nat} {v : Value} {xs : List Value} (hr : W.ownsRow base e size v k xs) : some b ≠ v.ownBlock := by
  rcases hr.2 with ⟨rfl, _⟩ | ⟨g, cap, cur, rfl, _, hgb, _⟩
  · simp [Value.ownBlock]
  · intro e'
    have e2 : b = g := by injection e'
    subst e2
    rw [show W.heap[b]? = _ from h] at hgb
    injection hgb with hgb
    injection hgb with _ h3 _
    exact hte h3
/-- A text's value, and its words. -/
structure TV where
  A : Option Addr
  n : Nat
  c : Nat
  l : List Nat
abbrev encTV : TV → Value := fun x => .slice x.A x.n x.c
structure TV.ok (x : TV) (w : World) : Prop where
  nc : x.n ≤ x.c
  c2 : x.c ≤ 9223372036854775807
  rd : RdB w x.A x.n x.l
theorem TV.ok.below {x : TV} {w w' : World} (h : x.ok w) (hb : Below w.heap.size w w') : x.ok w' := ⟨h.nc, h.c2, h.rd.below hb⟩
structure RdTT (w : World) (A : Option Addr) (n : Nat) (T : List TV) : Prop where
  rd : Rd encTV w A n T
  ok : ∀ x ∈ T, x.ok w
theorem RdTT.below {w w' : World} {A : Option Addr} {n : Nat} {T : List TV} (h : RdTT w A n T) (hb : Below w.heap.size w w') : RdTT w' A n T := ⟨h.rd.below hb, fun x hx => (h.ok x hx).below hb⟩
theorem RdTT.len {w : World} {A : Option Addr} {n : Nat} {T : List TV} (h : RdTT w A n T) : T.length = n := h.rd.len
def txA (T : List TV) (i : Nat) : List Nat := (T.map (·.l)).getD i []
theorem RdTT.at {w : World} {A : Option Addr} {n : Nat} {T : List TV} (h : RdTT w A n T) {k : Nat} (hk : k < n) : ∃ (ad : Addr) (x : TV), A = some ad ∧ Hid (x ∈ T ∧ txA T k = x.l) ∧ Hid (x.ok w) ∧ x.n ≤ 9223372036854775807 ∧ w.cell? (ad.add k) = some (.slice x.A x.n x.c) := by
  obtain ⟨ad, e, hc⟩ := h.rd.cell (by omega)
  have hl : k < T.length := by rw [h.len]; exact hk
  have hx := h.ok T[k] (List.getElem_mem hl)
  exact ⟨ad, T[k], e, Lib.hid ⟨List.getElem_mem hl, by unfold txA; rw [List.getD_eq_getElem?_getD, List.getElem?_eq_getElem (by simpa using hl)]; simp⟩, Lib.hid hx, hx.rd.max, hc k hl⟩
/-- Where a word stands in a text. -/
def posIn (t : List Nat) (wd k : Nat) : List Int := (List.range k).filterMap fun j => if t.getD j 0 = wd then some (j : Int) else none
theorem posIn_yes {t : List Nat} {wd k : Nat} (h : t.getD k 0 = wd) : posIn t wd (k + 1) = posIn t wd k ++ [(k : Int)] := by
  unfold posIn
  rw [List.range_succ, List.filterMap_append]
  have e : [k].filterMap (fun j => if t.getD j 0 = wd then some (j : Int) else none) = [(k : Int)] := by
    rw [List.filterMap_cons, if_pos h]; rfl
  rw [e]
theorem posIn_no {t : List Nat} {wd k : Nat} (h : t.getD k 0 ≠ wd) : posIn t wd (k + 1) = posIn t wd k := by
  unfold posIn
  rw [List.range_succ, List.filterMap_append]
  have e : [k].filterMap (fun j => if t.getD j 0 = wd then some (j : Int) else none) = [] := by
    rw [List.filterMap_cons, if_neg h]; rfl
  rw [e, List.append_nil]
theorem posIn_len (t : List Nat) (wd k : Nat) : (posIn t wd k).length ≤ k := by
  have := List.length_filterMap_le (fun j => if t.getD j 0 = wd then some (j : Int) else none) (List.range k)
  simpa [posIn] using this
/-- Postings by what stands in each text. -/
def pstBy (f : Nat → List Int) (k : Nat) : List Po := (List.range k).filterMap fun i => if f i = [] then none else some (i + 1, f i)
theorem pstBy_yes {f : Nat → List Int} {k : Nat} (h : f k ≠ []) : pstBy f (k + 1) = pstBy f k ++ [(k + 1, f k)] := by
  unfold pstBy
  rw [List.range_succ, List.filterMap_append]
  simp [h]
theorem pstBy_no {f : Nat → List Int} {k : Nat} (h : f k = []) : pstBy f (k + 1) = pstBy f k := by
  unfold pstBy
  rw [List.range_succ, List.filterMap_append]
  simp [h]
theorem pstBy_len (f : Nat → List Int) (k : Nat) : (pstBy f k).length ≤ k := by
  have := List.length_filterMap_le (fun i => if f i = [] then none else some (i + 1, f i)) (List.range k)
  simpa [pstBy] using this
def wordAt (T : List TV) (wd i : Nat) : List Int := posIn (txA T i) wd (txA T i).length
/-- A list that is built of own rows. -/
structure OutJ (b : Nat) (o : Value) (os : List DV) (W : World) : Prop where
  own : OwnD W b o os
  rows : ∀ y ∈ os, OwnI W b (slV y) y.1.2 ∧ y.1.1 < 4294967296
theorem OutJ.nil (b : Nat) (W : World) : OutJ b (.slice none 0 0) [] W := ⟨OwnK.nil _ _ _ _ _, fun y hy => by cases hy⟩
theorem OutJ.below {b : Nat} {o : Value} {os : List DV} {W W' : World} (h : OutJ b o os W) (hb : Below W.heap.size W W') : OutJ b o os W' :=
  ⟨OwnK.below (enc := encD) h.own hb, fun y hy => ⟨(h.rows y hy).1.below hb, (h.rows y hy).2⟩⟩
theorem OutJ.ls {b : Nat} {o : Value} {os : List DV} {W : World} (h : OutJ b o os W) : LS W o (os.map (·.1)) :=
  gatheredD h.own fun y hy => ⟨by
    obtain ⟨A, c, e, h1, h2, h3⟩ := OwnL.rd (h.rows y hy).1
    exact ⟨A, _, c, e, h1, h2, h3⟩, (h.rows y hy).2⟩
theorem OutJ.push {w : World} {o : Value} {os : List DV} {W : World} (h : OutJ w.heap.size o os W) (hb : Below w.heap.size w W) (x : DV) (hx : OwnI W w.heap.size (slV x) x.1.2) (hd : x.1.1 < 4294967296) (hl : os.length ≤ 1000000000) :
    ∃ A' c' w2, (Builtin.append_ #[28, 28] 28 #[o, .slice (some ⟨W.heap.size, 0, none⟩) 1 1]).run Try.prog (W.alloc (.cells #[.int .u32 (x.1.1 : Nat), slV x] 32)) = .ok (.slice A' (os.length + 1) c') w2 ∧ OutJ w.heap.size (.slice A' (os.length + 1) c') (os ++ [x]) w2 ∧
      Below w.heap.size w w2 ∧ os.length + 1 ≤ c' ∧ c' ≤ 9223372036854775807 := by
  have hba : Below W.heap.size W (W.alloc (.cells #[.int .u32 (x.1.1 : Nat), slV x] 32)) := (Below.refl _ _).alloc (Nat.le_refl _) _
  have hrd := RdK.one (enc := encD) (sz := 2) W 32 x #[.int .u32 (x.1.1 : Nat), slV x] (0, 0) rfl rfl
  have a1 := OwnK.below (enc := encD) h.own hba
  obtain ⟨v1, w2, r1, o1, g1, _⟩ := run_append_rdK (P := Try.prog) (enc := encD) (c := 1) w.heap.size 28 28 32 (.agg #[.int .u32 0, .slice none 0 0]) 32 Try.underlying28 infoP rfl (by decide) (by decide) (fun _ => rfl) encD_one a1 hrd (by omega) (by have := hb.size; simp; omega)
  obtain ⟨A', c', e, h1, h2, _⟩ := OwnK.rd (enc := encD) (fun _ => rfl) o1
  have hlen : (os ++ [x]).length = os.length + 1 := by simp
  rw [hlen] at e h1
  subst e
  refine ⟨A', c', w2, r1, ⟨o1, fun y hy => ?_⟩, (Below.thn hb hba).grown g1 (Below.thn hb hba).size (fun k hk => (OwnK.base a1 k hk).1), h1, h2⟩
  have hy' : OwnI W w.heap.size (slV y) y.1.2 ∧ y.1.1 < 4294967296 := by
    rcases List.mem_append.1 hy with hy | hy
    · exact h.rows y hy
    · rw [List.mem_singleton] at hy; subst hy; exact ⟨hx, hd⟩
  exact ⟨apart_own (hy'.1.below hba) a1 (by decide) g1, hy'.2⟩
set_option maxRecDepth 100000 in
set_option maxHeartbeats 8000000 in
theorem postings_any (A : Option Addr) (n c : Nat) (T : List TV) (wd : Nat) (w : World) (h : RdTT w A n T) (hn : n ≤ 20) (hT : ∀ x ∈ T, x.n ≤ 1048576) (hwd : wd < 256) :
    Calls Try.prog 10 #[.slice A n c, .int .u8 (wd : Nat)] w fun e w' => ∃ v, e = .returned v ∧ (∃ os, OutJ w.heap.size v os w' ∧ os.map (·.1) = pstBy (wordAt T wd) n) ∧ Below w.heap.size w w' := by
  have HR := Lib.hid h
  have HT := Lib.hid hT
  clear h hT
  go_enter Try.func10, Try.ntmps10
  go_wp2_with fail
  go_loopw [5, 13] (fun o x wr => ∃ k : Nat, x = .int .i64 (k : Nat) ∧ k ≤ n ∧ Hid (∃ os, OutJ w.heap.size o os wr ∧ os.map (·.1) = pstBy (wordAt T wd) k ∧ Below w.heap.size w wr)) (fun _ x _ => n - (intOf x).toNat)
  case atStart => exact ⟨0, rfl, Nat.zero_le _, Lib.hid ⟨[], OutJ.nil _ _, rfl, Below.refl _ _⟩⟩
  case round =>
    obtain ⟨k, rfl, hk, HI⟩ := hrel
    obtain ⟨os, h1, h2, h3⟩ := HI.out
    have HO := Lib.hid h1
    have HE := Lib.hid h2
    have HB := Lib.hid h3
    clear h1 h2 h3
    by_cases hlt : (k : Int) < (n : Int)
    · obtain ⟨ad, x, rfl, HX, HXO, hxn, x0⟩ := (HR.out.below HB.out).at (k := k) (by omega)
      have hxn2 : x.n ≤ 1048576 := HT.out x HX.out.1
      have hz : ∀ (W : World), (Instr.build 32 #[(0, .int .u32 ((k : Int) + 1))]).run Try.prog W = .ok (.agg #[.int .u32 ((k : Int) + 1), .slice none 0 0]) W := fun W => run_build W 32 _ _ (by kernel_rfl)
      obtain ⟨W1, hW1⟩ : ∃ W1, W1 = wr := ⟨_, rfl⟩
      subst hW1
      obtain ⟨gp, hgp⟩ : ∃ gp, gp = W1.heap.size := ⟨_, rfl⟩
      obtain ⟨wA, hwA⟩ : ∃ wA, wA = W1.alloc (.cells #[.int .u32 ((k : Int) + 1), .slice none 0 0] 32) := ⟨_, rfl⟩
      have hbA : Below W1.heap.size W1 wA := by rw [hwA]; exact (Below.refl _ _).alloc (Nat.le_refl _) _
      have hbx : Box2 wA gp 32 (.int .u32 ((k : Int) + 1)) (.slice none 0 0) := by rw [hwA, hgp]; exact Box2.new _ _ _ _
      have HI0 : Hid (∃ v, Box2 wA gp 32 (.int .u32 ((k : Int) + 1)) v ∧ OwnI wA W1.heap.size v (posIn x.l wd 0) ∧ Below W1.heap.size W1 wA) := Lib.hid ⟨_, hbx, OwnL.nil _ _ _ _, hbA⟩
      have HWA := Lib.hid hwA
      have HGP := Lib.hid hgp
      clear hwA hgp hbA hbx
      go_wp2_with fail
      rw [← HWA.out, ← HGP.out]
      clear x0 hz
      go_loopw [24] (fun y wq => ∃ j : Nat, y = .int .i64 (j : Nat) ∧ j ≤ x.n ∧ Hid (∃ v, Box2 wq gp 32 (.int .u32 ((k : Int) + 1)) v ∧ OwnI wq W1.heap.size v (posIn x.l wd j) ∧ Below W1.heap.size W1 wq)) (fun y _ => x.n - (intOf y).toNat)
      case atStart => exact ⟨0, rfl, Nat.zero_le _, HI0⟩
      case round =>
        obtain ⟨j, rfl, hj, HJ⟩ := hrel
        obtain ⟨v, h1, h2, h3⟩ := HJ.out
        have HX2 := Lib.hid h1
        have HV := Lib.hid h2
        have HBJ := Lib.hid h3
        obtain ⟨g0, g1, g2, g3⟩ := h1.facts
        clear h1 h2 h3
        by_cases hlj : (j : Int) < (x.n : Int)
        · obtain ⟨ae, b, eA, HXB, hb256, c0⟩ := (HXO.out.rd.below HBJ.out).at (k := j) (by omega)
          rw [eA]
          by_cases hbw : b = wd
          · have hbe : ((b : Int) == (wd : Int)) = true := by simp; omega
            obtain ⟨Ao, co, rfl, lo2, mo, _⟩ := OwnL.rd HV.out
            obtain ⟨A', c', w5, r5, o5, hb5, hc5, hc6, hg5⟩ := push_i (j : Int) HV.out HBJ.out (by have := posIn_len x.l wd j; omega)
            have hn1 := Box2.not_row HX2.out (show 32 ≠ 3 by decide) HV.out
            have b5 := HX2.out.kept hg5 hn1
            have hn2 := Box2.not_row b5 (show 32 ≠ 3 by decide) o5
            obtain ⟨y0, y1, y2, y3⟩ := b5.facts
            have hgw : W1.heap.size ≤ gp := by rw [HGP.out]; exact Nat.le_refl _
            have HN : Hid (∃ v, Box2 (w5.setCell ⟨gp, 1, none⟩ (.slice A' ((posIn x.l wd j).length + 1) c')) gp 32 (.int .u32 ((k : Int) + 1)) v ∧ OwnI (w5.setCell ⟨gp, 1, none⟩ (.slice A' ((posIn x.l wd j).length + 1) c')) W1.heap.size v (posIn x.l wd (j + 1)) ∧ Below W1.heap.size W1 (w5.setCell ⟨gp, 1, none⟩ (.slice A' ((posIn x.l wd j).length + 1) c'))) := Lib.hid
              ⟨_, b5.set1 _, by rw [posIn_yes (by rw [← HXB.out]; exact hbw)]; exact OwnL.kept o5 (grownBy_set _ _ _) (.inr hn2.symm), hb5.setCell hgw _⟩
            clear hbw hn1 hn2 b5 hgw o5 hb5 hg5
            go_wp2_with (at_builtin; refine wpl_append_run rfl _ _ _ rfl rfl rfl r5 ?_)
            exact ⟨⟨j + 1, by simp; try go_num, by omega, HN⟩, by simp [intOf]; omega⟩
          · have hbe : ((b : Int) == (wd : Int)) = false := by simp; omega
            have HN : Hid (∃ v, Box2 wr gp 32 (.int .u32 ((k : Int) + 1)) v ∧ OwnI wr W1.heap.size v (posIn x.l wd (j + 1)) ∧ Below W1.heap.size W1 wr) := Lib.hid ⟨v, HX2.out, by rw [posIn_no (by rw [← HXB.out]; exact hbw)]; exact HV.out, HBJ.out⟩
            clear hbw
            go_wp2
            exact ⟨⟨j + 1, by simp; try go_num, by omega, HN⟩, by simp [intOf]; omega⟩
        · obtain rfl : j = x.n := by omega
          have hwa : wordAt T wd k = posIn x.l wd x.n := by unfold wordAt; rw [HX.out.2, HXO.out.rd.len]
          have HV2 : Hid (OwnI wr w.heap.size v (posIn x.l wd x.n)) := Lib.hid (OwnL.mono HV.out HB.out.size)
          have HBw := Lib.hid (Below.thn HB.out HBJ.out)
          have HOw := Lib.hid (HO.out.below HBJ.out)
          obtain ⟨Av, cv, rfl, l1, l2, _⟩ := OwnL.rd HV2.out
          obtain ⟨np, hnp⟩ : ∃ np, np = (posIn x.l wd x.n).length := ⟨_, rfl⟩
          rw [← hnp] at l1 g1 HV2
          have HNP := Lib.hid hnp
          have HWAt := Lib.hid hwa
          clear hnp hwa HV HX2 HJ
          by_cases hnp0 : (np : Int) > 0
          · have hne : wordAt T wd k ≠ [] := fun e9 => by rw [HWAt.out] at e9; have := HNP.out; rw [e9] at this; simp at this; omega
            obtain ⟨A', c', W4, r4, ho4, hb4, hc4, hc5⟩ := HOw.out.push HBw.out ((k + 1, wordAt T wd k), Av, np, cv) (by rw [HWAt.out]; exact HV2.out) (show k + 1 < 4294967296 by omega) (by
              have h1 := pstBy_len (wordAt T wd) k
              rw [← HE.out, List.length_map] at h1
              omega)
            dsimp only at r4
            rw [show ((k + 1 : Nat) : Int) = (k : Int) + 1 by omega] at r4
            obtain ⟨Ao, co, eo, lo1, mo1, _⟩ := OwnK.rd (enc := encD) (fun _ => rfl) HOw.out.own
            subst eo
            have HN : Hid (∃ os2, OutJ w.heap.size (.slice A' (os.length + 1) c') os2 W4 ∧ os2.map (·.1) = pstBy (wordAt T wd) (k + 1) ∧ Below w.heap.size w W4) := Lib.hid ⟨_, ho4, by rw [pstBy_yes hne, List.map_append, HE.out]; rfl, hb4⟩
            clear hne ho4 hb4
            go_wp2_with (at_builtin; refine wpl_append_run rfl _ _ _ rfl rfl rfl r4 ?_)
            exact ⟨⟨k + 1, by simp; try go_num, by omega, HN⟩, by simp [intOf]; omega⟩
          · have hno : wordAt T wd k = [] := by rw [HWAt.out]; exact List.eq_nil_of_length_eq_zero (by have := HNP.out; omega)
            have HN : Hid (∃ os, OutJ w.heap.size u5 os wr ∧ os.map (·.1) = pstBy (wordAt T wd) (k + 1) ∧ Below w.heap.size w wr) := Lib.hid ⟨os, HOw.out, by rw [pstBy_no hno]; exact HE.out, HBw.out⟩
            clear hno
            go_wp2
            exact ⟨⟨k + 1, by simp; try go_num, by omega, HN⟩, by simp [intOf]; omega⟩
    · have HF : Hid (∃ os, OutJ w.heap.size u5 os wr ∧ os.map (·.1) = pstBy (wordAt T wd) n) := Lib.hid ⟨os, HO.out, by rw [HE.out]; congr 1; omega⟩
      obtain ⟨Ao, co, eo, lo1, mo1, _⟩ := OwnK.rd (enc := encD) (fun _ => rfl) HO.out.own
      subst eo
      go_wp2
      refine bodyPost_ret (v := .slice Ao os.length co) (by simp [results, Try.results10, go_sem]) rfl ⟨_, rfl, HF.out, HB.out⟩
end Go.Proofs.Ytaaddckhldccjaa
