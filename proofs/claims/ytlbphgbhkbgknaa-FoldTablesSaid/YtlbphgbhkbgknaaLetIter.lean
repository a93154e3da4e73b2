/- What a table folds, gone through. -/
import Derived.Test.YtlbphgbhkbgknaaTabEq
import Derived.Scope
import Derived.WalkMore
namespace Go.Proofs.Ytlbphgbhkbgknaa
open Go.RowKit Go.Shelf
set_option linter.unusedVariables false
set_option linter.unusedSimpArgs false
attribute [local go_sem] Oper.semAt_some

theorem wpIn_scope_wide {n : Nat} {P : Program} {c : Code} {Q : Exit → Act → World → Prop} {a : Act} {w : World} (h : c.wpIn Fence.wide n P (Exit.noGoto Q) a w) : (Code.scope c).wpIn Fence.wide n P Q a w :=
  wpIn_wide.2 (wp_scope_straight (wpIn_wide.1 h))
/-- Blocks of cells of one type lie as they lay. -/
def KeepTy (t : TypeId) (W W' : World) : Prop := ∀ (k : Nat) (C : Array Value) (fr : Nat × Nat), W.heap[k]? = some (.cells C t fr) → W'.heap[k]? = some (.cells C t fr)
theorem KeepTy.trans {t : TypeId} {A B C : World} (h : KeepTy t A B) (k : KeepTy t B C) : KeepTy t A C := fun i c f hi => k i c f (h i c f hi)
theorem KeepTy.grown {t e : TypeId} {w w' : World} {row : Option Nat} (hg : w.grownBy w' row) (hr : ∀ k, row = some k → ∃ C fr, w.heap[k]? = some (.cells C e fr)) (hne : t ≠ e) : KeepTy t w w' := fun i C fr hi => by
  have hlt := (Array.getElem?_eq_some_iff.1 hi).1
  refine (hg.block i hlt ?_).trans hi
  intro e1
  obtain ⟨C', fr', h'⟩ := hr i e1.symm
  rw [hi] at h'
  simp at h'
  exact hne h'.2.1
theorem KeepTy.put {t : TypeId} {W : World} {l : Nat} {o o' : Obj} (h : W.heap[l]? = some o) (ho : o.isCells = false) : KeepTy t W (W.putObj l o') := fun i C fr hi => by
  refine ((grownBy_putObj' W l o').block i (Array.getElem?_eq_some_iff.1 hi).1 ?_).trans hi
  intro e
  cases e
  rw [hi] at h
  cases h
  cases ho
theorem KeepTy.below {t : TypeId} {W W' : World} (h : Below W.heap.size W W') : KeepTy t W W' := fun i C fr hi => (h.block i (Array.getElem?_eq_some_iff.1 hi).1).trans hi
theorem KeepTy.row {t e : TypeId} {w : World} {b s k : Nat} {v : Value} {xs : List Value} (h : w.ownsRow b e s v k xs) : ∀ j, v.ownBlock = some j → ∃ C fr, w.heap[j]? = some (.cells C e fr) := by
  intro j hj
  rcases h.2 with ⟨rfl, _⟩ | ⟨g, cap, cur, rfl, _, hg, _⟩
  · simp [Value.ownBlock] at hj
  · obtain rfl : g = j := by simpa [Value.ownBlock] using hj
    exact ⟨_, _, hg⟩

abbrev encP : Int × Int → Array Value := fun x => #[.int .i32 x.1, .int .i32 x.2]
def rngL (x : Fo) : List (Int × Int) := (List.range x.2.2.toNat).map fun k : Nat => (x.1 + (k : Int), x.2.1 + (k : Int))
def prsL (l : List Fo) : List (Int × Int) := l.flatMap rngL
noncomputable def letL (tb : List Fo) : List (Int × Int) := prsL (eff tb)
theorem prs_at (l : List Fo) (i : Nat) (h : i < l.length) : prsL l = prsL (l.take i) ++ rngL l[i] ++ prsL (l.drop (i + 1)) := by
  unfold prsL
  have e : l = l.take i ++ l[i] :: l.drop (i + 1) := by rw [← List.drop_eq_getElem_cons h, List.take_append_drop]
  conv => lhs; rw [e]
  rw [List.flatMap_append, List.flatMap_cons, List.append_assoc]
theorem rng_at (x : Fo) (k : Nat) (h : (k : Int) < x.2.2) : (rngL x).take (k + 1) = (rngL x).take k ++ [(x.1 + (k : Int), x.2.1 + (k : Int))] := by
  have hl : k < (rngL x).length := by simp [rngL]; omega
  rw [List.take_succ_eq_append_getElem hl]
  simp [rngL]
theorem rng_len (x : Fo) : (rngL x).length = x.2.2.toNat := by simp [rngL]
theorem pre_at (l : List Fo) (i k : Nat) (h : i < l.length) (hk : k ≤ (rngL l[i]).length) : prsL (l.take i) ++ (rngL l[i]).take k <+: prsL l := by
  rw [prs_at l i h]
  refine ⟨(rngL l[i]).drop k ++ prsL (l.drop (i + 1)), ?_⟩
  rw [List.append_assoc, List.append_assoc, ← List.append_assoc ((rngL l[i]).take k), List.take_append_drop]
theorem pre_lt (l : List Fo) (i k : Nat) (h : i < l.length) (hk : k < (rngL l[i]).length) : (prsL (l.take i) ++ (rngL l[i]).take k).length < (prsL l).length := by
  rw [prs_at l i h]
  simp only [List.length_append, List.length_take]
  omega
/-- What a round keeps. -/
def KpL (w0 : World) (W W' : World) : Prop := Below w0.heap.size W W' ∧ KeepTy 45 W W'

set_option maxRecDepth 100000 in
set_option maxHeartbeats 2000000 in
theorem letters_stops (n Bs : Nat) (hn : 1 ≤ n) (A : Option Addr) (m c : Nat) (tb : List Fo) (w0 w : World) (hBs : w0.cell? ⟨Bs, 0, none⟩ = some (.slice A m c)) (ht : RdT w0 A m tb) (hb0 : Below w0.heap.size w0 w) :
    SeqStopsK Fence.wide n Try.prog 39 #[.pointer (some ⟨Bs, 0, none⟩)] encP (KpL w0) (fun ys => ys = letL tb) (fun pre => pre <+: letL tb) (letL tb).length w := fun L J Jx W hW hJ hJx hY h0 => by
  have HB := Lib.hid (hb0.trans (hW.mono hb0.size))
  have HT := Lib.hid ht
  have HJ : Hid (AbidesFrom W.heap.size J) := hJ
  have HY := Lib.hid hY
  have HC0 := Lib.hid hBs
  have hcell := cell_keep HB.out hBs
  have C := Lib.hid (Check_any A m c tb W (ht.below HB.out))
  have HJ0 := Lib.hid h0
  clear ht hb0 hW hJ hJx hY hBs h0
  by_cases hok : okTb tb
  · rw [chk_yes hok] at C
    have HE : Hid (letL tb = prsL tb) := Lib.hid (by unfold letL; rw [eff_yes hok])
    have HG : Hid (∀ (i : Nat) (h : i < tb.length), gd tb[i]) := Lib.hid fun i h => (hok.2.1 i h).1
    have h8 := hok.1
    clear hok
    refine callsIn_of_wp Try.func39 rfl trivial ?_ rfl
    simp only [Try.ntmps39, List.size_toArray, List.length_cons, List.length_nil, Nat.reduceAdd, Nat.reduceSub, Array.replicate_succ, Array.replicate_zero, List.push_toArray, List.append_toArray, List.nil_append, List.cons_append]
    gi_wp2_with fail
    refine wpIn_scope_wide ?_
    gi_wp2_with fail
    refine ⟨trivial, (callsIn_wide.2 C.out).mono ?_⟩
    rintro e W1 ⟨rfl, hb⟩
    have hJ1 : J [] W1 := HJ.out [] W W1 none HJ0.out (grown_below hb none) (fun r e => by cases e)
    have HB1 := Lib.hid (HB.out.trans (hb.mono HB.out.size))
    have HSz := Lib.hid hb.size
    have hcell := cell_keep HB1.out HC0.out
    have HJ1 := Lib.hid hJ1
    clear C hb hJ1 HJ0
    gi_wp2_with fail
    refine wpIn_label ?_
    gi_wp2_with fail
    have hml := HT.out.len
    have HML := Lib.hid hml
    have hm8 : m ≤ 8 := by omega
    clear hml h8 hcell
    gi_loopw [11] (fun x wr => ∃ i : Nat, i ≤ m ∧ x = .int .i64 i ∧ Hid (J (prsL (tb.take i)) wr ∧ Below w0.heap.size w0 wr ∧ W.heap.size ≤ wr.heap.size)) (fun x _ => m - (intOf x).toNat)
    case atStart => exact ⟨0, by omega, rfl, Lib.hid ⟨HJ1.out, HB1.out, HSz.out⟩⟩
    case round =>
      obtain ⟨i, hi, rfl, HI⟩ := hrel
      by_cases hlt : (i : Int) < (m : Int)
      · obtain ⟨ad, rfl, p, q, N, HP, e0, e1, e2⟩ := (HT.out.below HI.out.2.1).at (k := i) (by omega)
        have HGp : Hid (gd (p, q, N)) := Lib.hid (by obtain ⟨ha, hb⟩ := HP.out; rw [← hb]; exact HG.out i ha)
        obtain ⟨r1, r2, r3, r4⟩ := gd_rng HGp.out
        have r5 := HGp.out.1
        have r6 := HGp.out.2.1
        simp only at r1 r2 r3 r4 r5 r6
        have HJb := Lib.hid (HJ.out _ wr (wr.alloc (.cells #[.int .i32 p, .int .i32 q, .int .i64 N] 45)) none HI.out.1 (World.grownBy_alloc wr _ none) (fun r e => by cases e))
        have HBb := Lib.hid (HI.out.2.1.alloc HI.out.2.1.size (.cells #[.int .i32 p, .int .i32 q, .int .i64 N] 45))
        have HH := Lib.hid (World.alloc_heap_new wr (.cells #[.int .i32 p, .int .i32 q, .int .i64 N] 45))
        have HSb : Hid (W.heap.size ≤ (wr.alloc (.cells #[.int .i32 p, .int .i32 q, .int .i64 N] 45)).heap.size) := Lib.hid (by have := HI.out.2.2; simp; omega)
        gi_wp2_with fail
        obtain ⟨g, hg⟩ : ∃ g, g = wr.heap.size := ⟨_, rfl⟩
        have HGs := Lib.hid hg
        obtain ⟨wB, hwB⟩ : ∃ wB, wB = wr.alloc (.cells #[.int .i32 p, .int .i32 q, .int .i64 N] 45) := ⟨_, rfl⟩
        rw [← hwB] at HJb HBb HH HSb ⊢
        rw [← hg] at HH ⊢
        clear hwB hg e0 e1 e2
        gi_loopw [18] (fun x wy => ∃ k : Nat, (k : Int) ≤ N ∧ x = .int .i32 k ∧ wy.heap[g]? = some (.cells #[.int .i32 p, .int .i32 q, .int .i64 N] 45 (0, 0)) ∧ Hid (J (prsL (tb.take i) ++ (rngL (p, q, N)).take k) wy ∧ Below w0.heap.size w0 wy ∧ W.heap.size ≤ wy.heap.size)) (fun x _ => (N - intOf x).toNat)
        case atStart => exact ⟨0, by omega, rfl, HH.out, Lib.hid ⟨by simpa using HJb.out, HBb.out, HSb.out⟩⟩
        case round =>
          obtain ⟨k, hk, rfl, hcb, HK⟩ := hrel
          by_cases hkN : (k : Int) < N
          · have hpl : (prsL (tb.take i) ++ (rngL (p, q, N)).take k).length < (letL tb).length := by
              obtain ⟨ha, hb⟩ := HP.out
              rw [HE.out, ← hb]
              refine pre_lt tb i k ha ?_
              rw [rng_len, hb]
              simp only
              omega
            obtain ⟨fn, tmps, assign, body, hy, hRd⟩ := HY.out _ (p + (k : Int), q + (k : Int)) wr HK.out.1 hpl
            dsimp only [encP] at hy
            have c0 : wr.cell? ⟨g, 0, none⟩ = some (.int .i32 p) := by simp [World.cell?, hcb]
            have c1 : wr.cell? ⟨g, 1, none⟩ = some (.int .i32 q) := by simp [World.cell?, hcb]
            have HNx : Hid (prsL (tb.take i) ++ (rngL (p, q, N)).take k ++ [(p + (k : Int), q + (k : Int))] = prsL (tb.take i) ++ (rngL (p, q, N)).take (k + 1)) := Lib.hid (by rw [rng_at (p, q, N) k hkN, List.append_assoc])
            have HPf : Hid (prsL (tb.take i) ++ (rngL (p, q, N)).take (k + 1) <+: letL tb) := Lib.hid (by
              obtain ⟨ha, hb⟩ := HP.out
              rw [HE.out, ← hb]
              refine pre_at tb i (k + 1) ha ?_
              rw [rng_len, hb]
              simp only
              omega)
            have HCb := Lib.hid hcb
            clear hpl hcb
            gi_wp2
            refine hRd.mono ?_
            rintro e W3 (⟨rfl, hJ3, hk3⟩ | ⟨rfl, hJx3⟩)
            · have HR : Hid (W3.heap[g]? = some (.cells #[.int .i32 p, .int .i32 q, .int .i64 N] 45 (0, 0)) ∧ J (prsL (tb.take i) ++ (rngL (p, q, N)).take (k + 1)) W3 ∧ Below w0.heap.size w0 W3 ∧ W.heap.size ≤ W3.heap.size) :=
                Lib.hid ⟨hk3.2 g _ _ HCb.out, by rw [← HNx.out]; exact hJ3, HK.out.2.1.trans hk3.1, Nat.le_trans HK.out.2.2 hk3.1.size⟩
              clear hJ3 hk3 c0 c1
              gi_wp2
              go_roundw
              case rel => exact ⟨k + 1, by omega, by go_num, HR.out.1, Lib.hid HR.out.2⟩
              case measure => simp [intOf]; omega
            · have HX3 : Hid (Jx (prsL (tb.take i) ++ (rngL (p, q, N)).take (k + 1)) W3) := Lib.hid (by rw [← HNx.out]; exact hJx3)
              clear hJx3 c0 c1
              gi_wp2
              try simp only [Exit.noGoto_normal]
              go_end0
              exact ⟨⟨_, rfl⟩, .inr ⟨_, HPf.out, HX3.out⟩⟩
          · have HNx : Hid (J (prsL (tb.take (i + 1))) wr ∧ Below w0.heap.size w0 wr ∧ W.heap.size ≤ wr.heap.size) := Lib.hid ⟨by
              obtain ⟨ha, hb⟩ := HP.out
              have e1 : prsL (tb.take (i + 1)) = prsL (tb.take i) ++ rngL (p, q, N) := by
                rw [List.take_succ_eq_append_getElem ha, hb]
                simp [prsL]
              rw [e1]
              have h := HK.out.1
              rw [show (rngL (p, q, N)).take k = rngL (p, q, N) from List.take_of_length_le (by rw [rng_len]; simp only; omega)] at h
              exact h, HK.out.2⟩
            clear hcb
            gi_wp2
            go_roundw
            case rel => exact ⟨i + 1, by omega, by go_num, HNx⟩
            case measure => simp [intOf]; omega
      · have HD : Hid (J (letL tb) wr) := Lib.hid (by
          have h := HI.out.1
          rw [List.take_of_length_le (by rw [HML.out]; omega)] at h
          rw [HE.out]
          exact h)
        gi_wp2
        try simp only [Exit.noGoto_normal]
        go_end0
        exact ⟨⟨_, rfl⟩, .inl ⟨_, rfl, HD.out⟩⟩
  · rw [chk_no hok] at C
    have HE : Hid (letL tb = []) := Lib.hid (by unfold letL; rw [eff_no hok]; rfl)
    clear hok
    refine callsIn_of_wp Try.func39 rfl trivial ?_ rfl
    simp only [Try.ntmps39, List.size_toArray, List.length_cons, List.length_nil, Nat.reduceAdd, Nat.reduceSub, Array.replicate_succ, Array.replicate_zero, List.push_toArray, List.append_toArray, List.nil_append, List.cons_append]
    gi_wp2_with fail
    refine wpIn_scope_wide ?_
    gi_wp2_with fail
    refine ⟨trivial, (callsIn_wide.2 C.out).mono ?_⟩
    rintro e W1 ⟨rfl, hb⟩
    have hJ1 : J [] W1 := HJ.out [] W W1 none HJ0.out (grown_below hb none) (fun r e => by cases e)
    have HJ1 := Lib.hid hJ1
    clear C hb hJ1 HJ0
    gi_wp2
    try simp only [Exit.noGoto_ret]
    refine bodyPost_ret (results_none rfl _ _ _) rfl ?_
    exact ⟨⟨_, rfl⟩, .inl ⟨_, HE.out.symm, HJ1.out⟩⟩
end Go.Proofs.Ytlbphgbhkbgknaa
