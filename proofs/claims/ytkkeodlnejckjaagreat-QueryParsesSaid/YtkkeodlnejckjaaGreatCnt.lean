/- How many words a text has. -/
import Derived.Test.YtkkeodlnejckjaaGreatCollQ
import Derived.Test.YtkkeodlnejckjaaGreatWoMath
import Derived.Test.YtkkeodlnejckjaaGreatIter
import Derived.Test.YtkkeodlnejckjaaGreatTab
import Derived.LoopIn
import Derived.TacticsIn
import Derived.RangeFuncCalls
import Derived.BigQuiet
namespace Go.Proofs.YtkkeodlnejckjaaGreat
open Go.RowKit Go.Shelf
set_option linter.unusedVariables false
set_option linter.unusedSimpArgs false

set_option maxRecDepth 100000 in
set_option maxHeartbeats 2000000 in
theorem runes_seq (n Bs : Nat) (hn : 1 ≤ n) (A : Option Addr) (m c : Nat) (l : List Nat) (b : Nat) (S : TypeId → Bool) (w : World) (hBs : w.cell? ⟨Bs, 0, none⟩ = some (.slice A m c)) (hl : RdB w A m l) (hc : m ≤ c) :
    SeqQ Fence.wide n Tryz.prog 125 #[.pointer (some ⟨Bs, 0, none⟩)] encM b S (marksL l) w := fun L J Jx W hW hJ hJx hY h0 => by
  have hcell := (hW.cell (p := ⟨Bs, 0, none⟩) (World.block_lt_of_cell? w _ hBs)).trans hBs
  have hL := hl.below hW
  have hbyt := hl.byt
  have hstr := run_str W A m c l hL hc
  clear hL hl hBs
  refine callsIn_of_wp Tryz.func125 rfl trivial ?_ rfl
  simp only [Tryz.ntmps125, List.size_toArray, List.length_cons, List.length_nil, Nat.reduceAdd, Nat.reduceSub, Array.replicate_succ, Array.replicate_zero, List.push_toArray, List.append_toArray, List.nil_append, List.cons_append]
  gi_wp2
  obtain ⟨R, hR⟩ : ∃ R, R = W.heap.size := ⟨_, rfl⟩
  obtain ⟨Z, hZ⟩ : ∃ Z, Z = strL l := ⟨_, rfl⟩
  have hZs : Z.size = l.length := by rw [hZ, strL_size]
  have hW0 : (W.iter Z 0).heap[R]? = some (.stringIter Z 0) := by rw [hR]; exact World.iter_heap W Z 0
  have hJ0 : J [] (W.iter Z 0) := hJ _ _ _ h0 (Step.alloc _ _)
  rw [← hR] at hJ hY
  rw [← hZ, ← hR]
  have hdec := fun pos => decode_strL l hbyt pos
  rw [← hZ] at hdec
  have HJ : Hid (Firm R S J) := hJ
  have HY := Lib.hid hY
  have HD := Lib.hid hdec
  have HZs := Lib.hid hZs
  clear hZ hR hJ hJx hW hY hdec hcell hstr hZs h0
  gi_loopw [3] (fun _ wr => ∃ (pre : List (Nat × Nat)) (pos : Nat), Hid (marksL l = pre ++ mkAt pos (l.drop pos)) ∧ wr.heap[R]? = some (.stringIter Z pos) ∧ Hid (J pre wr)) (fun _ wr => Z.size - wr.iterPos R)
  case atStart => exact ⟨[], 0, Lib.hid rfl, hW0, Lib.hid hJ0⟩
  case round =>
    obtain ⟨pre, pos, HM, hk, HJs⟩ := hrel
    have hlen := HZs.out
    by_cases hp : pos < Z.size
    · have hne : l.drop pos ≠ [] := by
        intro h
        have := congrArg List.length h
        simp at this
        omega
      have hnx := fun ty => Lib.run_next_any_at (P := Tryz.prog) wr R Z pos ty hk hp
      rw [HD.out pos] at hnx
      have hM2 := HM.out
      rw [mkAt_step pos _ hne, List.drop_drop] at hM2
      have hw := dec_w (l.drop pos)
      obtain ⟨d, hd⟩ : ∃ d, d = dec (l.drop pos) := ⟨_, rfl⟩
      rw [← hd] at hnx hM2 hw
      obtain ⟨r, v⟩ := d
      simp only at hnx hM2 hw
      have hk2 := Lib.iterAt_heap wr R Z pos (pos + v) hk
      have hJ2 : J pre (wr.iterAt R Z (pos + v)) := HJ.out _ _ _ HJs.out (Step.grown (grownBy_putObj' wr R _) fun j e => by
        cases e
        refine ⟨Nat.le_refl _, fun C t fr hc => ?_⟩
        rw [hk] at hc
        cases hc)
      obtain ⟨W2, hW2⟩ : ∃ W2, W2 = wr.iterAt R Z (pos + v) := ⟨_, rfl⟩
      rw [← hW2] at hnx hk2 hJ2
      obtain ⟨fn, tmps, assign, body, hy, hRd⟩ := HY.out pre (pos, r) W2 ⟨mkAt (pos + v) (l.drop (pos + v)), by rw [hM2]; simp⟩ hJ2
      dsimp only [encM] at hy
      have HM2 := Lib.hid hM2
      have hip : wr.iterPos R = pos := by simp [World.iterPos, hk]
      have HIP := Lib.hid hip
      have hn1 : 1 ≤ n - 1 + 1 := by omega
      clear hM2 hW2 hJ2 hd hne hip
      gi_wp2
      refine hRd.mono ?_
      rintro e W3 (⟨rfl, hJ3, hk3⟩ | ⟨rfl, hJx3, hk3⟩)
      · have hk4 := hk3.walk R _ (Nat.le_refl _) rfl hk2
        have HJ3 := Lib.hid hJ3
        have HK4 := Lib.hid hk4
        clear hk3 hJ3 hk4
        gi_wp2
        go_roundw
        case rel => exact ⟨pre ++ [(pos, r)], pos + v, Lib.hid (by rw [HM2.out]; simp), HK4.out, HJ3⟩
        case measure =>
          have e1 := HIP.out
          have hk4 := HK4.out
          have e2 : W3.iterPos R = pos + v := by simp [World.iterPos, hk4]
          rw [e2, e1]
          omega
      · have HJx3 := Lib.hid hJx3
        clear hJx3 hk3
        gi_wp2
        refine bodyPost_ret (results_none rfl _ _ _) rfl ?_
        exact ⟨⟨_, rfl⟩, .inr ⟨_, by rw [HM2.out]; exact ⟨mkAt (pos + v) (l.drop (pos + v)), by simp⟩, HJx3.out⟩⟩
    · have hnx := fun ty => Lib.run_next_end_at (P := Tryz.prog) wr R Z pos ty hk hp
      have hM : Hid (marksL l = pre) := Lib.hid <| by
        have := HM.out
        rw [List.drop_of_length_le (by omega), mkAt_nil, List.append_nil] at this
        exact this
      gi_wp2
      go_end0
      exact ⟨⟨_, rfl⟩, .inl (by rw [hM.out]; exact HJs.out)⟩
attribute [local go_sem] Oper.semAt_some
/-- How many words have begun; is one under way? -/
def cntG : List Nat → Nat × Bool → Nat × Bool
  | [], s => s
  | r :: rs, s => cntG rs (if letB (r : Nat) && !s.2 then s.1 + 1 else s.1, letB (r : Nat))
theorem cntG_append : ∀ (a b : List Nat) (s : Nat × Bool), cntG (a ++ b) s = cntG b (cntG a s)
  | [], b, s => rfl
  | r :: a, b, s => by simp only [List.cons_append, cntG]; exact cntG_append a b _
theorem cntG_le : ∀ (rs : List Nat) (s : Nat × Bool), (cntG rs s).1 ≤ s.1 + rs.length
  | [], s => Nat.le_refl _
  | r :: rs, s => by
    have := cntG_le rs (if letB (r : Nat) && !s.2 then s.1 + 1 else s.1, letB (r : Nat))
    simp only [cntG, List.length_cons]
    split at this <;> simp only at this ⊢ <;> split <;> simp_all <;> omega
theorem cntG_words : ∀ (rs cur : List Nat) (k : Nat), (cntG rs (k, !(cur.isEmpty))).1 + (if cur = [] then 0 else 1) = k + (wdG rs cur).length
  | [], cur, k => by
    unfold wdG cntG
    split <;> simp
  | r :: rs, cur, k => by
    unfold wdG cntG
    by_cases hl : letB (r : Nat) = true
    · rw [if_pos hl]
      have h1 := cntG_words rs (cur ++ [r]) (if cur = [] then k + 1 else k)
      have h2 : (cur ++ [r]).isEmpty = false := by simp
      rw [h2] at h1
      simp only [hl]
      cases cur with
      | nil => simp at h1 ⊢; omega
      | cons x y => simp at h1 ⊢; omega
    · have hl' : letB (r : Nat) = false := by simpa using hl
      rw [if_neg hl]
      have h1 := cntG_words rs [] k
      simp only [hl']
      cases cur with
      | nil => simpa using h1
      | cons x y => simp at h1 ⊢; omega
theorem count_words (l : List Nat) : (cntG (rnsL l) (0, false)).1 = (wordsL l).length := by
  have := cntG_words (rnsL l) [] 0
  simpa [wordsL] using this
def S34 (t : TypeId) : Bool := t == 3 || t == 4
def CnI (w : World) (pre : List (Nat × Nat)) (W : World) : Prop :=
  Below w.heap.size w W ∧ Boxed W w.heap.size 3 (.int .i64 ((cntG (pre.map (·.2)) (0, false)).1 : Nat)) ∧ Boxed W (w.heap.size + 1) 4 (.bool (cntG (pre.map (·.2)) (0, false)).2)
theorem cnI_firm (w : World) (D : Nat) (hD : w.heap.size ≤ D) : Firm D S34 (CnI w) := by
  rintro s A B ⟨hb, h1, h2⟩ hst
  exact ⟨hb.trans ((hst.mono hD).belowB hb.size), Boxed.step h1 hst rfl, Boxed.step h2 hst rfl⟩
abbrev CnFr (s g : Nat) (A : Option Addr) (n c : Nat) (x : Nat × Nat) : Act :=
  { tmps := #[.slice A n c, undef, .int .i64 0, .pointer (some ⟨s, 0, none⟩), .pointer (some ⟨s + 1, 0, none⟩), undef, .int .i32 (x.2 : Int), undef, .slice A n c, .func (.func 125) #[] #[.pointer (some ⟨g, 0, none⟩)], .int .i64 (x.1 : Nat), .int .i32 (x.2 : Int), undef, undef, undef, undef, undef, undef, undef, undef, undef, undef, undef], defers := [] }
theorem Boxed.setv {W : World} {B : Nat} {t : TypeId} {v : Value} (v' : Value) (h : Boxed W B t v) : Boxed (W.setCell ⟨B, 0, none⟩ v') B t v' := Boxed.set v' h
theorem setKeep {W : World} {B b D : Nat} {t : TypeId} {v : Value} {S : TypeId → Bool} (h : Boxed W B t v) (hS : S t = true) (hb : b ≤ B) (u : Value) : Keep b D S W (W.setCell ⟨B, 0, none⟩ u) :=
  Keep.grown (grownBy_setCell' W B u) fun k e => by cases e; exact ⟨hb, _, _, _, h, hS⟩
set_option maxRecDepth 100000 in
set_option maxHeartbeats 4000000 in
theorem Count_any (A : Option Addr) (n c : Nat) (l : List Nat) (w : World) (hl : RdB w A n l) (hc : n ≤ c) :
    Calls Tryz.prog 110 #[.slice A n c] w fun e w' => e = .returned (.int .i64 ((wordsL l).length : Nat)) ∧ Below w.heap.size w w' := by
  have HL := Lib.hid hl
  have hmx := hl.max
  have hln := hl.len
  have HLN := Lib.hid (show l.length ≤ 9223372036854775807 by omega)
  refine (callsIn_wide (n := 10)).1 ?_
  have b1 := Boxed.new w 3 (.int .i64 0)
  have b2 := Boxed.new (w.alloc (.cells #[.int .i64 0] 3)) 4 (.bool false)
  simp only [World.size_alloc] at b2
  have b1' := b1.alloc (.cells #[.bool false] 4)
  have hb2 : Below w.heap.size w ((w.alloc (.cells #[.int .i64 0] 3)).alloc (.cells #[.bool false] 4)) := ((Below.refl _ _).alloc (Nat.le_refl _) _).alloc (by simp) _
  obtain ⟨W1, hW1⟩ : ∃ W1, W1 = (w.alloc (.cells #[.int .i64 0] 3)).alloc (.cells #[.bool false] 4) := ⟨_, rfl⟩
  have hs1 : W1.heap.size = w.heap.size + 2 := by rw [hW1]; simp
  rw [← hW1] at b1' b2 hb2
  have C := Lib.hid (Runes_any A n c W1)
  have hcl := Boxed.new W1 26 (.slice A n c)
  have hb3 : Below W1.heap.size W1 (W1.alloc (.cells #[.slice A n c] 26)) := (Below.refl _ _).alloc (Nat.le_refl _) _
  obtain ⟨W2, hW2⟩ : ∃ W2, W2 = W1.alloc (.cells #[.slice A n c] 26) := ⟨_, rfl⟩
  have hs2 : W2.heap.size = w.heap.size + 3 := by rw [hW2]; simp; omega
  rw [← hW2] at C hb3 hcl
  have HB2 := Lib.hid (hb2.trans (hb3.mono hb2.size))
  have HSQ := Lib.hid (runes_seq 9 W1.heap.size (by omega) A n c l w.heap.size S34 W2 hcl.cell (hl.below HB2.out) hc)
  have HI2 : Hid (CnI w [] W2) := Lib.hid ⟨HB2.out, (hb3.block _ b1'.lt).trans b1', (hb3.block _ b2.lt).trans b2⟩
  rw [hs1] at HSQ C
  have HW1 := Lib.hid hW1
  have HSZ := Lib.hid hs2
  clear hW1 hW2 b1 b2 b1' hb2 hs1 hs2 hcl hb3 hl hmx hln
  refine callsIn_of_wp_marks Tryz.func110 rfl trivial ?_ rfl
  simp only [Tryz.ntmps110, List.size_toArray, List.length_cons, List.length_nil, Nat.reduceAdd, Nat.reduceSub, Array.replicate_succ, Array.replicate_zero, List.push_toArray, List.append_toArray, List.nil_append, List.cons_append]
  gi_wp2_with fail
  rw [← HW1.out]
  refine ⟨trivial, (callsIn_wide.2 C.out).mono ?_⟩
  rintro e W9 ⟨rfl, h9⟩
  obtain rfl := h9.symm
  clear C HW1
  gi_wp2_with fail
  refine wpIn_range_Q (n := 10) rfl (by omega) (gf := 125) (lb := #[.pointer (some ⟨w.heap.size + 2, 0, none⟩)]) rfl trivial (enters_of Tryz.func125 (by kernel_rfl) rfl) HSQ.out HB2.out.size (Below.refl _ _) (fun _ => rfl)
    (CnI w) (fun _ _ _ => False) (cnI_firm w _ (by have := HSZ.out; omega)) (fun c s X Y h _ => h) HI2.out
    (fun pre x a' W' => a' = CnFr w.heap.size (w.heap.size + 2) A n c x) (fun pre x a' s X Y h _ => h) ?assign ?body ?done ?stop
  case assign =>
    intro L' pre x W' K hpx hI hK
    have HI := Lib.hid hI
    have HK := Lib.hid hK
    clear hI hK
    gi_wp2
    exact HK.out _ _ (Keep.refl _ _ _ _) HI.out rfl
  case body =>
    rintro L' pre ⟨p, r⟩ a' W' hpx ⟨hb, h1, h2⟩ rfl
    have hpl : (cntG (pre.map (·.2)) (0, false)).1 + 1 ≤ 9223372036854775807 := by
      have h3 := cntG_le (pre.map (·.2)) (0, false)
      have h4 := hpx.length_le
      have h5 := marksL_len l
      have := HLN.out
      simp at h3 h4
      omega
    have hst : cntG ((pre ++ [(p, r)]).map (·.2)) (0, false) = (if letB (r : Nat) && !(cntG (pre.map (·.2)) (0, false)).2 then (cntG (pre.map (·.2)) (0, false)).1 + 1 else (cntG (pre.map (·.2)) (0, false)).1, letB (r : Nat)) := by
      rw [List.map_append, cntG_append]
      rfl
    obtain ⟨k, hk⟩ : ∃ k, k = (cntG (pre.map (·.2)) (0, false)).1 := ⟨_, rfl⟩
    obtain ⟨i, hi⟩ : ∃ i, i = (cntG (pre.map (·.2)) (0, false)).2 := ⟨_, rfl⟩
    rw [← hk, ← hi] at hst
    rw [← hk] at hpl h1
    rw [← hi] at h2
    have HST := Lib.hid hst
    have HB := Lib.hid hb
    have H1 := Lib.hid h1
    have H2 := Lib.hid h2
    have c1 := h1.cell
    have c2 := h2.cell
    have f1 := h1.frozen
    have f2 := h2.frozen
    clear hst hb h1 h2 hk hi hpx
    by_cases hlt : letB (r : Int) = true
    · cases i
      · have h3 := (H2.out.other (show w.heap.size + 1 ≠ w.heap.size by omega) (.int .i64 ((k : Int) + 1)))
        have c3 := h3.cell
        have f3 := h3.frozen
        have HFin : Hid (∀ a, postQ W2.heap.size w.heap.size S34 (CnI w) (fun _ _ _ => False) (pre ++ [(p, r)]) W' .normal a ((W'.setCell ⟨w.heap.size, 0, none⟩ (.int .i64 ((k : Int) + 1))).setCell ⟨w.heap.size + 1, 0, none⟩ (.bool true))) := Lib.hid fun a => by
          refine ⟨(setKeep H1.out rfl (Nat.le_refl _) _).trans (setKeep h3 rfl (by omega) _), (HB.out.setCell (p := ⟨w.heap.size, 0, none⟩) (Nat.le_refl _) _).setCell (p := ⟨w.heap.size + 1, 0, none⟩) (by simp) _, ?_, ?_⟩
          · rw [HST.out, hlt]
            have := (H1.out.set (.int .i64 ((k : Int) + 1))).other (show w.heap.size ≠ w.heap.size + 1 by omega) (.bool true)
            simpa using this
          · rw [HST.out, hlt]
            exact h3.set _
        have HLT := Lib.hid hlt
        clear h3 hlt
        gi_wp2_with fail
        refine ⟨trivial, CallsIn.inRound L' ((callsIn_wide.2 (Letter_any (r : Int) W')).mono ?_)⟩
        rintro e W3 ⟨rfl, rfl⟩
        rw [HLT.out]
        gi_wp2
        exact HFin.out _
      · have HFin : Hid (∀ a, postQ W2.heap.size w.heap.size S34 (CnI w) (fun _ _ _ => False) (pre ++ [(p, r)]) W' .normal a (W'.setCell ⟨w.heap.size + 1, 0, none⟩ (.bool true))) := Lib.hid fun a => by
          refine ⟨setKeep H2.out rfl (by omega) _, HB.out.setCell (p := ⟨w.heap.size + 1, 0, none⟩) (by simp) _, ?_, ?_⟩
          · rw [HST.out, hlt]
            have := H1.out.other (show w.heap.size ≠ w.heap.size + 1 by omega) (.bool true)
            simpa using this
          · rw [HST.out, hlt]
            exact H2.out.set _
        have HLT := Lib.hid hlt
        clear hlt
        gi_wp2_with fail
        refine ⟨trivial, CallsIn.inRound L' ((callsIn_wide.2 (Letter_any (r : Int) W')).mono ?_)⟩
        rintro e W3 ⟨rfl, rfl⟩
        rw [HLT.out]
        gi_wp2
        exact HFin.out _
    · have hlt : letB (r : Int) = false := by simpa using hlt
      have HFin : Hid (∀ a, postQ W2.heap.size w.heap.size S34 (CnI w) (fun _ _ _ => False) (pre ++ [(p, r)]) W' .normal a (W'.setCell ⟨w.heap.size + 1, 0, none⟩ (.bool false))) := Lib.hid fun a => by
        refine ⟨setKeep H2.out rfl (by omega) _, HB.out.setCell (p := ⟨w.heap.size + 1, 0, none⟩) (by simp) _, ?_, ?_⟩
        · rw [HST.out, hlt]
          have := H1.out.other (show w.heap.size ≠ w.heap.size + 1 by omega) (.bool false)
          simpa using this
        · rw [HST.out, hlt]
          exact H2.out.set _
      have HLT := Lib.hid hlt
      clear hlt
      gi_wp2_with fail
      refine ⟨trivial, CallsIn.inRound L' ((callsIn_wide.2 (Letter_any (r : Int) W')).mono ?_)⟩
      rintro e W3 ⟨rfl, rfl⟩
      rw [HLT.out]
      gi_wp2
      exact HFin.out _
  case done =>
    rintro D W' hD ⟨hb, h1, h2⟩ hK
    have HK := Lib.hid hK
    have c1 := h1.cell
    rw [show (marksL l).map (·.2) = rnsL l from rfl, count_words] at c1
    have HBe : Hid (Below w.heap.size w (W'.putObj D (.deferred none))) := Lib.hid (hb.grown (grownBy_putObj' W' D _) hb.size (fun k hk => by cases hk; have := HSZ.out; omega))
    clear hb h1 h2 hK
    gi_wp2
    refine ⟨by simp, .inl ⟨_, _, rfl, run_takeDeferred HK.out, ?_⟩⟩
    exact ⟨.int .i64 ((wordsL l).length : Nat), by simp [results, Tryz.results110, go_sem], rfl, HBe.out⟩
  case stop =>
    rintro D cc pre W' hD hpx hI hK
    exact hI.elim
end Go.Proofs.YtkkeodlnejckjaaGreat
