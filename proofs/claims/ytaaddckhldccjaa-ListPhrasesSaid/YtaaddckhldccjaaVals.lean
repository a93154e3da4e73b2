/- Rows as one goes through them: all of one, what is in two. -/
import Derived.Test.YtaaddckhldccjaaUU
import Derived.Test.YtaaddckhldccjaaRangeS
import Derived.OwnWalkIn
import Derived.TacticsInMore
import Derived.LoopNIn
import Derived.WalkKit
import Derived.LoopIn
import Derived.TacticsIn
import Derived.RangeFuncCalls
namespace Go.Proofs.Ytaaddckhldccjaa
open Go.RowKit
set_option linter.unusedVariables false
set_option linter.unusedSimpArgs false

abbrev encK : Nat → Array Value := fun x => #[.int .u32 (x : Int)]
theorem wpIn_scope_wide {n : Nat} {P : Program} {c : Code} {Q : Exit → Act → World → Prop} {a : Act} {w : World} (h : c.wpIn Fence.wide n P (Exit.noGoto Q) a w) : (Code.scope c).wpIn Fence.wide n P Q a w :=
  wpIn_wide.2 (wp_scope_straight (wpIn_wide.1 h))
theorem take_pre {l : List Nat} {k : Nat} {x : Nat} (h : ∃ hl : k < l.length, l[k] = x) : l.take k ++ [x] = l.take (k + 1) := by
  obtain ⟨hl, rfl⟩ := h
  rw [List.take_succ_eq_append_getElem hl]
set_option maxRecDepth 100000 in
set_option maxHeartbeats 4000000 in
theorem values_seq (n Ba : Nat) (hn : 1 ≤ n) (A : Option Addr) (na c : Nat) (l : List Nat) (S : Nat → TypeId → Bool) (w0 w : World)
    (hBa : w0.heap[Ba]? = some (.cells #[.slice A na c] 38 (0, 0))) (hb0 : Below w0.heap.size w0 w) (hl : RdU w0 A na l) :
    SeqQ Fence.wide n Try.prog 67 #[.pointer (some ⟨Ba, 0, none⟩)] encK w0.heap.size S l w := fun L J Jx W hW hJ hJx hY h0 => by
  have HB := Lib.hid (hb0.trans (hW.mono hb0.size))
  have HR := Lib.hid hl
  have HJ : Hid (Firm W.heap.size S J) := hJ
  have HY := Lib.hid hY
  have HLn := Lib.hid hl.len
  have hmx := hl.max
  have hC := (HB.out.block Ba (Array.getElem?_eq_some_iff.1 hBa).1).trans hBa
  have HC := Lib.hid hBa
  have c0 : W.cell? ⟨Ba, 0, none⟩ = some (.slice A na c) := by simp [World.cell?, hC]
  have HJ0 : Hid (J (l.take 0) W) := Lib.hid h0
  clear hb0 hW hJ hJx hY hBa h0 hl hC
  refine callsIn_of_wp Try.func67 rfl trivial ?_ rfl
  simp only [Try.ntmps67, List.size_toArray, List.length_cons, List.length_nil, Nat.reduceAdd, Nat.reduceSub, Array.replicate_succ, Array.replicate_zero, List.push_toArray, List.append_toArray, List.nil_append, List.cons_append]
  gi_wp2_with fail
  clear c0
  gi_loopw [4, 7] (fun z x wr => ∃ k : Nat, x = .int .i64 (k : Nat) ∧ k ≤ na ∧ Hid (J (l.take k) wr) ∧ Hid (Below w0.heap.size w0 wr)) (fun _ x _ => na - (intOf x).toNat)
  case atStart => exact ⟨0, rfl, Nat.zero_le _, HJ0, HB⟩
  case round =>
    obtain ⟨k, rfl, hk, HJs, HBs⟩ := hrel
    by_cases hlt : (k : Int) < (na : Int)
    · obtain ⟨ad, x, rfl, HX, hx, x0⟩ := (HR.out.below HBs.out).at (k := k) (by omega)
      obtain ⟨fn, tmps, assign, body, hy, hRd⟩ := HY.out (l.take k) x wr (by rw [take_pre HX.out]; exact List.take_prefix _ _) HJs.out
      dsimp only [encK] at hy
      gi_wp2_with fail
      refine hRd.mono ?_
      rintro e W5 (⟨rfl, hJ5, hk5⟩ | ⟨rfl, hJx5, _⟩)
      · have HN := Lib.hid hJ5
        have HBN : Hid (Below w0.heap.size w0 W5) := Lib.hid (HBs.out.trans (hk5.belowb HBs.out.size))
        clear hJ5 hk5 x0
        gi_wp2
        go_roundw
        case rel => exact ⟨k + 1, by simp; try go_num, by omega, Lib.hid (by rw [← take_pre HX.out]; exact HN.out), HBN⟩
        case measure => simp [intOf]; omega
      · have HX5 := Lib.hid hJx5
        clear hJx5 x0
        gi_wp2
        refine bodyPost_ret (results_none rfl _ _ _) rfl ?_
        exact ⟨⟨_, rfl⟩, .inr ⟨_, by rw [take_pre HX.out]; exact List.take_prefix _ _, HX5.out⟩⟩
    · have HE : Hid (l.take k = l) := Lib.hid (List.take_of_length_le (by have := HLn.out; omega))
      gi_wp2
      exact ⟨rfl, _, results_none rfl _ _ _, ⟨_, rfl⟩, .inl (by have := HJs.out; rwa [HE.out] at this)⟩

/-- What is in both. -/
def bothL (a b : List Nat) : List Nat := a.filter fun x => decide (x ∈ b)
theorem up_get {l : List Nat} (h : Up l) {i j : Nat} (hij : i < j) (hj : j < l.length) : l[i] < l[j] := List.pairwise_iff_getElem.1 h i j (by omega) hj hij
theorem both_no {a b : List Nat} {k : Nat} {x : Nat} (h : ∃ hl : k < a.length, a[k] = x) (hx : x ∉ b) : bothL (a.take (k + 1)) b = bothL (a.take k) b := by
  obtain ⟨hl, rfl⟩ := h
  rw [List.take_succ_eq_append_getElem hl]
  unfold bothL
  rw [List.filter_append]
  simp [hx]
theorem both_yes {a b : List Nat} {k : Nat} {x : Nat} (h : ∃ hl : k < a.length, a[k] = x) (hx : x ∈ b) : bothL (a.take (k + 1)) b = bothL (a.take k) b ++ [x] := by
  obtain ⟨hl, rfl⟩ := h
  rw [List.take_succ_eq_append_getElem hl]
  unfold bothL
  rw [List.filter_append]
  simp [hx]
theorem both_pre (a b : List Nat) (k : Nat) : bothL (a.take k) b <+: bothL a b := (List.take_prefix k a).filter _
theorem both_end {a b : List Nat} {k : Nat} {x : Nat} (ha : Up a) (h : ∃ hl : k < a.length, a[k] = x) (hx : ∀ y ∈ b, y < x) : bothL (a.take k) b = bothL a b := by
  obtain ⟨hl, rfl⟩ := h
  have e : a = a.take k ++ a.drop k := (List.take_append_drop k a).symm
  conv => rhs; rw [e]
  unfold bothL
  rw [List.filter_append]
  have : (a.drop k).filter (fun x => decide (x ∈ b)) = [] := by
    rw [List.filter_eq_nil_iff]
    intro y hy
    obtain ⟨i, hi, rfl⟩ := List.getElem_of_mem hy
    rw [List.getElem_drop]
    simp only [decide_eq_true_eq]
    intro hb
    have h1 := hx _ hb
    rcases Nat.eq_zero_or_pos i with h0 | h0
    · subst h0; simp at h1
    · have := up_get ha (i := k) (j := k + i) (by omega) (by simp at hi; omega)
      omega
  rw [this, List.append_nil]
/-- All ahead of a place are less. -/
def AllLt (b : List Nat) (k x : Nat) : Prop := ∀ j (h : j < b.length), j < k → b[j] < x
theorem allLt_mem {b : List Nat} {x : Nat} (h : AllLt b b.length x) : ∀ y ∈ b, y < x := fun y hy => by
  obtain ⟨i, hi, rfl⟩ := List.getElem_of_mem hy
  exact h i hi hi
theorem allLt_not {b : List Nat} (hb : Up b) {k x y : Nat} (h : AllLt b k x) (hy : ∃ hl : k < b.length, b[k] = y) (hxy : x < y) : x ∉ b := fun hm => by
  obtain ⟨hl, rfl⟩ := hy
  obtain ⟨i, hi, rfl⟩ := List.getElem_of_mem hm
  rcases Nat.lt_trichotomy i k with h1 | h1 | h1
  · have := h i hi h1; omega
  · subst h1; omega
  · have := up_get hb h1 hi; omega
set_option maxRecDepth 100000 in
set_option maxHeartbeats 8000000 in
theorem both_seq (n Ba Bb : Nat) (hn : 1 ≤ n) (A : Option Addr) (na c : Nat) (la : List Nat) (B : Option Addr) (nb d : Nat) (lb : List Nat) (S : Nat → TypeId → Bool) (w0 w : World)
    (hBa : w0.heap[Ba]? = some (.cells #[.slice A na c] 38 (0, 0))) (hBb : w0.heap[Bb]? = some (.cells #[.slice B nb d] 38 (0, 0))) (hb0 : Below w0.heap.size w0 w) (hl : RdU w0 A na la) (hm : RdU w0 B nb lb) (ua : Up la) (ub : Up lb) :
    SeqQ Fence.wide n Try.prog 68 #[.pointer (some ⟨Ba, 0, none⟩), .pointer (some ⟨Bb, 0, none⟩)] encK w0.heap.size S (bothL la lb) w := fun L J Jx W hW hJ hJx hY h0 => by
  have HB := Lib.hid (hb0.trans (hW.mono hb0.size))
  have HR := Lib.hid hl
  have HM := Lib.hid hm
  have HUA := Lib.hid ua
  have HUB := Lib.hid ub
  have HJ : Hid (Firm W.heap.size S J) := hJ
  have HY := Lib.hid hY
  have HLn := Lib.hid (And.intro hl.len hm.len)
  have hmx := hl.max
  have hmy := hm.max
  have hC := (HB.out.block Ba (Array.getElem?_eq_some_iff.1 hBa).1).trans hBa
  have HC := Lib.hid hBb
  have c0 : W.cell? ⟨Ba, 0, none⟩ = some (.slice A na c) := by simp [World.cell?, hC]
  have HJ0 : Hid (J (bothL (la.take 0) lb) W) := Lib.hid h0
  clear hb0 hW hJ hJx hY hBa hBb h0 hl hm ua ub hC
  refine callsIn_of_wp Try.func68 rfl trivial ?_ rfl
  simp only [Try.ntmps68, List.size_toArray, List.length_cons, List.length_nil, Nat.reduceAdd, Nat.reduceSub, Array.replicate_succ, Array.replicate_zero, List.push_toArray, List.append_toArray, List.nil_append, List.cons_append]
  gi_wp2_with fail
  refine wpIn_scope_wide ?_
  gi_wp2_with fail
  refine wpIn_label ?_
  gi_wp2_with fail
  clear c0
  gi_loopw [4, 6, 9] (fun y z x wr => ∃ i k : Nat, x = .int .i64 (i : Nat) ∧ i ≤ na ∧ y = .int .i64 (k : Nat) ∧ k ≤ nb ∧ Hid (∀ j (h : j < la.length), i ≤ j → AllLt lb k la[j]) ∧ Hid (J (bothL (la.take i) lb) wr) ∧ Hid (Below w0.heap.size w0 wr)) (fun _ _ x _ => na - (intOf x).toNat)
  case atStart => exact ⟨0, 0, rfl, Nat.zero_le _, rfl, Nat.zero_le _, Lib.hid (fun j h _ j' h' hj => absurd hj (Nat.not_lt_zero _)), HJ0, HB⟩
  case round =>
    obtain ⟨i, k, rfl, hi, rfl, hk, HAL, HJs, HBs⟩ := hrel
    have c1 : wr.cell? ⟨Bb, 0, none⟩ = some (.slice B nb d) := by
      have hC := (HBs.out.block Bb (Array.getElem?_eq_some_iff.1 HC.out).1).trans HC.out
      simp [World.cell?, hC]
    by_cases hlt : (i : Int) < (na : Int)
    · obtain ⟨ad, x, rfl, HX, hx, x0⟩ := (HR.out.below HBs.out).at (k := i) (by omega)
      have HA0 : Hid (AllLt lb k x) := Lib.hid (by
        obtain ⟨hl, rfl⟩ := HX.out
        exact HAL.out i hl (Nat.le_refl _))
      gi_wp2_with fail
      gi_loopw [4] (fun y wq => ∃ k' : Nat, y = .int .i64 (k' : Nat) ∧ k ≤ k' ∧ k' ≤ nb ∧ Hid (AllLt lb k' x) ∧ wr = wq) (fun y _ => nb - (intOf y).toNat)
      case atStart => exact ⟨k, rfl, Nat.le_refl _, hk, HA0, rfl⟩
      case round =>
        obtain ⟨k', rfl, hkk, hk', HA, rfl⟩ := hrel
        by_cases hkl : (k' : Int) < (nb : Int)
        · obtain ⟨ae, y, rfl, HY2, hy2, y0⟩ := (HM.out.below HBs.out).at (k := k') (by omega)
          by_cases hyx : (y : Int) < (x : Int)
          · have HN : Hid (AllLt lb (k' + 1) x) := Lib.hid (fun j h hj => by
              rcases Nat.lt_succ_iff_lt_or_eq.1 hj with h1 | rfl
              · exact HA.out j h h1
              · obtain ⟨_, e⟩ := HY2.out
                omega)
            gi_wp2
            go_roundw
            case rel => exact ⟨k' + 1, by simp; try go_num, by omega, by omega, HN, (by trivial)⟩
            case measure => simp [intOf]; omega
          · have HAL2 : Hid (∀ j (h : j < la.length), i + 1 ≤ j → AllLt lb k' la[j]) := Lib.hid (fun j h hj j' h' hj' => by
              have h1 := HA.out j' h' hj'
              obtain ⟨hl, e⟩ := HX.out
              have h2 := up_get HUA.out (i := i) (j := j) (by omega) h
              omega)
            have hke : ((k' : Int) == (nb : Int)) = false := by simp; omega
            by_cases hgt : (y : Int) > (x : Int)
            · have HN : Hid (J (bothL (la.take (i + 1)) lb) wr) := Lib.hid (by rw [both_no HX.out (allLt_not HUB.out HA.out HY2.out (by omega))]; exact HJs.out)
              gi_wp2
              go_roundw
              case rel => exact ⟨i + 1, k', by simp; try go_num, by omega, rfl, hk', HAL2, HN, HBs⟩
              case measure => simp [intOf]; omega
            · have hin : x ∈ lb := by
                obtain ⟨hl, e⟩ := HY2.out
                have : x = lb[k'] := by omega
                rw [this]
                exact List.getElem_mem hl
              have HT := Lib.hid (both_yes HX.out hin)
              obtain ⟨fn, tmps, assign, body, hy, hRd⟩ := HY.out (bothL (la.take i) lb) x wr (by rw [← HT.out]; exact both_pre _ _ _) HJs.out
              dsimp only [encK] at hy
              clear hin
              gi_wp2_with fail
              refine hRd.mono ?_
              rintro e W5 (⟨rfl, hJ5, hk5⟩ | ⟨rfl, hJx5, _⟩)
              · have HN : Hid (J (bothL (la.take (i + 1)) lb) W5) := Lib.hid (by rw [HT.out]; exact hJ5)
                have HBN : Hid (Below w0.heap.size w0 W5) := Lib.hid (HBs.out.trans (hk5.belowb HBs.out.size))
                clear hJ5 hk5 x0 y0 c1
                gi_wp2
                go_roundw
                case rel => exact ⟨i + 1, k', by simp; try go_num, by omega, rfl, hk', HAL2, HN, HBN⟩
                case measure => simp [intOf]; omega
              · have HX5 := Lib.hid hJx5
                clear hJx5 x0 y0 c1
                gi_wp2
                try simp only [Exit.noGoto_normal, Exit.noGoto_ret]
                refine bodyPost_ret (results_none rfl _ _ _) rfl ?_
                exact ⟨⟨_, rfl⟩, .inr ⟨_, by rw [← HT.out]; exact both_pre _ _ _, HX5.out⟩⟩
        · have hke : ((k' : Int) == (nb : Int)) = true := by simp; omega
          have HE : Hid (bothL (la.take i) lb = bothL la lb) := Lib.hid (both_end HUA.out HX.out (allLt_mem (by
            have := HA.out
            have e : lb.length = k' := by have := HLn.out.2; omega
            rw [e]; exact this)))
          gi_wp2
          try simp only [Exit.noGoto_normal, Exit.noGoto_ret]
          exact ⟨rfl, _, results_none rfl _ _ _, ⟨_, rfl⟩, .inl (by have := HJs.out; rwa [HE.out] at this)⟩
    · have HE : Hid (bothL (la.take i) lb = bothL la lb) := Lib.hid (by rw [List.take_of_length_le (by have := HLn.out.1; omega)])
      gi_wp2
      try simp only [Exit.noGoto_normal, Exit.noGoto_ret]
      exact ⟨rfl, _, results_none rfl _ _ _, ⟨_, rfl⟩, .inl (by have := HJs.out; rwa [HE.out] at this)⟩
end Go.Proofs.Ytaaddckhldccjaa
