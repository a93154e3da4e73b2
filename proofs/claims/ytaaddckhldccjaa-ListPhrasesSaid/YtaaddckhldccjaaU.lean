/- Rows of documents' numbers in memory: do they rise, is one in them, are two the same. -/
import Derived.Test.YtaaddckhldccjaaSames
namespace Go.Proofs.Ytaaddckhldccjaa
open Go.RowKit
set_option linter.unusedVariables false
set_option linter.unusedSimpArgs false

abbrev encU : Nat → Value := fun x => .int .u32 (x : Int)
theorem encU_one (x : Nat) : (encU x).oneCell' = true := rfl
theorem infoU : (Try.prog.info? 30).map (fun i => (i.zero, i.size, i.bytes)) = some (some (.int .u32 0), 1, 4) := by kernel_rfl
def U32 (l : List Nat) : Prop := ∀ x ∈ l, x < 4294967296
theorem U32.nil : U32 [] := fun _ h => by cases h
theorem U32.append {l m : List Nat} (h : U32 l) (k : U32 m) : U32 (l ++ m) := fun c hc => by
  rcases List.mem_append.1 hc with h1 | h1
  · exact h c h1
  · exact k c h1
theorem U32.one {x : Nat} (h : x < 4294967296) : U32 [x] := fun c hc => by
  rw [List.mem_singleton] at hc; subst hc; exact h
/-- A row of numbers that is read. -/
structure RdU (w : World) (A : Option Addr) (n : Nat) (l : List Nat) : Prop where
  rd : Rd encU w A n l
  lt : U32 l
theorem RdU.below {w w' : World} {A : Option Addr} {n : Nat} {l : List Nat} (h : RdU w A n l) (hb : Below w.heap.size w w') : RdU w' A n l := ⟨h.rd.below hb, h.lt⟩
theorem RdU.len {w : World} {A : Option Addr} {n : Nat} {l : List Nat} (h : RdU w A n l) : l.length = n := h.rd.len
theorem RdU.max {w : World} {A : Option Addr} {n : Nat} {l : List Nat} (h : RdU w A n l) : n ≤ 9223372036854775807 := h.rd.max
theorem RdU.at {w : World} {A : Option Addr} {n : Nat} {l : List Nat} (h : RdU w A n l) {k : Nat} (hk : k < n) : ∃ (ad : Addr) (x : Nat), A = some ad ∧ Hid (∃ hl : k < l.length, l[k] = x) ∧ x ≤ 4294967295 ∧ w.cell? (ad.add k) = some (.int .u32 (x : Nat)) := by
  obtain ⟨ad, e, hc⟩ := h.rd.cell (by omega)
  have hl : k < l.length := by rw [h.len]; exact hk
  have := h.lt l[k] (List.getElem_mem hl)
  exact ⟨ad, l[k], e, Lib.hid ⟨hl, rfl⟩, by omega, hc k hl⟩
theorem RdU.empty (w : World) : RdU w Option.none 0 [] := ⟨Rd.empty w, U32.nil⟩
/-- A value that reads as numbers. -/
def US (w : World) (v : Value) (l : List Nat) : Prop := ∃ A n c, v = .slice A n c ∧ n ≤ c ∧ c ≤ 9223372036854775807 ∧ RdU w A n l
theorem US.below {w w' : World} {v : Value} {l : List Nat} (h : US w v l) (hb : Below w.heap.size w w') : US w' v l := by
  obtain ⟨A, n, c, e, h1, h2, h3⟩ := h
  exact ⟨A, n, c, e, h1, h2, h3.below hb⟩
theorem US.nil (w : World) : US w (.slice none 0 0) [] := ⟨none, 0, 0, rfl, Nat.le_refl _, by decide, RdU.empty w⟩
theorem US.lt {w : World} {v : Value} {l : List Nat} (h : US w v l) : U32 l := by obtain ⟨A, n, c, e, h1, h2, h3⟩ := h; exact h3.lt
/-- One of the call's own. -/
def OwnU (w : World) (base : Nat) (v : Value) (l : List Nat) : Prop := OwnL encU 30 w base v l ∧ U32 l
theorem OwnU.us {w : World} {base : Nat} {v : Value} {l : List Nat} (h : OwnU w base v l) : US w v l := by
  obtain ⟨A, c, e, h1, h2, h3⟩ := OwnL.rd h.1
  exact ⟨A, _, c, e, h1, h2, h3, h.2⟩
theorem OwnU.below {w w' : World} {base : Nat} {v : Value} {l : List Nat} (h : OwnU w base v l) (hb : Below w.heap.size w w') : OwnU w' base v l := ⟨h.1.below hb, h.2⟩
theorem OwnU.mono {w : World} {base base' : Nat} {v : Value} {l : List Nat} (h : OwnU w base v l) (hb : base' ≤ base) : OwnU w base' v l := ⟨h.1.mono hb, h.2⟩
theorem OwnU.nil (w : World) (base : Nat) : OwnU w base (.slice none 0 0) [] := ⟨OwnL.nil _ _ _ _, U32.nil⟩

/-- A row that rises. -/
abbrev Up (l : List Nat) : Prop := l.Pairwise (· < ·)
theorem up_snoc {l : List Nat} {k : Nat} {x y : Nat} (hx : ∃ hl : k < l.length, l[k] = x) (hy : ∃ hl : k + 1 < l.length, l[k + 1] = y) (h : Up (l.take (k + 1))) : Up (l.take (k + 2)) ↔ x < y := by
  obtain ⟨h1, rfl⟩ := hx
  obtain ⟨h2, rfl⟩ := hy
  rw [List.take_succ_eq_append_getElem h2]
  rw [Up, List.pairwise_append]
  constructor
  · intro hh
    exact hh.2.2 l[k] (by rw [List.take_succ_eq_append_getElem h1]; exact List.mem_append_right _ (by simp)) l[k + 1] (by simp)
  · intro hlt
    refine ⟨h, by simp, fun a ha b hb => ?_⟩
    rw [List.mem_singleton] at hb
    subst hb
    rw [List.take_succ_eq_append_getElem h1] at ha
    rcases List.mem_append.1 ha with h3 | h3
    · rw [List.take_succ_eq_append_getElem h1, Up, List.pairwise_append] at h
      have := h.2.2 a h3 l[k] (by simp)
      omega
    · rw [List.mem_singleton] at h3
      omega
theorem up_take {l : List Nat} (h : Up l) (k : Nat) : Up (l.take k) := List.Pairwise.sublist (List.take_sublist k l) h
theorem up_one (l : List Nat) : Up (l.take 1) := by
  cases l with
  | nil => exact List.Pairwise.nil
  | cons a l => simp
def upB (l : List Nat) : Bool := decide (Up l)
def upE (l : List Nat) : Int := if Up l then 0 else 160
theorem up_no {l : List Nat} {k : Nat} {x y : Nat} (hx : ∃ hl : k < l.length, l[k] = x) (hy : ∃ hl : k + 1 < l.length, l[k + 1] = y) (h : Up (l.take (k + 1))) (hn : y ≤ x) : ¬ Up l := fun hu => by
  have := (up_snoc hx hy h).1 (up_take hu _)
  omega
set_option maxRecDepth 100000 in
set_option maxHeartbeats 2000000 in
theorem rises_any (A : Option Addr) (n c : Nat) (l : List Nat) (w : World) (h : RdU w A n l) :
    Calls Try.prog 44 #[.slice A n c] w fun e w' => e = .returned (.bool (upB l)) ∧ Below w.heap.size w w' := by
  have HR := Lib.hid h
  have hn := h.max
  have HLn := Lib.hid h.len
  clear h
  go_enter Try.func44, Try.ntmps44
  go_wp2_with fail
  go_loopw [3] (fun x wr => ∃ K k : Nat, x = .int .i64 (K : Nat) ∧ Hid (K = k + 1) ∧ Hid (Up (l.take (k + 1)) ∧ Below w.heap.size w wr)) (fun x _ => n - (intOf x).toNat)
  case atStart => exact ⟨1, 0, rfl, Lib.hid rfl, Lib.hid ⟨up_one l, Below.refl _ _⟩⟩
  case round =>
    obtain ⟨K, k, rfl, HK, HI⟩ := hrel
    have hK1 : K ≤ k + 1 := by have := HK.out; omega
    have hK2 : k + 1 ≤ K := by have := HK.out; omega
    by_cases hlt : (K : Int) < (n : Int)
    · obtain ⟨ad, x, rfl, HX, hx, x0⟩ := (HR.out.below HI.out.2).at (k := k) (by omega)
      obtain ⟨ae, y, e, HY, hy, y0⟩ := (HR.out.below HI.out.2).at (k := K) (by omega)
      cases e
      have hs : (K : Int) - 1 = (k : Int) := by omega
      have HY' : Hid (∃ hl : k + 1 < l.length, l[k + 1] = y) := Lib.hid (by have := HY.out; have e := HK.out; subst e; exact this)
      by_cases hyx : (y : Int) ≤ (x : Int)
      · have HF : Hid (upB l = false) := Lib.hid (decide_eq_false (up_no HX.out HY'.out HI.out.1 (by omega)))
        go_upto_region 4 with fail
        go_quiet (fail)
        clear x0 y0
        go_wp2
        go_ret
        exact ⟨by rw [HF.out]; rfl, below_drewN HI.out.2 nq⟩
      · have HN : Hid (Up (l.take (k + 2))) := Lib.hid ((up_snoc HX.out HY'.out HI.out.1).2 (by omega))
        go_upto_region 4 with fail
        go_quiet (fail)
        clear x0 y0
        go_wp2
        exact ⟨⟨K + 1, k + 1, by go_num, Lib.hid (by rw [HK.out]), Lib.hid ⟨HN.out, below_drewN HI.out.2 nq⟩⟩, by simp [intOf]; omega⟩
    · have HT : Hid (upB l = true) := Lib.hid (decide_eq_true (by
        have h := HI.out.1
        have h1 := HLn.out
        rw [List.take_of_length_le (by omega)] at h
        exact h))
      go_wp2
      go_ret
      exact ⟨by rw [HT.out]; rfl, HI.out.2⟩
set_option maxRecDepth 100000 in
set_option maxHeartbeats 2000000 in
theorem CheckL_any (A : Option Addr) (n c : Nat) (l : List Nat) (w : World) (h : RdU w A n l) :
    Calls Try.prog 27 #[.slice A n c] w fun e w' => e = .returned (.int .i64 (upE l)) ∧ Below w.heap.size w w' := by
  have C := Lib.hid (rises_any A n c l w h)
  have hn := h.max
  clear h
  go_enter Try.func27, Try.ntmps27
  go_wp2_with fail
  refine C.out.mono ?_
  rintro e w1 ⟨rfl, hb⟩
  have HB := Lib.hid hb
  clear hb C
  by_cases hu : Up l
  · have HU : Hid (upE l = 0) := Lib.hid (if_pos hu)
    have hq : upB l = true := decide_eq_true hu
    clear hu
    go_wp2
    go_ret
    exact ⟨by rw [HU.out]; rfl, HB.out⟩
  · have HU : Hid (upE l = 160) := Lib.hid (if_neg hu)
    have hq : upB l = false := decide_eq_false hu
    clear hu
    go_wp2
    go_ret
    exact ⟨by rw [HU.out]; rfl, HB.out⟩
set_option maxRecDepth 100000 in
set_option maxHeartbeats 2000000 in
theorem refCheckL_any (A : Option Addr) (n c : Nat) (l : List Nat) (w : World) (h : RdU w A n l) :
    Calls Try.prog 28 #[.slice A n c] w fun e w' => e = .returned (.int .i64 (upE l)) ∧ Below w.heap.size w w' := by
  have HR := Lib.hid h
  have hn := h.max
  have HLn := Lib.hid h.len
  clear h
  go_enter Try.func28, Try.ntmps28
  go_wp2_with fail
  go_loopw [3] (fun x wr => ∃ K k : Nat, x = .int .i64 (K : Nat) ∧ Hid (K = k + 1) ∧ Hid (Up (l.take (k + 1)) ∧ Below w.heap.size w wr)) (fun x _ => n - (intOf x).toNat)
  case atStart => exact ⟨1, 0, rfl, Lib.hid rfl, Lib.hid ⟨up_one l, Below.refl _ _⟩⟩
  case round =>
    obtain ⟨K, k, rfl, HK, HI⟩ := hrel
    have hK1 : K ≤ k + 1 := by have := HK.out; omega
    have hK2 : k + 1 ≤ K := by have := HK.out; omega
    by_cases hlt : (K : Int) < (n : Int)
    · obtain ⟨ad, x, rfl, HX, hx, x0⟩ := (HR.out.below HI.out.2).at (k := k) (by omega)
      obtain ⟨ae, y, e, HY, hy, y0⟩ := (HR.out.below HI.out.2).at (k := K) (by omega)
      cases e
      have hs : (K : Int) - 1 = (k : Int) := by omega
      have HY' : Hid (∃ hl : k + 1 < l.length, l[k + 1] = y) := Lib.hid (by have := HY.out; have e := HK.out; subst e; exact this)
      by_cases hyx : (x : Int) ≥ (y : Int)
      · have HF : Hid (upE l = 160) := Lib.hid (if_neg (up_no HX.out HY'.out HI.out.1 (by omega)))
        go_upto_region 4 with fail
        go_quiet (fail)
        clear x0 y0
        go_wp2
        go_ret
        exact ⟨by rw [HF.out]; rfl, below_drewN HI.out.2 nq⟩
      · have HN : Hid (Up (l.take (k + 2))) := Lib.hid ((up_snoc HX.out HY'.out HI.out.1).2 (by omega))
        go_upto_region 4 with fail
        go_quiet (fail)
        clear x0 y0
        go_wp2
        exact ⟨⟨K + 1, k + 1, by go_num, Lib.hid (by rw [HK.out]), Lib.hid ⟨HN.out, below_drewN HI.out.2 nq⟩⟩, by simp [intOf]; omega⟩
    · have HT : Hid (upE l = 0) := Lib.hid (if_pos (by
        have h := HI.out.1
        have h1 := HLn.out
        rw [List.take_of_length_le (by omega)] at h
        exact h))
      go_wp2
      go_ret
      exact ⟨by rw [HT.out]; rfl, HI.out.2⟩
set_option maxRecDepth 100000 in
set_option maxHeartbeats 2000000 in
theorem Has_any (A : Option Addr) (n c : Nat) (l : List Nat) (d : Nat) (w : World) (h : RdU w A n l) :
    Calls Try.prog 42 #[.slice A n c, .int .u32 (d : Nat)] w fun e w' => e = .returned (.bool (decide (d ∈ l))) ∧ w = w' := by
  obtain ⟨R, hR⟩ : ∃ R, R = decide (d ∈ l) := ⟨_, rfl⟩
  rw [← hR]
  have HE := Lib.hid hR
  have HR := Lib.hid h
  have hn := h.max
  have HLn := Lib.hid h.len
  clear h hR
  go_enter Try.func42, Try.ntmps42
  go_wp2_with fail
  go_loop [5] (fun x => ∃ k : Nat, k ≤ n ∧ x = .int .i64 (k : Nat) ∧ Hid (d ∉ l.take k)) (fun x => n - (intOf x).toNat)
  case atStart => exact ⟨0, Nat.zero_le _, rfl, Lib.hid (by simp)⟩
  case round =>
    obtain ⟨k, hk, rfl, HI⟩ := hrel
    by_cases hlt : (k : Int) < (n : Int)
    · obtain ⟨ad, x, rfl, HX, hx, x0⟩ := HR.out.at (k := k) (by omega)
      by_cases hxd : x = d
      · have HF : Hid (R = true) := Lib.hid (by
          rw [HE.out]
          refine decide_eq_true ?_
          obtain ⟨hl, e⟩ := HX.out
          rw [← hxd, ← e]
          exact List.getElem_mem hl)
        have hq : ((x : Int) == (d : Int)) = true := by simp; omega
        clear hxd
        go_wp2
        go_ret
        exact ⟨by rw [HF.out]; rfl, rfl⟩
      · have hq : ((x : Int) == (d : Int)) = false := by simp; omega
        have HN : Hid (d ∉ l.take (k + 1)) := Lib.hid (by
          obtain ⟨hl, e⟩ := HX.out
          rw [List.take_succ_eq_append_getElem hl, List.mem_append, e]
          rintro (h | h)
          · exact HI.out h
          · rw [List.mem_singleton] at h; exact hxd h.symm)
        clear hxd
        go_wp2
        exact ⟨⟨k + 1, by omega, by go_num, HN⟩, by simp [intOf]; omega⟩
    · have HT : Hid (R = false) := Lib.hid (by
        rw [HE.out]
        refine decide_eq_false ?_
        have h := HI.out
        have h1 := HLn.out
        rw [List.take_of_length_le (by omega)] at h
        exact h)
      go_wp2
      go_ret
      exact ⟨by rw [HT.out]; rfl, rfl⟩
set_option maxRecDepth 100000 in
set_option maxHeartbeats 2000000 in
theorem equalU_any (A B : Option Addr) (n m c d : Nat) (a b : List Nat) (w : World) (ha : RdU w A n a) (hb : RdU w B m b) :
    Calls Try.prog 16 #[.slice A n c, .slice B m d] w fun e w' => e = .returned (.bool (decide (a = b))) ∧ Below w.heap.size w w' := by
  obtain ⟨R, hR⟩ : ∃ R, R = decide (a = b) := ⟨_, rfl⟩
  rw [← hR]
  have HR := Lib.hid hR
  have HA := Lib.hid ha
  have HB := Lib.hid hb
  have hn := ha.max
  have hm := hb.max
  clear ha hb hR
  by_cases hnm : n = m
  · subst hnm
    go_enter Try.func16, Try.ntmps16
    go_wp2_with fail
    go_loopw [13] (fun x wr => ∃ k : Nat, k ≤ n ∧ x = .int .i64 k ∧ Hid (a.take k = b.take k ∧ Below w.heap.size w wr)) (fun x _ => n - (intOf x).toNat)
    case atStart => exact ⟨0, by omega, rfl, Lib.hid ⟨by simp, Below.refl _ _⟩⟩
    case round =>
      obtain ⟨k, hk, rfl, HI⟩ := hrel
      by_cases hlt : (k : Int) < (n : Int)
      · obtain ⟨ad, x, rfl, HX, hx, x0⟩ := (HA.out.below HI.out.2).at (k := k) (by omega)
        obtain ⟨ae, y, rfl, HY, hy, y0⟩ := (HB.out.below HI.out.2).at (k := k) (by omega)
        by_cases hxy : x = y
        · have HXY := Lib.hid hxy
          subst hxy
          go_upto_region 6 with fail
          go_quiet (fail)
          clear x0 y0
          go_wp2
          refine ⟨⟨k + 1, by omega, by go_num, Lib.hid ⟨?_, below_drewN HI.out.2 nq⟩⟩, by simp [intOf]; omega⟩
          obtain ⟨_, e1⟩ := HX.out
          obtain ⟨_, e2⟩ := HY.out
          exact (take_stepG _ _).2 ⟨HI.out.1, by rw [e1, e2]⟩
        · have HF : Hid (R = false) := Lib.hid (by rw [HR.out]; exact decide_eq_false (ne_of_at HX.out HY.out hxy))
          have q1 : ((x : Int) == (y : Int)) = false := by simp; omega
          have q2 : ((x : Int) != (y : Int)) = true := by simp; omega
          go_upto_region 6 with fail
          go_quiet (fail)
          clear x0 y0
          go_wp2
          go_ret
          exact ⟨by rw [HF.out]; rfl, below_drewN HI.out.2 nq⟩
      · have HT : Hid (R = true) := Lib.hid (by
          rw [HR.out]
          have h := HI.out.1
          have h1 := HA.out.len
          have h2 := HB.out.len
          rw [List.take_of_length_le (by omega), List.take_of_length_le (by omega)] at h
          exact decide_eq_true h)
        go_wp2
        go_ret
        exact ⟨by rw [HT.out]; rfl, HI.out.2⟩
  · have g0 : ((n : Int) == (m : Int)) = false := by simp; omega
    have g1 : ((n : Int) != (m : Int)) = true := by simp; omega
    have HF : Hid (R = false) := Lib.hid (by
      rw [HR.out]
      refine decide_eq_false fun e => hnm ?_
      rw [← HA.out.len, ← HB.out.len, e])
    clear hnm
    go_enter Try.func16, Try.ntmps16
    go_wp2
    go_ret
    exact ⟨by rw [HF.out]; rfl, Below.refl _ _⟩
end Go.Proofs.Ytaaddckhldccjaa
