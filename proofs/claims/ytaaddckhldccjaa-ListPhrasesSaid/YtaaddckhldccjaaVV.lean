/- Rows of postings: are they right. -/
import Derived.Test.YtaaddckhldccjaaRefAN
import Derived.Test.YtaaddckhldccjaaChk
import Derived.Test.YtaaddckhldccjaaRefChk
import Derived.Test.YtaaddckhldccjaaSameAll
namespace Go.Proofs.Ytaaddckhldccjaa
open Go.RowKit
set_option linter.unusedVariables false
set_option linter.unusedSimpArgs false

def prevOf (ls : List Po) (i : Nat) : Nat := if i = 0 then 0 else (ls.getD (i - 1) (0, [])).1
theorem prevOf_succ (ls : List Po) (i : Nat) : prevOf ls (i + 1) = (ls.getD i (0, [])).1 := by unfold prevOf; rw [if_neg (by omega), Nat.add_sub_cancel]
def okLs (ls : List Po) (k : Nat) : Prop := ∀ i, i < k → okP (prevOf ls i) (ls.getD i (0, []))
theorem okLs_step {ls : List Po} {k : Nat} (h : okLs ls k) (h2 : okP (prevOf ls k) (ls.getD k (0, []))) : okLs ls (k + 1) := fun i hi => by
  rcases Nat.lt_succ_iff_lt_or_eq.1 hi with h1 | rfl
  · exact h i h1
  · exact h2
theorem getD_of {ls : List Po} {k : Nat} {p : Po} (h : ∃ hl : k < ls.length, ls[k] = p) : ls.getD k (0, []) = p := by
  obtain ⟨hl, rfl⟩ := h
  rw [List.getD_eq_getElem?_getD, List.getElem?_eq_getElem hl]; rfl
/-- A list of postings. -/
def Rt (ls : List Po) : Prop := okLs ls ls.length
open Classical in
noncomputable def rtB (ls : List Po) : Bool := decide (Rt ls)
open Classical in
theorem rtB_t {ls : List Po} (h : Rt ls) : rtB ls = true := decide_eq_true h
open Classical in
theorem rtB_f {ls : List Po} (h : ¬ Rt ls) : rtB ls = false := decide_eq_false h
/-- A row's value, and what it reads as. -/
structure VV where
  A : Option Addr
  n : Nat
  c : Nat
  l : List Po
abbrev encVV : VV → Value := fun x => .slice x.A x.n x.c
theorem encVV_one (x : VV) : (encVV x).oneCell' = true := rfl
theorem infoVV : (Try.prog.info? 28).map (fun i => (i.zero, i.size, i.bytes)) = some (some (.slice none 0 0), 1, 24) := by kernel_rfl
structure VV.ok (x : VV) (w : World) : Prop where
  nc : x.n ≤ x.c
  c2 : x.c ≤ 9223372036854775807
  rd : RdPo w x.A x.n x.l
theorem VV.ok.below {x : VV} {w w' : World} (h : x.ok w) (hb : Below w.heap.size w w') : x.ok w' := ⟨h.nc, h.c2, h.rd.below hb⟩
structure RdVV (w : World) (A : Option Addr) (n : Nat) (ls : List VV) : Prop where
  rd : Rd encVV w A n ls
  ok : ∀ x ∈ ls, x.ok w
theorem RdVV.below {w w' : World} {A : Option Addr} {n : Nat} {ls : List VV} (h : RdVV w A n ls) (hb : Below w.heap.size w w') : RdVV w' A n ls := ⟨h.rd.below hb, fun x hx => (h.ok x hx).below hb⟩
theorem RdVV.len {w : World} {A : Option Addr} {n : Nat} {ls : List VV} (h : RdVV w A n ls) : ls.length = n := h.rd.len
theorem RdVV.at {w : World} {A : Option Addr} {n : Nat} {ls : List VV} (h : RdVV w A n ls) {k : Nat} (hk : k < n) : ∃ (ad : Addr) (x : VV), A = some ad ∧ Hid (∃ hl : k < ls.length, ls[k] = x) ∧ Hid (x.ok w) ∧ x.n ≤ 9223372036854775807 ∧ w.cell? (ad.add k) = some (.slice x.A x.n x.c) := by
  obtain ⟨ad, e, hc⟩ := h.rd.cell (by omega)
  have hl : k < ls.length := by rw [h.len]; exact hk
  have hx := h.ok ls[k] (List.getElem_mem hl)
  exact ⟨ad, ls[k], e, Lib.hid ⟨hl, rfl⟩, Lib.hid hx, hx.rd.max, hc k hl⟩
def allRt (ls : List VV) : Prop := ∀ x ∈ ls, Rt x.l
theorem allRt_step {ls : List VV} {k : Nat} {x : VV} (h : ∃ hl : k < ls.length, ls[k] = x) (h1 : allRt (ls.take k)) (h2 : Rt x.l) : allRt (ls.take (k + 1)) := by
  obtain ⟨hl, rfl⟩ := h
  intro y hy
  rw [List.take_succ_eq_append_getElem hl, List.mem_append] at hy
  rcases hy with hy | hy
  · exact h1 y hy
  · rw [List.mem_singleton] at hy; subst hy; exact h2
theorem allRt_no {ls : List VV} {k : Nat} {x : VV} (h : ∃ hl : k < ls.length, ls[k] = x) (h2 : ¬ Rt x.l) : ¬ allRt ls := fun ha => by
  obtain ⟨hl, rfl⟩ := h
  exact h2 (ha _ (List.getElem_mem hl))
open Classical in
noncomputable def allRtB (ls : List VV) : Bool := decide (allRt ls)
open Classical in
theorem allRtB_t {ls : List VV} (h : allRt ls) : allRtB ls = true := decide_eq_true h
open Classical in
theorem allRtB_f {ls : List VV} (h : ¬ allRt ls) : allRtB ls = false := decide_eq_false h
set_option maxRecDepth 100000 in
set_option maxHeartbeats 4000000 in
theorem right_any (A : Option Addr) (n c : Nat) (ls : List Po) (w : World) (h : RdPo w A n ls) :
    Calls Try.prog 65 #[.slice A n c] w fun e w' => e = .returned (.bool (rtB ls)) ∧ Below w.heap.size w w' := by
  have HR := Lib.hid h
  have hn := h.max
  have HLn := Lib.hid h.len
  clear h
  go_enter Try.func65, Try.ntmps65
  go_wp2_with fail
  go_loopw [3, 5, 8] (fun p _ x wr => ∃ k pv : Nat, x = .int .i64 (k : Nat) ∧ k ≤ n ∧ p = .int .u32 (pv : Nat) ∧ pv ≤ 4294967295 ∧ Hid (pv = prevOf ls k) ∧ Hid (okLs ls k ∧ Below w.heap.size w wr)) (fun _ _ x _ => n - (intOf x).toNat)
  case atStart => exact ⟨0, 0, rfl, Nat.zero_le _, rfl, by decide, Lib.hid rfl, Lib.hid ⟨fun i h => absurd h (Nat.not_lt_zero _), Below.refl _ _⟩⟩
  case round =>
    obtain ⟨k, pv, rfl, hk, rfl, hpv, HPV, HI⟩ := hrel
    by_cases hlt : (k : Int) < (n : Int)
    · obtain ⟨ad, B, m, c1, d, l, rfl, HX, x0, x1, hm1, hm2, HRI, hd⟩ := (HR.out.below HI.out.2).at (k := k) (by omega)
      obtain ⟨wB, hwB⟩ : ∃ wB, wB = wr.alloc (.cells #[.int .u32 (d : Nat), .slice B m c1] 32) := ⟨_, rfl⟩
      have hbB : Below wr.heap.size wr wB := by rw [hwB]; exact (Below.refl _ _).alloc (Nat.le_refl _) _
      have C := Lib.hid (Check_pv pv (d, l) (.agg #[.int .u32 (d : Nat), .slice B m c1]) wB (RdPo.pv (HRI.out.below hbB) hm1 hm2 hd) (by omega))
      have hb2 := Box2.new wr 32 (.int .u32 (d : Nat)) (.slice B m c1)
      have HBX := Lib.hid hb2
      obtain ⟨y0, y1, _, _⟩ := hb2.facts
      have HBB := Lib.hid (Below.thn HI.out.2 hbB)
      have HWB := Lib.hid hwB
      clear hwB hbB hb2
      go_wp2_with fail
      rw [← HWB.out]
      refine C.out.mono ?_
      rintro e w2 ⟨rfl, hb⟩
      have HB2 := Lib.hid (Below.thn HBB.out hb)
      have hz : w2.cell? ⟨wr.heap.size, 0, none⟩ = some (.int .u32 (d : Nat)) := cell_keep hb (by rw [HWB.out]; exact y0)
      clear hb C x0 x1 y0 y1
      by_cases hok : okP pv (d, l)
      · rw [chkP_yes hok]
        have HN : Hid (okLs ls (k + 1) ∧ Below w.heap.size w w2) := Lib.hid ⟨okLs_step HI.out.1 (by rw [← HPV.out, getD_of HX.out]; exact hok), HB2.out⟩
        have HP2 : Hid (d = prevOf ls (k + 1)) := Lib.hid (by rw [prevOf_succ, getD_of HX.out])
        clear hok
        go_wp2
        exact ⟨⟨k + 1, d, by simp; try go_num, by omega, rfl, hd, HP2, HN⟩, by simp [intOf]; omega⟩
      · rw [chkP_no hok]
        have HN : Hid (rtB ls = false) := Lib.hid (rtB_f fun hr => hok (by
          have := hr k (by have := HLn.out; omega)
          rwa [← HPV.out, getD_of HX.out] at this))
        clear hok hz
        go_wp2
        go_ret
        exact ⟨by rw [HN.out]; rfl, HB2.out⟩
    · have HT : Hid (rtB ls = true) := Lib.hid (rtB_t (by
        have := HI.out.1
        have e : ls.length = k := by have := HLn.out; omega
        unfold Rt
        rw [e]; exact this))
      go_wp2
      go_ret
      exact ⟨by rw [HT.out]; rfl, HI.out.2⟩
set_option maxRecDepth 100000 in
set_option maxHeartbeats 1000000 in
theorem notRight_any (x : VV) (w : World) (h : x.ok w) :
    Calls Try.prog 64 #[.slice x.A x.n x.c] w fun e w' => e = .returned (.bool (!rtB x.l)) ∧ Below w.heap.size w w' := by
  have C := Lib.hid (right_any x.A x.n x.c x.l w h.rd)
  obtain ⟨b, hb⟩ : ∃ b, b = rtB x.l := ⟨_, rfl⟩
  rw [← hb] at C ⊢
  clear h hb
  go_enter Try.func64, Try.ntmps64
  go_wp2_with fail
  refine C.out.mono ?_
  rintro e w1 ⟨rfl, hb⟩
  have HB := Lib.hid hb
  clear hb C
  go_wp2
  go_ret
  exact ⟨rfl, HB.out⟩
set_option maxRecDepth 100000 in
set_option maxHeartbeats 2000000 in
theorem indexRt_any (A : Option Addr) (n c : Nat) (ls : List VV) (w : World) (h : RdVV w A n ls) (hmax : n ≤ 1000000) :
    Calls Try.prog 77 #[.slice A n c, .func (.func 64) #[] #[]] w fun e w' => (∃ r : Int, e = .returned (.int .i64 r) ∧ r ≤ 1000000 ∧ (0 ≤ r ↔ ¬ allRt ls) ∧ -1 ≤ r) ∧ Below w.heap.size w w' := by
  have HR := Lib.hid h
  have HLn := Lib.hid h.len
  clear h
  go_enter Try.func77, Try.ntmps77
  go_wp2_with fail
  go_loopw [8] (fun x wr => ∃ k : Nat, k ≤ n ∧ x = .int .i64 (k : Nat) ∧ Hid (allRt (ls.take k) ∧ Below w.heap.size w wr)) (fun x _ => n - (intOf x).toNat)
  case atStart => exact ⟨0, Nat.zero_le _, rfl, Lib.hid ⟨fun x hx => by simp at hx, Below.refl _ _⟩⟩
  case round =>
    obtain ⟨k, hk, rfl, HI⟩ := hrel
    by_cases hlt : (k : Int) < (n : Int)
    · obtain ⟨ad, x, rfl, HX, HO, hxm, x0⟩ := (HR.out.below HI.out.2).at (k := k) (by omega)
      have C := Lib.hid (notRight_any x wr HO.out)
      go_wp2_with fail
      refine C.out.mono ?_
      rintro e w1 ⟨rfl, hb⟩
      have HB := Lib.hid (Below.thn HI.out.2 hb)
      clear hb C x0
      by_cases hu : Rt x.l
      · have hq : rtB x.l = true := rtB_t hu
        have HN : Hid (allRt (ls.take (k + 1))) := Lib.hid (allRt_step HX.out HI.out.1 hu)
        clear hu
        go_wp2
        exact ⟨⟨k + 1, by omega, by go_num, Lib.hid ⟨HN.out, HB.out⟩⟩, by simp [intOf]; omega⟩
      · have hq : rtB x.l = false := rtB_f hu
        have HN : Hid (¬ allRt ls) := Lib.hid (allRt_no HX.out hu)
        clear hu
        go_wp2
        go_ret
        exact ⟨⟨k, rfl, by omega, ⟨fun _ => HN.out, fun _ => by omega⟩, by omega⟩, HB.out⟩
    · have HT : Hid (allRt ls) := Lib.hid (by
        have h := HI.out.1
        have h1 := HLn.out
        rw [List.take_of_length_le (by omega)] at h
        exact h)
      go_wp2
      go_ret
      exact ⟨⟨-1, rfl, by omega, ⟨fun h => by omega, fun h => absurd HT.out h⟩, by omega⟩, HI.out.2⟩
set_option maxRecDepth 100000 in
set_option maxHeartbeats 1000000 in
theorem containsRt_any (A : Option Addr) (n c : Nat) (ls : List VV) (w : World) (h : RdVV w A n ls) (hmax : n ≤ 1000000) :
    Calls Try.prog 63 #[.slice A n c, .func (.func 64) #[] #[]] w fun e w' => e = .returned (.bool (!allRtB ls)) ∧ Below w.heap.size w w' := by
  have C := Lib.hid (indexRt_any A n c ls w h hmax)
  clear h
  go_enter Try.func63, Try.ntmps63
  go_wp2_with fail
  refine C.out.mono ?_
  rintro e w1 ⟨⟨r, rfl, hr1, hr, hr2⟩, hb⟩
  have HB := Lib.hid hb
  have HR : Hid (decide (r ≥ 0) = !allRtB ls) := Lib.hid (by
    by_cases ha : allRt ls
    · have : ¬ 0 ≤ r := fun h => hr.1 h ha
      rw [allRtB_t ha, decide_eq_false (by omega)]; rfl
    · have := hr.2 ha
      rw [allRtB_f ha, decide_eq_true (by omega)]; rfl)
  clear hb C hr
  go_wp2
  go_ret
  exact ⟨by rw [← HR.out]; rfl, HB.out⟩
set_option maxRecDepth 100000 in
set_option maxHeartbeats 1000000 in
theorem allRight_any (A : Option Addr) (n c : Nat) (ls : List VV) (w : World) (h : RdVV w A n ls) (hmax : n ≤ 1000000) :
    Calls Try.prog 37 #[.slice A n c] w fun e w' => e = .returned (.bool (allRtB ls)) ∧ Below w.heap.size w w' := by
  have C := Lib.hid (containsRt_any A n c ls w h hmax)
  obtain ⟨b, hb⟩ : ∃ b, b = allRtB ls := ⟨_, rfl⟩
  rw [← hb] at C ⊢
  clear h hb
  go_enter Try.func37, Try.ntmps37
  go_wp2_with fail
  refine C.out.mono ?_
  rintro e w1 ⟨rfl, hb⟩
  have HB := Lib.hid hb
  clear hb C
  go_wp2
  go_ret
  exact ⟨by simp, HB.out⟩
end Go.Proofs.Ytaaddckhldccjaa
