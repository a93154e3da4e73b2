/- Rows of rows in memory: do all rise, copies. -/
import Derived.Test.YtaaddckhldccjaaU
namespace Go.Proofs.Ytaaddckhldccjaa
open Go.RowKit
set_option linter.unusedVariables false
set_option linter.unusedSimpArgs false

/-- A row's value, and what it reads as. -/
structure UV where
  A : Option Addr
  n : Nat
  c : Nat
  l : List Nat
abbrev encUV : UV → Value := fun x => .slice x.A x.n x.c
theorem encUV_one (x : UV) : (encUV x).oneCell' = true := rfl
theorem infoUV : (Try.prog.info? 38).map (fun i => (i.zero, i.size, i.bytes)) = some (some (.slice none 0 0), 1, 24) := by kernel_rfl
structure UV.ok (x : UV) (w : World) : Prop where
  nc : x.n ≤ x.c
  c2 : x.c ≤ 9223372036854775807
  rd : RdU w x.A x.n x.l
theorem UV.ok.below {x : UV} {w w' : World} (h : x.ok w) (hb : Below w.heap.size w w') : x.ok w' := ⟨h.nc, h.c2, h.rd.below hb⟩
structure RdUU (w : World) (A : Option Addr) (n : Nat) (ls : List UV) : Prop where
  rd : Rd encUV w A n ls
  ok : ∀ x ∈ ls, x.ok w
theorem RdUU.below {w w' : World} {A : Option Addr} {n : Nat} {ls : List UV} (h : RdUU w A n ls) (hb : Below w.heap.size w w') : RdUU w' A n ls := ⟨h.rd.below hb, fun x hx => (h.ok x hx).below hb⟩
theorem RdUU.len {w : World} {A : Option Addr} {n : Nat} {ls : List UV} (h : RdUU w A n ls) : ls.length = n := h.rd.len
theorem RdUU.at {w : World} {A : Option Addr} {n : Nat} {ls : List UV} (h : RdUU w A n ls) {k : Nat} (hk : k < n) : ∃ (ad : Addr) (x : UV), A = some ad ∧ Hid (∃ hl : k < ls.length, ls[k] = x) ∧ Hid (x.ok w) ∧ x.n ≤ 9223372036854775807 ∧ w.cell? (ad.add k) = some (.slice x.A x.n x.c) := by
  obtain ⟨ad, e, hc⟩ := h.rd.cell (by omega)
  have hl : k < ls.length := by rw [h.len]; exact hk
  have hx := h.ok ls[k] (List.getElem_mem hl)
  exact ⟨ad, ls[k], e, Lib.hid ⟨hl, rfl⟩, Lib.hid hx, hx.rd.max, hc k hl⟩
def allUp (ls : List UV) : Prop := ∀ x ∈ ls, Up x.l
instance (ls : List UV) : Decidable (allUp ls) := inferInstanceAs (Decidable (∀ x ∈ ls, Up x.l))
theorem allUp_step {ls : List UV} {k : Nat} {x : UV} (h : ∃ hl : k < ls.length, ls[k] = x) (h1 : allUp (ls.take k)) (h2 : Up x.l) : allUp (ls.take (k + 1)) := by
  obtain ⟨hl, rfl⟩ := h
  intro y hy
  rw [List.take_succ_eq_append_getElem hl, List.mem_append] at hy
  rcases hy with hy | hy
  · exact h1 y hy
  · rw [List.mem_singleton] at hy; subst hy; exact h2
theorem allUp_no {ls : List UV} {k : Nat} {x : UV} (h : ∃ hl : k < ls.length, ls[k] = x) (h2 : ¬ Up x.l) : ¬ allUp ls := fun ha => by
  obtain ⟨hl, rfl⟩ := h
  exact h2 (ha _ (List.getElem_mem hl))
set_option maxRecDepth 100000 in
set_option maxHeartbeats 1000000 in
theorem notRises_any (x : UV) (w : World) (h : x.ok w) :
    Calls Try.prog 70 #[.slice x.A x.n x.c] w fun e w' => e = .returned (.bool (!upB x.l)) ∧ Below w.heap.size w w' := by
  have C := Lib.hid (rises_any x.A x.n x.c x.l w h.rd)
  obtain ⟨b, hb⟩ : ∃ b, b = upB x.l := ⟨_, rfl⟩
  rw [← hb] at C ⊢
  clear h hb
  go_enter Try.func70, Try.ntmps70
  go_wp2_with fail
  refine C.out.mono ?_
  rintro e w1 ⟨rfl, hb⟩
  have HB := Lib.hid hb
  clear hb C
  go_wp2
  go_ret
  exact ⟨rfl, HB.out⟩
set_option maxRecDepth 100000 in
set_option maxHeartbeats 2000000 in
theorem indexUp_any (A : Option Addr) (n c : Nat) (ls : List UV) (w : World) (h : RdUU w A n ls) (hmax : n ≤ 1000000) :
    Calls Try.prog 81 #[.slice A n c, .func (.func 70) #[] #[]] w fun e w' => (∃ r : Int, e = .returned (.int .i64 r) ∧ r ≤ 1000000 ∧ (0 ≤ r ↔ ¬ allUp ls) ∧ -1 ≤ r) ∧ Below w.heap.size w w' := by
  have HR := Lib.hid h
  have HLn := Lib.hid h.len
  clear h
  go_enter Try.func81, Try.ntmps81
  go_wp2_with fail
  go_loopw [8] (fun x wr => ∃ k : Nat, k ≤ n ∧ x = .int .i64 (k : Nat) ∧ Hid (allUp (ls.take k) ∧ Below w.heap.size w wr)) (fun x _ => n - (intOf x).toNat)
  case atStart => exact ⟨0, Nat.zero_le _, rfl, Lib.hid ⟨fun x hx => by simp at hx, Below.refl _ _⟩⟩
  case round =>
    obtain ⟨k, hk, rfl, HI⟩ := hrel
    by_cases hlt : (k : Int) < (n : Int)
    · obtain ⟨ad, x, rfl, HX, HO, hxm, x0⟩ := (HR.out.below HI.out.2).at (k := k) (by omega)
      have C := Lib.hid (notRises_any x wr HO.out)
      go_wp2_with fail
      refine C.out.mono ?_
      rintro e w1 ⟨rfl, hb⟩
      have HB := Lib.hid (Below.thn HI.out.2 hb)
      clear hb C x0
      by_cases hu : Up x.l
      · have hq : upB x.l = true := decide_eq_true hu
        have HN : Hid (allUp (ls.take (k + 1))) := Lib.hid (allUp_step HX.out HI.out.1 hu)
        clear hu
        go_wp2
        exact ⟨⟨k + 1, by omega, by go_num, Lib.hid ⟨HN.out, HB.out⟩⟩, by simp [intOf]; omega⟩
      · have hq : upB x.l = false := decide_eq_false hu
        have HN : Hid (¬ allUp ls) := Lib.hid (allUp_no HX.out hu)
        clear hu
        go_wp2
        go_ret
        exact ⟨⟨k, rfl, by omega, ⟨fun _ => HN.out, fun _ => by omega⟩, by omega⟩, HB.out⟩
    · have HT : Hid (allUp ls) := Lib.hid (by
        have h := HI.out.1
        have h1 := HLn.out
        rw [List.take_of_length_le (by omega)] at h
        exact h)
      go_wp2
      go_ret
      exact ⟨⟨-1, rfl, by omega, ⟨fun h => by omega, fun h => absurd HT.out h⟩, by omega⟩, HI.out.2⟩
set_option maxRecDepth 100000 in
set_option maxHeartbeats 1000000 in
theorem containsUp_any (A : Option Addr) (n c : Nat) (ls : List UV) (w : World) (h : RdUU w A n ls) (hmax : n ≤ 1000000) :
    Calls Try.prog 69 #[.slice A n c, .func (.func 70) #[] #[]] w fun e w' => e = .returned (.bool (!decide (allUp ls))) ∧ Below w.heap.size w w' := by
  have C := Lib.hid (indexUp_any A n c ls w h hmax)
  clear h
  go_enter Try.func69, Try.ntmps69
  go_wp2_with fail
  refine C.out.mono ?_
  rintro e w1 ⟨⟨r, rfl, hr1, hr, hr2⟩, hb⟩
  have HB := Lib.hid hb
  have HR : Hid (decide (r ≥ 0) = !decide (allUp ls)) := Lib.hid (by
    by_cases ha : allUp ls
    · have : ¬ 0 ≤ r := fun h => hr.1 h ha
      rw [decide_eq_true ha, decide_eq_false (by omega)]; rfl
    · have := hr.2 ha
      rw [decide_eq_false ha, decide_eq_true (by omega)]; rfl)
  clear hb C hr
  go_wp2
  go_ret
  exact ⟨by rw [← HR.out]; rfl, HB.out⟩
set_option maxRecDepth 100000 in
set_option maxHeartbeats 1000000 in
theorem all_any (A : Option Addr) (n c : Nat) (ls : List UV) (w : World) (h : RdUU w A n ls) (hmax : n ≤ 1000000) :
    Calls Try.prog 47 #[.slice A n c] w fun e w' => e = .returned (.bool (decide (allUp ls))) ∧ Below w.heap.size w w' := by
  have C := Lib.hid (containsUp_any A n c ls w h hmax)
  obtain ⟨b, hb⟩ : ∃ b, b = decide (allUp ls) := ⟨_, rfl⟩
  rw [← hb] at C ⊢
  clear h hb
  go_enter Try.func47, Try.ntmps47
  go_wp2_with fail
  refine C.out.mono ?_
  rintro e w1 ⟨rfl, hb⟩
  have HB := Lib.hid hb
  clear hb C
  go_wp2
  go_ret
  exact ⟨by simp, HB.out⟩
def allE (ls : List UV) : Int := if allUp ls then 0 else 160
set_option maxRecDepth 100000 in
set_option maxHeartbeats 2000000 in
theorem checks_any (A : Option Addr) (n c : Nat) (ls : List UV) (w : World) (h : RdUU w A n ls) (hmax : n ≤ 1000000) :
    Calls Try.prog 41 #[.slice A n c] w fun e w' => e = .returned (.int .i64 (allE ls)) ∧ Below w.heap.size w w' := by
  have HR := Lib.hid h
  have HLn := Lib.hid h.len
  clear h
  go_enter Try.func41, Try.ntmps41
  go_wp2_with fail
  go_loopw [3, 4] (fun x y wr => ∃ k : Nat, k ≤ n ∧ x = .int .i64 (k : Nat) ∧ Hid (allUp (ls.take k) ∧ Below w.heap.size w wr)) (fun x _ _ => n - (intOf x).toNat)
  case atStart => exact ⟨0, Nat.zero_le _, rfl, Lib.hid ⟨fun x hx => by simp at hx, Below.refl _ _⟩⟩
  case round =>
    obtain ⟨k, hk, rfl, HI⟩ := hrel
    by_cases hlt : (k : Int) < (n : Int)
    · obtain ⟨ad, x, rfl, HX, HO, hxm, x0⟩ := (HR.out.below HI.out.2).at (k := k) (by omega)
      have C := Lib.hid (refCheckL_any x.A x.n x.c x.l wr HO.out.rd)
      go_wp2_with fail
      refine C.out.mono ?_
      rintro e w1 ⟨rfl, hb⟩
      have HB := Lib.hid (Below.thn HI.out.2 hb)
      clear hb C x0
      by_cases hu : Up x.l
      · have hq : upE x.l = 0 := if_pos hu
        have HN : Hid (allUp (ls.take (k + 1))) := Lib.hid (allUp_step HX.out HI.out.1 hu)
        clear hu
        go_wp2
        exact ⟨⟨k + 1, by omega, by go_num, Lib.hid ⟨HN.out, HB.out⟩⟩, by simp [intOf]; omega⟩
      · have hq : upE x.l = 160 := if_neg hu
        have HN : Hid (allE ls = 160) := Lib.hid (if_neg (allUp_no HX.out hu))
        clear hu
        go_wp2
        go_ret
        exact ⟨by rw [HN.out]; rfl, HB.out⟩
    · have HT : Hid (allE ls = 0) := Lib.hid (if_pos (by
        have h := HI.out.1
        have h1 := HLn.out
        rw [List.take_of_length_le (by omega)] at h
        exact h))
      go_wp2
      go_ret
      exact ⟨by rw [HT.out]; rfl, HI.out.2⟩
end Go.Proofs.Ytaaddckhldccjaa
