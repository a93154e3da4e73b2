/- Whatever is taken of both: bytes and texts. -/
import Derived.Test.YtljnfciolalbdaaTakes
namespace Go.Proofs.Ytljnfciolalbdaa
open Go.RowKit
set_option linter.unusedVariables false
set_option linter.unusedSimpArgs false

/-- What holds between the two calls. -/
structure TJ (w0 : World) (g1 g2 lo hi h : Nat) (k : Int) (l : List Nat) (e : Int) (L : List Nat) (E : Int) (S : Nat → Prop) (w : World) : Prop where
  b : Below w0.heap.size w0 w
  cell : w.cell? ⟨h, 1, none⟩ = some (.int .i64 k)
  r1 : S 3 → Rdr w g1 L E lo hi
  r0 : ¬ S 3 → Rdr w g1 l e lo hi
  f1 : S 7 → Rf w g2 L E g1
  f0 : ¬ S 7 → Rf w g2 l e g1
  lt : g1 < w.heap.size
structure TC (w0 : World) (g1 g2 lo hi h : Nat) : Prop where
  ne : g1 ≠ g2
  out : ¬ (lo ≤ g2 ∧ g2 < hi)
  out1 : ¬ (lo ≤ g1 ∧ g1 < hi)
  h1 : w0.heap.size ≤ g1
  h2 : w0.heap.size ≤ g2
  n1 : g1 < h
  n2 : g2 < h
section
variable {w0 w w' : World} {g1 g2 lo hi h : Nat} {k : Int} {l L : List Nat} {e E : Int} {S : Nat → Prop}
theorem TJ.same (hj : TJ w0 g1 g2 lo hi h k l e L E S w) {i : Nat} (h3 : i ≠ 3) (h7 : i ≠ 7) : TJ w0 g1 g2 lo hi h k l e L E (fun j => j = i ∨ S j) w :=
  ⟨hj.b, hj.cell, fun hs => hj.r1 (hs.resolve_left (Ne.symm h3)), fun hs => hj.r0 (fun h => hs (.inr h)), fun hs => hj.f1 (hs.resolve_left (Ne.symm h7)), fun hs => hj.f0 (fun h => hs (.inr h)), hj.lt⟩
theorem TJ.below (hj : TJ w0 g1 g2 lo hi h k l e L E S w) (hb : Below w.heap.size w w') : TJ w0 g1 g2 lo hi h k l e L E S w' :=
  ⟨hj.b.trans (hb.mono hj.b.size), (hb.cell (cell_lt' hj.cell)).trans hj.cell, fun hs => (hj.r1 hs).below hb, fun hs => (hj.r0 hs).below hb, fun hs => (hj.f1 hs).below hb, fun hs => (hj.f0 hs).below hb, Nat.lt_of_lt_of_le hj.lt hb.size⟩
theorem TJ.call1 (C : TC w0 g1 g2 lo hi h) (hj : TJ w0 g1 g2 lo hi h k l e L E S w) (hg : w.grownBy w' (some g1)) (hr : Rdr w' g1 L E lo hi) : TJ w0 g1 g2 lo hi h k l e L E (fun j => j = 3 ∨ S j) w' :=
  ⟨below_grown hj.b hg C.h1, (grown_cell hg (cell_lt' hj.cell) (by intro he; injection he with he; have := C.n1; simp only at he; omega)).trans hj.cell, fun _ => hr, fun hs => absurd (.inl rfl) hs,
    fun hs => (hj.f1 (hs.resolve_left (by decide))).kept hg C.ne rfl, fun hs => (hj.f0 (fun h => hs (.inr h))).kept hg C.ne rfl, Nat.lt_of_lt_of_le hj.lt hg.size⟩
theorem TJ.call2 (C : TC w0 g1 g2 lo hi h) (hj : TJ w0 g1 g2 lo hi h k l e L E S w) (h3 : S 3) (hg : w.grownBy w' (some g2)) (hf : Rf w' g2 L E g1) : TJ w0 g1 g2 lo hi h k l e L E (fun j => j = 7 ∨ S j) w' :=
  ⟨below_grown hj.b hg C.h2, (grown_cell hg (cell_lt' hj.cell) (by intro he; injection he with he; have := C.n2; simp only at he; omega)).trans hj.cell,
    fun _ => (hj.r1 h3).kept hg (fun he => by injection he with he; exact C.ne he) (fun k k1 k2 he => by injection he with he; subst he; exact C.out ⟨k1, k2⟩), fun hs => absurd (.inr h3) hs,
    fun _ => hf, fun hs => absurd (.inl rfl) hs, Nat.lt_of_lt_of_le hj.lt hg.size⟩
end
def TK (g1 g2 : Nat) (w w' : World) : Prop := w.grownBy w' (some g1) ∨ w.grownBy w' (some g2)
theorem TK.refl (g1 g2 : Nat) (w : World) : TK g1 g2 w w := .inl (World.grownBy.refl w _)

def takes_5F (g1 g2 h : Nat) (k : Int) (X : List Nat) : Nat → Value → World → Prop
  | 0 => fun v w => v = .pointer (some ⟨g1, 0, none⟩)
  | 1 => fun v w => v = .pointer (some ⟨h, 1, none⟩)
  | 2 => fun v w => v = .int .i64 k
  | 3 => fun v w => BSne w v X g1 g2
  | 4 => fun v w => v = .pointer (some ⟨g2, 0, none⟩)
  | 5 => fun v w => v = .pointer (some ⟨h, 1, none⟩)
  | 6 => fun v w => v = .int .i64 k
  | 7 => fun v w => BSne w v X g2 g1
  | 8 => fun v w => v = .bool true
  | 9 => fun v w => v = .bool true
  | _ => fun _ _ => True
theorem takes_5F.kept (g1 g2 h : Nat) (k : Int) (X : List Nat) : ∀ i v w w', TK g1 g2 w w' → takes_5F g1 g2 h k X i v w → takes_5F g1 g2 h k X i v w'
  | 0, _, _, _, _, hf => hf
  | 1, _, _, _, _, hf => hf
  | 2, _, _, _, _, hf => hf
  | 3, _, _, _, hk, hf => hk.elim (fun a => BSne.kept hf a (.inl rfl)) (fun a => BSne.kept hf a (.inr rfl))
  | 4, _, _, _, _, hf => hf
  | 5, _, _, _, _, hf => hf
  | 6, _, _, _, _, hf => hf
  | 7, _, _, _, hk, hf => hk.elim (fun a => BSne.kept hf a (.inr rfl)) (fun a => BSne.kept hf a (.inl rfl))
  | 8, _, _, _, _, hf => hf
  | 9, _, _, _, _, hf => hf
  | _ + 10, _, _, _, _, _ => trivial

set_option maxRecDepth 100000 in
set_option maxHeartbeats 2000000 in
theorem takes_5 {w0 w : World} {g1 g2 lo hi : Nat} {l : List Nat} {e : Int} (k : Int) (hk : k ≤ 9223372036854775807) (h : Two w0 w g1 g2 lo hi l e) :
    Calls Try.prog 31 #[.pointer (some ⟨g1, 0, none⟩), .pointer (some ⟨g2, 0, none⟩), .agg #[.int .i64 5, .int .i64 k]] w fun e' w' => e' = .returned (.bool true) ∧ Two w0 w' g1 g2 lo hi (rawI k l e).2.1 (rawI k l e).2.2 := by
  have HH := Lib.hid (h.below ((Below.refl w.heap.size w).alloc (Nat.le_refl _) (.cells #[.int .i64 5, .int .i64 k] 50)))
  have HC : Hid (TC w0 g1 g2 lo hi w.heap.size) := Lib.hid ⟨h.ne, h.out, by have := h.r.out; omega, h.h1, h.h2, h.r.lt, h.f.lt⟩
  have HX : Hid ((w.alloc (.cells #[.int .i64 5, .int .i64 k] 50)).cell? ⟨w.heap.size, 1, none⟩ = some (.int .i64 k)) := Lib.hid (World.cell?_alloc_mark w _ _ (0, 0) 1)
  have HKK : Hid (k ≤ 9223372036854775807) := hk
  have hlen := Lib.hid h.len
  clear h hk
  go_enter Try.func31, Try.ntmps31
  go_upto_region 13 with fail
  rename_i K1 hK1
  obtain ⟨X, L, E, hR⟩ : ∃ X L E, rawI k l e = (X, L, E) := ⟨_, _, _, rfl⟩
  refine wp_region_flowJ (by kernel_rfl) (takes_5F g1 g2 w.heap.size k X) (TK g1 g2) (TJ w0 g1 g2 lo hi w.heap.size k l e L E) (takes_5F.kept _ _ _ _ _) ?_ (by kernel_rfl) (by kernel_rfl) ?_ ?_
  case refine_1 =>
    refine TJ.below ?_ ((Below.refl _ _).drew)
    exact ⟨HH.out.b, HX.out, fun h => h.elim, fun _ => HH.out.r, fun h => h.elim, fun _ => HH.out.f, HH.out.r.lt⟩
  case refine_2 =>
    intro i o ho ρ y w5 S hJ hnS hneeds hcl hreg hn hf hyb hyn
    have hi := (Array.getElem?_eq_some_iff.1 ho).1
    rcases Nat.lt_or_ge i 10 with hi2 | hi2
    case inr => simp at hi; omega
    obtain rfl | rfl | rfl | rfl | rfl | rfl | rfl | rfl | rfl | rfl : i = 0 ∨ i = 1 ∨ i = 2 ∨ i = 3 ∨ i = 4 ∨ i = 5 ∨ i = 6 ∨ i = 7 ∨ i = 8 ∨ i = 9 := by omega
    · cases ho
      rw [if_pos (show Region.wanted _ y = true from rfl)]
      have f0 : ρ (.tmp 0) = .pointer (some ⟨g1, 0, none⟩) := hf 0 (by kernel_rfl)
      exact does_ok (v := .pointer (some ⟨g1, 0, none⟩)) (w' := w5) (by simp [go_sem, f0]) ⟨rfl, TK.refl _ _ _, hJ.same (by decide) (by decide)⟩
    · cases ho
      rw [if_pos (show Region.wanted _ y = true from rfl)]
      have f5 : ρ (.tmp 5) = .pointer (some ⟨w.heap.size, 0, none⟩) := hf 5 (by kernel_rfl)
      exact does_ok (v := .pointer (some ⟨w.heap.size, 1, none⟩)) (w' := w5) (by simp [go_sem, f5]) ⟨rfl, TK.refl _ _ _, hJ.same (by decide) (by decide)⟩
    · cases ho
      rw [if_pos (show Region.wanted _ y = true from rfl)]
      have f1 : ρ (.tmp 50) = .pointer (some ⟨w.heap.size, 1, none⟩) := hn 1 _ 50 rfl (by kernel_rfl) rfl
      have hc := hJ.cell
      exact does_ok (v := .int .i64 k) (w' := w5) (by simp [go_sem, f1, hc]) ⟨rfl, TK.refl _ _ _, hJ.same (by decide) (by decide)⟩
    · cases ho
      rw [if_pos (show Region.wanted _ y = true from rfl)]
      have f0 : ρ (.tmp 49) = .pointer (some ⟨g1, 0, none⟩) := hn 0 _ 49 rfl (by kernel_rfl) rfl
      have f2 : ρ (.tmp 51) = .int .i64 k := hn 2 _ 51 rfl (by kernel_rfl) rfl
      refine does_enter (f := 41) (args := #[.pointer (some ⟨g1, 0, none⟩), .int .i64 k]) (w' := w5) (by simp [go_sem, hreg.func, f0, f2]) ?_
      refine (RRaw_any k HKK.out (hJ.r0 hnS)).mono ?_
      rintro e' w6 ⟨r, rfl, hbs, hrd, hgr⟩
      rw [hR] at hbs hrd
      exact ⟨_, rfl, hbs.ne HC.out.out1 HC.out.out, .inl hgr, hJ.call1 HC.out hgr hrd⟩
    · cases ho
      rw [if_pos (show Region.wanted _ y = true from rfl)]
      have f0 : ρ (.tmp 1) = .pointer (some ⟨g2, 0, none⟩) := hf 1 (by kernel_rfl)
      exact does_ok (v := .pointer (some ⟨g2, 0, none⟩)) (w' := w5) (by simp [go_sem, f0]) ⟨rfl, TK.refl _ _ _, hJ.same (by decide) (by decide)⟩
    · cases ho
      rw [if_pos (show Region.wanted _ y = true from rfl)]
      have f5 : ρ (.tmp 5) = .pointer (some ⟨w.heap.size, 0, none⟩) := hf 5 (by kernel_rfl)
      exact does_ok (v := .pointer (some ⟨w.heap.size, 1, none⟩)) (w' := w5) (by simp [go_sem, f5]) ⟨rfl, TK.refl _ _ _, hJ.same (by decide) (by decide)⟩
    · cases ho
      rw [if_pos (show Region.wanted _ y = true from rfl)]
      have f1 : ρ (.tmp 54) = .pointer (some ⟨w.heap.size, 1, none⟩) := hn 5 _ 54 rfl (by kernel_rfl) rfl
      have hc := hJ.cell
      exact does_ok (v := .int .i64 k) (w' := w5) (by simp [go_sem, f1, hc]) ⟨rfl, TK.refl _ _ _, hJ.same (by decide) (by decide)⟩
    · cases ho
      rw [if_pos (show Region.wanted _ y = true from rfl)]
      have f0 : ρ (.tmp 53) = .pointer (some ⟨g2, 0, none⟩) := hn 4 _ 53 rfl (by kernel_rfl) rfl
      have f2 : ρ (.tmp 55) = .int .i64 k := hn 6 _ 55 rfl (by kernel_rfl) rfl
      have h3 := hneeds 3 (by kernel_rfl)
      refine does_enter (f := 47) (args := #[.pointer (some ⟨g2, 0, none⟩), .int .i64 k]) (w' := w5) (by simp [go_sem, hreg.func, f0, f2]) ?_
      refine (rRaw_any k HKK.out (hJ.f0 hnS) hJ.lt hlen.out).mono ?_
      rintro e' w6 ⟨r, rfl, hbs, hrd, hgr⟩
      rw [hR] at hbs hrd
      exact ⟨_, rfl, hbs, .inr hgr, hJ.call2 HC.out h3 hgr hrd⟩
    · cases ho
      rw [if_pos (show Region.wanted _ y = true from rfl)]
      have b1 : BSne w5 (ρ (.tmp 52)) X g1 g2 := hn 3 _ 52 rfl (by kernel_rfl) rfl
      have b2 : BSne w5 (ρ (.tmp 56)) X g2 g1 := hn 7 _ 56 rfl (by kernel_rfl) rfl
      refine does_enter (f := 21) (args := #[ρ (.tmp 52), ρ (.tmp 56)]) (w' := w5) (by simp [go_sem, hreg.func]) ?_
      refine (Same_bs _ b1.bs b2.bs).mono ?_
      rintro e' w6 ⟨rfl, hb⟩
      rw [cmpL_self, decide_eq_true rfl]
      exact ⟨_, rfl, rfl, .inl (grown_below hb _), (hJ.same (by decide) (by decide)).below hb⟩
    · cases ho
      rw [if_pos (show Region.wanted _ y = true from rfl)]
      have f8 : ρ (.tmp 57) = .bool true := hn 8 _ 57 rfl (by kernel_rfl) rfl
      exact does_ok (v := .bool true) (w' := w5) (by simp [go_sem, f8]) ⟨rfl, TK.refl _ _ _, hJ.same (by decide) (by decide)⟩
  case refine_3 =>
    intro a2 w5 S hJ hS hd2 hs2 hfacts hrest
    have f9 : a2.tmps.getD 6 undef = .bool true := hfacts 9 _ 6 rfl rfl
    have h3 := hS 3 (by decide)
    have h7 := hS 7 (by decide)
    have hl : L.length ≤ l.length := by have := rawI_left k l e; rw [hR] at this; exact this
    refine hK1 _ _ ?_
    apply wp_ret
    (try simp only [Exit.inBlock, Exit.then])
    refine bodyPost_ret (results_tmp rfl _ _ _) (by rw [hd2]) ⟨by rw [f9], ?_⟩
    rw [hR]
    exact ⟨hJ.r1 h3, hJ.f1 h7, HC.out.ne, HC.out.out, hJ.b, HC.out.h1, HC.out.h2, Nat.le_trans hl hlen.out⟩

def takes_6F (g1 g2 h : Nat) (k : Int) (X : List Nat) : Nat → Value → World → Prop
  | 0 => fun v w => v = .pointer (some ⟨g1, 0, none⟩)
  | 1 => fun v w => v = .pointer (some ⟨h, 1, none⟩)
  | 2 => fun v w => v = .int .i64 k
  | 3 => fun v w => BSne w v X g1 g2
  | 4 => fun v w => v = .pointer (some ⟨g2, 0, none⟩)
  | 5 => fun v w => v = .pointer (some ⟨h, 1, none⟩)
  | 6 => fun v w => v = .int .i64 k
  | 7 => fun v w => BSne w v X g2 g1
  | 8 => fun v w => v = .bool true
  | 9 => fun v w => v = .bool true
  | _ => fun _ _ => True
theorem takes_6F.kept (g1 g2 h : Nat) (k : Int) (X : List Nat) : ∀ i v w w', TK g1 g2 w w' → takes_6F g1 g2 h k X i v w → takes_6F g1 g2 h k X i v w'
  | 0, _, _, _, _, hf => hf
  | 1, _, _, _, _, hf => hf
  | 2, _, _, _, _, hf => hf
  | 3, _, _, _, hk, hf => hk.elim (fun a => BSne.kept hf a (.inl rfl)) (fun a => BSne.kept hf a (.inr rfl))
  | 4, _, _, _, _, hf => hf
  | 5, _, _, _, _, hf => hf
  | 6, _, _, _, _, hf => hf
  | 7, _, _, _, hk, hf => hk.elim (fun a => BSne.kept hf a (.inr rfl)) (fun a => BSne.kept hf a (.inl rfl))
  | 8, _, _, _, _, hf => hf
  | 9, _, _, _, _, hf => hf
  | _ + 10, _, _, _, _, _ => trivial

set_option maxRecDepth 100000 in
set_option maxHeartbeats 2000000 in
theorem takes_6 {w0 w : World} {g1 g2 lo hi : Nat} {l : List Nat} {e : Int} (d : Int) (hd : d < 0 ∨ 5 < d) (k : Int) (hk : k ≤ 9223372036854775807) (h : Two w0 w g1 g2 lo hi l e) :
    Calls Try.prog 31 #[.pointer (some ⟨g1, 0, none⟩), .pointer (some ⟨g2, 0, none⟩), .agg #[.int .i64 d, .int .i64 k]] w fun e' w' => e' = .returned (.bool true) ∧ Two w0 w' g1 g2 lo hi (txtL k l e).2.1 (txtL k l e).2.2 := by
  have HH := Lib.hid (h.below ((Below.refl w.heap.size w).alloc (Nat.le_refl _) (.cells #[.int .i64 d, .int .i64 k] 50)))
  have HC : Hid (TC w0 g1 g2 lo hi w.heap.size) := Lib.hid ⟨h.ne, h.out, by have := h.r.out; omega, h.h1, h.h2, h.r.lt, h.f.lt⟩
  have HX : Hid ((w.alloc (.cells #[.int .i64 d, .int .i64 k] 50)).cell? ⟨w.heap.size, 1, none⟩ = some (.int .i64 k)) := Lib.hid (World.cell?_alloc_mark w _ _ (0, 0) 1)
  have HKK : Hid (k ≤ 9223372036854775807) := hk
  have hlen := Lib.hid h.len
  clear h hk
  have d0 : (d == 0) = false := by simp; omega
  have d1 : (d == 1) = false := by simp; omega
  have d2 : (d == 2) = false := by simp; omega
  have d3 : (d == 3) = false := by simp; omega
  have d4 : (d == 4) = false := by simp; omega
  have d5 : (d == 5) = false := by simp; omega
  clear hd
  go_enter Try.func31, Try.ntmps31
  go_upto_region 14 with fail
  rename_i K1 hK1
  obtain ⟨X, L, E, hR⟩ : ∃ X L E, txtL k l e = (X, L, E) := ⟨_, _, _, rfl⟩
  refine wp_region_flowJ (by kernel_rfl) (takes_6F g1 g2 w.heap.size k X) (TK g1 g2) (TJ w0 g1 g2 lo hi w.heap.size k l e L E) (takes_6F.kept _ _ _ _ _) ?_ (by kernel_rfl) (by kernel_rfl) ?_ ?_
  case refine_1 =>
    refine TJ.below ?_ ((Below.refl _ _).drew)
    exact ⟨HH.out.b, HX.out, fun h => h.elim, fun _ => HH.out.r, fun h => h.elim, fun _ => HH.out.f, HH.out.r.lt⟩
  case refine_2 =>
    intro i o ho ρ y w5 S hJ hnS hneeds hcl hreg hn hf hyb hyn
    have hi := (Array.getElem?_eq_some_iff.1 ho).1
    rcases Nat.lt_or_ge i 10 with hi2 | hi2
    case inr => simp at hi; omega
    obtain rfl | rfl | rfl | rfl | rfl | rfl | rfl | rfl | rfl | rfl : i = 0 ∨ i = 1 ∨ i = 2 ∨ i = 3 ∨ i = 4 ∨ i = 5 ∨ i = 6 ∨ i = 7 ∨ i = 8 ∨ i = 9 := by omega
    · cases ho
      rw [if_pos (show Region.wanted _ y = true from rfl)]
      have f0 : ρ (.tmp 0) = .pointer (some ⟨g1, 0, none⟩) := hf 0 (by kernel_rfl)
      exact does_ok (v := .pointer (some ⟨g1, 0, none⟩)) (w' := w5) (by simp [go_sem, f0]) ⟨rfl, TK.refl _ _ _, hJ.same (by decide) (by decide)⟩
    · cases ho
      rw [if_pos (show Region.wanted _ y = true from rfl)]
      have f5 : ρ (.tmp 5) = .pointer (some ⟨w.heap.size, 0, none⟩) := hf 5 (by kernel_rfl)
      exact does_ok (v := .pointer (some ⟨w.heap.size, 1, none⟩)) (w' := w5) (by simp [go_sem, f5]) ⟨rfl, TK.refl _ _ _, hJ.same (by decide) (by decide)⟩
    · cases ho
      rw [if_pos (show Region.wanted _ y = true from rfl)]
      have f1 : ρ (.tmp 59) = .pointer (some ⟨w.heap.size, 1, none⟩) := hn 1 _ 59 rfl (by kernel_rfl) rfl
      have hc := hJ.cell
      exact does_ok (v := .int .i64 k) (w' := w5) (by simp [go_sem, f1, hc]) ⟨rfl, TK.refl _ _ _, hJ.same (by decide) (by decide)⟩
    · cases ho
      rw [if_pos (show Region.wanted _ y = true from rfl)]
      have f0 : ρ (.tmp 58) = .pointer (some ⟨g1, 0, none⟩) := hn 0 _ 58 rfl (by kernel_rfl) rfl
      have f2 : ρ (.tmp 60) = .int .i64 k := hn 2 _ 60 rfl (by kernel_rfl) rfl
      refine does_enter (f := 42) (args := #[.pointer (some ⟨g1, 0, none⟩), .int .i64 k]) (w' := w5) (by simp [go_sem, hreg.func, f0, f2]) ?_
      refine (RText_any k HKK.out (hJ.r0 hnS)).mono ?_
      rintro e' w6 ⟨r, rfl, hbs, hrd, hgr⟩
      rw [hR] at hbs hrd
      exact ⟨_, rfl, hbs.ne HC.out.out1 HC.out.out, .inl hgr, hJ.call1 HC.out hgr hrd⟩
    · cases ho
      rw [if_pos (show Region.wanted _ y = true from rfl)]
      have f0 : ρ (.tmp 1) = .pointer (some ⟨g2, 0, none⟩) := hf 1 (by kernel_rfl)
      exact does_ok (v := .pointer (some ⟨g2, 0, none⟩)) (w' := w5) (by simp [go_sem, f0]) ⟨rfl, TK.refl _ _ _, hJ.same (by decide) (by decide)⟩
    · cases ho
      rw [if_pos (show Region.wanted _ y = true from rfl)]
      have f5 : ρ (.tmp 5) = .pointer (some ⟨w.heap.size, 0, none⟩) := hf 5 (by kernel_rfl)
      exact does_ok (v := .pointer (some ⟨w.heap.size, 1, none⟩)) (w' := w5) (by simp [go_sem, f5]) ⟨rfl, TK.refl _ _ _, hJ.same (by decide) (by decide)⟩
    · cases ho
      rw [if_pos (show Region.wanted _ y = true from rfl)]
      have f1 : ρ (.tmp 63) = .pointer (some ⟨w.heap.size, 1, none⟩) := hn 5 _ 63 rfl (by kernel_rfl) rfl
      have hc := hJ.cell
      exact does_ok (v := .int .i64 k) (w' := w5) (by simp [go_sem, f1, hc]) ⟨rfl, TK.refl _ _ _, hJ.same (by decide) (by decide)⟩
    · cases ho
      rw [if_pos (show Region.wanted _ y = true from rfl)]
      have f0 : ρ (.tmp 62) = .pointer (some ⟨g2, 0, none⟩) := hn 4 _ 62 rfl (by kernel_rfl) rfl
      have f2 : ρ (.tmp 64) = .int .i64 k := hn 6 _ 64 rfl (by kernel_rfl) rfl
      have h3 := hneeds 3 (by kernel_rfl)
      refine does_enter (f := 48) (args := #[.pointer (some ⟨g2, 0, none⟩), .int .i64 k]) (w' := w5) (by simp [go_sem, hreg.func, f0, f2]) ?_
      refine (rText_any k HKK.out (hJ.f0 hnS) hJ.lt hlen.out).mono ?_
      rintro e' w6 ⟨r, rfl, hbs, hrd, hgr⟩
      rw [hR] at hbs hrd
      exact ⟨_, rfl, hbs, .inr hgr, hJ.call2 HC.out h3 hgr hrd⟩
    · cases ho
      rw [if_pos (show Region.wanted _ y = true from rfl)]
      have b1 : BSne w5 (ρ (.tmp 61)) X g1 g2 := hn 3 _ 61 rfl (by kernel_rfl) rfl
      have b2 : BSne w5 (ρ (.tmp 65)) X g2 g1 := hn 7 _ 65 rfl (by kernel_rfl) rfl
      refine does_enter (f := 21) (args := #[ρ (.tmp 61), ρ (.tmp 65)]) (w' := w5) (by simp [go_sem, hreg.func]) ?_
      refine (Same_bs _ b1.bs b2.bs).mono ?_
      rintro e' w6 ⟨rfl, hb⟩
      rw [cmpL_self, decide_eq_true rfl]
      exact ⟨_, rfl, rfl, .inl (grown_below hb _), (hJ.same (by decide) (by decide)).below hb⟩
    · cases ho
      rw [if_pos (show Region.wanted _ y = true from rfl)]
      have f8 : ρ (.tmp 66) = .bool true := hn 8 _ 66 rfl (by kernel_rfl) rfl
      exact does_ok (v := .bool true) (w' := w5) (by simp [go_sem, f8]) ⟨rfl, TK.refl _ _ _, hJ.same (by decide) (by decide)⟩
  case refine_3 =>
    intro a2 w5 S hJ hS hd2 hs2 hfacts hrest
    have f9 : a2.tmps.getD 6 undef = .bool true := hfacts 9 _ 6 rfl rfl
    have h3 := hS 3 (by decide)
    have h7 := hS 7 (by decide)
    have hl : L.length ≤ l.length := by have := txtL_left k l e; rw [hR] at this; exact this
    refine hK1 _ _ ?_
    apply wp_ret
    (try simp only [Exit.inBlock, Exit.then])
    refine bodyPost_ret (results_tmp rfl _ _ _) (by rw [hd2]) ⟨by rw [f9], ?_⟩
    rw [hR]
    exact ⟨hJ.r1 h3, hJ.f1 h7, HC.out.ne, HC.out.out, hJ.b, HC.out.h1, HC.out.h2, Nat.le_trans hl hlen.out⟩

theorem takes_any (d k : Int) (l : List Nat) (e : Int) (hk : k ≤ 9223372036854775807) : ∃ (L : List Nat) (E : Int), ∀ (w0 w : World) (g1 g2 lo hi : Nat), Two w0 w g1 g2 lo hi l e →
    Calls Try.prog 31 #[.pointer (some ⟨g1, 0, none⟩), .pointer (some ⟨g2, 0, none⟩), .agg #[.int .i64 d, .int .i64 k]] w fun e' w' => e' = .returned (.bool true) ∧ Two w0 w' g1 g2 lo hi L E := by
  rcases (show d = 0 ∨ d = 1 ∨ d = 2 ∨ d = 3 ∨ d = 4 ∨ d = 5 ∨ (d < 0 ∨ 5 < d) by omega) with rfl | rfl | rfl | rfl | rfl | rfl | hd
  · exact ⟨_, _, fun w0 w g1 g2 lo hi h => takes_0 k h⟩
  · exact ⟨_, _, fun w0 w g1 g2 lo hi h => takes_1 k h⟩
  · exact ⟨_, _, fun w0 w g1 g2 lo hi h => takes_2 k h⟩
  · exact ⟨_, _, fun w0 w g1 g2 lo hi h => takes_3 k h⟩
  · exact ⟨_, _, fun w0 w g1 g2 lo hi h => takes_4 k h⟩
  · exact ⟨_, _, fun w0 w g1 g2 lo hi h => takes_5 k hk h⟩
  · exact ⟨_, _, fun w0 w g1 g2 lo hi h => takes_6 d hd k hk h⟩
end Go.Proofs.Ytljnfciolalbdaa
