/- A table: read; which range folds a rune; what a rune is folded to. -/
import Derived.Test.YtbmdjmnjbflfeaaLetter
import Derived.WalkSmall
namespace Go.Proofs.Ytbmdjmnjbflfeaa
open Go.RowKit
set_option linter.unusedVariables false
set_option linter.unusedSimpArgs false

abbrev Fo := Int × Int × Int
/-- A slice of ranges, read. -/
structure RdT (w : World) (A : Option Addr) (n : Nat) (l : List Fo) : Prop where
  len : l.length = n
  max : n ≤ 9223372036854775807
  cell : 0 < n → ∃ ad, A = some ad ∧ ∀ j (h : j < l.length), w.cell? (ad.add (j * 3)) = some (.int .i32 l[j].1) ∧ w.cell? ⟨(ad.add (j * 3)).block, (ad.add (j * 3)).off + 1, none⟩ = some (.int .i32 l[j].2.1) ∧
    w.cell? ⟨(ad.add (j * 3)).block, (ad.add (j * 3)).off + 2, none⟩ = some (.int .i64 l[j].2.2)
theorem RdT.below {w w' : World} {A : Option Addr} {n : Nat} {l : List Fo} (h : RdT w A n l) (hb : Below w.heap.size w w') : RdT w' A n l :=
  ⟨h.len, h.max, fun hn => by
    obtain ⟨ad, e, hc⟩ := h.cell hn
    refine ⟨ad, e, fun j hj => ?_⟩
    obtain ⟨h1, h2, h3⟩ := hc j hj
    exact ⟨cell_keep hb h1, cell_keep hb h2, cell_keep hb h3⟩⟩
theorem RdT.at {w : World} {A : Option Addr} {n : Nat} {l : List Fo} (h : RdT w A n l) {k : Nat} (hk : k < n) : ∃ ad, A = some ad ∧ ∃ p q m : Int, Hid (∃ hl : k < l.length, l[k] = (p, q, m)) ∧
    w.cell? (ad.add (k * 3)) = some (.int .i32 p) ∧ w.cell? ⟨(ad.add (k * 3)).block, (ad.add (k * 3)).off + 1, none⟩ = some (.int .i32 q) ∧ w.cell? ⟨(ad.add (k * 3)).block, (ad.add (k * 3)).off + 2, none⟩ = some (.int .i64 m) := by
  obtain ⟨ad, e, hc⟩ := h.cell (by omega)
  have hl : k < l.length := by rw [h.len]; exact hk
  exact ⟨ad, e, _, _, _, Lib.hid ⟨hl, rfl⟩, hc k hl⟩
theorem RdT.empty (w : World) : RdT w Option.none 0 [] := ⟨rfl, by decide, fun h => by omega⟩

def hit (r : Int) (x : Fo) : Bool := decide (x.1 ≤ r) && decide (wrap32 (r - x.1) < wrap32 x.2.2)
def fnd (l : List Fo) (r : Int) : Option Fo := l.find? (hit r)
def oneR (l : List Fo) (r : Int) : Int := match fnd l r with
  | none => r
  | some x => wrap32 (x.2.1 + wrap32 (r - x.1))
/-- Where the range lies. -/
def FndAt (A : Option Addr) (l : List Fo) (r : Int) (p : Option Addr) : Prop :=
  (p = none ∧ fnd l r = none) ∨ ∃ (i : Nat) (h : i < l.length) (ad : Addr), A = some ad ∧ p = some (ad.add (i * 3)) ∧ fnd l r = some l[i]
theorem fnd_none {l : List Fo} {r : Int} (h : ∀ j (hj : j < l.length), hit r l[j] = false) : fnd l r = none := by
  unfold fnd
  rw [List.find?_eq_none]
  intro x hx
  obtain ⟨j, hj, rfl⟩ := List.getElem_of_mem hx
  simp [h j hj]
theorem fnd_some {l : List Fo} {r : Int} {k : Nat} (hk : k < l.length) (h : ∀ j (hj : j < l.length), j < k → hit r l[j] = false) (h1 : hit r l[k] = true) : fnd l r = some l[k] := by
  unfold fnd
  rw [List.find?_eq_some_iff_getElem]
  exact ⟨h1, k, hk, rfl, fun j hj => by simp [h j (by omega) hj]⟩

set_option maxRecDepth 100000 in
set_option maxHeartbeats 1000000 in
theorem folds_any (A : Option Addr) (n c : Nat) (l : List Fo) (r : Int) (w : World) (hl : RdT w A n l) :
    Calls Try.prog 92 #[.slice A n c, .int .i32 r] w fun e w' => ∃ p, e = .returned (.pointer p) ∧ FndAt A l r p ∧ Below w.heap.size w w' := by
  have HL := Lib.hid hl
  have hn := hl.max
  clear hl
  go_enter Try.func92, Try.ntmps92
  go_wp2_with fail
  go_loopw [9] (fun x wr => ∃ k : Nat, k ≤ n ∧ x = .int .i64 k ∧ Hid ((∀ j (hj : j < l.length), j < k → hit r l[j] = false) ∧ Below w.heap.size w wr)) (fun x _ => n - (intOf x).toNat)
  case atStart => exact ⟨0, by omega, rfl, Lib.hid ⟨fun j hj h => absurd h (Nat.not_lt_zero _), Below.refl _ _⟩⟩
  case round =>
    obtain ⟨k, hk, rfl, HI⟩ := hrel
    by_cases hlt : (k : Int) < (n : Int)
    · obtain ⟨ad, rfl, p, q, m, HP, e0, e1, e2⟩ := (HL.out.below HI.out.2).at (k := k) (by omega)
      go_upto_region 5 with fail
      by_cases h1 : p ≤ r
      · have g1 : decide (p ≤ r) = true := decide_eq_true h1
        go_quiet (fail)
        clear g1
        go_wp2
        · go_ret
          rename_i h2 _
          obtain ⟨hlk, hx⟩ := HP.out
          refine ⟨_, rfl, .inr ⟨k, hlk, _, rfl, rfl, fnd_some hlk HI.out.1 ?_⟩, below_drewN HI.out.2 nq⟩
          rw [hx]
          simp only [hit, h1, decide_true, Bool.true_and, decide_eq_true_eq]
          omega
        · obtain ⟨hlk, hx⟩ := HP.out
          refine ⟨⟨k + 1, by omega, by go_num, Lib.hid ⟨fun j hj hjk => ?_, below_drewN HI.out.2 nq⟩⟩, by simp [intOf]; omega⟩
          rcases Nat.lt_succ_iff_lt_or_eq.1 hjk with h | rfl
          · exact HI.out.1 j hj h
          · rw [hx]
            simp only [hit, h1, decide_true, Bool.true_and, decide_eq_false_iff_not]
            omega
      · have g1 : decide (p ≤ r) = false := decide_eq_false h1
        have hh : hit r (p, q, m) = false := by simp [hit, h1]
        go_quiet (fail)
        clear g1
        go_wp2
        obtain ⟨hlk, hx⟩ := HP.out
        refine ⟨⟨k + 1, by omega, by go_num, Lib.hid ⟨fun j hj hjk => ?_, below_drewN HI.out.2 nq⟩⟩, by simp [intOf]; omega⟩
        rcases Nat.lt_succ_iff_lt_or_eq.1 hjk with h | rfl
        · exact HI.out.1 j hj h
        · rw [hx]; exact hh
    · have hkn : k = n := by omega
      subst hkn
      go_wp2
      go_ret
      exact ⟨_, rfl, .inl ⟨rfl, fnd_none fun j hj => HI.out.1 j hj (by have := HL.out.len; omega)⟩, HI.out.2⟩

set_option maxRecDepth 100000 in
set_option maxHeartbeats 1000000 in
theorem one_any (A : Option Addr) (n c : Nat) (l : List Fo) (r : Int) (w : World) (hl : RdT w A n l) :
    Calls Try.prog 114 #[.slice A n c, .int .i32 r] w fun e w' => e = .returned (.int .i32 (oneR l r)) ∧ Below w.heap.size w w' := by
  have HL := Lib.hid hl
  have C := Lib.hid (folds_any A n c l r w hl)
  obtain ⟨R, hR⟩ : ∃ R, R = oneR l r := ⟨_, rfl⟩
  rw [← hR]
  have HR := Lib.hid hR
  clear hl hR
  go_enter Try.func114, Try.ntmps114
  go_wp2_with fail
  refine C.out.mono ?_
  rintro e w1 ⟨P, rfl, hf, hb⟩
  have HB := Lib.hid hb
  clear hb
  rcases hf with ⟨rfl, h0⟩ | ⟨i, hi, ad, rfl, rfl, h0⟩
  · have hr : R = r := by rw [HR.out]; simp [oneR, h0]
    subst hr
    go_wp2
    go_ret
    exact ⟨rfl, HB.out⟩
  · obtain ⟨ad', e, p, q, m, HP, e0, e1, e2⟩ := (HL.out.below HB.out).at (k := i) (by rw [← HL.out.len]; exact hi)
    cases e
    have hr : R = wrap32 (q + wrap32 (r - p)) := by
      obtain ⟨_, hx⟩ := HP.out
      rw [HR.out]
      simp [oneR, h0, hx]
    subst hr
    clear h0 e2 HR
    go_upto_region 3 with fail
    go_quiet (fail)
    go_wp2
    go_ret
    exact ⟨rfl, below_drewN HB.out nq⟩
end Go.Proofs.Ytbmdjmnjbflfeaa
