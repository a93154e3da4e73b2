import Derived.Test.YtkkeodlnejckjaaGreatBytes
import Derived.WalkSmall
import Derived.Laws.NewBlocks

/- Which runes are letters: the program's and the document's. -/
namespace Go.Proofs.YtkkeodlnejckjaaGreat
open Go.RowKit
set_option linter.unusedVariables false
set_option linter.unusedSimpArgs false

def inB (r a b : Int) : Bool := decide (a ≤ r ∧ r ≤ b)
def letB (r : Int) : Bool := !(r == 215 || r == 247) && (inB r 48 57 || inB r 65 90 || inB r 97 122 || inB r 192 591 || inB r 880 1279)
set_option maxRecDepth 100000 in
theorem within_any (r a b : Int) (w : World) : Calls Tryz.prog 108 #[.int .i32 r, .int .i32 a, .int .i32 b] w fun e w' => e = .returned (.bool (inB r a b)) ∧ w = w' := by
  by_cases h1 : a ≤ r
  · by_cases h2 : r ≤ b
    · have hv : inB r a b = true := decide_eq_true ⟨h1, h2⟩
      rw [hv]
      clear hv
      go_enter Tryz.func108, Tryz.ntmps108
      go_wp2
      go_ret
      exact ⟨rfl, rfl⟩
    · have hv : inB r a b = false := decide_eq_false (fun h => h2 h.2)
      rw [hv]
      clear hv
      go_enter Tryz.func108, Tryz.ntmps108
      go_wp2
      go_ret
      exact ⟨rfl, rfl⟩
  · have hv : inB r a b = false := decide_eq_false (fun h => h1 h.1)
    rw [hv]
    clear hv
    go_enter Tryz.func108, Tryz.ntmps108
    go_wp2
    go_ret
    exact ⟨rfl, rfl⟩

set_option maxRecDepth 100000 in
set_option maxHeartbeats 1000000 in
theorem Letter_any (r : Int) (w : World) : Calls Tryz.prog 92 #[.int .i32 r] w fun e w' => e = .returned (.bool (letB r)) ∧ w = w' := by
  cases g1 : (r == 215)
  case true =>
    have hv : letB r = false := by simp [letB, g1]
    rw [hv]
    clear hv
    go_enter Tryz.func92, Tryz.ntmps92
    go_wp2
    go_ret
    exact ⟨rfl, rfl⟩
  case false =>
    cases g2 : (r == 247)
    case true =>
      have hv : letB r = false := by simp [letB, g1, g2]
      rw [hv]
      clear hv
      go_enter Tryz.func92, Tryz.ntmps92
      go_wp2
      go_ret
      exact ⟨rfl, rfl⟩
    case false =>
      cases h48 : inB r 48 57
      case true =>
        have hv : letB r = true := by simp [letB, g1, g2, h48]
        rw [hv]
        clear hv
        go_enter Tryz.func92, Tryz.ntmps92
        go_wp2_with fail
        refine (within_any r 48 57 _).mono ?_
        rintro e w1 ⟨rfl, rfl⟩
        rw [h48]
        go_wp2
        go_ret
        exact ⟨rfl, rfl⟩
      case false =>
        cases h65 : inB r 65 90
        case true =>
          have hv : letB r = true := by simp [letB, g1, g2, h48, h65]
          rw [hv]
          clear hv
          go_enter Tryz.func92, Tryz.ntmps92
          go_wp2_with fail
          refine (within_any r 48 57 _).mono ?_
          rintro e w1 ⟨rfl, rfl⟩
          rw [h48]
          go_wp2_with fail
          refine (within_any r 65 90 _).mono ?_
          rintro e w1 ⟨rfl, rfl⟩
          rw [h65]
          go_wp2
          go_ret
          exact ⟨rfl, rfl⟩
        case false =>
          cases h97 : inB r 97 122
          case true =>
            have hv : letB r = true := by simp [letB, g1, g2, h48, h65, h97]
            rw [hv]
            clear hv
            go_enter Tryz.func92, Tryz.ntmps92
            go_wp2_with fail
            refine (within_any r 48 57 _).mono ?_
            rintro e w1 ⟨rfl, rfl⟩
            rw [h48]
            go_wp2_with fail
            refine (within_any r 65 90 _).mono ?_
            rintro e w1 ⟨rfl, rfl⟩
            rw [h65]
            go_wp2_with fail
            refine (within_any r 97 122 _).mono ?_
            rintro e w1 ⟨rfl, rfl⟩
            rw [h97]
            go_wp2
            go_ret
            exact ⟨rfl, rfl⟩
          case false =>
            cases h192 : inB r 192 591
            case true =>
              have hv : letB r = true := by simp [letB, g1, g2, h48, h65, h97, h192]
              rw [hv]
              clear hv
              go_enter Tryz.func92, Tryz.ntmps92
              go_wp2_with fail
              refine (within_any r 48 57 _).mono ?_
              rintro e w1 ⟨rfl, rfl⟩
              rw [h48]
              go_wp2_with fail
              refine (within_any r 65 90 _).mono ?_
              rintro e w1 ⟨rfl, rfl⟩
              rw [h65]
              go_wp2_with fail
              refine (within_any r 97 122 _).mono ?_
              rintro e w1 ⟨rfl, rfl⟩
              rw [h97]
              go_wp2_with fail
              refine (within_any r 192 591 _).mono ?_
              rintro e w1 ⟨rfl, rfl⟩
              rw [h192]
              go_wp2
              go_ret
              exact ⟨rfl, rfl⟩
            case false =>
              cases h880 : inB r 880 1279
              case true =>
                have hv : letB r = true := by simp [letB, g1, g2, h48, h65, h97, h192, h880]
                rw [hv]
                clear hv
                go_enter Tryz.func92, Tryz.ntmps92
                go_wp2_with fail
                refine (within_any r 48 57 _).mono ?_
                rintro e w1 ⟨rfl, rfl⟩
                rw [h48]
                go_wp2_with fail
                refine (within_any r 65 90 _).mono ?_
                rintro e w1 ⟨rfl, rfl⟩
                rw [h65]
                go_wp2_with fail
                refine (within_any r 97 122 _).mono ?_
                rintro e w1 ⟨rfl, rfl⟩
                rw [h97]
                go_wp2_with fail
                refine (within_any r 192 591 _).mono ?_
                rintro e w1 ⟨rfl, rfl⟩
                rw [h192]
                go_wp2_with fail
                refine (within_any r 880 1279 _).mono ?_
                rintro e w1 ⟨rfl, rfl⟩
                rw [h880]
                go_wp2
                go_ret
                exact ⟨rfl, rfl⟩
              case false =>
                have hv : letB r = false := by simp [letB, g1, g2, h48, h65, h97, h192, h880]
                rw [hv]
                clear hv
                go_enter Tryz.func92, Tryz.ntmps92
                go_wp2_with fail
                refine (within_any r 48 57 _).mono ?_
                rintro e w1 ⟨rfl, rfl⟩
                rw [h48]
                go_wp2_with fail
                refine (within_any r 65 90 _).mono ?_
                rintro e w1 ⟨rfl, rfl⟩
                rw [h65]
                go_wp2_with fail
                refine (within_any r 97 122 _).mono ?_
                rintro e w1 ⟨rfl, rfl⟩
                rw [h97]
                go_wp2_with fail
                refine (within_any r 192 591 _).mono ?_
                rintro e w1 ⟨rfl, rfl⟩
                rw [h192]
                go_wp2_with fail
                refine (within_any r 880 1279 _).mono ?_
                rintro e w1 ⟨rfl, rfl⟩
                rw [h880]
                go_wp2
                go_ret
                exact ⟨rfl, rfl⟩

set_option maxRecDepth 100000 in
set_option maxHeartbeats 2000000 in
theorem refLetter_any (r : Int) (w : World) : Calls Tryz.prog 58 #[.int .i32 r] w fun e w' => e = .returned (.bool (letB r)) ∧ w = w' := by
  obtain ⟨B, hB⟩ : ∃ B, B = letB r := ⟨_, rfl⟩
  have HB : Hid (B = decide (¬ (r = 215 ∨ r = 247) ∧ ((48 ≤ r ∧ r ≤ 57) ∨ (65 ≤ r ∧ r ≤ 90) ∨ (97 ≤ r ∧ r ≤ 122) ∨ (192 ≤ r ∧ r ≤ 591) ∨ (880 ≤ r ∧ r ≤ 1279)))) := Lib.hid <| by
    rw [hB, Bool.eq_iff_iff]
    simp [letB, inB]
    first | done | (intros; omega)
  rw [← hB]
  clear hB
  rcases (show r < 48 ∨ (48 ≤ r ∧ r ≤ 57) ∨ (58 ≤ r ∧ r ≤ 64) ∨ (65 ≤ r ∧ r ≤ 90) ∨ (91 ≤ r ∧ r ≤ 96) ∨ (97 ≤ r ∧ r ≤ 122) ∨ (123 ≤ r ∧ r ≤ 191) ∨ (192 ≤ r ∧ r ≤ 214) ∨ r = 215 ∨ (216 ≤ r ∧ r ≤ 246) ∨ r = 247 ∨ (248 ≤ r ∧ r ≤ 591) ∨ (592 ≤ r ∧ r ≤ 879) ∨ (880 ≤ r ∧ r ≤ 1279) ∨ 1280 ≤ r from by omega) with h | h | h | h | h | h | h | h | h | h | h | h | h | h | h
  · have hv : B = false := HB.out.trans (decide_eq_false (by omega))
    subst hv
    go_enter Tryz.func58, Tryz.ntmps58
    go_wp2
    all_goals (go_ret; refine ⟨?_, rfl⟩; first | rfl | (exfalso; omega) | (exfalso; simp at *; omega) | (show Ending.returned (.bool _) = _; simp; omega))
  · have hv : B = true := HB.out.trans (decide_eq_true (by omega))
    subst hv
    go_enter Tryz.func58, Tryz.ntmps58
    go_wp2
    all_goals (go_ret; refine ⟨?_, rfl⟩; first | rfl | (exfalso; omega) | (exfalso; simp at *; omega) | (show Ending.returned (.bool _) = _; simp; omega))
  · have hv : B = false := HB.out.trans (decide_eq_false (by omega))
    subst hv
    go_enter Tryz.func58, Tryz.ntmps58
    go_wp2
    all_goals (go_ret; refine ⟨?_, rfl⟩; first | rfl | (exfalso; omega) | (exfalso; simp at *; omega) | (show Ending.returned (.bool _) = _; simp; omega))
  · have hv : B = true := HB.out.trans (decide_eq_true (by omega))
    subst hv
    go_enter Tryz.func58, Tryz.ntmps58
    go_wp2
    all_goals (go_ret; refine ⟨?_, rfl⟩; first | rfl | (exfalso; omega) | (exfalso; simp at *; omega) | (show Ending.returned (.bool _) = _; simp; omega))
  · have hv : B = false := HB.out.trans (decide_eq_false (by omega))
    subst hv
    go_enter Tryz.func58, Tryz.ntmps58
    go_wp2
    all_goals (go_ret; refine ⟨?_, rfl⟩; first | rfl | (exfalso; omega) | (exfalso; simp at *; omega) | (show Ending.returned (.bool _) = _; simp; omega))
  · have hv : B = true := HB.out.trans (decide_eq_true (by omega))
    subst hv
    go_enter Tryz.func58, Tryz.ntmps58
    go_wp2
    all_goals (go_ret; refine ⟨?_, rfl⟩; first | rfl | (exfalso; omega) | (exfalso; simp at *; omega) | (show Ending.returned (.bool _) = _; simp; omega))
  · have hv : B = false := HB.out.trans (decide_eq_false (by omega))
    subst hv
    go_enter Tryz.func58, Tryz.ntmps58
    go_wp2
    all_goals (go_ret; refine ⟨?_, rfl⟩; first | rfl | (exfalso; omega) | (exfalso; simp at *; omega) | (show Ending.returned (.bool _) = _; simp; omega))
  · have hv : B = true := HB.out.trans (decide_eq_true (by omega))
    subst hv
    go_enter Tryz.func58, Tryz.ntmps58
    go_wp2
    all_goals (go_ret; refine ⟨?_, rfl⟩; first | rfl | (exfalso; omega) | (exfalso; simp at *; omega) | (show Ending.returned (.bool _) = _; simp; omega))
  · have hv : B = false := HB.out.trans (decide_eq_false (by omega))
    subst hv
    go_enter Tryz.func58, Tryz.ntmps58
    go_wp2
    all_goals (go_ret; refine ⟨?_, rfl⟩; first | rfl | (exfalso; omega) | (exfalso; simp at *; omega) | (show Ending.returned (.bool _) = _; simp; omega))
  · have hv : B = true := HB.out.trans (decide_eq_true (by omega))
    subst hv
    go_enter Tryz.func58, Tryz.ntmps58
    go_wp2
    all_goals (go_ret; refine ⟨?_, rfl⟩; first | rfl | (exfalso; omega) | (exfalso; simp at *; omega) | (show Ending.returned (.bool _) = _; simp; omega))
  · have hv : B = false := HB.out.trans (decide_eq_false (by omega))
    subst hv
    go_enter Tryz.func58, Tryz.ntmps58
    go_wp2
    all_goals (go_ret; refine ⟨?_, rfl⟩; first | rfl | (exfalso; omega) | (exfalso; simp at *; omega) | (show Ending.returned (.bool _) = _; simp; omega))
  · have hv : B = true := HB.out.trans (decide_eq_true (by omega))
    subst hv
    go_enter Tryz.func58, Tryz.ntmps58
    go_wp2
    all_goals (go_ret; refine ⟨?_, rfl⟩; first | rfl | (exfalso; omega) | (exfalso; simp at *; omega) | (show Ending.returned (.bool _) = _; simp; omega))
  · have hv : B = false := HB.out.trans (decide_eq_false (by omega))
    subst hv
    go_enter Tryz.func58, Tryz.ntmps58
    go_wp2
    all_goals (go_ret; refine ⟨?_, rfl⟩; first | rfl | (exfalso; omega) | (exfalso; simp at *; omega) | (show Ending.returned (.bool _) = _; simp; omega))
  · have hv : B = true := HB.out.trans (decide_eq_true (by omega))
    subst hv
    go_enter Tryz.func58, Tryz.ntmps58
    go_wp2
    all_goals (go_ret; refine ⟨?_, rfl⟩; first | rfl | (exfalso; omega) | (exfalso; simp at *; omega) | (show Ending.returned (.bool _) = _; simp; omega))
  · have hv : B = false := HB.out.trans (decide_eq_false (by omega))
    subst hv
    go_enter Tryz.func58, Tryz.ntmps58
    go_wp2
    all_goals (go_ret; refine ⟨?_, rfl⟩; first | rfl | (exfalso; omega) | (exfalso; simp at *; omega) | (show Ending.returned (.bool _) = _; simp; omega))
end Go.Proofs.YtkkeodlnejckjaaGreat

/- A table: read; which range folds a rune; what a rune is folded to. -/
namespace Go.Proofs.YtkkeodlnejckjaaGreat
open Go.RowKit
set_option linter.unusedVariables false
set_option linter.unusedSimpArgs false

abbrev Fo := Int × Int × Int
/-- A slice of ranges, read. -/
structure RdT (w : World) (A : Option Addr) (n : Nat) (l : List Fo) : Prop where
  len : l.length = n
  max : n ≤ 9223372036854775807
  cell : 0 < n → ∃ ad, A = some ad ∧ ∀ j (h : j < l.length), w.cell? (ad.add (j * 3)) = some (.int .i32 l[j].1) ∧ w.cell? ⟨(ad.add (j * 3)).block, (ad.add (j * 3)).off + 1, none⟩ = some (.int .i32 l[j].2.1) ∧
    w.cell? ⟨(ad.add (j * 3)).block, (ad.add (j * 3)).off + 2, none⟩ = some (.int .i64 l[j].2.2)
theorem RdT.below {w w' : World} {A : Option Addr} {n : Nat} {l : List Fo} (h : RdT w A n l) (hb : Below w.heap.size w w') : RdT w' A n l :=
  ⟨h.len, h.max, fun hn => by
    obtain ⟨ad, e, hc⟩ := h.cell hn
    refine ⟨ad, e, fun j hj => ?_⟩
    obtain ⟨h1, h2, h3⟩ := hc j hj
    exact ⟨cell_keep hb h1, cell_keep hb h2, cell_keep hb h3⟩⟩
theorem RdT.at {w : World} {A : Option Addr} {n : Nat} {l : List Fo} (h : RdT w A n l) {k : Nat} (hk : k < n) : ∃ ad, A = some ad ∧ ∃ p q m : Int, Hid (∃ hl : k < l.length, l[k] = (p, q, m)) ∧
    w.cell? (ad.add (k * 3)) = some (.int .i32 p) ∧ w.cell? ⟨(ad.add (k * 3)).block, (ad.add (k * 3)).off + 1, none⟩ = some (.int .i32 q) ∧ w.cell? ⟨(ad.add (k * 3)).block, (ad.add (k * 3)).off + 2, none⟩ = some (.int .i64 m) := by
  obtain ⟨ad, e, hc⟩ := h.cell (by omega)
  have hl : k < l.length := by rw [h.len]; exact hk
  exact ⟨ad, e, _, _, _, Lib.hid ⟨hl, rfl⟩, hc k hl⟩
theorem RdT.empty (w : World) : RdT w Option.none 0 [] := ⟨rfl, by decide, fun h => by omega⟩

def hit (r : Int) (x : Fo) : Bool := decide (x.1 ≤ r) && decide (wrap32 (r - x.1) < wrap32 x.2.2)
def fnd (l : List Fo) (r : Int) : Option Fo := l.find? (hit r)
def oneR (l : List Fo) (r : Int) : Int := match fnd l r with
  | none => r
  | some x => wrap32 (x.2.1 + wrap32 (r - x.1))
/-- Where the range lies. -/
def FndAt (A : Option Addr) (l : List Fo) (r : Int) (p : Option Addr) : Prop :=
  (p = none ∧ fnd l r = none) ∨ ∃ (i : Nat) (h : i < l.length) (ad : Addr), A = some ad ∧ p = some (ad.add (i * 3)) ∧ fnd l r = some l[i]
theorem fnd_none {l : List Fo} {r : Int} (h : ∀ j (hj : j < l.length), hit r l[j] = false) : fnd l r = none := by
  unfold fnd
  rw [List.find?_eq_none]
  intro x hx
  obtain ⟨j, hj, rfl⟩ := List.getElem_of_mem hx
  simp [h j hj]
theorem fnd_some {l : List Fo} {r : Int} {k : Nat} (hk : k < l.length) (h : ∀ j (hj : j < l.length), j < k → hit r l[j] = false) (h1 : hit r l[k] = true) : fnd l r = some l[k] := by
  unfold fnd
  rw [List.find?_eq_some_iff_getElem]
  exact ⟨h1, k, hk, rfl, fun j hj => by simp [h j (by omega) hj]⟩

set_option maxRecDepth 100000 in
set_option maxHeartbeats 1000000 in
theorem folds_any (A : Option Addr) (n c : Nat) (l : List Fo) (r : Int) (w : World) (hl : RdT w A n l) :
    Calls Tryz.prog 93 #[.slice A n c, .int .i32 r] w fun e w' => ∃ p, e = .returned (.pointer p) ∧ FndAt A l r p ∧ Below w.heap.size w w' := by
  have HL := Lib.hid hl
  have hn := hl.max
  clear hl
  go_enter Tryz.func93, Tryz.ntmps93
  go_wp2_with fail
  go_loopw [9] (fun x wr => ∃ k : Nat, k ≤ n ∧ x = .int .i64 k ∧ Hid ((∀ j (hj : j < l.length), j < k → hit r l[j] = false) ∧ Below w.heap.size w wr)) (fun x _ => n - (intOf x).toNat)
  case atStart => exact ⟨0, by omega, rfl, Lib.hid ⟨fun j hj h => absurd h (Nat.not_lt_zero _), Below.refl _ _⟩⟩
  case round =>
    obtain ⟨k, hk, rfl, HI⟩ := hrel
    by_cases hlt : (k : Int) < (n : Int)
    · obtain ⟨ad, rfl, p, q, m, HP, e0, e1, e2⟩ := (HL.out.below HI.out.2).at (k := k) (by omega)
      go_upto_region 5 with fail
      by_cases h1 : p ≤ r
      · have g1 : decide (p ≤ r) = true := decide_eq_true h1
        go_quiet (fail)
        clear g1
        go_wp2
        · go_ret
          rename_i h2 _
          obtain ⟨hlk, hx⟩ := HP.out
          refine ⟨_, rfl, .inr ⟨k, hlk, _, rfl, rfl, fnd_some hlk HI.out.1 ?_⟩, below_drewN HI.out.2 nq⟩
          rw [hx]
          simp only [hit, h1, decide_true, Bool.true_and, decide_eq_true_eq]
          omega
        · obtain ⟨hlk, hx⟩ := HP.out
          refine ⟨⟨k + 1, by omega, by go_num, Lib.hid ⟨fun j hj hjk => ?_, below_drewN HI.out.2 nq⟩⟩, by simp [intOf]; omega⟩
          rcases Nat.lt_succ_iff_lt_or_eq.1 hjk with h | rfl
          · exact HI.out.1 j hj h
          · rw [hx]
            simp only [hit, h1, decide_true, Bool.true_and, decide_eq_false_iff_not]
            omega
      · have g1 : decide (p ≤ r) = false := decide_eq_false h1
        have hh : hit r (p, q, m) = false := by simp [hit, h1]
        go_quiet (fail)
        clear g1
        go_wp2
        obtain ⟨hlk, hx⟩ := HP.out
        refine ⟨⟨k + 1, by omega, by go_num, Lib.hid ⟨fun j hj hjk => ?_, below_drewN HI.out.2 nq⟩⟩, by simp [intOf]; omega⟩
        rcases Nat.lt_succ_iff_lt_or_eq.1 hjk with h | rfl
        · exact HI.out.1 j hj h
        · rw [hx]; exact hh
    · have hkn : k = n := by omega
      subst hkn
      go_wp2
      go_ret
      exact ⟨_, rfl, .inl ⟨rfl, fnd_none fun j hj => HI.out.1 j hj (by have := HL.out.len; omega)⟩, HI.out.2⟩

set_option maxRecDepth 100000 in
set_option maxHeartbeats 1000000 in
theorem one_any (A : Option Addr) (n c : Nat) (l : List Fo) (r : Int) (w : World) (hl : RdT w A n l) :
    Calls Tryz.prog 118 #[.slice A n c, .int .i32 r] w fun e w' => e = .returned (.int .i32 (oneR l r)) ∧ Below w.heap.size w w' := by
  have HL := Lib.hid hl
  have C := Lib.hid (folds_any A n c l r w hl)
  obtain ⟨R, hR⟩ : ∃ R, R = oneR l r := ⟨_, rfl⟩
  rw [← hR]
  have HR := Lib.hid hR
  clear hl hR
  go_enter Tryz.func118, Tryz.ntmps118
  go_wp2_with fail
  refine C.out.mono ?_
  rintro e w1 ⟨P, rfl, hf, hb⟩
  have HB := Lib.hid hb
  clear hb
  rcases hf with ⟨rfl, h0⟩ | ⟨i, hi, ad, rfl, rfl, h0⟩
  · have hr : R = r := by rw [HR.out]; simp [oneR, h0]
    subst hr
    go_wp2
    go_ret
    exact ⟨rfl, HB.out⟩
  · obtain ⟨ad', e, p, q, m, HP, e0, e1, e2⟩ := (HL.out.below HB.out).at (k := i) (by rw [← HL.out.len]; exact hi)
    cases e
    have hr : R = wrap32 (q + wrap32 (r - p)) := by
      obtain ⟨_, hx⟩ := HP.out
      rw [HR.out]
      simp [oneR, h0, hx]
    subst hr
    clear h0 e2 HR
    go_upto_region 3 with fail
    go_quiet (fail)
    go_wp2
    go_ret
    exact ⟨rfl, below_drewN HB.out nq⟩
end Go.Proofs.YtkkeodlnejckjaaGreat

/- Which tables may be: the program's. -/
namespace Go.Proofs.YtkkeodlnejckjaaGreat
open Go.RowKit
set_option linter.unusedVariables false
set_option linter.unusedSimpArgs false

theorem letB_rng {r : Int} (h : letB r = true) : 48 ≤ r ∧ r ≤ 1279 := by
  simp [letB, inB] at h
  omega
def Ltr (x : Fo) (k : Int) : Prop := letB x.1 = true ∧ letB x.2.1 = true ∧ letB (x.1 + k) = true ∧ letB (x.2.1 + k) = true
def gd (x : Fo) : Prop := 1 ≤ x.2.2 ∧ x.2.2 ≤ 256 ∧ ∀ k : Nat, (k : Int) < x.2.2 → Ltr x (k : Int)
def asc (l : List Fo) (i : Nat) : Prop := 0 < i → (l.getD (i - 1) (0, 0, 0)).1 + (l.getD (i - 1) (0, 0, 0)).2.2 - 1 < (l.getD i (0, 0, 0)).1
def chk1 (l : List Fo) : Prop := ∀ (i : Nat) (h : i < l.length), gd l[i] ∧ asc l i
def chk2 (l : List Fo) : Prop := ∀ (i : Nat) (h : i < l.length) (k : Nat), (k : Int) < l[i].2.2 → fnd l (l[i].2.1 + (k : Int)) = none
def okTb (l : List Fo) : Prop := l.length ≤ 8 ∧ chk1 l ∧ chk2 l
noncomputable def chkE (l : List Fo) : Int := open Classical in if okTb l then 0 else 130
theorem chk_yes {l : List Fo} (h : okTb l) : chkE l = 0 := if_pos h
theorem chk_no {l : List Fo} (h : ¬ okTb l) : chkE l = 130 := if_neg h
theorem gd_rng {x : Fo} (h : gd x) : 48 ≤ x.1 ∧ x.1 ≤ 1279 ∧ 48 ≤ x.2.1 ∧ x.2.1 ≤ 1279 := by
  have h0 := h.2.2 0 (by have := h.1; omega)
  have h1 := letB_rng h0.1
  have h2 := letB_rng h0.2.1
  omega
theorem RdT.getD {w : World} {A : Option Addr} {n : Nat} {l : List Fo} (h : RdT w A n l) {k : Nat} {x : Fo} (hx : ∃ hl : k < l.length, l[k] = x) : l.getD k (0, 0, 0) = x := by
  obtain ⟨hl, rfl⟩ := hx
  rw [List.getD_eq_getElem?_getD, List.getElem?_eq_getElem hl]; rfl
theorem getD_of {l : List Fo} {k : Nat} {x : Fo} (hx : ∃ hl : k < l.length, l[k] = x) : l.getD k (0, 0, 0) = x := by
  obtain ⟨hl, rfl⟩ := hx
  rw [List.getD_eq_getElem?_getD, List.getElem?_eq_getElem hl]; rfl
theorem no_gd {l : List Fo} {k : Nat} {x : Fo} (hx : ∃ hl : k < l.length, l[k] = x) (h : ¬ gd x) : ¬ okTb l := fun ho => by
  obtain ⟨hl, rfl⟩ := hx
  exact h (ho.2.1 k hl).1
theorem no_ltr {l : List Fo} {k : Nat} {x : Fo} (hx : ∃ hl : k < l.length, l[k] = x) (j : Nat) (hj : (j : Int) < x.2.2) (h : ¬ Ltr x (j : Int)) : ¬ okTb l := no_gd hx fun hg => h (hg.2.2 j hj)
theorem no_asc {l : List Fo} {k : Nat} (hl : k < l.length) (h : ¬ asc l k) : ¬ okTb l := fun ho => h (ho.2.1 k hl).2
theorem no_fnd {l : List Fo} {k : Nat} {x : Fo} (hx : ∃ hl : k < l.length, l[k] = x) (j : Nat) (hj : (j : Int) < x.2.2) (h : fnd l (x.2.1 + (j : Int)) ≠ none) : ¬ okTb l := fun ho => by
  obtain ⟨hl, rfl⟩ := hx
  exact h (ho.2.2 k hl j hj)
/-- A box's cells stay. -/
theorem box3 (w : World) (t : TypeId) (p q m : Int) {w' : World} (hb : Below (w.alloc (.cells #[.int .i32 p, .int .i32 q, .int .i64 m] t)).heap.size (w.alloc (.cells #[.int .i32 p, .int .i32 q, .int .i64 m] t)) w') :
    w'.cell? ⟨w.heap.size, 0, none⟩ = some (.int .i32 p) ∧ w'.cell? ⟨w.heap.size, 1, none⟩ = some (.int .i32 q) ∧ w'.cell? ⟨w.heap.size, 2, none⟩ = some (.int .i64 m) :=
  ⟨(hb.cell (p := ⟨w.heap.size, 0, none⟩) (by simp)).trans (by simp), (hb.cell (p := ⟨w.heap.size, 1, none⟩) (by simp)).trans (by simp), (hb.cell (p := ⟨w.heap.size, 2, none⟩) (by simp)).trans (by simp)⟩

set_option maxRecDepth 100000 in
set_option maxHeartbeats 4000000 in
theorem Check_any (A : Option Addr) (n c : Nat) (l : List Fo) (w : World) (hl : RdT w A n l) :
    Calls Tryz.prog 72 #[.slice A n c] w fun e w' => e = .returned (.int .i64 (chkE l)) ∧ Below w.heap.size w w' := by
  have HL := Lib.hid hl
  have hn := hl.max
  clear hl
  by_cases h8 : (n : Int) > 8
  · have H8 := Lib.hid h8
    go_enter Tryz.func72, Tryz.ntmps72
    go_wp2
    go_ret
    exact ⟨by rw [chk_no (fun h : okTb l => by have := h.1; have := HL.out.len; have := H8.out; omega)]; rfl, Below.refl _ _⟩
  have H8 := Lib.hid h8
  go_enter Tryz.func72, Tryz.ntmps72
  go_wp2_with fail
  go_loopw [14] (fun x wr => ∃ k : Nat, k ≤ n ∧ x = .int .i64 k ∧ Hid ((∀ j (hj : j < l.length), j < k → gd l[j] ∧ asc l j) ∧ Below w.heap.size w wr)) (fun x _ => n - (intOf x).toNat)
  case atStart => exact ⟨0, by omega, rfl, Lib.hid ⟨fun j hj h => absurd h (Nat.not_lt_zero _), Below.refl _ _⟩⟩
  case round =>
    obtain ⟨k, hk, rfl, HI⟩ := hrel
    by_cases hlt : (k : Int) < (n : Int)
    · obtain ⟨ad, rfl, p, q, m, HP, e0, e1, e2⟩ := (HL.out.below HI.out.2).at (k := k) (by omega)
      by_cases hm1 : m < 1
      · have HN : Hid (¬ okTb l) := Lib.hid (no_gd HP.out fun h => by have := h.1; simp at this; omega)
        go_wp2
        go_ret
        exact ⟨by rw [chk_no HN.out]; rfl, HI.out.2.alloc HI.out.2.size _⟩
      by_cases hm2 : m > 256
      · have HN : Hid (¬ okTb l) := Lib.hid (no_gd HP.out fun h => by have := h.2.1; simp at this; omega)
        go_wp2
        go_ret
        exact ⟨by rw [chk_no HN.out]; rfl, HI.out.2.alloc HI.out.2.size _⟩
      have HBx := Lib.hid (HI.out.2.alloc HI.out.2.size (.cells #[.int .i32 p, .int .i32 q, .int .i64 m] 96))
      obtain ⟨c0, c1, c2⟩ := box3 wr 96 p q m (Below.refl _ _)
      go_wp2_with fail
      obtain ⟨g, hg⟩ : ∃ g, g = wr.heap.size := ⟨_, rfl⟩
      have HG := Lib.hid hg
      obtain ⟨wB, hwB⟩ : ∃ wB, wB = wr.alloc (.cells #[.int .i32 p, .int .i32 q, .int .i64 m] 96) := ⟨_, rfl⟩
      rw [← hwB] at c0 c1 c2 HBx ⊢
      rw [← hg] at c0 c1 c2 ⊢
      have HR := Lib.hid hwB
      clear hwB hg e0 e1 e2
      go_loopw [30] (fun x wy => ∃ j : Nat, (j : Int) ≤ m ∧ x = .int .i32 j ∧ wB = wy ∧ Hid (∀ i : Nat, i < j → Ltr (p, q, m) (i : Int))) (fun x _ => (m - intOf x).toNat)
      case atStart => exact ⟨0, by omega, rfl, rfl, Lib.hid fun i h => absurd h (Nat.not_lt_zero _)⟩
      case round =>
        obtain ⟨j, hj, rfl, rfl, HJ⟩ := hrel
        by_cases hjm : (j : Int) < m
        · cases g1 : letB p
          case false =>
            have HN : Hid (¬ okTb l) := Lib.hid (no_ltr HP.out j hjm fun h => by have := h.1; rw [g1] at this; cases this)
            go_wp2_with fail
            refine (Letter_any p _).mono ?_
            rintro e w1 ⟨rfl, rfl⟩
            rw [g1]
            go_wp2
            go_ret
            exact ⟨by rw [chk_no HN.out]; rfl, HBx.out⟩
          obtain ⟨r1, r2⟩ := letB_rng g1
          cases g2 : letB q
          case false =>
            have HN : Hid (¬ okTb l) := Lib.hid (no_ltr HP.out j hjm fun h => by have := h.2.1; rw [g2] at this; cases this)
            go_wp2_with fail
            refine (Letter_any p _).mono ?_
            rintro e w1 ⟨rfl, rfl⟩
            rw [g1]
            go_wp2_with fail
            refine (Letter_any q _).mono ?_
            rintro e w1 ⟨rfl, rfl⟩
            rw [g2]
            go_wp2
            go_ret
            exact ⟨by rw [chk_no HN.out]; rfl, HBx.out⟩
          obtain ⟨s1, s2⟩ := letB_rng g2
          cases g3 : letB (p + (j : Int))
          case false =>
            have HN : Hid (¬ okTb l) := Lib.hid (no_ltr HP.out j hjm fun h => by have := h.2.2.1; rw [g3] at this; cases this)
            go_wp2_with fail
            refine (Letter_any p _).mono ?_
            rintro e w1 ⟨rfl, rfl⟩
            rw [g1]
            go_wp2_with fail
            refine (Letter_any q _).mono ?_
            rintro e w1 ⟨rfl, rfl⟩
            rw [g2]
            go_wp2_with fail
            refine (Letter_any (p + (j : Int)) _).mono ?_
            rintro e w1 ⟨rfl, rfl⟩
            rw [g3]
            go_wp2
            go_ret
            exact ⟨by rw [chk_no HN.out]; rfl, HBx.out⟩
          cases g4 : letB (q + (j : Int))
          case false =>
            have HN : Hid (¬ okTb l) := Lib.hid (no_ltr HP.out j hjm fun h => by have := h.2.2.2; rw [g4] at this; cases this)
            go_wp2_with fail
            refine (Letter_any p _).mono ?_
            rintro e w1 ⟨rfl, rfl⟩
            rw [g1]
            go_wp2_with fail
            refine (Letter_any q _).mono ?_
            rintro e w1 ⟨rfl, rfl⟩
            rw [g2]
            go_wp2_with fail
            refine (Letter_any (p + (j : Int)) _).mono ?_
            rintro e w1 ⟨rfl, rfl⟩
            rw [g3]
            go_wp2_with fail
            refine (Letter_any (q + (j : Int)) _).mono ?_
            rintro e w1 ⟨rfl, rfl⟩
            rw [g4]
            go_wp2
            go_ret
            exact ⟨by rw [chk_no HN.out]; rfl, HBx.out⟩
          have HJ2 : Hid (∀ i : Nat, i < j + 1 → Ltr (p, q, m) (i : Int)) := Lib.hid fun i hi => by
            rcases Nat.lt_succ_iff_lt_or_eq.1 hi with h | rfl
            · exact HJ.out i h
            · exact ⟨g1, g2, g3, g4⟩
          go_wp2_with fail
          refine (Letter_any p _).mono ?_
          rintro e w1 ⟨rfl, rfl⟩
          rw [g1]
          go_wp2_with fail
          refine (Letter_any q _).mono ?_
          rintro e w1 ⟨rfl, rfl⟩
          rw [g2]
          go_wp2_with fail
          refine (Letter_any (p + (j : Int)) _).mono ?_
          rintro e w1 ⟨rfl, rfl⟩
          rw [g3]
          go_wp2_with fail
          refine (Letter_any (q + (j : Int)) _).mono ?_
          rintro e w1 ⟨rfl, rfl⟩
          rw [g4]
          go_wp2
          refine ⟨⟨j + 1, by omega, by go_num, trivial, HJ2⟩, by simp [intOf]; omega⟩
        · have hjm' : (j : Int) = m := by omega
          have HGd : Hid (gd (p, q, m)) := Lib.hid ⟨by simp; omega, by simp; omega, fun i hi => HJ.out i (by simp at hi; omega)⟩
          clear hjm'
          by_cases hk0 : k = 0
          · subst hk0
            have g0 : decide ((0 : Int) < ((0 : Nat) : Int)) = false := by decide
            go_upto_region 14 with fail
            go_quiet (fail)
            clear g0
            go_wp2
            refine ⟨⟨1, by omega, by first | rfl | go_num, Lib.hid ⟨fun i hi h => ?_, below_drewN HBx.out nq⟩⟩, by simp [intOf]; omega⟩
            obtain rfl : i = 0 := by omega
            obtain ⟨_, hx⟩ := HP.out
            exact ⟨by rw [hx]; exact HGd.out, fun h => absurd h (Nat.lt_irrefl _)⟩
          · have g0 : decide (0 < k) = true := decide_eq_true (by omega)
            obtain ⟨ad', e, p', q', m', HP', e0, e1, e2⟩ := (HL.out.below HBx.out).at (k := k - 1) (by omega)
            cases e
            have HGd' : Hid (gd (p', q', m')) := Lib.hid <| by
              obtain ⟨h1, h2⟩ := HP'.out
              have := (HI.out.1 (k - 1) h1 (by omega)).1
              rwa [h2] at this
            obtain ⟨r1, r2, _, _⟩ := gd_rng HGd'.out
            have r3 := HGd'.out.1
            have r4 := HGd'.out.2.1
            simp only at r1 r2 r3 r4
            have q1 : (0 : Int) ≤ (k : Int) - 1 := by omega
            have q2 : (k : Int) - 1 < (n : Int) := by omega
            by_cases has : p ≤ p' + m' - 1
            · have HN : Hid (¬ okTb l) := Lib.hid (no_asc (k := k) HP.out.1 fun h => by
                have := h (by omega)
                rw [getD_of HP.out, getD_of HP'.out] at this
                simp at this
                omega)
              have g4 : decide (p ≤ p' + m' - 1) = true := decide_eq_true has
              go_upto_region 14 with fail
              go_quiet (fail)
              clear g0 g4 e0 e1 e2
              go_wp2
              go_ret
              exact ⟨by rw [chk_no HN.out]; rfl, below_drewN HBx.out nq⟩
            · have HA : Hid (asc l k) := Lib.hid fun _ => by
                rw [getD_of HP.out, getD_of HP'.out]
                simp
                omega
              have g4 : decide (p ≤ p' + m' - 1) = false := decide_eq_false has
              go_upto_region 14 with fail
              go_quiet (fail)
              clear g0 g4 e0 e1 e2
              go_wp2
              refine ⟨⟨k + 1, by omega, by go_num, Lib.hid ⟨fun i hi h => ?_, below_drewN HBx.out nq⟩⟩, by simp [intOf]; omega⟩
              rcases Nat.lt_succ_iff_lt_or_eq.1 h with h | rfl
              · exact HI.out.1 i hi h
              · obtain ⟨_, hx⟩ := HP.out
                exact ⟨by rw [hx]; exact HGd.out, HA.out⟩
    · have hkn : k = n := by omega
      have H1 : Hid (chk1 l) := Lib.hid fun i hi => HI.out.1 i hi (by have := HL.out.len; omega)
      have HB1 := Lib.hid HI.out.2
      subst hkn
      clear HI
      go_wp2_with fail
      go_loopw [85] (fun x wx => ∃ i : Nat, i ≤ k ∧ x = .int .i64 i ∧ Hid ((∀ (j : Nat) (hj : j < l.length), j < i → ∀ y : Nat, (y : Int) < l[j].2.2 → fnd l (l[j].2.1 + (y : Int)) = none) ∧ Below w.heap.size w wx)) (fun x _ => k - (intOf x).toNat)
      case atStart => exact ⟨0, by omega, rfl, Lib.hid ⟨fun j hj h => absurd h (Nat.not_lt_zero _), HB1.out⟩⟩
      case round =>
        obtain ⟨i, hi, rfl, HI⟩ := hrel
        by_cases hlt : (i : Int) < (k : Int)
        · obtain ⟨ad, rfl, p, q, m, HP, e0, e1, e2⟩ := (HL.out.below HI.out.2).at (k := i) (by omega)
          have HGd : Hid (gd (p, q, m)) := Lib.hid <| by
            obtain ⟨h1, h2⟩ := HP.out
            have := (H1.out i h1).1
            rwa [h2] at this
          obtain ⟨_, _, r1, r2⟩ := gd_rng HGd.out
          have r3 := HGd.out.1
          have r4 := HGd.out.2.1
          simp only at r1 r2 r3 r4
          have HBx := Lib.hid (HI.out.2.alloc HI.out.2.size (.cells #[.int .i32 p, .int .i32 q, .int .i64 m] 96))
          have HBox : Hid (∀ w', Below (wr.alloc (.cells #[.int .i32 p, .int .i32 q, .int .i64 m] 96)).heap.size (wr.alloc (.cells #[.int .i32 p, .int .i32 q, .int .i64 m] 96)) w' → w'.cell? ⟨wr.heap.size, 0, none⟩ = some (.int .i32 p) ∧ w'.cell? ⟨wr.heap.size, 1, none⟩ = some (.int .i32 q) ∧ w'.cell? ⟨wr.heap.size, 2, none⟩ = some (.int .i64 m)) := Lib.hid fun w' hb => box3 wr 96 p q m hb
          go_wp2_with fail
          obtain ⟨g, hg⟩ : ∃ g, g = wr.heap.size := ⟨_, rfl⟩
          have HG := Lib.hid hg
          obtain ⟨wB, hwB⟩ : ∃ wB, wB = wr.alloc (.cells #[.int .i32 p, .int .i32 q, .int .i64 m] 96) := ⟨_, rfl⟩
          rw [← hwB] at HBox HBx ⊢
          rw [← hg] at HBox ⊢
          have HR := Lib.hid hwB
          clear hwB hg e0 e1 e2
          go_loopw [92] (fun x wy => ∃ j : Nat, (j : Int) ≤ m ∧ x = .int .i32 j ∧ Hid ((∀ y : Nat, y < j → fnd l (q + (y : Int)) = none) ∧ Below wB.heap.size wB wy)) (fun x _ => (m - intOf x).toNat)
          case atStart => exact ⟨0, by omega, rfl, Lib.hid ⟨fun i h => absurd h (Nat.not_lt_zero _), Below.refl _ _⟩⟩
          case round =>
            rename_i wy _ _ _ _ _ _ _
            obtain ⟨j, hj, rfl, HJ⟩ := hrel
            have HBy := Lib.hid (HBx.out.trans (HJ.out.2.mono HBx.out.size))
            by_cases hjm : (j : Int) < m
            · obtain ⟨c0, c1, c2⟩ := HBox.out _ HJ.out.2
              have C := Lib.hid (folds_any (some ad) k c l (q + (j : Int)) _ (HL.out.below HBy.out))
              go_wp2_with fail
              refine C.out.mono ?_
              rintro e w1 ⟨P, rfl, hf, hb⟩
              have HB2 := Lib.hid (And.intro (Below.thn HBy.out hb) (Below.thn HJ.out.2 hb))
              clear hb c0 c1 c2
              rcases hf with ⟨rfl, h0⟩ | ⟨i', hi', ad', e, rfl, h0⟩
              · have HJ2 : Hid (∀ y : Nat, y < j + 1 → fnd l (q + (y : Int)) = none) := Lib.hid fun y hy => by
                  rcases Nat.lt_succ_iff_lt_or_eq.1 hy with h | rfl
                  · exact HJ.out.1 y h
                  · exact h0
                clear h0
                go_wp2
                refine ⟨⟨j + 1, by omega, by go_num, Lib.hid ⟨HJ2.out, HB2.out.2⟩⟩, by simp [intOf]; omega⟩
              · have HN : Hid (¬ okTb l) := Lib.hid (no_fnd HP.out j hjm (by rw [h0]; exact Option.some_ne_none _))
                clear h0 e
                go_wp2
                go_ret
                exact ⟨by rw [chk_no HN.out]; rfl, HB2.out.1⟩
            · have HF : Hid (∀ (j : Nat) (hj : j < l.length), j < i + 1 → ∀ y : Nat, (y : Int) < l[j].2.2 → fnd l (l[j].2.1 + (y : Int)) = none) := Lib.hid fun j' hj' hji y hy => by
                rcases Nat.lt_succ_iff_lt_or_eq.1 hji with h | rfl
                · exact HI.out.1 j' hj' h y hy
                · obtain ⟨_, hx⟩ := HP.out
                  rw [hx] at hy ⊢
                  exact HJ.out.1 y (by simp at hy; omega)
              go_wp2
              refine ⟨⟨i + 1, by omega, by go_num, Lib.hid ⟨HF.out, HBy.out⟩⟩, by simp [intOf]; omega⟩
        · have HOk : Hid (okTb l) := Lib.hid ⟨by have := HL.out.len; have := H8.out; omega, H1.out, fun j hj => HI.out.1 j hj (by have := HL.out.len; omega)⟩
          go_wp2
          go_ret
          exact ⟨by rw [chk_yes HOk.out]; rfl, HI.out.2⟩
end Go.Proofs.YtkkeodlnejckjaaGreat
