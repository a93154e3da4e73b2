/- Which runes are letters: the program's and the document's. -/
import Derived.Test.YtbmdjmnjbflfeaaBytes
namespace Go.Proofs.Ytbmdjmnjbflfeaa
open Go.RowKit
set_option linter.unusedVariables false
set_option linter.unusedSimpArgs false

def inB (r a b : Int) : Bool := decide (a ≤ r ∧ r ≤ b)
def letB (r : Int) : Bool := !(r == 215 || r == 247) && (inB r 48 57 || inB r 65 90 || inB r 97 122 || inB r 192 591 || inB r 880 1279)
set_option maxRecDepth 100000 in
theorem within_any (r a b : Int) (w : World) : Calls Try.prog 74 #[.int .i32 r, .int .i32 a, .int .i32 b] w fun e w' => e = .returned (.bool (inB r a b)) ∧ w = w' := by
  by_cases h1 : a ≤ r
  · by_cases h2 : r ≤ b
    · have hv : inB r a b = true := decide_eq_true ⟨h1, h2⟩
      rw [hv]
      clear hv
      go_enter Try.func74, Try.ntmps74
      go_wp2
      go_ret
      exact ⟨rfl, rfl⟩
    · have hv : inB r a b = false := decide_eq_false (fun h => h2 h.2)
      rw [hv]
      clear hv
      go_enter Try.func74, Try.ntmps74
      go_wp2
      go_ret
      exact ⟨rfl, rfl⟩
  · have hv : inB r a b = false := decide_eq_false (fun h => h1 h.1)
    rw [hv]
    clear hv
    go_enter Try.func74, Try.ntmps74
    go_wp2
    go_ret
    exact ⟨rfl, rfl⟩

set_option maxRecDepth 100000 in
set_option maxHeartbeats 1000000 in
theorem Letter_any (r : Int) (w : World) : Calls Try.prog 45 #[.int .i32 r] w fun e w' => e = .returned (.bool (letB r)) ∧ w = w' := by
  cases g1 : (r == 215)
  case true =>
    have hv : letB r = false := by simp [letB, g1]
    rw [hv]
    clear hv
    go_enter Try.func45, Try.ntmps45
    go_wp2
    go_ret
    exact ⟨rfl, rfl⟩
  case false =>
    cases g2 : (r == 247)
    case true =>
      have hv : letB r = false := by simp [letB, g1, g2]
      rw [hv]
      clear hv
      go_enter Try.func45, Try.ntmps45
      go_wp2
      go_ret
      exact ⟨rfl, rfl⟩
    case false =>
      cases h48 : inB r 48 57
      case true =>
        have hv : letB r = true := by simp [letB, g1, g2, h48]
        rw [hv]
        clear hv
        go_enter Try.func45, Try.ntmps45
        go_wp2_with fail
        refine (within_any r 48 57 _).mono ?_
        rintro e w1 ⟨rfl, rfl⟩
        rw [h48]
        go_wp2
        go_ret
        exact ⟨rfl, rfl⟩
      case false =>
        cases h65 : inB r 65 90
        case true =>
          have hv : letB r = true := by simp [letB, g1, g2, h48, h65]
          rw [hv]
          clear hv
          go_enter Try.func45, Try.ntmps45
          go_wp2_with fail
          refine (within_any r 48 57 _).mono ?_
          rintro e w1 ⟨rfl, rfl⟩
          rw [h48]
          go_wp2_with fail
          refine (within_any r 65 90 _).mono ?_
          rintro e w1 ⟨rfl, rfl⟩
          rw [h65]
          go_wp2
          go_ret
          exact ⟨rfl, rfl⟩
        case false =>
          cases h97 : inB r 97 122
          case true =>
            have hv : letB r = true := by simp [letB, g1, g2, h48, h65, h97]
            rw [hv]
            clear hv
            go_enter Try.func45, Try.ntmps45
            go_wp2_with fail
            refine (within_any r 48 57 _).mono ?_
            rintro e w1 ⟨rfl, rfl⟩
            rw [h48]
            go_wp2_with fail
            refine (within_any r 65 90 _).mono ?_
            rintro e w1 ⟨rfl, rfl⟩
            rw [h65]
            go_wp2_with fail
            refine (within_any r 97 122 _).mono ?_
            rintro e w1 ⟨rfl, rfl⟩
            rw [h97]
            go_wp2
            go_ret
            exact ⟨rfl, rfl⟩
          case false =>
            cases h192 : inB r 192 591
            case true =>
              have hv : letB r = true := by simp [letB, g1, g2, h48, h65, h97, h192]
              rw [hv]
              clear hv
              go_enter Try.func45, Try.ntmps45
              go_wp2_with fail
              refine (within_any r 48 57 _).mono ?_
              rintro e w1 ⟨rfl, rfl⟩
              rw [h48]
              go_wp2_with fail
              refine (within_any r 65 90 _).mono ?_
              rintro e w1 ⟨rfl, rfl⟩
              rw [h65]
              go_wp2_with fail
              refine (within_any r 97 122 _).mono ?_
              rintro e w1 ⟨rfl, rfl⟩
              rw [h97]
              go_wp2_with fail
              refine (within_any r 192 591 _).mono ?_
              rintro e w1 ⟨rfl, rfl⟩
              rw [h192]
              go_wp2
              go_ret
              exact ⟨rfl, rfl⟩
            case false =>
              cases h880 : inB r 880 1279
              case true =>
                have hv : letB r = true := by simp [letB, g1, g2, h48, h65, h97, h192, h880]
                rw [hv]
                clear hv
                go_enter Try.func45, Try.ntmps45
                go_wp2_with fail
                refine (within_any r 48 57 _).mono ?_
                rintro e w1 ⟨rfl, rfl⟩
                rw [h48]
                go_wp2_with fail
                refine (within_any r 65 90 _).mono ?_
                rintro e w1 ⟨rfl, rfl⟩
                rw [h65]
                go_wp2_with fail
                refine (within_any r 97 122 _).mono ?_
                rintro e w1 ⟨rfl, rfl⟩
                rw [h97]
                go_wp2_with fail
                refine (within_any r 192 591 _).mono ?_
                rintro e w1 ⟨rfl, rfl⟩
                rw [h192]
                go_wp2_with fail
                refine (within_any r 880 1279 _).mono ?_
                rintro e w1 ⟨rfl, rfl⟩
                rw [h880]
                go_wp2
                go_ret
                exact ⟨rfl, rfl⟩
              case false =>
                have hv : letB r = false := by simp [letB, g1, g2, h48, h65, h97, h192, h880]
                rw [hv]
                clear hv
                go_enter Try.func45, Try.ntmps45
                go_wp2_with fail
                refine (within_any r 48 57 _).mono ?_
                rintro e w1 ⟨rfl, rfl⟩
                rw [h48]
                go_wp2_with fail
                refine (within_any r 65 90 _).mono ?_
                rintro e w1 ⟨rfl, rfl⟩
                rw [h65]
                go_wp2_with fail
                refine (within_any r 97 122 _).mono ?_
                rintro e w1 ⟨rfl, rfl⟩
                rw [h97]
                go_wp2_with fail
                refine (within_any r 192 591 _).mono ?_
                rintro e w1 ⟨rfl, rfl⟩
                rw [h192]
                go_wp2_with fail
                refine (within_any r 880 1279 _).mono ?_
                rintro e w1 ⟨rfl, rfl⟩
                rw [h880]
                go_wp2
                go_ret
                exact ⟨rfl, rfl⟩

set_option maxRecDepth 100000 in
set_option maxHeartbeats 2000000 in
theorem refLetter_any (r : Int) (w : World) : Calls Try.prog 64 #[.int .i32 r] w fun e w' => e = .returned (.bool (letB r)) ∧ w = w' := by
  obtain ⟨B, hB⟩ : ∃ B, B = letB r := ⟨_, rfl⟩
  have HB : Hid (B = decide (¬ (r = 215 ∨ r = 247) ∧ ((48 ≤ r ∧ r ≤ 57) ∨ (65 ≤ r ∧ r ≤ 90) ∨ (97 ≤ r ∧ r ≤ 122) ∨ (192 ≤ r ∧ r ≤ 591) ∨ (880 ≤ r ∧ r ≤ 1279)))) := Lib.hid <| by
    rw [hB, Bool.eq_iff_iff]
    simp [letB, inB]
    first | done | (intros; omega)
  rw [← hB]
  clear hB
  rcases (show r < 48 ∨ (48 ≤ r ∧ r ≤ 57) ∨ (58 ≤ r ∧ r ≤ 64) ∨ (65 ≤ r ∧ r ≤ 90) ∨ (91 ≤ r ∧ r ≤ 96) ∨ (97 ≤ r ∧ r ≤ 122) ∨ (123 ≤ r ∧ r ≤ 191) ∨ (192 ≤ r ∧ r ≤ 214) ∨ r = 215 ∨ (216 ≤ r ∧ r ≤ 246) ∨ r = 247 ∨ (248 ≤ r ∧ r ≤ 591) ∨ (592 ≤ r ∧ r ≤ 879) ∨ (880 ≤ r ∧ r ≤ 1279) ∨ 1280 ≤ r from by omega) with h | h | h | h | h | h | h | h | h | h | h | h | h | h | h
  · have hv : B = false := HB.out.trans (decide_eq_false (by omega))
    subst hv
    go_enter Try.func64, Try.ntmps64
    go_wp2
    all_goals (go_ret; refine ⟨?_, rfl⟩; first | rfl | (exfalso; omega) | (exfalso; simp at *; omega) | (show Ending.returned (.bool _) = _; simp; omega))
  · have hv : B = true := HB.out.trans (decide_eq_true (by omega))
    subst hv
    go_enter Try.func64, Try.ntmps64
    go_wp2
    all_goals (go_ret; refine ⟨?_, rfl⟩; first | rfl | (exfalso; omega) | (exfalso; simp at *; omega) | (show Ending.returned (.bool _) = _; simp; omega))
  · have hv : B = false := HB.out.trans (decide_eq_false (by omega))
    subst hv
    go_enter Try.func64, Try.ntmps64
    go_wp2
    all_goals (go_ret; refine ⟨?_, rfl⟩; first | rfl | (exfalso; omega) | (exfalso; simp at *; omega) | (show Ending.returned (.bool _) = _; simp; omega))
  · have hv : B = true := HB.out.trans (decide_eq_true (by omega))
    subst hv
    go_enter Try.func64, Try.ntmps64
    go_wp2
    all_goals (go_ret; refine ⟨?_, rfl⟩; first | rfl | (exfalso; omega) | (exfalso; simp at *; omega) | (show Ending.returned (.bool _) = _; simp; omega))
  · have hv : B = false := HB.out.trans (decide_eq_false (by omega))
    subst hv
    go_enter Try.func64, Try.ntmps64
    go_wp2
    all_goals (go_ret; refine ⟨?_, rfl⟩; first | rfl | (exfalso; omega) | (exfalso; simp at *; omega) | (show Ending.returned (.bool _) = _; simp; omega))
  · have hv : B = true := HB.out.trans (decide_eq_true (by omega))
    subst hv
    go_enter Try.func64, Try.ntmps64
    go_wp2
    all_goals (go_ret; refine ⟨?_, rfl⟩; first | rfl | (exfalso; omega) | (exfalso; simp at *; omega) | (show Ending.returned (.bool _) = _; simp; omega))
  · have hv : B = false := HB.out.trans (decide_eq_false (by omega))
    subst hv
    go_enter Try.func64, Try.ntmps64
    go_wp2
    all_goals (go_ret; refine ⟨?_, rfl⟩; first | rfl | (exfalso; omega) | (exfalso; simp at *; omega) | (show Ending.returned (.bool _) = _; simp; omega))
  · have hv : B = true := HB.out.trans (decide_eq_true (by omega))
    subst hv
    go_enter Try.func64, Try.ntmps64
    go_wp2
    all_goals (go_ret; refine ⟨?_, rfl⟩; first | rfl | (exfalso; omega) | (exfalso; simp at *; omega) | (show Ending.returned (.bool _) = _; simp; omega))
  · have hv : B = false := HB.out.trans (decide_eq_false (by omega))
    subst hv
    go_enter Try.func64, Try.ntmps64
    go_wp2
    all_goals (go_ret; refine ⟨?_, rfl⟩; first | rfl | (exfalso; omega) | (exfalso; simp at *; omega) | (show Ending.returned (.bool _) = _; simp; omega))
  · have hv : B = true := HB.out.trans (decide_eq_true (by omega))
    subst hv
    go_enter Try.func64, Try.ntmps64
    go_wp2
    all_goals (go_ret; refine ⟨?_, rfl⟩; first | rfl | (exfalso; omega) | (exfalso; simp at *; omega) | (show Ending.returned (.bool _) = _; simp; omega))
  · have hv : B = false := HB.out.trans (decide_eq_false (by omega))
    subst hv
    go_enter Try.func64, Try.ntmps64
    go_wp2
    all_goals (go_ret; refine ⟨?_, rfl⟩; first | rfl | (exfalso; omega) | (exfalso; simp at *; omega) | (show Ending.returned (.bool _) = _; simp; omega))
  · have hv : B = true := HB.out.trans (decide_eq_true (by omega))
    subst hv
    go_enter Try.func64, Try.ntmps64
    go_wp2
    all_goals (go_ret; refine ⟨?_, rfl⟩; first | rfl | (exfalso; omega) | (exfalso; simp at *; omega) | (show Ending.returned (.bool _) = _; simp; omega))
  · have hv : B = false := HB.out.trans (decide_eq_false (by omega))
    subst hv
    go_enter Try.func64, Try.ntmps64
    go_wp2
    all_goals (go_ret; refine ⟨?_, rfl⟩; first | rfl | (exfalso; omega) | (exfalso; simp at *; omega) | (show Ending.returned (.bool _) = _; simp; omega))
  · have hv : B = true := HB.out.trans (decide_eq_true (by omega))
    subst hv
    go_enter Try.func64, Try.ntmps64
    go_wp2
    all_goals (go_ret; refine ⟨?_, rfl⟩; first | rfl | (exfalso; omega) | (exfalso; simp at *; omega) | (show Ending.returned (.bool _) = _; simp; omega))
  · have hv : B = false := HB.out.trans (decide_eq_false (by omega))
    subst hv
    go_enter Try.func64, Try.ntmps64
    go_wp2
    all_goals (go_ret; refine ⟨?_, rfl⟩; first | rfl | (exfalso; omega) | (exfalso; simp at *; omega) | (show Ending.returned (.bool _) = _; simp; omega))
end Go.Proofs.Ytbmdjmnjbflfeaa
