/- The law ScoreRatio. -/
import Derived.Test.YthliplkkenolgaaLive
import Derived.Lib.MinMax
import Derived.Deep.DeepCutAuto
namespace Go.Proofs.Ythliplkkenolgaa
open Go.RowKit
set_option linter.unusedVariables false
set_option linter.unusedSimpArgs false

theorem log_yesI {a b : Int} (h : 1 ≤ b ∧ b ≤ a ∧ a ≤ 2147483647) : ∃ p q : Nat, a = p ∧ b = q ∧ 1 ≤ q ∧ q ≤ p ∧ p < 2147483648 ∧ logX a b = (logN p q : Nat) ∧ logE a b = 0 := by
  obtain ⟨p, rfl⟩ : ∃ p : Nat, a = p := ⟨a.toNat, by omega⟩
  obtain ⟨q, rfl⟩ : ∃ q : Nat, b = q := ⟨b.toNat, by omega⟩
  have h' : 1 ≤ q ∧ q ≤ p ∧ p < 2147483648 := by omega
  exact ⟨p, q, rfl, rfl, h'.1, h'.2.1, h'.2.2, log_yes h'⟩
theorem rat_self {a b : Int} (h : 1 ≤ b ∧ b ≤ a ∧ a ≤ 2147483647) : logX a a = 0 ∧ logE a a = 0 := by
  obtain ⟨p, q, rfl, rfl, h1, h2, h3, _⟩ := log_yesI h
  have := log_yes (a := p) (b := p) (by omega)
  rw [logN_self (by omega)] at this
  exact this
theorem rat_twice {a b : Int} (h : 1 ≤ b ∧ b ≤ a ∧ a ≤ 1073741823) : logX (2 * a) b = logX a b + 256 ∧ logE (2 * a) b = 0 := by
  obtain ⟨p, q, rfl, rfl, h1, h2, h3, h4, _⟩ := log_yesI (a := a) (b := b) (by omega)
  have := log_yes (a := 2 * p) (b := q) (by omega)
  rw [logN_twice (by omega) h2] at this
  rw [h4]
  simpa using this
theorem rat_more {a b M : Int} (h : 1 ≤ b ∧ b ≤ a ∧ a ≤ 2147483647) (hM : a ≤ M) : (logE M b = 0 ∧ logX a b ≤ logX M b) ∨ logE M b = 220 := by
  by_cases h5 : M ≤ 2147483647
  · obtain ⟨p, q, rfl, rfl, h1, h2, h3, h4, _⟩ := log_yesI h
    obtain ⟨r, s, rfl, e, k1, k2, k3, k4, k5⟩ := log_yesI (a := M) (b := q) (by omega)
    obtain rfl : q = s := by omega
    refine Or.inl ⟨k5, ?_⟩
    rw [h4, k4]
    have := log_mono (a := p) (b := q) (a' := r) (b' := q) (by omega) (by omega) h2 k2 (Nat.mul_le_mul_right _ (by omega))
    omega
  · exact Or.inr (log_no (by omega)).2
theorem rat_den {a b M : Int} (h : 1 ≤ b ∧ b ≤ a ∧ a ≤ 2147483647) (hM : b ≤ M) : (logE a M = 0 ∧ logX a M ≤ logX a b) ∨ logE a M = 220 := by
  by_cases h5 : M ≤ a
  · obtain ⟨p, q, rfl, rfl, h1, h2, h3, h4, _⟩ := log_yesI h
    obtain ⟨s, r, e, rfl, k1, k2, k3, k4, k5⟩ := log_yesI (a := p) (b := M) (by omega)
    obtain rfl : p = s := by omega
    refine Or.inl ⟨k5, ?_⟩
    rw [h4, k4]
    have := log_mono (a := p) (b := r) (a' := p) (b' := q) (by omega) (by omega) k2 h2 (Nat.mul_le_mul_left _ (by omega))
    omega
  · exact Or.inr (log_no (by omega)).2
theorem rat_scale {a b n : Int} (h : 1 ≤ b ∧ b ≤ a ∧ a ≤ 2147483647) (hn : 1 ≤ n) (hq : a * n ≤ 2147483647) : logX (a * n) (b * n) = logX a b ∧ logE (a * n) (b * n) = 0 := by
  obtain ⟨p, q, rfl, rfl, h1, h2, h3, h4, _⟩ := log_yesI h
  obtain ⟨r, rfl⟩ : ∃ r : Nat, n = r := ⟨n.toNat, by omega⟩
  have e1 : 1 * 1 ≤ q * r := Nat.mul_le_mul h1 (by omega)
  have e2 : q * r ≤ p * r := Nat.mul_le_mul_right _ h2
  have hq' : p * r < 2147483648 := by
    have : ((p * r : Nat) : Int) ≤ 2147483647 := by rw [Int.natCast_mul]; exact hq
    omega
  have := log_yes (a := p * r) (b := q * r) (by omega)
  rw [logN_scale (by omega) (by omega) h2, Int.natCast_mul, Int.natCast_mul] at this
  rw [h4]
  exact this
set_option maxRecDepth 100000 in
set_option maxHeartbeats 4000000 in
theorem ratio_walk (a b c k q A M L X2 X3 E2 E3 P Q : Int) (w : World) (ha : 1 ≤ a ∧ a ≤ 2147483647) (hA : 0 ≤ A ∧ A ≤ 8191) (hk : 0 ≤ k ∧ k ≤ 255) (hM : max c a = M) (hL : max c b = L)
    (hq : 2147483647 / (k + 1) = q) (hq' : 1 ≤ q ∧ q ≤ 2147483647)
    (g2 : Hid ((E2 = 0 ∧ A ≤ X2) ∨ E2 = 220)) (g3 : Hid ((E3 = 0 ∧ X3 ≤ A) ∨ E3 = 220))
    (CA : Hid (∀ w : World, Calls Try.prog 8 #[.int .i64 (a), .int .i64 (b)] w fun e w' => e = .returned (.tuple #[.int .i64 (A), .int .i64 (0)]) ∧ w = w'))
    (CS : Hid (∀ w : World, Calls Try.prog 8 #[.int .i64 (a), .int .i64 (a)] w fun e w' => e = .returned (.tuple #[.int .i64 (0), .int .i64 (0)]) ∧ w = w'))
    (CT : a ≤ 1073741823 → Hid (∀ w : World, Calls Try.prog 8 #[.int .i64 (2 * a), .int .i64 (b)] w fun e w' => e = .returned (.tuple #[.int .i64 (A + 256), .int .i64 (0)]) ∧ w = w'))
    (C2 : Hid (∀ w : World, Calls Try.prog 8 #[.int .i64 (M), .int .i64 (b)] w fun e w' => e = .returned (.tuple #[.int .i64 (X2), .int .i64 (E2)]) ∧ w = w'))
    (C3 : Hid (∀ w : World, Calls Try.prog 8 #[.int .i64 (a), .int .i64 (L)] w fun e w' => e = .returned (.tuple #[.int .i64 (X3), .int .i64 (E3)]) ∧ w = w'))
    (C5 : a ≤ q → Hid (∀ w : World, Calls Try.prog 8 #[.int .i64 (P), .int .i64 (Q)] w fun e w' => e = .returned (.tuple #[.int .i64 (A), .int .i64 (0)]) ∧ w = w')) (hP : Hid (a ≤ q → IntKind.i64.wrap (a * (k + 1)) = P ∧ IntKind.i64.wrap (b * (k + 1)) = Q)) :
    Calls Try.prog 4 #[.int .i64 a, .int .i64 b, .int .i64 c, .int .u8 k] w fun e w' => e = .returned (.bool true) ∧ Below w.heap.size w w' := by
  have CT' := Lib.hid CT
  have C5' := Lib.hid C5
  clear CT C5
  go_enter Try.func4, Try.ntmps4
  go_wp2_with fail
  refine (CA.out _).mono ?_
  rintro e w1 ⟨rfl, rfl⟩
  go_wp2_with fail
  refine (live_any _).mono ?_
  rintro e w2 ⟨rfl, hb⟩
  have HB1 := Lib.hid hb
  clear hb
  go_wp2_with fail
  refine (CS.out _).mono ?_
  rintro e w3 ⟨rfl, rfl⟩
  go_upto_if 55 with fail
  go_cut [] (fun wx => w2 = wx)
  case first =>
    by_cases h1 : a ≤ 1073741823
    · have CT := CT'.out h1
      clear CT'
      go_wp2_with fail
      refine (CT.out _).mono ?_
      rintro e w3 ⟨rfl, rfl⟩
      go_wp2_with fail
      go_meet
      case rel => rfl
    · go_wp2_with fail
      go_meet
      case rel => rfl
  case rest =>
    subst hcut
    go_wp2_with fail
    refine (C2.out _).mono ?_
    rintro e w3 ⟨rfl, rfl⟩
    go_upto_region 12 with fail
    go_cut [85] (fun s85 wx => s85 = .bool false ∧ w2 = wx)
    case first =>
      rcases g2.out with ⟨rfl, g⟩ | rfl
      · go_wp2_with fail
        go_meet
        case rel => exact ⟨by rw [decide_eq_false (by omega)], rfl⟩
      · go_wp2_with fail
        go_meet
        case rel => exact ⟨rfl, rfl⟩
    case rest =>
      obtain ⟨rfl, rfl⟩ := hcut
      go_wp2_with fail
      refine (C3.out _).mono ?_
      rintro e w4 ⟨rfl, rfl⟩
      go_upto_region 15 with fail
      go_cut [100] (fun s100 wx => s100 = .bool false ∧ w2 = wx)
      case first =>
        rcases g3.out with ⟨rfl, g⟩ | rfl
        · go_wp2_with fail
          go_meet
          case rel => exact ⟨by rw [decide_eq_false (by omega)], rfl⟩
        · go_wp2_with fail
          go_meet
          case rel => exact ⟨rfl, rfl⟩
      case rest =>
        obtain ⟨rfl, rfl⟩ := hcut
        go_upto_if 107 with fail
        go_cut [] (fun wx => w2 = wx)
        case first =>
          by_cases h5 : a ≤ q
          · have CT := C5'.out h5
            obtain ⟨hP1, hQ1⟩ := hP.out h5
            clear C5' hP
            go_wp2_with fail
            refine (CT.out _).mono ?_
            rintro e w3 ⟨rfl, rfl⟩
            go_wp2_with fail
            go_meet
            case rel => rfl
          · go_wp2_with fail
            go_meet
            case rel => rfl
        case rest =>
          subst hcut
          go_wp2
          go_ret
          exact ⟨rfl, HB1.out⟩
set_option maxRecDepth 100000 in
set_option maxHeartbeats 2000000 in
theorem ratio_no (a b c k : Int) (w : World) (CA : Hid (∀ w : World, Calls Try.prog 8 #[.int .i64 (a), .int .i64 (b)] w fun e w' => e = .returned (.tuple #[.int .i64 (0), .int .i64 (220)]) ∧ w = w')) :
    Calls Try.prog 4 #[.int .i64 a, .int .i64 b, .int .i64 c, .int .u8 k] w fun e w' => e = .returned (.bool true) ∧ Below w.heap.size w w' := by
  go_enter Try.func4, Try.ntmps4
  go_wp2_with fail
  refine (CA.out _).mono ?_
  rintro e w1 ⟨rfl, rfl⟩
  go_wp2_with fail
  refine (live_any _).mono ?_
  rintro e w2 ⟨rfl, hb⟩
  have HB1 := Lib.hid hb
  clear hb
  go_wp2_with fail
  refine (live_any _).mono ?_
  rintro e w3 ⟨rfl, hb⟩
  have HB2 := Lib.hid (Below.thn' HB1.out hb)
  clear hb
  go_wp2
  go_ret
  exact ⟨rfl, HB2.out⟩
theorem ratio_any (a b c k : Int) (w : World) (ha : i64 a) (hb : i64 b) (hc : i64 c) (hk : 0 ≤ k ∧ k ≤ 255) :
    Calls Try.prog 4 #[.int .i64 a, .int .i64 b, .int .i64 c, .int .u8 k] w fun e w' => e = .returned (.bool true) ∧ Below w.heap.size w w' := by
  have hL : ∀ x y X E : Int, i64 x → i64 y → logX x y = X → logE x y = E → Hid (∀ w : World, Calls Try.prog 8 #[.int .i64 (x), .int .i64 (y)] w fun e w' => e = .returned (.tuple #[.int .i64 (X), .int .i64 (E)]) ∧ w = w') := by
    intro x y X E hx hy h1 h2
    exact Lib.hid (fun w => by rw [← h1, ← h2]; exact Log_any x y w hx hy)
  by_cases h : 1 ≤ b ∧ b ≤ a ∧ a ≤ 2147483647
  · have s0 := rat_self h
    have s6 : 0 ≤ logX a b ∧ logX a b ≤ 8191 ∧ logE a b = 0 := by
      obtain ⟨p, q, _, _, h1, h2, h3, h4, h5⟩ := log_yesI h
      have := logN_lt (a := p) (b := q) (by omega) h2 h3
      rw [h4]
      exact ⟨by omega, by omega, h5⟩
    have hn1 : 1 ≤ 2147483647 / (k + 1) ∧ 2147483647 / (k + 1) ≤ 2147483647 := by
      constructor
      · rw [Int.le_ediv_iff_mul_le (by omega)]; omega
      · exact Int.ediv_le_self _ (by decide)
    have hn2 : a ≤ 2147483647 / (k + 1) → a * (k + 1) ≤ 2147483647 := (Int.le_ediv_iff_mul_le (by omega)).1
    have hn3 : 1 ≤ b * (k + 1) ∧ b * (k + 1) ≤ a * (k + 1) := by
      constructor
      · have := Int.mul_le_mul (a := 1) (b := 1) (c := b) (d := k + 1) h.1 (by omega) (by decide) (by omega)
        simpa using this
      · exact Int.mul_le_mul_of_nonneg_right h.2.1 (by omega)
    have hi : ∀ x : Int, 1 ≤ x → x ≤ 2147483647 → i64 x := fun x h1 h2 => ⟨by omega, by omega⟩
    have hmax : ∀ x y : Int, i64 x → i64 y → i64 (max x y) := by
      intro x y h1 h2
      rcases Int.le_total x y with hh | hh
      · rw [Int.max_eq_right hh]; exact h2
      · rw [Int.max_eq_left hh]; exact h1
    refine ratio_walk a b c k _ (logX a b) _ _ (logX (max c a) b) (logX a (max c b)) (logE (max c a) b) (logE a (max c b)) (a * (k + 1)) (b * (k + 1)) w (by omega) ⟨s6.1, s6.2.1⟩ hk rfl rfl rfl hn1
      (Lib.hid (rat_more h (Int.le_max_right _ _))) (Lib.hid (rat_den h (Int.le_max_right _ _)))
      (hL _ _ _ _ ha hb rfl s6.2.2) (hL _ _ _ _ ha ha s0.1 s0.2) (fun h1 => ?_) (hL _ _ _ _ (hmax _ _ hc ha) hb rfl rfl) (hL _ _ _ _ ha (hmax _ _ hc hb) rfl rfl) (fun h1 => ?_) (Lib.hid fun h1 => ?_)
    · have := rat_twice (a := a) (b := b) ⟨h.1, h.2.1, h1⟩
      exact hL _ _ _ _ (hi _ (by omega) (by omega)) hb this.1 this.2
    · have h2 := hn2 h1
      have := rat_scale h (by omega) h2
      exact hL _ _ _ _ (hi _ (by omega) (by omega)) (hi _ (by omega) (by omega)) this.1 this.2
    · have h2 := hn2 h1
      exact ⟨IntWalk.i64_in _ ⟨by omega, by omega⟩, IntWalk.i64_in _ ⟨by omega, by omega⟩⟩
  · exact ratio_no a b c k w (hL _ _ _ _ ha hb (log_no h).1 (log_no h).2)
end Go.Proofs.Ythliplkkenolgaa
