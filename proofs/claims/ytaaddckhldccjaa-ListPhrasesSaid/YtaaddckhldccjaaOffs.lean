/- Offsets; a document's posting, looked for. -/
import Derived.Test.YtaaddckhldccjaaSrch
namespace Go.Proofs.Ytaaddckhldccjaa
open Go.RowKit
set_option linter.unusedVariables false
set_option linter.unusedSimpArgs false

def offAt (l : List Int) (i : Nat) : Prop := l.getD (i - 1) 0 < l.getD i 0 ∧ l.getD i 0 ≤ 1048576
def offOk (l : List Int) (m : Nat) : Prop := l.length = m ∧ 1 ≤ m ∧ m ≤ 16 ∧ l.getD 0 0 = 0 ∧ ∀ i, 0 < i → i < m → offAt l i
open Classical in
noncomputable def offB (l : List Int) (m : Nat) : Bool := decide (offOk l m)
open Classical in
theorem offB_t {l : List Int} {m : Nat} (h : offOk l m) : offB l m = true := decide_eq_true h
open Classical in
theorem offB_f {l : List Int} {m : Nat} (h : ¬ offOk l m) : offB l m = false := decide_eq_false h
set_option maxRecDepth 100000 in
set_option maxHeartbeats 4000000 in
theorem offsets_any (A : Option Addr) (n c : Nat) (l : List Int) (m : Nat) (w : World) (h : Rd encI w A n l) (hm : m ≤ 9223372036854775807) :
    Calls Try.prog 36 #[.slice A n c, .int .i64 (m : Nat)] w fun e w' => e = .returned (.bool (offB l m)) ∧ Below w.heap.size w w' := by
  have HR := Lib.hid h
  have hn := h.max
  have HLn := Lib.hid h.len
  clear h
  by_cases e1 : n = m
  case neg =>
    have hq : ((n : Int) != (m : Int)) = true := by simp; omega
    have HN : Hid (offB l m = false) := Lib.hid (offB_f fun ho => e1 (by rw [← HLn.out, ho.1]))
    clear e1
    go_enter Try.func36, Try.ntmps36
    go_wp2
    go_ret
    exact ⟨by rw [HN.out]; rfl, Below.refl _ _⟩
  subst e1
  have hq : ((n : Int) != (n : Int)) = false := by simp
  by_cases e2 : (n : Int) < 1
  · have HN : Hid (offB l n = false) := Lib.hid (offB_f fun ho => by have := ho.2.1; omega)
    go_enter Try.func36, Try.ntmps36
    go_wp2
    go_ret
    exact ⟨by rw [HN.out]; rfl, Below.refl _ _⟩
  by_cases e3 : (n : Int) > 16
  · have HN : Hid (offB l n = false) := Lib.hid (offB_f fun ho => by have := ho.2.2.1; omega)
    go_enter Try.func36, Try.ntmps36
    go_wp2
    go_ret
    exact ⟨by rw [HN.out]; rfl, Below.refl _ _⟩
  obtain ⟨ad, x, rfl, HX, x0⟩ := rdI_at HR.out (k := 0) (by omega)
  rw [Addr.add_zero'] at x0
  have h0n : (0 : Int) < (n : Int) := by omega
  by_cases e4 : x = 0
  case neg =>
    have hq2 : (x != 0) = true := by simpa using e4
    have HN : Hid (offB l n = false) := Lib.hid (offB_f fun ho => e4 (by have := ho.2.2.2.1; rwa [posAt HX.out] at this))
    clear e4
    go_enter Try.func36, Try.ntmps36
    go_wp2
    go_ret
    exact ⟨by rw [HN.out]; rfl, Below.refl _ _⟩
  subst e4
  have HX0 : Hid (l.getD 0 0 = 0) := Lib.hid (posAt HX.out)
  go_enter Try.func36, Try.ntmps36
  go_wp2_with fail
  clear x0
  go_loopw [5] (fun x wr => ∃ K k : Nat, x = .int .i64 (K : Nat) ∧ Hid (K = k + 1) ∧ Hid ((∀ i, 0 < i → i < k + 1 → offAt l i) ∧ Below w.heap.size w wr)) (fun x _ => n - (intOf x).toNat)
  case atStart => exact ⟨1, 0, rfl, Lib.hid rfl, Lib.hid ⟨fun i h1 h2 => by omega, Below.refl _ _⟩⟩
  case round =>
    obtain ⟨K, k, rfl, HK, HI⟩ := hrel
    have hK1 : K ≤ k + 1 := by have := HK.out; omega
    have hK2 : k + 1 ≤ K := by have := HK.out; omega
    by_cases hlt : (K : Int) < (n : Int)
    · obtain ⟨ad', x, e, HX1, x0⟩ := rdI_at (HR.out.below HI.out.2) (k := k) (by omega)
      cases e
      obtain ⟨ae, y, e, HY, y0⟩ := rdI_at (HR.out.below HI.out.2) (k := K) (by omega)
      cases e
      have hs : (K : Int) - 1 = (k : Int) := by omega
      have HAT : Hid (offAt l K ↔ (x < y ∧ y ≤ 1048576)) := Lib.hid (by
        have h1 := posAt HX1.out
        have h2 := posAt HY.out
        have h3 : K - 1 = k := by omega
        unfold offAt
        rw [h3, h1, h2])
      by_cases hyx : y ≤ x
      · have hd : decide (y ≤ x) = true := decide_eq_true hyx
        have HF : Hid (offB l n = false) := Lib.hid (offB_f fun ho => by
          have := HAT.out.1 (ho.2.2.2.2 K (by omega) (by omega))
          omega)
        go_upto_region 6 with fail
        go_quiet (fail)
        clear x0 y0
        go_wp2
        go_ret
        exact ⟨by rw [HF.out]; rfl, below_drewN HI.out.2 nq⟩
      · have hd : decide (y ≤ x) = false := decide_eq_false hyx
        by_cases hy2 : y > 1048576
        · have HF : Hid (offB l n = false) := Lib.hid (offB_f fun ho => by
            have := HAT.out.1 (ho.2.2.2.2 K (by omega) (by omega))
            omega)
          go_upto_region 6 with fail
          go_quiet (fail)
          clear x0 y0
          go_wp2
          go_ret
          exact ⟨by rw [HF.out]; rfl, below_drewN HI.out.2 nq⟩
        · have HN : Hid (∀ i, 0 < i → i < k + 1 + 1 → offAt l i) := Lib.hid (fun i h1 h2 => by
            rcases Nat.lt_succ_iff_lt_or_eq.1 h2 with h3 | h3
            · exact HI.out.1 i h1 h3
            · have : i = K := by omega
              subst this
              exact HAT.out.2 ⟨by omega, by omega⟩)
          go_upto_region 6 with fail
          go_quiet (fail)
          clear x0 y0
          go_wp2
          exact ⟨⟨K + 1, k + 1, by go_num, Lib.hid (by rw [HK.out]), Lib.hid ⟨HN.out, below_drewN HI.out.2 nq⟩⟩, by simp [intOf]; omega⟩
    · have HT : Hid (offB l n = true) := Lib.hid (offB_t ⟨HLn.out, by omega, by omega, HX0.out, fun i h1 h2 => HI.out.1 i h1 (by omega)⟩)
      go_wp2
      go_ret
      exact ⟨by rw [HT.out]; rfl, HI.out.2⟩
end Go.Proofs.Ytaaddckhldccjaa
