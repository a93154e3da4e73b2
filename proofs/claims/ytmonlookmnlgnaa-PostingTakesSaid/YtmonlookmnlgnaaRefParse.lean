/- All postings of bytes: the document's. -/
import Derived.Test.YtmonlookmnlgnaaRefAll
namespace Go.Proofs.Ytmonlookmnlgnaa
open Go.RowKit
set_option linter.unusedVariables false
set_option linter.unusedSimpArgs false

theorem endL_last {l : List (Nat × Po)} {k : Nat} (h : l.length = k + 1) : endL l = (l.getD k (0, 0, [])).1 := by
  rcases List.eq_nil_or_concat l with rfl | ⟨r, x, rfl⟩
  · simp at h
  · simp only [List.concat_eq_append] at h ⊢
    have hr : r.length = k := by simpa using h
    subst hr
    rw [endL_snoc]
    simp
set_option maxRecDepth 100000 in
set_option maxHeartbeats 2000000 in
theorem refParse_any (A : Option Addr) (n c : Nat) (b : List Nat) (w : World) (hl : RdB w A n b) (hc : n ≤ c) (hc2 : c ≤ 9223372036854775807) (hm : n ≤ 1000000) :
    Calls Try.prog 27 #[.slice A n c] w (ParseE b w) := by
  have HLn := Lib.hid hl.len
  have C := Lib.hid (refAll_any A n c b 0 w hl hc hc2 hm (by decide))
  unfold ToldE at C
  clear hl
  go_enter Try.func27, Try.ntmps27
  go_wp2_with fail
  refine C.out.mono ?_
  rintro e w1 ⟨v, u, rfl, hv, hu, hb⟩
  obtain ⟨A5, n5, c5, rfl, h51, h52, h53⟩ := hu
  have hn5 : (allL b 0).length = n5 := by rw [← h53.len]; simp
  have HN5 := Lib.hid hn5
  have HR5 := Lib.hid h53
  have HV := Lib.hid hv
  have HB := Lib.hid hb
  have HEl := Lib.hid (allL_endL b 0)
  clear hv hb h53 hn5 C
  by_cases h0 : (0 : Int) < (n : Int)
  · by_cases h1 : n5 = 0
    · subst h1
      have HP : Hid (prsR b = ([], 150)) := Lib.hid (prsR_no (by
        rw [List.eq_nil_of_length_eq_zero HN5.out, HLn.out]
        show ¬ 0 = n
        omega))
      go_wp2
      go_ret2
      exact ⟨_, by rw [HP.out]; rfl, by rw [HP.out]; exact ⟨_, _, _, rfl, Nat.le_refl _, by decide, RdPo.empty _⟩, HB.out⟩
    · obtain ⟨m5, hm5⟩ : ∃ m5, n5 = m5 + 1 := ⟨n5 - 1, by omega⟩
      obtain ⟨ad, y, rfl, HY, y0⟩ := rdI_at HR5.out (k := m5) (by omega)
      have HE : Hid (endL (allL b 0) = y) := Lib.hid (by
        obtain ⟨_, e⟩ := HY.out
        rw [endL_last (HN5.out.trans hm5), ← e]
        rw [List.getD_eq_getElem?_getD, List.getElem?_eq_getElem (by rw [HN5.out]; omega)]
        simp)
      have q0 : ((n5 : Int) == 0) = false := by simp; omega
      have q3 : (n5 : Int) - 1 = (m5 : Int) := by omega
      have q4 : (m5 : Int) < (n5 : Int) := by omega
      clear hm5 h1
      by_cases hy : y = (n : Int)
      · subst hy
        have HP : Hid (prsR b = ((allL b 0).map (·.2), 0)) := Lib.hid (prsR_yes (by have := HE.out; rw [HLn.out]; omega))
        have q1 : ((n : Int) != (n : Int)) = false := by simp
        go_wp2
        go_ret2
        exact ⟨_, by rw [HP.out]; rfl, by rw [HP.out]; exact HV.out, HB.out⟩
      · have HP : Hid (prsR b = ([], 150)) := Lib.hid (prsR_no (by have := HE.out; rw [HLn.out]; omega))
        have q1 : (y == (n : Int)) = false := by simp [hy]
        have q2 : (y != (n : Int)) = true := by simp [hy]
        go_wp2
        go_ret2
        exact ⟨_, by rw [HP.out]; rfl, by rw [HP.out]; exact ⟨_, _, _, rfl, Nat.le_refl _, by decide, RdPo.empty _⟩, HB.out⟩
  · have HP : Hid (prsR b = ((allL b 0).map (·.2), 0)) := Lib.hid (prsR_yes (by have := HEl.out; rw [HLn.out] at this ⊢; omega))
    go_wp2
    go_ret2
    exact ⟨_, by rw [HP.out]; rfl, by rw [HP.out]; exact HV.out, HB.out⟩
end Go.Proofs.Ytmonlookmnlgnaa
