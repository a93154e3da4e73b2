/- What is told of any bytes rises: plain. -/
import Derived.Test.YtmonlookmnlgnaaBackMath
import Derived.Test.YtmonlookmnlgnaaTold
namespace Go.Proofs.Ytmonlookmnlgnaa
open Go.RowKit
set_option linter.unusedVariables false
set_option linter.unusedSimpArgs false

def chn : Nat → Nat → List (Nat × Po) → Prop
  | _, _, [] => True
  | at_, prev, x :: r => at_ < x.1 ∧ prev < x.2.1 ∧ okP prev x.2 ∧ chn x.1 x.2.1 r
theorem chn_all (b : List Nat) : ∀ (f at_ prev : Nat), chn at_ prev (allF b f at_ prev)
  | 0, _, _ => trivial
  | f + 1, at_, prev => by
    unfold allF
    by_cases h : at_ < b.length ∧ (tkR b (at_ : Int) prev).2.2 = 0
    · rw [if_pos h]
      have h1 := tkR_ok h.2
      refine ⟨by simp only; omega, h1.2.2.1, h1.2.2, ?_⟩
      simp only
      exact chn_all b f _ _
    · rw [if_neg h]; trivial
theorem chn_gt : ∀ (l : List (Nat × Po)) (at_ prev : Nat), chn at_ prev l → ∀ y ∈ l, prev < y.2.1
  | [], _, _, _, y, hy => by cases hy
  | x :: r, at_, prev, h, y, hy => by
    rcases List.mem_cons.1 hy with rfl | hy
    · exact h.2.1
    · have := chn_gt r _ _ h.2.2.2 y hy
      have := h.2.1
      omega
theorem chn_find : ∀ (l : List (Nat × Po)) (at_ prev : Nat), chn at_ prev l → ∀ (i : Nat) (hi : i < l.length), fndP l l[i].2.1 = (l[i].2, true)
  | x :: r, at_, prev, h, 0, hi => by
    simp only [List.getElem_cons_zero]
    unfold fndP
    rw [if_pos (Nat.le_refl _), if_pos rfl]
  | x :: r, at_, prev, h, i + 1, hi => by
    have hi' : i < r.length := by simpa using hi
    simp only [List.getElem_cons_succ]
    have h1 := chn_gt r _ _ h.2.2.2 (r[i]'hi') (List.getElem_mem _)
    unfold fndP
    rw [if_neg (by omega)]
    exact chn_find r _ _ h.2.2.2 i hi'
def docP (prev : Nat) (l : List (Nat × Po)) (k : Nat) : Nat := if k = 0 then prev else (l.getD (k - 1) (0, 0, [])).2.1
def endP (at_ : Nat) (l : List (Nat × Po)) (k : Nat) : Nat := if k = 0 then at_ else (l.getD (k - 1) (0, 0, [])).1
theorem docP_succ (prev : Nat) (l : List (Nat × Po)) (k : Nat) : docP prev l (k + 1) = (l.getD k (0, 0, [])).2.1 := by unfold docP; rw [if_neg (by omega), Nat.add_sub_cancel]
theorem endP_succ (prev : Nat) (l : List (Nat × Po)) (k : Nat) : endP prev l (k + 1) = (l.getD k (0, 0, [])).1 := by unfold endP; rw [if_neg (by omega), Nat.add_sub_cancel]
theorem chn_at : ∀ (l : List (Nat × Po)) (at_ prev : Nat), chn at_ prev l → ∀ (i : Nat) (hi : i < l.length), endP at_ l i < l[i].1 ∧ docP prev l i < l[i].2.1 ∧ ∃ pv, okP pv l[i].2
  | x :: r, at_, prev, h, 0, hi => ⟨h.1, h.2.1, prev, h.2.2.1⟩
  | x :: r, at_, prev, h, i + 1, hi => by
    obtain ⟨h1, h2, h3⟩ := chn_at r _ _ h.2.2.2 i (by simpa using hi)
    have e1 : docP prev (x :: r) (i + 1) = docP x.2.1 r i := by
      rw [docP_succ]
      cases i with
      | zero => rfl
      | succ i => rw [docP_succ]; rfl
    have e2 : endP at_ (x :: r) (i + 1) = endP x.1 r i := by
      rw [endP_succ]
      cases i with
      | zero => rfl
      | succ i => rw [endP_succ]; rfl
    simp only [List.getElem_cons_succ]
    rw [e1, e2]
    exact ⟨h1, h2, h3⟩
theorem endP_last (at_ : Nat) (l : List (Nat × Po)) (h : at_ = 0) : endP at_ l l.length = endL l := by
  subst h
  rcases List.eq_nil_or_concat l with rfl | ⟨r, x, rfl⟩
  · rfl
  · rw [List.concat_eq_append, endL_snoc, show (r ++ [x]).length = r.length + 1 by simp, endP_succ]
    simp
theorem prs_rise {b : List Nat} (hb : Byt b) : prsR (b.take (endL (allL b 0))) = ((allL b 0).map (·.2), 0) := by
  obtain ⟨h1, h2⟩ := allF_taken b hb (b.length - 0 + 1) 0 0 [] (Nat.zero_le _) (fun i hi => by simp at hi) (by simp [bytesLs]) rfl
  rw [List.nil_append] at h1 h2
  have h3 := prs_put h1
  rw [h2] at h3
  have e : (if allF b (b.length - 0 + 1) 0 0 = [] then 0 else endL (allF b (b.length - 0 + 1) 0 0)) = endL (allL b 0) := by
    by_cases h0 : allF b (b.length - 0 + 1) 0 0 = []
    · rw [if_pos h0]
      show 0 = endL (allF b (b.length - 0 + 1) 0 0)
      rw [h0]; rfl
    · rw [if_neg h0]; rfl
  rw [e] at h3
  exact h3
theorem all_take {b : List Nat} {most : Nat} (h : b.length ≤ most) (prev : Nat) : (allL b prev).take most = allL b prev := List.take_of_length_le (Nat.le_trans (allL_len b prev) h)
end Go.Proofs.Ytmonlookmnlgnaa
