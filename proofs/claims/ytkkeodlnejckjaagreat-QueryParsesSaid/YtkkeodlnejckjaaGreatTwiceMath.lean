/- What was folded is folded to itself. No program. -/
import Derived.Test.YtkkeodlnejckjaaGreatText
import Derived.Test.YtkkeodlnejckjaaGreatRefMath
namespace Go.Proofs.YtkkeodlnejckjaaGreat
open Go.RowKit
set_option linter.unusedVariables false
set_option linter.unusedSimpArgs false

def okRune (r : Int) : Prop := 0 ≤ r ∧ r ≤ 1114111 ∧ ¬ (55296 ≤ r ∧ r ≤ 57343)
theorem letB_rune {r : Int} (h : letB r = true) : okRune r := by
  have := letB_rng h
  unfold okRune
  omega
theorem hit_iff {x : Fo} {r : Int} (hg : gd x) (h1 : -2147483648 ≤ r) (h2 : r ≤ 2147483647) : hit r x = true ↔ x.1 ≤ r ∧ r - x.1 < x.2.2 := by
  have hr := gd_rng hg
  have h3 := hg.1
  have h4 := hg.2.1
  unfold hit wrap32
  simp
  omega
theorem oneR_cases {tb : List Fo} (h : okTb tb) {r : Int} (h1 : -2147483648 ≤ r) (h2 : r ≤ 2147483647) :
    (fnd tb r = none ∧ oneR tb r = r) ∨ (oneR tb r ≠ r → True) ∧ ∃ x ∈ tb, ∃ k : Nat, (k : Int) < x.2.2 ∧ r = x.1 + k ∧ oneR tb r = x.2.1 + k ∧ Ltr x k ∧ fnd tb (x.2.1 + k) = none := by
  cases hf : fnd tb r with
  | none => left; exact ⟨rfl, by unfold oneR; rw [hf]⟩
  | some x =>
    right
    refine ⟨fun _ => trivial, ?_⟩
    have hx := List.mem_of_find?_eq_some hf
    have hh := List.find?_some hf
    obtain ⟨i, hi, rfl⟩ := List.getElem_of_mem hx
    have hg := (h.2.1 i hi).1
    rw [hit_iff hg h1 h2] at hh
    have hr := gd_rng hg
    have h3 := hg.1
    have h4 := hg.2.1
    refine ⟨_, hx, (r - tb[i].1).toNat, by omega, by omega, ?_, hg.2.2 _ (by omega), h.2.2 i hi _ (by omega)⟩
    unfold oneR
    rw [hf]
    unfold wrap32
    simp only
    omega
theorem oneR_fix {tb : List Fo} (h : okTb tb) {r : Int} (h1 : -2147483648 ≤ r) (h2 : r ≤ 2147483647) : oneR tb (oneR tb r) = oneR tb r := by
  rcases oneR_cases h h1 h2 with ⟨h3, h4⟩ | ⟨_, x, hx, k, hk, hr, h4, h5, h6⟩
  · rw [h4, h4]
  · rw [h4]
    unfold oneR
    rw [h6]
theorem oneR_let {tb : List Fo} (h : okTb tb) {r : Int} (h1 : -2147483648 ≤ r) (h2 : r ≤ 2147483647) : letB (oneR tb r) = letB r := by
  rcases oneR_cases h h1 h2 with ⟨h3, h4⟩ | ⟨_, x, hx, k, hk, hr, h4, h5, h6⟩
  · rw [h4]
  · rw [h4, hr, h5.2.2.1, h5.2.2.2]
theorem oneR_rune {tb : List Fo} (h : okTb tb) {r : Int} (hr : okRune r) : okRune (oneR tb r) := by
  have := hr
  unfold okRune at this
  rcases oneR_cases h (r := r) (by omega) (by omega) with ⟨h3, h4⟩ | ⟨_, x, hx, k, hk, hr, h4, h5, h6⟩
  · rw [h4]; exact hr
  · rw [h4]; exact letB_rune h5.2.2.2
theorem oneR_nil (r : Int) : oneR [] r = r := by simp [oneR, fnd]
theorem oneE_fix (tb : List Fo) {r : Int} (h1 : -2147483648 ≤ r) (h2 : r ≤ 2147483647) : oneR (eff tb) (oneR (eff tb) r) = oneR (eff tb) r := by
  by_cases h : okTb tb
  · rw [eff_yes h]; exact oneR_fix h h1 h2
  · rw [eff_no h, oneR_nil, oneR_nil]
theorem oneE_let (tb : List Fo) {r : Int} (h1 : -2147483648 ≤ r) (h2 : r ≤ 2147483647) : letB (oneR (eff tb) r) = letB r := by
  by_cases h : okTb tb
  · rw [eff_yes h]; exact oneR_let h h1 h2
  · rw [eff_no h, oneR_nil]
theorem oneE_rune (tb : List Fo) {r : Int} (hr : okRune r) : okRune (oneR (eff tb) r) := by
  by_cases h : okTb tb
  · rw [eff_yes h]; exact oneR_rune h hr
  · rw [eff_no h, oneR_nil]; exact hr
theorem oneE_i32 (tb : List Fo) {r : Int} (h1 : -2147483648 ≤ r) (h2 : r ≤ 2147483647) : -2147483648 ≤ oneR (eff tb) r ∧ oneR (eff tb) r ≤ 2147483647 := by
  by_cases h : okTb tb
  · rw [eff_yes h]
    rcases oneR_cases h h1 h2 with ⟨h3, h4⟩ | ⟨_, x, hx, k, hk, hr, h4, h5, h6⟩
    · rw [h4]; exact ⟨h1, h2⟩
    · have := letB_rng h5.2.2.2
      omega
  · rw [eff_no h, oneR_nil]; exact ⟨h1, h2⟩

theorem encL_form {n : Nat} (h : okRune n) : encL n = formN n := by
  unfold okRune at h
  have hv : Utf8.valid n = true := by unfold Utf8.valid; simp; omega
  unfold encL Utf8.encode formN
  simp only [hv, if_true, Int.toNat_natCast]
  repeat' split
  all_goals first | (exfalso; omega) | (simp; omega)
theorem formN_pos (n : Nat) : 1 ≤ (formN n).length ∧ (formN n).length ≤ 4 := by
  unfold formN
  repeat' split
  all_goals simp
theorem valN_app (n : Nat) (a b : List Nat) (h : n ≤ a.length) (h1 : 1 ≤ n) : valN n (a ++ b) = valN n a := by
  have e : ∀ i, i < a.length → (a ++ b).getD i 0 = a.getD i 0 := fun i hi => by
    rw [List.getD_eq_getElem?_getD, List.getD_eq_getElem?_getD, List.getElem?_append_left hi]
  unfold valN
  by_cases h2 : n = 2
  · subst h2; simp only [if_true]; rw [e 0 (by omega), e 1 (by omega)]
  · rw [if_neg h2, if_neg h2]
    by_cases h3 : n = 3
    · subst h3; simp only [if_true]; rw [e 0 (by omega), e 1 (by omega), e 2 (by omega)]
    · rw [if_neg h3, if_neg h3]
      by_cases h4 : n = 4
      · subst h4; simp only [if_true]; rw [e 0 (by omega), e 1 (by omega), e 2 (by omega), e 3 (by omega)]
      · rw [if_neg h4, if_neg h4, e 0 (by omega)]
theorem val_form {n : Nat} (h : n ≤ 1114111) : valN (formN n).length (formN n) = n := by
  unfold formN
  repeat' split
  all_goals simp [valN]
  all_goals omega
theorem dec_enc {n : Nat} (h : okRune n) (rest : List Nat) (hr : Byt rest) : dec (encL n ++ rest) = (n, (encL n).length) := by
  have h' := h
  unfold okRune at h'
  rw [encL_form h]
  have hp := formN_pos n
  have hb : Byt (formN n ++ rest) := (formN_byt (by omega)).append hr
  have hv : valN (formN n).length (formN n ++ rest) = n := by rw [valN_app _ _ _ (Nat.le_refl _) hp.1, val_form (by omega)]
  rw [dec_of hb (formN n).length hp.1 hp.2 ⟨by simp, by rw [hv, formL_yes (by omega) (by omega)]; simp⟩, hv]
theorem rns_encs : ∀ (rs : List Int), (∀ r ∈ rs, okRune r) → (rnsL (encsL rs)).map (fun n : Nat => (n : Int)) = rs
  | [], _ => rfl
  | r :: rs, h => by
    have hr := h r (by simp)
    obtain ⟨n, rfl⟩ : ∃ n : Nat, r = n := ⟨r.toNat, by unfold okRune at hr; omega⟩
    have e : encsL ((n : Int) :: rs) = encL n ++ encsL rs := rfl
    have hp : 0 < (encL (n : Int)).length := by rw [encL_form hr]; exact (formN_pos n).1
    have hne : encL (n : Int) ++ encsL rs ≠ [] := by
      intro h0
      have := congrArg List.length h0
      rw [List.length_append, List.length_nil] at this
      omega
    rw [e, rns_step _ hne, dec_enc hr _ (encsL_byt rs), List.map_cons, List.drop_left, rns_encs rs (fun x hx => h x (by simp [hx]))]
theorem dec_valid (l : List Nat) (hb : Byt l) : okRune ((dec l).1 : Nat) := by
  have g0 := hb.getD 0
  unfold dec Lib.decodeN okRune
  generalize l.getD 0 0 = b0 at *
  repeat' split
  all_goals simp only
  all_goals omega
theorem rns_valid : ∀ (k : Nat) (l : List Nat), l.length ≤ k → Byt l → ∀ r ∈ rnsL l, okRune (r : Nat)
  | 0, l, hl, hb, r, hr => by
    obtain rfl : l = [] := List.eq_nil_of_length_eq_zero (by omega)
    simp [rnsL, marksL, mkL] at hr
  | k + 1, l, hl, hb, r, hr => by
    by_cases h0 : l = []
    · subst h0; simp [rnsL, marksL, mkL] at hr
    · have hw := dec_w l
      have hp : 0 < l.length := List.length_pos_iff.2 h0
      rw [rns_step l h0] at hr
      rcases List.mem_cons.1 hr with rfl | hr
      · exact dec_valid l hb
      · exact rns_valid k _ (by simp; omega) (hb.drop _) r hr
theorem text_runes (tb : List Fo) (l : List Nat) (hb : Byt l) : (rnsL (textL tb l)).map (fun n : Nat => (n : Int)) = (rnsL l).map fun r : Nat => oneR (eff tb) (r : Int) := by
  unfold textL
  refine rns_encs _ fun r hr => ?_
  obtain ⟨x, hx, rfl⟩ := List.mem_map.1 hr
  exact oneE_rune tb (rns_valid _ l (Nat.le_refl _) hb x hx)
theorem text_fix (tb : List Fo) (l : List Nat) (hb : Byt l) : textL tb (textL tb l) = textL tb l := by
  have h := text_runes tb l hb
  have e : ∀ x : List Nat, textL tb x = encsL (((rnsL x).map (fun n : Nat => (n : Int))).map fun r => oneR (eff tb) r) := fun x => by
    unfold textL; rw [List.map_map]; rfl
  rw [e (textL tb l), h, List.map_map]
  unfold textL
  congr 1
  refine List.map_congr_left fun x hx => ?_
  have hx' := rns_valid _ l (Nat.le_refl _) hb x hx
  unfold okRune at hx'
  exact oneE_fix tb (by omega) (by omega)
theorem text_count (tb : List Fo) (l : List Nat) (hb : Byt l) : (marksL (textL tb l)).length = (marksL l).length := by
  have h := congrArg List.length (text_runes tb l hb)
  simp only [List.length_map] at h
  rw [← rns_len, ← rns_len, h]
theorem encL_len (r : Int) : (encL r).length ≤ 4 := by
  unfold encL Utf8.encode
  simp only
  repeat' split
  all_goals simp
theorem text_len (tb : List Fo) (l : List Nat) : (textL tb l).length ≤ 4 * l.length := by
  have h1 := marksL_len l
  rw [← rns_len] at h1
  unfold textL encsL
  have key : ∀ rs : List Int, (rs.flatMap encL).length ≤ 4 * rs.length := by
    intro rs
    induction rs with
    | nil => simp
    | cons r rs ih =>
      have := encL_len r
      simp only [List.flatMap_cons, List.length_append, List.length_cons]
      omega
  have := key ((rnsL l).map fun r : Nat => oneR (eff tb) (r : Int))
  rw [List.length_map] at this
  omega
theorem text_byt (tb : List Fo) (l : List Nat) : Byt (textL tb l) := encsL_byt _
end Go.Proofs.YtkkeodlnejckjaaGreat
