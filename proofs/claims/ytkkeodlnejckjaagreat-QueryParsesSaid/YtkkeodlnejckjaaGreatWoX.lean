/- What words are, more: plain Lean. -/
import Derived.Test.YtkkeodlnejckjaaGreatAll
import Derived.Test.YtkkeodlnejckjaaGreatCnt
namespace Go.Proofs.YtkkeodlnejckjaaGreat
open Go.RowKit
set_option linter.unusedVariables false
set_option linter.unusedSimpArgs false

theorem wdG_rel (fo : List Fo) : ∀ (rs rs' cur cur' : List Nat), rs'.map (fun n : Nat => (n : Int)) = rs.map (fun r : Nat => oneR (eff fo) (r : Int)) → cur'.map (fun n : Nat => (n : Int)) = cur.map (fun r : Nat => oneR (eff fo) (r : Int)) → (∀ r ∈ rs, r ≤ 1114111) →
    (wdG rs' cur').map (fun w => w.map fun n : Nat => (n : Int)) = (wdG rs cur).map (fun w => w.map fun r : Nat => oneR (eff fo) (r : Int))
  | [], [], cur, cur', h1, h2, _ => by
    unfold wdG
    by_cases hc : cur = []
    · have hc' : cur' = [] := by subst hc; simpa using h2
      rw [if_pos hc, if_pos hc']
      rfl
    · have hc' : cur' ≠ [] := by
        intro h; subst h
        simp at h2
        exact hc h2
      rw [if_neg hc, if_neg hc']
      simp [h2]
  | [], _ :: _, _, _, h1, _, _ => by simp at h1
  | _ :: _, [], _, _, h1, _, _ => by simp at h1
  | r :: rs, r' :: rs', cur, cur', h1, h2, h3 => by
    simp only [List.map_cons, List.cons.injEq] at h1
    have hr := h3 r (by simp)
    have hl : letB (r' : Int) = letB (r : Int) := by rw [h1.1]; exact oneE_let fo (by omega) (by omega)
    have h3' : ∀ x ∈ rs, x ≤ 1114111 := fun x hx => h3 x (by simp [hx])
    have hce : (cur' = []) ↔ (cur = []) := by
      constructor
      · intro h; subst h; simpa using h2.symm
      · intro h; subst h; simpa using h2
    unfold wdG
    rw [hl]
    by_cases hlt : letB (r : Int) = true
    · rw [if_pos hlt, if_pos hlt]
      exact wdG_rel fo rs rs' _ _ h1.2 (by rw [List.map_append, List.map_append, h2]; simp [h1.1]) h3'
    · rw [if_neg hlt, if_neg hlt]
      by_cases hc : cur = []
      · rw [if_pos hc, if_pos (hce.2 hc)]
        exact wdG_rel fo rs rs' [] [] h1.2 rfl h3'
      · rw [if_neg hc, if_neg (fun h => hc (hce.1 h)), List.map_cons, List.map_cons, h2, wdG_rel fo rs rs' [] [] h1.2 rfl h3']
theorem wdG_mem : ∀ (rs cur : List Nat) (P : Nat → Prop), (∀ r ∈ rs, P r) → (∀ r ∈ cur, P r) → ∀ w ∈ wdG rs cur, ∀ r ∈ w, P r
  | [], cur, P, _, h2, w, hw => by
    unfold wdG at hw
    split at hw
    · cases hw
    · simp at hw
      subst hw
      exact h2
  | r :: rs, cur, P, h1, h2, w, hw => by
    have h1' : ∀ x ∈ rs, P x := fun x hx => h1 x (by simp [hx])
    unfold wdG at hw
    split at hw
    · exact wdG_mem rs (cur ++ [r]) P h1' (fun x hx => by
        rcases List.mem_append.1 hx with h | h
        · exact h2 x h
        · simp at h
          subst h
          exact h1 x (by simp)) w hw
    · split at hw
      · exact wdG_mem rs [] P h1' (fun x hx => by cases hx) w hw
      · rcases List.mem_cons.1 hw with h | h
        · subst h; exact h2
        · exact wdG_mem rs [] P h1' (fun x hx => by cases hx) w h
theorem tmG_rel (c : Cf) : ∀ (ws ws' : List (List Nat)) (k : Nat), ws'.map (fun w => w.map fun n : Nat => (n : Int)) = ws.map (fun w => w.map fun r : Nat => oneR (eff c.fo) (r : Int)) → (∀ w ∈ ws, ∀ r ∈ w, r ≤ 1114111) → tmG c ws' k = tmG c ws k
  | [], [], _, _, _ => rfl
  | [], _ :: _, _, h, _ => by simp at h
  | _ :: _, [], _, h, _ => by simp at h
  | w :: ws, w' :: ws', k, h, hv => by
    simp only [List.map_cons, List.cons.injEq] at h
    have hw : termL c w' = termL c w := by
      unfold termL
      have e : (w'.take c.cap.toNat).map (fun n : Nat => (n : Int)) = (w.take c.cap.toNat).map fun r : Nat => oneR (eff c.fo) (r : Int) := by
        rw [List.map_take, List.map_take, h.1]
      have e2 : (w'.take c.cap.toNat).map (fun r : Nat => oneR (eff c.fo) (r : Int)) = ((w'.take c.cap.toNat).map (fun n : Nat => (n : Int))).map (oneR (eff c.fo)) := by
        rw [List.map_map]; rfl
      rw [e2, e, List.map_map]
      refine List.map_congr_left fun r hr => ?_
      have := hv w (by simp) r (List.mem_of_mem_take hr)
      exact oneE_fix c.fo (by omega) (by omega)
    unfold tmG termS
    rw [hw, tmG_rel c ws ws' (k + 1) h.2 (fun x hx => hv x (by simp [hx]))]
theorem rns_le {l : List Nat} (hb : Byt l) : ∀ r ∈ rnsL l, r ≤ 1114111 := fun r hr => by
  have := (rns_valid _ _ (Nat.le_refl _) hb r hr).2.1
  omega
theorem fold_words (fo : List Fo) (l : List Nat) (hb : Byt l) : (wordsL (textL fo l)).map (fun w => w.map fun n : Nat => (n : Int)) = (wordsL l).map (fun w => w.map fun r : Nat => oneR (eff fo) (r : Int)) :=
  wdG_rel fo _ _ [] [] (text_runes fo l hb) rfl (rns_le hb)
theorem fold_toks (cf : Cf) (l : List Nat) (hb : Byt l) : toksL cf (textL cf.fo l) = toksL cf l := by
  have h : termsL cf (textL cf.fo l) = termsL cf l := by
    unfold termsL
    split
    · exact tmG_rel cf _ _ 0 (fold_words cf.fo l hb) (fun w hw r hr => wdG_mem _ [] (fun r => r ≤ 1114111) (rns_le hb) (fun r h => by cases h) w hw r hr)
    · rfl
  unfold toksL
  rw [h]
theorem fold_count (fo : List Fo) (l : List Nat) (hb : Byt l) : (wordsL (textL fo l)).length = (wordsL l).length := by
  have := congrArg List.length (fold_words fo l hb)
  simpa using this
theorem tmG_pos (cf : Cf) : ∀ (ws : List (List Nat)) (k : Nat), ∀ y ∈ tmG cf ws k, k ≤ y.1 ∧ y.1 < k + ws.length
  | [], _, y, hy => by cases hy
  | w :: ws, k, y, hy => by
    unfold tmG at hy
    rcases List.mem_cons.1 hy with h | h
    · subst h; simp
    · have := tmG_pos cf ws (k + 1) y h
      simp
      omega
theorem toks_pos (cf : Cf) (l : List Nat) : ∀ y ∈ toksL cf l, y.2 < (wordsL l).length := by
  intro y hy
  unfold toksL at hy
  obtain ⟨x, hx, rfl⟩ := List.mem_map.1 hy
  have hx := (List.mem_filter.1 hx).1
  unfold termsL at hx
  split at hx
  · have := (tmG_pos cf _ 0 x hx).2
    simpa using this
  · cases hx
end Go.Proofs.YtkkeodlnejckjaaGreat
