/- What was put is taken again, and what is taken are the bytes of what was put. -/
import Derived.Test.YtmonlookmnlgnaaParse
import Derived.Test.YtmonlookmnlgnaaOnLaw
namespace Go.Proofs.Ytmonlookmnlgnaa
open Go.RowKit
set_option linter.unusedVariables false
set_option linter.unusedSimpArgs false

theorem tv_varL (rest : List Nat) : ∀ (x i v : Nat), x * 128 ^ i < 4294967296 → (i = 0 ∨ 0 < x) → i ≤ 4 → tvF (varL x ++ rest) i v = (v + x * 128 ^ i, 0) ∧ tvN (varL x ++ rest) i = i + (varL x).length := by
  intro x
  induction x using Nat.strongRecOn with
  | ind x ih =>
    intro i v h1 h2 h3
    by_cases hx : x < 128
    · rw [varL_lt hx]
      have hbad : ¬ ((i = 4 ∧ 15 < x) ∨ (0 < i ∧ x = 0)) := by
        intro h
        rcases h with ⟨rfl, h⟩ | h
        · omega
        · omega
      constructor
      · show tvF (x :: rest) i v = _
        rw [tvF, if_neg hbad, if_pos hx]
      · show tvN (x :: rest) i = _
        rw [tvN, if_neg hbad, if_pos hx]; rfl
    · rw [varL_ge hx]
      have hpos : 0 < 128 ^ i := Nat.pow_pos (by decide)
      have hi4 : i ≠ 4 := by
        intro h; subst h
        have : 128 * 128 ^ 4 ≤ x * 128 ^ 4 := Nat.mul_le_mul_right _ (by omega)
        omega
      have hbad : ¬ ((i = 4 ∧ 15 < x % 128 + 128) ∨ (0 < i ∧ x % 128 + 128 = 0)) := by omega
      have e1 : x / 128 * 128 ^ (i + 1) = x / 128 * 128 * 128 ^ i := by rw [Nat.pow_succ, Nat.mul_comm (128 ^ i), Nat.mul_assoc]
      have e2 : x * 128 ^ i = x % 128 * 128 ^ i + x / 128 * 128 * 128 ^ i := by rw [← Nat.add_mul]; congr 1; omega
      obtain ⟨k1, k2⟩ := ih (x / 128) (by omega) (i + 1) (v + x % 128 * 128 ^ i) (by rw [e1]; omega) (by omega) (by omega)
      constructor
      · show tvF ((x % 128 + 128) :: (varL (x / 128) ++ rest)) i v = _
        rw [tvF, if_neg hbad, if_neg (by omega), show (x % 128 + 128) % 128 = x % 128 by omega, k1, e1, e2, Nat.add_assoc]
      · show tvN ((x % 128 + 128) :: (varL (x / 128) ++ rest)) i = _
        rw [tvN, if_neg hbad, if_neg (by omega), k2, List.length_cons]; omega
theorem take_varL (x : Nat) (h : x < 4294967296) (rest : List Nat) : takeV (varL x ++ rest) = (x, 0) ∧ takeR (varL x ++ rest) = rest := by
  obtain ⟨h1, h2⟩ := tv_varL rest x 0 0 (by simpa using h) (.inl rfl) (by decide)
  have h3 : takeV (varL x ++ rest) = (x, 0) := by unfold takeV; rw [h1]; simp
  refine ⟨h3, ?_⟩
  unfold takeR
  rw [h3, h2]
  simp
/-- What is taken is what would be put. -/
theorem tv_taken : ∀ (l : List Nat) (i v x : Nat), Byt l → tvF l i v = (x, 0) → ∃ y, x = v + y * 128 ^ i ∧ l = varL y ++ l.drop (tvN l i - i) ∧ (0 < i → y ≠ 0) ∧ i ≤ tvN l i
  | [], i, v, x, hb, h => by simp [tvF] at h
  | c :: r, i, v, x, hb, h => by
    have hc := hb c (by simp)
    unfold tvF at h
    unfold tvN
    split at h
    · simp at h
    · rename_i h1
      rw [if_neg h1]
      split at h
      · rename_i h2
        rw [if_pos h2]
        simp only [Prod.mk.injEq, and_true] at h
        refine ⟨c, h.symm, ?_, fun h0 => ?_, by omega⟩
        · rw [varL_lt h2, show i + 1 - i = 1 by omega]; rfl
        · intro e; exact h1 (.inr ⟨h0, e⟩)
      · rename_i h2
        rw [if_neg h2]
        obtain ⟨y, e1, e2, e3, e4⟩ := tv_taken r (i + 1) _ x (fun z hz => hb z (by simp [hz])) h
        refine ⟨c % 128 + 128 * y, ?_, ?_, fun _ => ?_, by omega⟩
        · rw [e1, Nat.add_mul, Nat.pow_succ, Nat.add_assoc]
          congr 2
          rw [Nat.mul_comm 128 y, Nat.mul_assoc, Nat.mul_comm 128]
        · have hy := e3 (by omega)
          rw [varL_ge (by omega), show (c % 128 + 128 * y) % 128 + 128 = c by omega, show (c % 128 + 128 * y) / 128 = y by omega, show tvN r (i + 1) - i = (tvN r (i + 1) - (i + 1)) + 1 by omega]
          rw [List.cons_append, List.drop_succ_cons, ← e2]
        · have := e3 (by omega)
          omega
theorem takeV_taken {l : List Nat} (hb : Byt l) (h : (takeV l).2 = 0) : l = varL (takeV l).1 ++ takeR l := by
  obtain ⟨y, e1, e2, _, _⟩ := tv_taken l 0 0 (takeV l).1 hb (by rw [← h]; rfl)
  rw [Nat.pow_zero, Nat.mul_one, Nat.zero_add] at e1
  unfold takeR
  rw [if_pos h, e1]
  exact e2
/-- The positions' bytes, from the one ahead on. -/
def posG : Nat → List Int → List Nat
  | _, [] => []
  | last, x :: r => varL (x.toNat - last) ++ posG x.toNat r
def ascG : Nat → List Int → Prop
  | _, [] => True
  | last, x :: r => (last : Int) ≤ x ∧ x ≤ 1048576 ∧ ascG x.toNat r
theorem posF_G (l : List Int) : ∀ k, k ≤ l.length → posF l k ++ posG (lastN l k) (l.drop k) = posG 0 l
  | 0, _ => by simp [posF, lastN]
  | k + 1, h => by
    have hk : k < l.length := h
    rw [← posF_G l k (by omega), lastN_succ, List.drop_eq_getElem_cons hk, posF, List.append_assoc]
    have e : l.getD k 0 = l[k] := by rw [List.getD_eq_getElem?_getD, List.getElem?_eq_getElem hk]; rfl
    rw [e]
    rfl
theorem posF_all (l : List Int) : posF l l.length = posG 0 l := by
  have := posF_G l l.length (Nat.le_refl _)
  rw [List.drop_length] at this
  simpa [posG] using this
theorem asc_of {l : List Int} (h : okPos l) : ∀ j k, k + j = l.length → ascG (lastN l k) (l.drop k)
  | 0, k, hk => by rw [List.drop_of_length_le (by omega)]; trivial
  | j + 1, k, hk => by
    have hk' : k < l.length := by omega
    rw [List.drop_eq_getElem_cons hk']
    have e : l.getD k 0 = l[k] := by rw [List.getD_eq_getElem?_getD, List.getElem?_eq_getElem hk']; rfl
    have h1 := okPos_lt h hk'
    have h2 := h k hk'
    have h3 := asc_of h j (k + 1) (by omega)
    rw [lastN_succ] at h3
    rw [e] at h1 h3
    have h4 := h2.2.1
    rw [e] at h4
    exact ⟨h1.2.1, h4, h3⟩
theorem takeN_put : ∀ (l : List Int) (last : Nat) (rest : List Nat), ascG last l → takeN l.length last (posG last l ++ rest) = some (l, rest)
  | [], _, _, _ => rfl
  | x :: r, last, rest, h => by
    obtain ⟨h1, h2, h3⟩ := h
    have h0 : (0 : Int) ≤ x := by omega
    obtain ⟨k1, k2⟩ := take_varL (x.toNat - last) (by omega) (posG x.toNat r ++ rest)
    have e : posG last (x :: r) ++ rest = varL (x.toNat - last) ++ (posG x.toNat r ++ rest) := by rw [posG, List.append_assoc]
    rw [e, List.length_cons, takeN_step (by rw [k1]) (by rw [k1]; omega), k1, k2]
    simp only
    rw [show last + (x.toNat - last) = x.toNat by omega, takeN_put r x.toNat rest h3]
    simp [Int.toNat_of_nonneg h0]
theorem take_put {prev : Nat} {p : Po} (h : okP prev p) (rest : List Nat) : takeP (bytesP prev p ++ rest) prev = some (p, rest) := by
  obtain ⟨h1, h2, h3, h4, h5⟩ := h
  have e : bytesP prev p ++ rest = varL (p.1 - prev) ++ (varL p.2.length ++ (posG 0 p.2 ++ rest)) := by
    unfold bytesP
    rw [posF_all]
    simp [List.append_assoc]
  obtain ⟨k1, k2⟩ := take_varL (p.1 - prev) (by omega) (varL p.2.length ++ (posG 0 p.2 ++ rest))
  obtain ⟨k3, k4⟩ := take_varL p.2.length (by omega) (posG 0 p.2 ++ rest)
  have ha := asc_of h5 p.2.length 0 (by omega)
  rw [show lastN p.2 0 = 0 from rfl, List.drop_zero] at ha
  unfold takeP
  rw [e, k1, k2, k3, k4, if_neg (by simp only; omega), takeN_put _ _ _ ha]
  simp only
  rw [show prev + (p.1 - prev) = p.1 by omega]
  exact finP_yes (x := (p.2, rest)) ⟨h1, h2, h3, h4, h5⟩
theorem takeN_taken : ∀ (n last : Nat) (l : List Nat) (x : List Int × List Nat), Byt l → takeN n last l = some x → l = posG last x.1 ++ x.2 ∧ Byt x.2
  | 0, last, l, x, hb, h => by simp [takeN] at h; subst h; exact ⟨rfl, hb⟩
  | n + 1, last, l, x, hb, h => by
    unfold takeN at h
    split at h
    · cases h
    · rename_i h1
      simp only [not_or, Classical.not_not] at h1
      obtain ⟨y, hy, rfl⟩ := Option.map_eq_some_iff.1 h
      have e := takeV_taken hb h1.1
      obtain ⟨h2, h3⟩ := takeN_taken n _ _ y (takeR_byt hb) hy
      refine ⟨?_, h3⟩
      rw [posG]
      simp only [Int.toNat_natCast]
      rw [show last + (takeV l).1 - last = (takeV l).1 by omega, List.append_assoc, ← h2]
      exact e
theorem take_taken {l : List Nat} {prev : Nat} {x : Po × List Nat} (hb : Byt l) (h : takeP l prev = some x) : l = bytesP prev x.1 ++ x.2 ∧ okP prev x.1 := by
  have hok := (takeP_some h).2
  unfold takeP at h
  split at h
  · cases h
  · rename_i h1
    simp only [not_or, Classical.not_not] at h1
    cases h4 : takeN (takeV (takeR l)).1 0 (takeR (takeR l)) with
    | none => rw [h4] at h; cases h
    | some y =>
      rw [h4] at h
      by_cases hk : okP prev (prev + (takeV l).1, y.1)
      · rw [finP_yes hk] at h
        cases h
        refine ⟨?_, hok⟩
        have e1 := takeV_taken hb h1.1
        have e2 := takeV_taken (takeR_byt hb) h1.2.1
        have e3 := (takeN_taken _ _ _ y (takeR_byt (takeR_byt hb)) h4).1
        have e4 := takeN_len _ _ _ y h4
        unfold bytesP
        simp only
        rw [posF_all, show prev + (takeV l).1 - prev = (takeV l).1 by omega, e4, List.append_assoc, List.append_assoc, ← e3, ← e2]
        exact e1
      · rw [finP_no hk] at h; cases h
/-- The bytes of all go on behind those of the first ones. -/
theorem bytesLs_on (ls : List Po) (n : Nat) : ∀ j k, k + j = n → ∃ T, bytesLs ls n = bytesLs ls k ++ T
  | 0, k, h => ⟨[], by rw [List.append_nil, ← h]; rfl⟩
  | j + 1, k, h => by
    obtain ⟨T, hT⟩ := bytesLs_on ls n j (k + 1) (by omega)
    exact ⟨bytesP (prevOf ls k) (ls.getD k (0, [])) ++ T, by rw [hT, bytesLs, List.append_assoc]⟩
def tellLs (ls : List Po) (n k : Nat) : List (Nat × Po) := (List.range' k (n - k)).map fun i => ((bytesLs ls (i + 1)).length, ls.getD i (0, []))
theorem bytesP_pos {prev : Nat} {p : Po} : 0 < (bytesP prev p).length := by
  unfold bytesP
  have : 0 < (varL (p.1 - prev)).length := by
    by_cases h : p.1 - prev < 128
    · rw [varL_lt h]; simp
    · rw [varL_ge h]; simp
  simp only [List.length_append]
  omega
theorem allAt_put (ls : List Po) (n : Nat) (h : okLs ls n) : ∀ j k, k + j = n → allAt (bytesLs ls n) (bytesLs ls k).length (prevOf ls k) = tellLs ls n k
  | 0, k, hk => by
    rw [allAt_no (by rw [show k = n by omega]; omega)]
    unfold tellLs
    rw [show n - k = 0 by omega]
    rfl
  | j + 1, k, hk => by
    obtain ⟨T, hT⟩ := bytesLs_on ls n j (k + 1) (by omega)
    have e : bytesLs ls n = bytesLs ls k ++ (bytesP (prevOf ls k) (ls.getD k (0, [])) ++ T) := by rw [hT, bytesLs, List.append_assoc]
    have hp := bytesP_pos (prev := prevOf ls k) (p := ls.getD k (0, []))
    have hl : (bytesLs ls n).length = (bytesLs ls k).length + ((bytesP (prevOf ls k) (ls.getD k (0, []))).length + T.length) := by rw [e]; simp [Nat.add_assoc]
    have ht : tkR (bytesLs ls n) ((bytesLs ls k).length : Int) (prevOf ls k) = (ls.getD k (0, []), (((bytesLs ls (k + 1)).length : Nat) : Int), 0) := by
      refine (tkR_yes (x := (ls.getD k (0, []), T)) (by omega) ?_).trans ?_
      · rw [e, List.drop_left]
        exact take_put (h k (by omega)) T
      · simp only
        rw [hl, bytesLs, List.length_append]
        simp only [Prod.mk.injEq, true_and, and_true]
        omega
    rw [allAt_step (by omega) ht, ← prevOf_succ, allAt_put ls n h j (k + 1) (by omega)]
    unfold tellLs
    rw [show n - k = (n - (k + 1)) + 1 by omega, List.range'_succ, List.map_cons]
theorem prs_put {ls : List Po} (h : okLs ls ls.length) : prsR (bytesLs ls ls.length) = (ls, 0) := by
  have hA : allL (bytesLs ls ls.length) 0 = tellLs ls ls.length 0 := by
    have := allAt_put ls ls.length h ls.length 0 (by omega)
    exact this
  have hm : (tellLs ls ls.length 0).map (·.2) = ls := by
    unfold tellLs
    rw [List.map_map]
    refine List.ext_getElem (by simp) fun i h1 h2 => ?_
    simp [List.getElem?_eq_getElem h2]
  have he : endL (tellLs ls ls.length 0) = (bytesLs ls ls.length).length := by
    rcases Nat.eq_zero_or_pos ls.length with h0 | h0
    · rw [List.eq_nil_of_length_eq_zero h0]; rfl
    · unfold tellLs
      obtain ⟨m, hm⟩ : ∃ m, ls.length = m + 1 := ⟨ls.length - 1, by omega⟩
      rw [hm, show m + 1 - 0 = m + 1 by omega, List.range'_1_concat, List.map_append, List.map_cons, List.map_nil, endL_snoc, Nat.zero_add]
  rw [prsR_yes (by rw [hA]; exact he), hA, hm]
theorem okLs_snoc {ls : List Po} {p : Po} (h : okLs ls ls.length) (hp : okP (prevOf ls ls.length) p) : okLs (ls ++ [p]) (ls ++ [p]).length ∧ bytesLs (ls ++ [p]) (ls ++ [p]).length = bytesLs ls ls.length ++ bytesP (prevOf ls ls.length) p ∧ prevOf (ls ++ [p]) (ls ++ [p]).length = p.1 := by
  have ht : (ls ++ [p]).take ls.length = ls := List.take_left
  have hg : (ls ++ [p]).getD ls.length (0, []) = p := by simp
  have hpv : prevOf (ls ++ [p]) ls.length = prevOf ls ls.length := by
    have := prevOf_take (ls ++ [p]) ls.length ls.length (Nat.le_refl _)
    rw [ht] at this
    exact this.symm
  have hlen : (ls ++ [p]).length = ls.length + 1 := by simp
  rw [hlen]
  refine ⟨fun i hi => ?_, ?_, by rw [prevOf_succ, hg]⟩
  · rcases Nat.lt_succ_iff_lt_or_eq.1 hi with h1 | rfl
    · have e1 := prevOf_take (ls ++ [p]) ls.length i (by omega)
      have e2 := getD_take (ls ++ [p]) ls.length i h1
      rw [ht] at e1 e2
      rw [← e1, ← e2]
      exact h i h1
    · rw [hpv, hg]; exact hp
  · have := bytesLs_take (ls ++ [p]) ls.length ls.length (Nat.le_refl _)
    rw [ht] at this
    rw [bytesLs, ← this, hpv, hg]
theorem allF_taken (b : List Nat) (hb : Byt b) : ∀ (f at_ prev : Nat) (pre : List Po), at_ ≤ b.length → okLs pre pre.length → bytesLs pre pre.length = b.take at_ → prevOf pre pre.length = prev →
    okLs (pre ++ (allF b f at_ prev).map (·.2)) (pre ++ (allF b f at_ prev).map (·.2)).length ∧
    bytesLs (pre ++ (allF b f at_ prev).map (·.2)) (pre ++ (allF b f at_ prev).map (·.2)).length = b.take (if allF b f at_ prev = [] then at_ else endL (allF b f at_ prev))
  | 0, at_, prev, pre, h0, h1, h2, h3 => by simp [allF, h1, h2]
  | f + 1, at_, prev, pre, h0, h1, h2, h3 => by
    unfold allF
    by_cases h : at_ < b.length ∧ (tkR b (at_ : Int) prev).2.2 = 0
    · rw [if_pos h]
      have hk := tkR_ok h.2
      obtain ⟨p, en, er, hT⟩ : ∃ p en er, tkR b (at_ : Int) prev = (p, en, er) := ⟨_, _, _, rfl⟩
      rw [hT] at h hk ⊢
      simp only at h hk ⊢
      obtain ⟨e2, rfl⟩ : ∃ e2 : Nat, en = e2 := ⟨en.toNat, by omega⟩
      simp only [Int.toNat_natCast]
      have htk : ∃ r, takeP (b.drop at_) prev = some (p, r) ∧ e2 = b.length - r.length ∧ r.length ≤ b.length := by
        unfold tkR at hT
        rw [if_neg (by omega), Int.toNat_natCast] at hT
        cases hq : takeP (b.drop at_) prev with
        | none => rw [hq] at hT; simp at hT; omega
        | some x =>
          rw [hq] at hT
          simp only [Prod.mk.injEq] at hT
          have hx := (takeP_some hq).1
          rw [List.length_drop] at hx
          exact ⟨x.2, by rw [← hT.1], by omega, by omega⟩
      obtain ⟨r, hr, her, hrl⟩ := htk
      obtain ⟨hby, hok⟩ := take_taken (hb.drop at_) hr
      simp only at hby hok
      rw [← h3] at hok hby
      obtain ⟨s1, s2, s3⟩ := okLs_snoc h1 hok
      have hdl := congrArg List.length hby
      rw [List.length_drop, List.length_append] at hdl
      have hbt : bytesLs (pre ++ [p]) (pre ++ [p]).length = b.take e2 := by
        have e : b = b.take at_ ++ (bytesP (prevOf pre pre.length) p ++ r) := by rw [← hby, List.take_append_drop]
        rw [s2, h2]
        conv => rhs; rw [e]
        rw [← List.append_assoc, List.take_left']
        rw [List.length_append, List.length_take]
        omega
      have ih := allF_taken b hb f e2 p.1 (pre ++ [p]) (by omega) s1 hbt s3
      rw [List.map_cons, show pre ++ p :: (allF b f e2 p.1).map (·.2) = (pre ++ [p]) ++ (allF b f e2 p.1).map (·.2) by simp]
      refine ⟨ih.1, ?_⟩
      rw [ih.2]
      cases hq : allF b f e2 p.1 with
      | nil => rw [if_pos rfl, if_neg (by simp)]; rfl
      | cons y ys => rw [if_neg (by simp), if_neg (by simp)]; rfl
    · rw [if_neg h]
      simp [h1, h2]
/-- What is read of bytes has just those. -/
theorem prs_taken {b : List Nat} (hb : Byt b) (h : (prsR b).2 = 0) : okLs (prsR b).1 (prsR b).1.length ∧ bytesLs (prsR b).1 (prsR b).1.length = b := by
  by_cases he : endL (allL b 0) = b.length
  · rw [prsR_yes he]
    obtain ⟨h1, h2⟩ := allF_taken b hb (b.length - 0 + 1) 0 0 [] (Nat.zero_le _) (fun i hi => by simp at hi) (by simp [bytesLs]) rfl
    rw [List.nil_append] at h1 h2
    refine ⟨h1, ?_⟩
    refine Eq.trans h2 ?_
    by_cases h0 : allF b (b.length - 0 + 1) 0 0 = []
    · rw [if_pos h0]
      have : b.length = 0 := by
        rw [← he]
        show endL (allF b (b.length - 0 + 1) 0 0) = 0
        rw [h0]; rfl
      rw [List.eq_nil_of_length_eq_zero this]
      rfl
    · rw [if_neg h0]
      show b.take (endL (allL b 0)) = b
      rw [he, List.take_length]
  · rw [prsR_no he] at h
    cases h
theorem prs_none {b : List Nat} (h : (prsR b).2 ≠ 0) : prsR b = ([], 150) := by
  by_cases he : endL (allL b 0) = b.length
  · rw [prsR_yes he] at h; exact absurd rfl h
  · exact prsR_no he
end Go.Proofs.Ytmonlookmnlgnaa
