/- Ways to take texts apart, words, terms: plain Lean. -/
import Derived.Test.YtkkeodlnejckjaaGreatTwiceMath
import Derived.Test.YtkkeodlnejckjaaGreatPiecesMath
import Derived.Sort.LotA
import Derived.Sort.Walk0
namespace Go.Proofs.YtkkeodlnejckjaaGreat
open Go.RowKit
set_option linter.unusedVariables false
set_option linter.unusedSimpArgs false

/-- A string's bytes. -/
def bsL (s : ByteArray) : List Nat := s.data.toList.map UInt8.toNat
theorem bsL_str (s : ByteArray) : strL (bsL s) = s := strL_toNat s
theorem bsL_byt (s : ByteArray) : Byt (bsL s) := byt_toNat s
theorem bsL_strL {l : List Nat} (h : Byt l) : bsL (strL l) = l := strL_inj (bsL_byt _) h (bsL_str _)
theorem bsL_len (s : ByteArray) : (bsL s).length = s.size := by
  unfold bsL
  rw [List.length_map]
  rfl
theorem rnsL_nil : rnsL [] = [] := rfl
theorem rnsL_len (l : List Nat) : (rnsL l).length ≤ l.length := by rw [rns_len]; exact marksL_len l
/-- A way to take texts apart. -/
structure Cf where
  fo : List Fo
  st : List ByteArray
  cap : Int
def okR (fo : List Fo) (r : Nat) : Prop := letB r = true ∧ oneR (eff fo) r = r
/-- A text that is its own term. -/
def ownS (c : Cf) (s : ByteArray) : Prop := (∀ r ∈ rnsL (bsL s), okR c.fo r) ∧ 0 < (rnsL (bsL s)).length ∧ ((rnsL (bsL s)).length : Int) ≤ c.cap
/-- The order of strings. -/
def ltB (a b : ByteArray) : Prop := a.data.toList < b.data.toList
instance (a b : ByteArray) : Decidable (ltB a b) := inferInstanceAs (Decidable (a.data.toList < b.data.toList))
theorem ltB_trans {a b c : ByteArray} (h : ltB a b) (k : ltB b c) : ltB a c := List.lt_trans h k
theorem ltB_irrefl (a : ByteArray) : ¬ ltB a a := List.lt_irrefl _
theorem ltB_tri {a b : ByteArray} (h : ¬ ltB a b) (k : ¬ ltB b a) : a = b := by
  have := List.le_antisymm (List.not_lt.1 k) (List.not_lt.1 h)
  cases a; cases b
  congr 1
  exact Array.toList_inj.1 this
def stAt (l : List ByteArray) (i : Nat) : ByteArray := l.getD i ByteArray.empty
def mayC (c : Cf) : Prop := okTb c.fo ∧ 1 ≤ c.cap ∧ c.cap ≤ 12 ∧ c.st.length ≤ 32 ∧ ∀ i, i < c.st.length → (0 < i → ltB (stAt c.st (i - 1)) (stAt c.st i)) ∧ ownS c (stAt c.st i)
theorem stAt_of {l : List ByteArray} {i : Nat} {x : ByteArray} (h : ∃ hl : i < l.length, l[i] = x) : stAt l i = x := by
  obtain ⟨hl, rfl⟩ := h
  simp [stAt, List.getElem?_eq_getElem hl]
theorem may_sorted {c : Cf} (h : mayC c) : ∀ j i, i < j → j < c.st.length → ltB (stAt c.st i) (stAt c.st j)
  | 0, _, hi, _ => by omega
  | j + 1, i, hi, hj => by
    have h1 := (h.2.2.2.2 (j + 1) hj).1 (by omega)
    rw [Nat.add_sub_cancel] at h1
    rcases Nat.lt_or_ge i j with hlt | hge
    · exact ltB_trans (may_sorted h j i hlt (by omega)) h1
    · obtain rfl : i = j := by omega
      exact h1
/-- The words of runes; cur: the word that is being read. -/
def wdG : List Nat → List Nat → List (List Nat)
  | [], cur => if cur = [] then [] else [cur]
  | r :: rs, cur => if letB r = true then wdG rs (cur ++ [r]) else if cur = [] then wdG rs [] else cur :: wdG rs []
def wordsL (l : List Nat) : List (List Nat) := wdG (rnsL l) []
/-- A word's term. -/
noncomputable def termL (c : Cf) (w : List Nat) : List Int := (w.take c.cap.toNat).map fun r : Nat => oneR (eff c.fo) (r : Int)
noncomputable def termS (c : Cf) (w : List Nat) : ByteArray := strL (encsL (termL c w))
/-- The terms of all words, from the word numbered at on. -/
noncomputable def tmG (c : Cf) : List (List Nat) → Nat → List (Nat × ByteArray)
  | [], _ => []
  | w :: ws, k => (k, termS c w) :: tmG c ws (k + 1)
open Classical in
/-- .. none, of a way that may not be. -/
noncomputable def termsL (c : Cf) (l : List Nat) : List (Nat × ByteArray) := if mayC c then tmG c (wordsL l) 0 else []
/-- Tokens: the terms that are no stop words. -/
def inS (st : List ByteArray) (s : ByteArray) : Bool := st.any fun x => decide (x.data.toList = s.data.toList)
theorem inS_iff (st : List ByteArray) (s : ByteArray) : inS st s = true ↔ s ∈ st := by
  unfold inS
  rw [List.any_eq_true]
  constructor
  · rintro ⟨x, hx, h⟩
    have h := of_decide_eq_true h
    have : x = s := by cases x; cases s; congr 1; exact Array.toList_inj.1 h
    exact this ▸ hx
  · intro h
    exact ⟨s, h, decide_eq_true rfl⟩
noncomputable def toksL (c : Cf) (l : List Nat) : List (ByteArray × Nat) := ((termsL c l).filter fun x : Nat × ByteArray => !inS c.st x.2).map fun x => (x.2, x.1)
theorem tmG_len (c : Cf) : ∀ (ws : List (List Nat)) (k : Nat), (tmG c ws k).length = ws.length
  | [], _ => rfl
  | w :: ws, k => by simp [tmG, tmG_len c ws (k + 1)]
theorem wdG_len : ∀ (rs cur : List Nat), (wdG rs cur).length ≤ rs.length + 1
  | [], cur => by unfold wdG; split <;> simp
  | r :: rs, cur => by
    unfold wdG
    have h1 := wdG_len rs (cur ++ [r])
    have h2 := wdG_len rs []
    split
    · simp; omega
    · split
      · simp; omega
      · simp; omega
theorem wordsL_len (l : List Nat) : (wordsL l).length ≤ l.length + 1 := by
  have := wdG_len (rnsL l) []
  have := rnsL_len l
  unfold wordsL
  omega
end Go.Proofs.YtkkeodlnejckjaaGreat
