/- What was put is taken again: the plain law. -/
import Derived.Test.YtljnfciolalbdaaRText
import Derived.Test.YtljnfciolalbdaaPuts
namespace Go.Proofs.Ytljnfciolalbdaa
open Go.RowKit
set_option linter.unusedVariables false
set_option linter.unusedSimpArgs false

theorem tv_varL (rest : List Nat) : ∀ (x i v : Nat), x * 128 ^ i < 4294967296 → (i = 0 ∨ 0 < x) → i ≤ 4 → tvF (varL x ++ rest) i v = (v + x * 128 ^ i, 0) ∧ tvN (varL x ++ rest) i = i + (varL x).length := by
  intro x
  induction x using Nat.strongRecOn with
  | ind x ih =>
    intro i v h1 h2 h3
    by_cases hx : x < 128
    · rw [varL_lt hx]
      have hbad : ¬ ((i = 4 ∧ 15 < x) ∨ (0 < i ∧ x = 0)) := by
        intro h
        rcases h with ⟨rfl, h⟩ | h
        · omega
        · omega
      constructor
      · show tvF (x :: rest) i v = _
        rw [tvF, if_neg hbad, if_pos hx]
      · show tvN (x :: rest) i = _
        rw [tvN, if_neg hbad, if_pos hx]; rfl
    · rw [varL_ge hx]
      have hpos : 0 < 128 ^ i := Nat.pow_pos (by decide)
      have hi4 : i ≠ 4 := by
        intro h; subst h
        have : 128 * 128 ^ 4 ≤ x * 128 ^ 4 := Nat.mul_le_mul_right _ (by omega)
        omega
      have hbad : ¬ ((i = 4 ∧ 15 < x % 128 + 128) ∨ (0 < i ∧ x % 128 + 128 = 0)) := by omega
      have e1 : x / 128 * 128 ^ (i + 1) = x / 128 * 128 * 128 ^ i := by rw [Nat.pow_succ, Nat.mul_comm (128 ^ i), Nat.mul_assoc]
      have e2 : x * 128 ^ i = x % 128 * 128 ^ i + x / 128 * 128 * 128 ^ i := by rw [← Nat.add_mul]; congr 1; omega
      obtain ⟨k1, k2⟩ := ih (x / 128) (by omega) (i + 1) (v + x % 128 * 128 ^ i) (by rw [e1]; omega) (by omega) (by omega)
      constructor
      · show tvF ((x % 128 + 128) :: (varL (x / 128) ++ rest)) i v = _
        rw [tvF, if_neg hbad, if_neg (by omega), show (x % 128 + 128) % 128 = x % 128 by omega, k1, e1, e2, Nat.add_assoc]
      · show tvN ((x % 128 + 128) :: (varL (x / 128) ++ rest)) i = _
        rw [tvN, if_neg hbad, if_neg (by omega), k2, List.length_cons]; omega
theorem take_varL (x : Nat) (h : x < 4294967296) (rest : List Nat) : takeV (varL x ++ rest) = (x, 0) ∧ takeR (varL x ++ rest) = rest := by
  obtain ⟨h1, h2⟩ := tv_varL rest x 0 0 (by simpa using h) (.inl rfl) (by decide)
  have h3 : takeV (varL x ++ rest) = (x, 0) := by unfold takeV; rw [h1]; simp
  refine ⟨h3, ?_⟩
  unfold takeR
  rw [h3, h2]
  simp
theorem raw_be (k v : Nat) (rest : List Nat) : rawL k (be k v ++ rest) 0 = (be k v, rest, 0) := by
  rw [rawL_ok (by rw [List.length_append, be_length]; omega)]
  rw [List.take_left' (be_length k v), List.drop_left' (be_length k v)]
theorem beN_be : ∀ (k v : Nat), beN (be k v) = v % 256 ^ k := by
  have key : ∀ (k v a : Nat), (be k v).foldl (fun v c => v * 256 + c) a = a * 256 ^ k + v % 256 ^ k := by
    intro k
    induction k with
    | zero => intro v a; simp [be, Nat.mod_one]
    | succ k ih =>
      intro v a
      rw [be, List.foldl_cons, ih]
      have e : v % 256 ^ (k + 1) = v / 256 ^ k % 256 * 256 ^ k + v % 256 ^ k := by rw [Nat.pow_succ, Nat.mod_mul, Nat.add_comm, Nat.mul_comm]
      rw [e, Nat.add_mul, Nat.pow_succ, Nat.mul_assoc, Nat.mul_comm 256 (256 ^ k), Nat.add_assoc]
  intro k v
  have := key k v 0
  simpa [beN] using this

/-- What is put as number i. -/
def putL (i v : Nat) : List Nat := if i % 4 = 0 then varL (v % 4294967296) else if i % 4 = 1 then be 8 v else if i % 4 = 2 then be 2 (v % 65536) else be 4 (v % 4294967296)
def packF : Nat → List Nat → List Nat
  | _, [] => []
  | i, v :: r => putL i v ++ packF (i + 1) r
theorem packF_append : ∀ (a b : List Nat) (i : Nat), packF i (a ++ b) = packF i a ++ packF (i + a.length) b
  | [], b, i => by simp [packF]
  | x :: a, b, i => by
    have := packF_append a b (i + 1)
    simp only [List.cons_append, packF, this, List.append_assoc, List.length_cons]
    rw [show i + 1 + a.length = i + (a.length + 1) by omega]
theorem packF_take {vs : List Nat} {k : Nat} (h : k < vs.length) : packF 0 (vs.take (k + 1)) = packF 0 (vs.take k) ++ putL k (vs.getD k 0) := by
  rw [List.take_add_one, packF_append, List.getD_eq_getElem?_getD, List.getElem?_eq_getElem h, List.length_take, Nat.min_eq_left (by omega), Nat.zero_add]
  simp [packF]
theorem packF_drop {vs : List Nat} {k : Nat} (h : k < vs.length) : packF k (vs.drop k) = putL k (vs.getD k 0) ++ packF (k + 1) (vs.drop (k + 1)) := by
  rw [List.drop_eq_getElem_cons h, List.getD_eq_getElem?_getD, List.getElem?_eq_getElem h]
  rfl
theorem putL_len (i v : Nat) : (putL i v).length ≤ 8 := by
  unfold putL
  split
  · have := (varL_len (show v % 4294967296 < 4294967296 by omega)).2; omega
  · split
    · rw [be_length]; omega
    · split
      · rw [be_length]; omega
      · rw [be_length]; omega
theorem packF_len : ∀ (vs : List Nat) (i : Nat), (packF i vs).length ≤ 8 * vs.length
  | [], i => by simp [packF]
  | v :: r, i => by
    have h1 := packF_len r (i + 1)
    have h2 := putL_len i v
    simp only [packF, List.length_append, List.length_cons]
    omega
theorem txt_back (t : List Nat) (h : t.length ≤ 255) : txtL 255 (t.length :: t) 0 = (t, [], 0) := by
  unfold txtL
  have e : (t.length :: t).getD 0 0 = t.length := rfl
  rw [if_pos rfl, if_neg (by decide), if_neg (by simp), e, if_neg (by omega), if_neg (by simp)]
  have e1 : (t.length :: t).take (1 + t.length) = t.length :: t := List.take_of_length_le (by simp; omega)
  have e2 : (t.length :: t).drop (1 + t.length) = [] := by rw [List.drop_eq_nil_iff]; simp; omega
  rw [e1, e2]
  rfl
end Go.Proofs.Ytljnfciolalbdaa
