/- Runes of bytes, as lists. No program. -/
import Derived.Lib.DecodeN
import Derived.Lib.TrimU
import Derived.Lib.RuneCountTail
import Derived.Laws.BytesArg
import Derived.Laws.Cover4
import Derived.Test.YtkkeodlnejckjaaGreatBytes
namespace Go.Proofs.YtkkeodlnejckjaaGreat
open Go.RowKit
set_option linter.unusedVariables false
set_option linter.unusedSimpArgs false

def dec (l : List Nat) : Nat × Nat := Lib.decodeN l.length (l.getD 0 0) (l.getD 1 0) (l.getD 2 0) (l.getD 3 0)
def strL (l : List Nat) : ByteArray := ⟨(l.map UInt8.ofNat).toArray⟩
theorem strL_size (l : List Nat) : (strL l).size = l.length := by simp [strL, ByteArray.size]
theorem strL_get (l : List Nat) (hb : Byt l) (i : Nat) : ((strL l).get! i).toNat = l.getD i 0 := by
  rw [← Lib.getD_get!']
  simp only [strL, List.getD_eq_getElem?_getD, List.getElem?_map]
  rcases Nat.lt_or_ge i l.length with h | h
  · have := hb _ (List.getElem_mem h)
    simp [List.getElem?_eq_getElem h]
    omega
  · simp [List.getElem?_eq_none h]
theorem decode_strL (l : List Nat) (hb : Byt l) (pos : Nat) : Utf8.decode (strL l) pos = dec (l.drop pos) := by
  rw [Lib.decode_at, strL_size, strL_get l hb, strL_get l hb, strL_get l hb, strL_get l hb]
  unfold dec
  rw [List.length_drop]
  simp only [List.getD_eq_getElem?_getD, List.getElem?_drop, Nat.add_zero]
theorem dec_w (l : List Nat) : 1 ≤ (dec l).2 := Lib.decodeN_ge1 _ _ _ _ _
theorem dec_r (l : List Nat) (hb : Byt l) : (dec l).1 ≤ 1114111 := Lib.decodeN_rune_le _ _ _ _ _ (hb.getD 0)
theorem dec_le (l : List Nat) (h : l ≠ []) : (dec l).2 ≤ l.length := by
  have : 0 < l.length := List.length_pos_iff.2 h
  unfold dec Lib.decodeN
  repeat' split
  all_goals simp_all
  all_goals omega

/-- The runes, and where they are. -/
def mkL : Nat → Nat → List Nat → List (Nat × Nat)
  | 0, _, _ => []
  | f + 1, k, l => if l = [] then [] else (k, (dec l).1) :: mkL f (k + (dec l).2) (l.drop (dec l).2)
def marksL (l : List Nat) : List (Nat × Nat) := mkL l.length 0 l
def rnsL (l : List Nat) : List Nat := (marksL l).map (·.2)
theorem mkL_nil : ∀ (f k : Nat), mkL f k [] = []
  | 0, _ => rfl
  | f + 1, k => by simp [mkL]
theorem mkL_fuel : ∀ (f g k : Nat) (l : List Nat), l.length ≤ f → l.length ≤ g → mkL f k l = mkL g k l
  | 0, g, k, l, h1, h2 => by
    obtain rfl : l = [] := List.eq_nil_of_length_eq_zero (by omega)
    rw [mkL_nil, mkL_nil]
  | f + 1, 0, k, l, h1, h2 => by
    obtain rfl : l = [] := List.eq_nil_of_length_eq_zero (by omega)
    rw [mkL_nil, mkL_nil]
  | f + 1, g + 1, k, l, h1, h2 => by
    unfold mkL
    by_cases h : l = []
    · rw [if_pos h, if_pos h]
    · rw [if_neg h, if_neg h]
      have := dec_w l
      rw [mkL_fuel f g _ _ (by simp; omega) (by simp; omega)]
/-- From a place on. -/
def mkAt (k : Nat) (l : List Nat) : List (Nat × Nat) := mkL l.length k l
theorem mkAt_nil (k : Nat) : mkAt k [] = [] := rfl
theorem mkAt_step (k : Nat) (l : List Nat) (h : l ≠ []) : mkAt k l = (k, (dec l).1) :: mkAt (k + (dec l).2) (l.drop (dec l).2) := by
  unfold mkAt
  have h0 : 0 < l.length := List.length_pos_iff.2 h
  have := dec_w l
  obtain ⟨f, hf⟩ : ∃ f, l.length = f + 1 := ⟨l.length - 1, by omega⟩
  rw [hf, mkL, if_neg h, mkL_fuel f (l.drop (dec l).2).length _ _ (by simp; omega) (Nat.le_refl _)]
theorem mkAt_len : ∀ (n k : Nat) (l : List Nat), l.length ≤ n → (mkAt k l).length ≤ l.length
  | 0, k, l, h => by
    obtain rfl : l = [] := List.eq_nil_of_length_eq_zero (by omega)
    simp [mkAt_nil]
  | n + 1, k, l, h => by
    by_cases h0 : l = []
    · subst h0; simp [mkAt_nil]
    · have hw := dec_w l
      have hp : 0 < l.length := List.length_pos_iff.2 h0
      rw [mkAt_step k l h0]
      have := mkAt_len n (k + (dec l).2) (l.drop (dec l).2) (by simp; omega)
      simp at this ⊢
      omega
theorem marksL_len (l : List Nat) : (marksL l).length ≤ l.length := mkAt_len l.length 0 l (Nat.le_refl _)
theorem mkAt_lt : ∀ (n k : Nat) (l : List Nat), Byt l → l.length ≤ n → ∀ x ∈ mkAt k l, k ≤ x.1 ∧ x.1 < k + l.length ∧ x.2 ≤ 1114111
  | 0, k, l, hb, h, x, hx => by
    obtain rfl : l = [] := List.eq_nil_of_length_eq_zero (by omega)
    simp [mkAt_nil] at hx
  | n + 1, k, l, hb, h, x, hx => by
    by_cases h0 : l = []
    · subst h0; simp [mkAt_nil] at hx
    · have hw := dec_w l
      have hp : 0 < l.length := List.length_pos_iff.2 h0
      rw [mkAt_step k l h0] at hx
      rcases List.mem_cons.1 hx with rfl | hx
      · exact ⟨Nat.le_refl _, by simp; omega, dec_r l hb⟩
      · have hl := dec_le l h0
        have := mkAt_lt n (k + (dec l).2) (l.drop (dec l).2) (hb.drop _) (by simp; omega) x hx
        simp at this
        omega
theorem rns_step (l : List Nat) (h : l ≠ []) : rnsL l = (dec l).1 :: rnsL (l.drop (dec l).2) := by
  have key : ∀ (n k j : Nat) (l : List Nat), l.length ≤ n → (mkAt k l).map (·.2) = (mkAt j l).map (·.2) := by
    intro n
    induction n with
    | zero =>
      intro k j l hl
      obtain rfl : l = [] := List.eq_nil_of_length_eq_zero (by omega)
      simp [mkAt_nil]
    | succ n ih =>
      intro k j l hl
      by_cases h0 : l = []
      · subst h0; simp [mkAt_nil]
      · have hw := dec_w l
        have hp : 0 < l.length := List.length_pos_iff.2 h0
        rw [mkAt_step k l h0, mkAt_step j l h0, List.map_cons, List.map_cons, ih (k + (dec l).2) (j + (dec l).2) _ (by simp; omega)]
  show (mkAt 0 l).map (·.2) = _
  rw [mkAt_step 0 l h, List.map_cons]
  rw [key _ (0 + (dec l).2) 0 _ (Nat.le_refl _)]
  rfl
theorem rns_len (l : List Nat) : (rnsL l).length = (marksL l).length := by simp [rnsL]

/-- A rune's bytes. -/
def encL (r : Int) : List Nat := (Utf8.encode r).data.toList.map UInt8.toNat
def encsL (rs : List Int) : List Nat := rs.flatMap encL
theorem strL_toNat (s : ByteArray) : strL (s.data.toList.map UInt8.toNat) = s := by
  cases s with
  | mk d =>
    simp [strL, Function.comp_def]
theorem byt_toNat (s : ByteArray) : Byt (s.data.toList.map UInt8.toNat) := fun c hc => by
  obtain ⟨x, _, rfl⟩ := List.mem_map.1 hc
  exact x.toNat_lt
theorem encsL_byt (rs : List Int) : Byt (encsL rs) := fun c hc => by
  obtain ⟨r, _, h⟩ := List.mem_flatMap.1 hc
  exact byt_toNat _ c h
theorem strL_append (a b : List Nat) : strL (a ++ b) = strL a ++ strL b := by
  apply ByteArray.ext
  apply Array.ext'
  simp [strL, ByteArray.data_append]
theorem runesBytes_eq (rs : List Int) : runesBytes rs = strL (encsL rs) := by
  have key : ∀ (rs : List Int) (s : ByteArray), rs.foldl (fun r n => r ++ Utf8.encode n) s = s ++ strL (encsL rs) := by
    intro rs
    induction rs with
    | nil =>
      intro s
      apply ByteArray.ext
      apply Array.ext'
      simp [encsL, strL, ByteArray.data_append]
    | cons r rs ih =>
      intro s
      rw [List.foldl_cons, ih]
      show _ = s ++ strL (encL r ++ encsL rs)
      rw [strL_append]
      unfold encL
      rw [strL_toNat]
      apply ByteArray.ext
      apply Array.ext'
      simp [ByteArray.data_append]
  unfold runesBytes
  rw [key]
  apply ByteArray.ext
  apply Array.ext'
  simp [ByteArray.data_append]
/-- Two texts are the same just where their bytes are. -/
theorem strL_inj {a b : List Nat} (ha : Byt a) (hb : Byt b) (h : strL a = strL b) : a = b := by
  have h1 : a.map UInt8.ofNat = b.map UInt8.ofNat := by
    have := congrArg (fun s => s.data.toList) h
    simpa [strL] using this
  have h2 : ∀ l : List Nat, Byt l → (l.map UInt8.ofNat).map UInt8.toNat = l := by
    intro l hl
    rw [List.map_map]
    apply List.ext_getElem
    · simp
    · intro i h3 h4
      have := hl _ (List.getElem_mem h4)
      simp
      omega
  rw [← h2 a ha, ← h2 b hb, h1]
end Go.Proofs.YtkkeodlnejckjaaGreat
