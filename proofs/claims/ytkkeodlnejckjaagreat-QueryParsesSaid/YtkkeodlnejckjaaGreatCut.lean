import Derived.Test.YtkkeodlnejckjaaGreatWoMath
import Derived.Test.YtkkeodlnejckjaaGreatBytes
import Derived.Shelf.Bytes.SlIndexAt

/- Pieces of a text: plain Lean. -/
namespace Go.Proofs.YtkkeodlnejckjaaGreat
open Go.RowKit
set_option linter.unusedVariables false
set_option linter.unusedSimpArgs false

def blankB (c : Nat) : Bool := c == 32 || (c == 9 || (c == 10 || c == 13))
def endsB (c : Nat) : Bool := blankB c || (c == 40 || (c == 41 || c == 34))
/-- What a row of bytes is: AND, OR, NOT, an item. -/
def wordK (b : List Nat) : Nat := if b = [65, 78, 68] then 5 else if b = [79, 82] then 6 else if b = [78, 79, 84] then 7 else 8
/-- How far an item goes, from its second byte on. -/
def itemN : List Nat → Nat
  | [] => 0
  | c :: r => if endsB c = true then 0 else itemN r + 1
theorem itemN_le : ∀ l : List Nat, itemN l ≤ l.length
  | [] => Nat.le_refl _
  | c :: r => by
    unfold itemN
    have := itemN_le r
    split <;> simp <;> omega
/-- How far it is to a quote. -/
def quoteN : List Nat → Option Nat
  | [] => none
  | c :: r => if c = 34 then some 0 else (quoteN r).map (· + 1)
theorem quoteN_lt : ∀ {l : List Nat} {n : Nat}, quoteN l = some n → n < l.length
  | [], n, h => by cases h
  | c :: r, n, h => by
    unfold quoteN at h
    split at h
    · injection h with h
      subst h
      simp
    · cases hq : quoteN r with
      | none => rw [hq] at h; cases h
      | some k =>
        rw [hq] at h
        simp at h
        have := quoteN_lt hq
        simp
        omega
/-- The piece that begins a text: what it is, how long it is. -/
def cutK : List Nat → Nat × Nat
  | [] => (0, 0)
  | c :: r => if c = 40 then (1, 1) else if c = 41 then (2, 1) else if c = 34 then (match quoteN r with
    | some n => (3, n + 2)
    | none => (4, r.length + 1)) else (wordK ((c :: r).take (itemN r + 1)), itemN r + 1)
theorem cutK_cons (c : Nat) (r : List Nat) : cutK (c :: r) = if c = 40 then (1, 1) else if c = 41 then (2, 1) else if c = 34 then (match quoteN r with
    | some n => (3, n + 2)
    | none => (4, r.length + 1)) else (wordK ((c :: r).take (itemN r + 1)), itemN r + 1) := rfl
theorem cutK_pos (c : Nat) (r : List Nat) : 1 ≤ (cutK (c :: r)).2 ∧ (cutK (c :: r)).2 ≤ r.length + 1 := by
  rw [cutK_cons]
  by_cases h1 : c = 40
  · rw [if_pos h1]; exact ⟨Nat.le_refl _, by simp⟩
  rw [if_neg h1]
  by_cases h2 : c = 41
  · rw [if_pos h2]; exact ⟨Nat.le_refl _, by simp⟩
  rw [if_neg h2]
  by_cases h3 : c = 34
  · rw [if_pos h3]
    cases hq : quoteN r with
    | none => simp
    | some n =>
      have := quoteN_lt hq
      simp
      omega
  rw [if_neg h3]
  have := itemN_le r
  exact ⟨by simp, by simpa using this⟩
/-- A piece: what it is, where it stands, its bytes. -/
abbrev Pc := Nat × Nat × List Nat
/-- The pieces of what stands at a place on. -/
def pcs : Nat → Nat → List Nat → List Pc
  | 0, _, _ => []
  | _ + 1, _, [] => []
  | f + 1, at_, c :: r => if blankB c = true then pcs f (at_ + 1) r else ((cutK (c :: r)).1, at_, (c :: r).take (cutK (c :: r)).2) :: pcs f (at_ + (cutK (c :: r)).2) ((c :: r).drop (cutK (c :: r)).2)
def piecesL (l : List Nat) : List Pc := pcs (l.length + 1) 0 l
theorem pcs_more : ∀ (f g : Nat) (at_ : Nat) (l : List Nat), l.length < f → f ≤ g → pcs g at_ l = pcs f at_ l
  | 0, _, _, _, h, _ => by omega
  | f + 1, 0, _, _, _, h => by omega
  | f + 1, g + 1, at_, [], _, _ => rfl
  | f + 1, g + 1, at_, c :: r, h, hg => by
    simp only [List.length_cons] at h
    have hc := cutK_pos c r
    unfold pcs
    split
    · exact pcs_more f g _ _ (by omega) (by omega)
    · congr 1
      refine pcs_more f g _ _ ?_ (by omega)
      rw [List.length_drop, List.length_cons]
      omega
/-- One step on. -/
theorem pcs_blank {l : List Nat} {i c : Nat} (h : ∃ hl : i < l.length, l[i] = c) (hb : blankB c = true) : pcs (l.length + 1) i (l.drop i) = pcs (l.length + 1) (i + 1) (l.drop (i + 1)) := by
  obtain ⟨hl, rfl⟩ := h
  conv => lhs; rw [List.drop_eq_getElem_cons hl]
  rw [pcs, if_pos hb]
  exact (pcs_more l.length (l.length + 1) _ _ (by rw [List.length_drop]; omega) (by omega)).symm
theorem pcs_cut {l : List Nat} {i c : Nat} (h : ∃ hl : i < l.length, l[i] = c) (hb : blankB c = false) :
    pcs (l.length + 1) i (l.drop i) = ((cutK (l.drop i)).1, i, (l.drop i).take (cutK (l.drop i)).2) :: pcs (l.length + 1) (i + (cutK (l.drop i)).2) (l.drop (i + (cutK (l.drop i)).2)) := by
  obtain ⟨hl, rfl⟩ := h
  have hc := cutK_pos l[i] (l.drop (i + 1))
  rw [← List.drop_eq_getElem_cons hl, List.length_drop] at hc
  conv => lhs; rw [List.drop_eq_getElem_cons hl]
  rw [pcs, if_neg (by rw [hb]; decide), ← List.drop_eq_getElem_cons hl, List.drop_drop]
  congr 1
  exact (pcs_more l.length (l.length + 1) _ _ (by rw [List.length_drop]; omega) (by omega)).symm
theorem pcs_end (f i : Nat) : pcs f i [] = [] := by cases f <;> rfl
end Go.Proofs.YtkkeodlnejckjaaGreat

/- The piece that begins a text. -/
namespace Go.Proofs.YtkkeodlnejckjaaGreat
open Go.RowKit Go.Shelf
set_option linter.unusedVariables false
set_option linter.unusedSimpArgs false

theorem byte_eq (c k : Nat) : ((c : Int) == (k : Int)) = (c == k) := by
  by_cases h : c = k
  · subst h; simp
  · rw [beq_eq_false_iff_ne.2 h, beq_eq_false_iff_ne.2 (by omega)]
set_option maxRecDepth 100000 in
set_option maxHeartbeats 1000000 in
theorem blank_any (c : Nat) (w : World) : Calls Tryz.prog 52 #[.int .u8 (c : Nat)] w fun e w' => e = .returned (.bool (blankB c)) ∧ w' = w := by
  obtain ⟨b1, h1⟩ : ∃ b, b = ((c : Int) == 32) := ⟨_, rfl⟩
  obtain ⟨b2, h2⟩ : ∃ b, b = ((c : Int) == 9) := ⟨_, rfl⟩
  obtain ⟨b3, h3⟩ : ∃ b, b = ((c : Int) == 10) := ⟨_, rfl⟩
  obtain ⟨b4, h4⟩ : ∃ b, b = ((c : Int) == 13) := ⟨_, rfl⟩
  have HB : Hid (blankB c = (b1 || (b2 || (b3 || b4)))) := Lib.hid (by
    have e1 := byte_eq c 32
    have e2 := byte_eq c 9
    have e3 := byte_eq c 10
    have e4 := byte_eq c 13
    unfold blankB
    rw [h1, h2, h3, h4, ← e1, ← e2, ← e3, ← e4]
    rfl)
  replace h1 := h1.symm
  replace h2 := h2.symm
  replace h3 := h3.symm
  replace h4 := h4.symm
  go_enter Tryz.func52, Tryz.ntmps52
  cases b1
  · cases b2
    · cases b3
      · cases b4
        · go_wp2
          go_ret
          exact ⟨by rw [HB.out]; rfl, rfl⟩
        · go_wp2
          go_ret
          exact ⟨by rw [HB.out]; rfl, rfl⟩
      · go_wp2
        go_ret
        exact ⟨by rw [HB.out]; rfl, rfl⟩
    · go_wp2
      go_ret
      exact ⟨by rw [HB.out]; rfl, rfl⟩
  · go_wp2
    go_ret
    exact ⟨by rw [HB.out]; rfl, rfl⟩
set_option maxRecDepth 100000 in
set_option maxHeartbeats 1000000 in
theorem ends_any (c : Nat) (w : World) : Calls Tryz.prog 76 #[.int .u8 (c : Nat)] w fun e w' => e = .returned (.bool (endsB c)) ∧ w' = w := by
  have C := Lib.hid (blank_any c w)
  obtain ⟨b0, h0⟩ : ∃ b, b = blankB c := ⟨_, rfl⟩
  rw [← h0] at C
  obtain ⟨b1, h1⟩ : ∃ b, b = ((c : Int) == 40) := ⟨_, rfl⟩
  obtain ⟨b2, h2⟩ : ∃ b, b = ((c : Int) == 41) := ⟨_, rfl⟩
  obtain ⟨b3, h3⟩ : ∃ b, b = ((c : Int) == 34) := ⟨_, rfl⟩
  have HB : Hid (endsB c = (b0 || (b1 || (b2 || b3)))) := Lib.hid (by
    have e1 := byte_eq c 40
    have e2 := byte_eq c 41
    have e3 := byte_eq c 34
    unfold endsB
    rw [h0, h1, h2, h3, ← e1, ← e2, ← e3]
    rfl)
  clear h0
  replace h1 := h1.symm
  replace h2 := h2.symm
  replace h3 := h3.symm
  go_enter Tryz.func76, Tryz.ntmps76
  go_wp2_with fail
  refine C.out.mono ?_
  rintro e w1 ⟨rfl, rfl⟩
  clear C
  cases b0
  · cases b1
    · cases b2
      · cases b3
        · go_wp2
          go_ret
          exact ⟨by rw [HB.out]; rfl, rfl⟩
        · go_wp2
          go_ret
          exact ⟨by rw [HB.out]; rfl, rfl⟩
      · go_wp2
        go_ret
        exact ⟨by rw [HB.out]; rfl, rfl⟩
    · go_wp2
      go_ret
      exact ⟨by rw [HB.out]; rfl, rfl⟩
  · go_wp2
    go_ret
    exact ⟨by rw [HB.out]; rfl, rfl⟩
/-- Where a quote is, or -1. -/
def quoteI (l : List Nat) : Int := match quoteN l with
  | some n => (n : Int)
  | none => -1
theorem quote_idx : ∀ (l : List Nat), Byt l → Lib.indexByte (Lib.bytesOf (l.map fun x : Nat => (x : Int))) (34 : Int).toNat.toUInt8 = quoteI l
  | [], _ => rfl
  | c :: r, h => by
    have ih := quote_idx r fun x hx => h x (by simp [hx])
    have hc := h c (by simp)
    have e1 : Lib.bytesOf ((c :: r).map fun x : Nat => (x : Int)) = UInt8.ofNat c :: Lib.bytesOf (r.map fun x : Nat => (x : Int)) := by simp [Lib.bytesOf]
    have e2 : (34 : Int).toNat.toUInt8 = (34 : UInt8) := rfl
    rw [e1, Lib.indexByte, ih]
    by_cases h34 : c = 34
    · subst h34
      have : (UInt8.ofNat 34 == (34 : Int).toNat.toUInt8) = true := by decide
      rw [if_pos this]
      simp [quoteI, quoteN]
    · have : ¬ (UInt8.ofNat c == (34 : Int).toNat.toUInt8) = true := by
        rw [e2]
        intro hh
        have h3 : UInt8.ofNat c = 34 := by simpa using hh
        have h4 := congrArg UInt8.toNat h3
        rw [UInt8.toNat_ofNat'] at h4
        have h5 : (34 : UInt8).toNat = 34 := rfl
        rw [h5] at h4
        omega
      rw [if_neg this]
      unfold quoteI
      rw [quoteN, if_neg h34]
      cases hq : quoteN r with
      | none => simp
      | some n =>
        simp
set_option maxRecDepth 100000 in
set_option maxHeartbeats 2000000 in
theorem index_any (ad : Addr) (n c : Nat) (l : List Nat) (w : World) (h : RdB w (some ad) n l) :
    Calls Tryz.prog 75 #[.slice (some ad) n c, .int .u8 34] w fun e w' => e = .returned (.int .i64 (quoteI l)) ∧ w' = w := by
  have hc : ∀ j (hj : j < l.length), w.cell? (ad.add j) = some (encB l[j]) := fun j hj => by
    obtain ⟨ad', e, hc⟩ := h.rd.cell (by have := h.len; omega)
    cases e
    exact hc j hj
  have hx : (l.map fun x : Nat => (x : Int)).length = n := by rw [List.length_map, h.len]
  have hcell : ∀ i, i < n → w.cell? (ad.add i) = some (.int .u8 ((l.map fun x : Nat => (x : Int)).getD i 0)) := fun i hi => by
    have hl : i < l.length := by rw [h.len]; exact hi
    rw [hc i hl, List.getD_eq_getElem?_getD, List.getElem?_map, List.getElem?_eq_getElem hl]
    rfl
  have HQ := Lib.hid (quote_idx l h.byt)
  have hrun := Lib.run_indexByteAt (P := Tryz.prog) w ad n c _ hx hcell 34
  rw [HQ.out] at hrun
  clear h hc hx hcell
  go_enter Tryz.func75, Tryz.ntmps75
  go_wp2
  rw [run_callFunc_extern Tryz.func95 (by kernel_rfl) (by kernel_rfl) (by kernel_rfl) (e := Extern.BytealgIndexByte.indexByte) (by kernel_rfl), hrun]
  simp only [Result.andThen]
  rw [Oper.upon_value]
  go_wp2
  go_ret
  exact ⟨rfl, rfl⟩
end Go.Proofs.YtkkeodlnejckjaaGreat
