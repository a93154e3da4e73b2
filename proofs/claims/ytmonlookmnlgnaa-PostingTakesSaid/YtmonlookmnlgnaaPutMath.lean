/- The bytes of postings, as lists; slices of postings read. -/
import Derived.Test.YtmonlookmnlgnaaChk
namespace Go.Proofs.Ytmonlookmnlgnaa
open Go.RowKit
set_option linter.unusedVariables false
set_option linter.unusedSimpArgs false

/-- A box of two cells. -/
theorem box2 (w : World) (t : TypeId) (x y : Value) : (w.alloc (.cells #[x, y] t)).cell? ⟨w.heap.size, 0, none⟩ = some x ∧ (w.alloc (.cells #[x, y] t)).cell? ⟨w.heap.size, 1, none⟩ = some y :=
  ⟨World.cell?_alloc_mark w _ t (0, 0) 0, World.cell?_alloc_mark w _ t (0, 0) 1⟩
theorem varL_five {v : Nat} (h : v < 4294967296) : (varL v).length ≤ 5 := by
  have key : ∀ (k v : Nat), v < 128 ^ k → 1 ≤ k → (varL v).length ≤ k := by
    intro k
    induction k with
    | zero => intro v _ h; omega
    | succ k ih =>
      intro v hv _
      by_cases h1 : v < 128
      · rw [varL_lt h1]; simp
      · rw [varL_ge h1, List.length_cons]
        have h2 : 1 ≤ k := by
          rcases Nat.eq_zero_or_pos k with h3 | h3
          · subst h3; simp at hv; omega
          · exact h3
        have := ih (v / 128) (by rw [Nat.pow_succ] at hv; exact Nat.div_lt_of_lt_mul (by rw [Nat.mul_comm]; exact hv)) h2
        omega
  exact key 5 v (by omega) (by decide)
def lastN (l : List Int) (k : Nat) : Nat := if k = 0 then 0 else (l.getD (k - 1) 0).toNat
theorem lastN_succ (l : List Int) (k : Nat) : lastN l (k + 1) = (l.getD k 0).toNat := by unfold lastN; rw [if_neg (by omega), Nat.add_sub_cancel]
/-- The first positions' bytes. -/
def posF (l : List Int) : Nat → List Nat
  | 0 => []
  | k + 1 => posF l k ++ varL ((l.getD k 0).toNat - lastN l k)
def bytesP (prev : Nat) (p : Po) : List Nat := varL (p.1 - prev) ++ varL p.2.length ++ posF p.2 p.2.length
theorem posF_byt (l : List Int) (k : Nat) : Byt (posF l k) := by
  induction k with
  | zero => exact Byt.nil
  | succ k ih => exact ih.append (varL_byt _)
theorem bytesP_byt (prev : Nat) (p : Po) : Byt (bytesP prev p) := ((varL_byt _).append (varL_byt _)).append (posF_byt _ _)
theorem okPos_lt {l : List Int} (h : okPos l) {k : Nat} (hk : k < l.length) : (l.getD k 0).toNat - lastN l k < 4294967296 ∧ (lastN l k : Int) ≤ l.getD k 0 ∧ lastN l k ≤ 1048576 := by
  have h1 := h k hk
  unfold lastN
  by_cases h0 : k = 0
  · rw [if_pos h0]
    have := h1.1
    have := h1.2.1
    omega
  · rw [if_neg h0]
    have h2 := h (k - 1) (by omega)
    have h3 := h1.2.2 (by omega)
    have := h1.2.1
    have := h2.1
    have := h2.2.1
    omega
theorem posF_len {l : List Int} (h : okPos l) (k : Nat) (hk : k ≤ l.length) : (posF l k).length ≤ 5 * k := by
  induction k with
  | zero => simp [posF]
  | succ k ih =>
    have h1 := ih (by omega)
    have h2 := varL_five (okPos_lt h (k := k) (by omega)).1
    simp only [posF, List.length_append]
    omega
theorem bytesP_len {prev : Nat} {p : Po} (h : okP prev p) : (bytesP prev p).length ≤ 10010 := by
  have h1 := varL_five (v := p.1 - prev) (by have := h.2.1; omega)
  have h2 := varL_five (v := p.2.length) (by have := h.2.2.2.1; omega)
  have h3 := posF_len h.2.2.2.2 _ (Nat.le_refl _)
  have := h.2.2.2.1
  simp only [bytesP, List.length_append]
  omega
noncomputable def putL (b : List Nat) (prev : Nat) (p : Po) : List Nat := open Classical in if okP prev p then b ++ bytesP prev p else []
theorem putL_yes {b : List Nat} {prev : Nat} {p : Po} (h : okP prev p) : putL b prev p = b ++ bytesP prev p := if_pos h
theorem putL_no {b : List Nat} {prev : Nat} {p : Po} (h : ¬ okP prev p) : putL b prev p = [] := if_neg h
/-- What Put answers. -/
def PutE (b : List Nat) (prev : Nat) (p : Po) (w : World) (e : Ending) (w' : World) : Prop := ∃ r, e = .returned (.tuple #[r, .int .i64 (chkP prev p)]) ∧ BS w' r (putL b prev p) ∧ Below w.heap.size w w'

/-- A slice of postings, read. -/
structure RdPo (w : World) (A : Option Addr) (n : Nat) (ls : List Po) : Prop where
  len : ls.length = n
  max : n ≤ 9223372036854775807
  cell : 0 < n → ∃ ad, A = some ad ∧ ∀ j (h : j < ls.length), ∃ B m c, w.cell? (ad.add (j * 2)) = some (.int .u32 (ls[j].1 : Nat)) ∧ w.cell? ⟨(ad.add (j * 2)).block, (ad.add (j * 2)).off + 1, none⟩ = some (.slice B m c) ∧
    m ≤ c ∧ c ≤ 9223372036854775807 ∧ Rd encI w B m ls[j].2 ∧ ls[j].1 < 4294967296
theorem RdPo.below {w w' : World} {A : Option Addr} {n : Nat} {ls : List Po} (h : RdPo w A n ls) (hb : Below w.heap.size w w') : RdPo w' A n ls :=
  ⟨h.len, h.max, fun h0 => by
    obtain ⟨ad, e, hc⟩ := h.cell h0
    refine ⟨ad, e, fun j hj => ?_⟩
    obtain ⟨B, m, c, h1, h2, h3, h4, h5, h6⟩ := hc j hj
    exact ⟨B, m, c, cell_keep hb h1, cell_keep hb h2, h3, h4, h5.below hb, h6⟩⟩
theorem RdPo.at {w : World} {A : Option Addr} {n : Nat} {ls : List Po} (h : RdPo w A n ls) {k : Nat} (hk : k < n) : ∃ (ad : Addr) (B : Option Addr) (m c : Nat) (d : Nat) (l : List Int), A = some ad ∧ Hid (∃ hl : k < ls.length, ls[k] = (d, l)) ∧
    w.cell? (ad.add (k * 2)) = some (.int .u32 (d : Nat)) ∧ w.cell? ⟨(ad.add (k * 2)).block, (ad.add (k * 2)).off + 1, none⟩ = some (.slice B m c) ∧ m ≤ c ∧ c ≤ 9223372036854775807 ∧ Hid (Rd encI w B m l) ∧ d ≤ 4294967295 := by
  obtain ⟨ad, e, hc⟩ := h.cell (by omega)
  have hl : k < ls.length := by rw [h.len]; exact hk
  obtain ⟨B, m, c, h1, h2, h3, h4, h5, h6⟩ := hc k hl
  exact ⟨ad, B, m, c, ls[k].1, ls[k].2, e, Lib.hid ⟨hl, rfl⟩, h1, h2, h3, h4, Lib.hid h5, by omega⟩
theorem RdPo.empty (w : World) : RdPo w Option.none 0 [] := ⟨rfl, by decide, fun h => by omega⟩
theorem RdPo.take {w : World} {A : Option Addr} {n : Nat} {l : List Po} (h : RdPo w A n l) (r : Nat) (hr : r ≤ n) : RdPo w A r (l.take r) :=
  ⟨by rw [List.length_take, h.len]; omega, by have := h.max; omega, fun h0 => by
    obtain ⟨ad, e, hcl⟩ := h.cell (by omega)
    exact ⟨ad, e, fun j hj => by rw [List.getElem_take]; exact hcl j (by simp at hj; omega)⟩⟩
theorem RdPo.drop {w : World} {A : Option Addr} {n : Nat} {l : List Po} (h : RdPo w A n l) (c r : Nat) (hr : r ≤ n) (hc : n ≤ c) : RdPo w (if c = r then A else A.map (·.add (r * 2))) (n - r) (l.drop r) :=
  ⟨by rw [List.length_drop, h.len], by have := h.max; omega, fun h0 => by
    obtain ⟨ad, rfl, hcl⟩ := h.cell (by omega)
    rw [if_neg (by omega)]
    refine ⟨ad.add (r * 2), rfl, fun j hj => ?_⟩
    have e : (ad.add (r * 2)).add (j * 2) = ad.add ((r + j) * 2) := by rw [add_add', Nat.add_mul]
    rw [List.getElem_drop, e]
    exact hcl (r + j) (by simp at hj; omega)⟩
/-- A value that reads as postings. -/
def LS (w : World) (v : Value) (ls : List Po) : Prop := ∃ A n c, v = .slice A n c ∧ n ≤ c ∧ c ≤ 9223372036854775807 ∧ RdPo w A n ls
theorem LS.below {w w' : World} {v : Value} {ls : List Po} (h : LS w v ls) (hb : Below w.heap.size w w') : LS w' v ls := by
  obtain ⟨A, n, c, e, h1, h2, h3⟩ := h
  exact ⟨A, n, c, e, h1, h2, h3.below hb⟩
theorem RdPo.pv {w : World} {B : Option Addr} {m c d : Nat} {l : List Int} (h : Rd encI w B m l) (h1 : m ≤ c) (h2 : c ≤ 9223372036854775807) (hd : d ≤ 4294967295) : PV w (.agg #[.int .u32 (d : Nat), .slice B m c]) (d, l) :=
  ⟨_, rfl, ⟨B, m, c, rfl, h1, h2, h⟩, by show d < _; omega⟩

def prevOf (ls : List Po) (i : Nat) : Nat := if i = 0 then 0 else (ls.getD (i - 1) (0, [])).1
theorem prevOf_succ (ls : List Po) (i : Nat) : prevOf ls (i + 1) = (ls.getD i (0, [])).1 := by unfold prevOf; rw [if_neg (by omega), Nat.add_sub_cancel]
def okLs (ls : List Po) (k : Nat) : Prop := ∀ i, i < k → okP (prevOf ls i) (ls.getD i (0, []))
def bytesLs (ls : List Po) : Nat → List Nat
  | 0 => []
  | k + 1 => bytesLs ls k ++ bytesP (prevOf ls k) (ls.getD k (0, []))
noncomputable def lsE (ls : List Po) : Int := open Classical in if okLs ls ls.length then 0 else 150
noncomputable def lsB (ls : List Po) : List Nat := open Classical in if okLs ls ls.length then bytesLs ls ls.length else []
theorem lsE_yes {ls : List Po} (h : okLs ls ls.length) : lsE ls = 0 ∧ lsB ls = bytesLs ls ls.length := ⟨if_pos h, if_pos h⟩
theorem lsE_no {ls : List Po} (h : ¬ okLs ls ls.length) : lsE ls = 150 ∧ lsB ls = [] := ⟨if_neg h, if_neg h⟩
theorem prevOf_ge {ls : List Po} {k : Nat} (h : okLs ls k) : k ≤ prevOf ls k ∧ prevOf ls k ≤ 2147483647 := by
  induction k with
  | zero => simp [prevOf]
  | succ k ih =>
    have h1 := ih fun i hi => h i (by omega)
    have h2 := h k (by omega)
    rw [prevOf_succ]
    have := h2.1
    have := h2.2.1
    omega
theorem bytesLs_len {ls : List Po} {k : Nat} (h : okLs ls k) : (bytesLs ls k).length ≤ 10010 * k := by
  induction k with
  | zero => simp [bytesLs]
  | succ k ih =>
    have h1 := ih fun i hi => h i (by omega)
    have h2 := bytesP_len (h k (by omega))
    simp only [bytesLs, List.length_append]
    omega
theorem bytesLs_byt (ls : List Po) (k : Nat) : Byt (bytesLs ls k) := by
  induction k with
  | zero => exact Byt.nil
  | succ k ih => exact ih.append (bytesP_byt _ _)
theorem getD_po {ls : List Po} {k : Nat} {x : Po} (h : ∃ hl : k < ls.length, ls[k] = x) : ls.getD k (0, []) = x := by
  obtain ⟨hl, rfl⟩ := h
  rw [List.getD_eq_getElem?_getD, List.getElem?_eq_getElem hl]; rfl
/-- What List answers. -/
def ListE (ls : List Po) (w : World) (e : Ending) (w' : World) : Prop := ∃ r, e = .returned (.tuple #[r, .int .i64 (lsE ls)]) ∧ BS w' r (lsB ls) ∧ Below w.heap.size w w'
end Go.Proofs.Ytmonlookmnlgnaa
