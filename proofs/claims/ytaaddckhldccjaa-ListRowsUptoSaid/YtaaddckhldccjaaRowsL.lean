/- Rows of words: by going over the texts. -/
import Derived.Test.YtaaddckhldccjaaPst
import Derived.Test.YtaaddckhldccjaaPhr
namespace Go.Proofs.Ytaaddckhldccjaa
open Go.RowKit
set_option linter.unusedVariables false
set_option linter.unusedSimpArgs false

/-- Which words are looked at. -/
def ix (sk : Nat → Bool) (k : Nat) : List Nat := (List.range k).filter fun i => !(decide (0 < i) && sk i)
theorem ix_no {sk : Nat → Bool} {k : Nat} (h0 : 0 < k) (h : sk k = true) : ix sk (k + 1) = ix sk k := by
  unfold ix
  rw [List.range_succ, List.filter_append]
  simp [h0, h]
theorem ix_yes {sk : Nat → Bool} {k : Nat} (h : k = 0 ∨ sk k = false) : ix sk (k + 1) = ix sk k ++ [k] := by
  unfold ix
  rw [List.range_succ, List.filter_append]
  congr 1
  rcases h with rfl | h
  · simp
  · simp [h]
theorem ix_len (sk : Nat → Bool) (k : Nat) : (ix sk k).length ≤ k := by
  have := List.length_filter_le (fun i => !(decide (0 < i) && sk i)) (List.range k)
  simpa [ix] using this
def skB (skip k : Nat) : Bool := bits .and .u8 ((skip : Int) / 2 ^ k) 1 == 1
/-- Do the words stand so from a place on? -/
def frB (t ws : List Nat) (f o : Nat) : Bool := decide (f + o < t.length) && decide (t.getD (f + o) 0 = ws.getD o 0)
def fromB (t ws ixs : List Nat) (f : Nat) : Bool := ixs.all (frB t ws f)
def rowIn (t ws ixs : List Nat) (k : Nat) : List Int := (List.range k).filterMap fun f => if fromB t ws ixs f = true then some (f : Int) else none
theorem rowIn_yes {t ws ixs : List Nat} {k : Nat} (h : fromB t ws ixs k = true) : rowIn t ws ixs (k + 1) = rowIn t ws ixs k ++ [(k : Int)] := by
  unfold rowIn
  rw [List.range_succ, List.filterMap_append]
  have e : [k].filterMap (fun f => if fromB t ws ixs f = true then some (f : Int) else none) = [(k : Int)] := by
    rw [List.filterMap_cons, if_pos h]; rfl
  rw [e]
theorem rowIn_no {t ws ixs : List Nat} {k : Nat} (h : fromB t ws ixs k = false) : rowIn t ws ixs (k + 1) = rowIn t ws ixs k := by
  unfold rowIn
  rw [List.range_succ, List.filterMap_append]
  have e : [k].filterMap (fun f => if fromB t ws ixs f = true then some (f : Int) else none) = [] := by
    rw [List.filterMap_cons, if_neg (by rw [h]; decide)]; rfl
  rw [e, List.append_nil]
theorem rowIn_len (t ws ixs : List Nat) (k : Nat) : (rowIn t ws ixs k).length ≤ k := by
  have := List.length_filterMap_le (fun f => if fromB t ws ixs f = true then some (f : Int) else none) (List.range k)
  simpa [rowIn] using this
theorem all_step {p : Nat → Bool} {l : List Nat} {j x : Nat} (h : ∃ hl : j < l.length, l[j] = x) : (l.take (j + 1)).all p = ((l.take j).all p && p x) := by
  obtain ⟨hl, rfl⟩ := h
  rw [List.take_succ_eq_append_getElem hl, List.all_append]
  simp
def wantAt (T : List TV) (ws ixs : List Nat) (i : Nat) : List Int := rowIn (txA T i) ws ixs (txA T i).length
theorem ix_lt {sk : Nat → Bool} {k o : Nat} (h : o ∈ ix sk k) : o < k := List.mem_range.1 (List.mem_filter.1 h).1
theorem fm_congr {α β : Type} {f g : α → Option β} : ∀ {l : List α}, (∀ x ∈ l, f x = g x) → l.filterMap f = l.filterMap g
  | [], _ => rfl
  | x :: l, h => by
    rw [List.filterMap_cons, List.filterMap_cons, h x (by simp), fm_congr fun y hy => h y (List.mem_cons_of_mem _ hy)]
theorem okPos_of {l : List Int} (hp : l.Pairwise (· < ·)) (hb : ∀ x ∈ l, 0 ≤ x ∧ x ≤ 1048576) : okPos l := fun i hi => by
  have e := posAt (l := l) (k := i) (x := l[i]) ⟨hi, rfl⟩
  unfold okAt
  rw [e]
  refine ⟨(hb _ (List.getElem_mem hi)).1, (hb _ (List.getElem_mem hi)).2, fun h0 => ?_⟩
  rw [posAt (l := l) (k := i - 1) (x := l[i - 1]) ⟨by omega, rfl⟩]
  exact List.pairwise_iff_getElem.1 hp (i - 1) i (by omega) hi (by omega)
theorem mem_posIn {t : List Nat} {wd k : Nat} {x : Int} : x ∈ posIn t wd k ↔ ∃ j, j < k ∧ t.getD j 0 = wd ∧ x = (j : Int) := by
  unfold posIn
  rw [List.mem_filterMap]
  constructor
  · rintro ⟨j, hj, h⟩
    split at h
    · rename_i hq
      exact ⟨j, List.mem_range.1 hj, hq, (Option.some.inj h).symm⟩
    · cases h
  · rintro ⟨j, hj, hq, rfl⟩
    exact ⟨j, List.mem_range.2 hj, if_pos hq⟩
theorem posIn_pair (t : List Nat) (wd k : Nat) : (posIn t wd k).Pairwise (· < ·) := by
  unfold posIn
  refine List.Pairwise.filterMap _ (R := (· < ·)) ?_ List.pairwise_lt_range
  intro a a' haa b hb b' hb'
  split at hb
  · split at hb'
    · cases hb; cases hb'; omega
    · cases hb'
  · cases hb
theorem wordAt_ok {T : List TV} {wd i : Nat} (h : (txA T i).length ≤ 200) : okPos (wordAt T wd i) ∧ (wordAt T wd i).length ≤ 2000 := by
  refine ⟨okPos_of (posIn_pair _ _ _) fun x hx => ?_, by have := posIn_len (txA T i) wd (txA T i).length; unfold wordAt; omega⟩
  obtain ⟨j, hj, _, rfl⟩ := mem_posIn.1 hx
  omega
theorem mem_pst {f : Nat → List Int} {k : Nat} {p : Po} : p ∈ pstBy f k ↔ ∃ i, i < k ∧ f i ≠ [] ∧ p = (i + 1, f i) := by
  unfold pstBy
  rw [List.mem_filterMap]
  constructor
  · rintro ⟨i, hi, h⟩
    split at h
    · cases h
    · rename_i hq
      exact ⟨i, List.mem_range.1 hi, hq, (Option.some.inj h).symm⟩
  · rintro ⟨i, hi, hq, rfl⟩
    exact ⟨i, List.mem_range.2 hi, if_neg hq⟩
theorem pst_pair (f : Nat → List Int) (k : Nat) : (pstBy f k).Pairwise (fun p q => p.1 < q.1) := by
  unfold pstBy
  refine List.Pairwise.filterMap _ (R := (· < ·)) ?_ List.pairwise_lt_range
  intro a a' haa b hb b' hb'
  split at hb
  · cases hb
  · split at hb'
    · cases hb'
    · cases hb; cases hb'; show a + 1 < a' + 1; omega
theorem rt_of {ls : List Po} (hp : ls.Pairwise (fun p q => p.1 < q.1)) (hb : ∀ p ∈ ls, 1 ≤ p.1 ∧ p.1 ≤ 2147483647 ∧ 1 ≤ p.2.length ∧ p.2.length ≤ 2000 ∧ okPos p.2) : Rt ls := fun i hi => by
  obtain ⟨h1, h2, h3, h4, h5⟩ := hb _ (List.getElem_mem hi)
  rw [getD_of ⟨hi, rfl⟩]
  refine ⟨?_, h2, h3, h4, h5⟩
  cases i with
  | zero => exact h1
  | succ i =>
    rw [prevOf_succ, getD_of ⟨show i < ls.length by omega, rfl⟩]
    exact List.pairwise_iff_getElem.1 hp i (i + 1) (by omega) hi (by omega)
theorem pst_rt {f : Nat → List Int} {k : Nat} (hk : k ≤ 20) (h : ∀ i, i < k → okPos (f i) ∧ (f i).length ≤ 2000) : Rt (pstBy f k) := rt_of (pst_pair f k) fun p hp => by
  obtain ⟨i, hi, hne, rfl⟩ := mem_pst.1 hp
  have := h i hi
  refine ⟨by show 1 ≤ i + 1; omega, by show i + 1 ≤ _; omega, ?_, this.2, this.1⟩
  show 1 ≤ (f i).length
  cases hf : f i with
  | nil => exact absurd hf hne
  | cons a l => simp
theorem posDoc_pst {f : Nat → List Int} {k i : Nat} (hr : Rt (pstBy f k)) (hi : i < k) : posDoc (pstBy f k) (i + 1) = f i := by
  by_cases h : f i = []
  · rw [h]
    refine posDoc_not fun p hp e => ?_
    obtain ⟨j, hj, hne, rfl⟩ := mem_pst.1 hp
    have : j = i := by simpa using e
    subst this
    exact hne h
  · exact posDoc_mem hr (p := (i + 1, f i)) (mem_pst.2 ⟨i, hi, h, rfl⟩)
theorem ix_head (sk : Nat → Bool) (m : Nat) (h : 1 ≤ m) : (ix sk m).getD 0 0 = 0 ∧ 1 ≤ (ix sk m).length ∧ 0 ∈ ix sk m := by
  obtain ⟨m', rfl⟩ : ∃ m', m = m' + 1 := ⟨m - 1, by omega⟩
  unfold ix
  rw [List.range_succ_eq_map, List.filter_cons]
  simp
theorem ix_pair (sk : Nat → Bool) (m : Nat) : (ix sk m).Pairwise (· < ·) := List.Pairwise.filter _ List.pairwise_lt_range
theorem rows_law (T : List TV) (n : Nat) (ws : List Nat) (sk : Nat → Bool) (m : Nat) (L : List VV) (lo : List Int) (hL : L.map (·.l) = (ix sk m).map fun i => pstBy (wordAt T (ws.getD i 0)) n) (hlo : lo = (ix sk m).map Int.ofNat) (h1 : 1 ≤ m) (h6 : m ≤ 6) (hn : n ≤ 20) (ht : ∀ i, i < n → (txA T i).length ≤ 200) :
    phE lo L = 0 ∧ phX lo L = pstBy (wantAt T ws (ix sk m)) n := by
  obtain ⟨ih0, ihl, ihm⟩ := ix_head sk m h1
  have ihx := ix_len sk m
  have hlen : L.length = (ix sk m).length := by have := congrArg List.length hL; rwa [List.length_map, List.length_map] at this
  have hlol : lo.length = (ix sk m).length := by rw [hlo, List.length_map]
  have hloA : ∀ j (hj : j < (ix sk m).length), lo.getD j 0 = ((ix sk m)[j] : Int) := fun j hj => by
    rw [posAt (l := lo) (k := j) (x := ((ix sk m)[j] : Int)) ⟨by omega, by simp [hlo]⟩]
  have hLA : ∀ j (hj : j < L.length), L[j].l = pstBy (wordAt T (ws.getD ((ix sk m)[j]'(by omega)) 0)) n := fun j hj => by
    have h3 := congrArg (fun l => l[j]?) hL
    simp only [List.getElem?_map] at h3
    rw [List.getElem?_eq_getElem hj, List.getElem?_eq_getElem (show j < (ix sk m).length by omega)] at h3
    simpa using h3
  have hok : ∀ wd, Rt (pstBy (wordAt T wd) n) := fun wd => pst_rt hn fun i hi => wordAt_ok (ht i hi)
  have hall : allRt L := fun x hx => by
    obtain ⟨j, hj, rfl⟩ := List.getElem_of_mem hx
    rw [hLA j hj]
    exact hok _
  have ho : offOk lo L.length := by
    refine ⟨by omega, by omega, by omega, ?_, fun i hi hi2 => ?_⟩
    · rw [hloA 0 (by omega)]
      have := ih0
      rw [List.getD_eq_getElem?_getD, List.getElem?_eq_getElem (by omega)] at this
      simpa using this
    · have hi3 : i < (ix sk m).length := by omega
      unfold offAt
      rw [hloA i hi3, hloA (i - 1) (by omega)]
      have h4 := List.pairwise_iff_getElem.1 (ix_pair sk m) (i - 1) i (by omega) hi3 (by omega)
      have h5 := ix_lt (List.getElem_mem hi3)
      omega
  refine ⟨by unfold phE; rw [if_pos ho, if_pos hall], ?_⟩
  unfold phX
  rw [if_pos ⟨ho, hall⟩]
  have e0 : (L.map (·.l)).getD 0 [] = pstBy (wordAt T (ws.getD 0 0)) n := by
    rw [hL, List.getD_eq_getElem?_getD, List.getElem?_map, List.getElem?_eq_getElem (show 0 < (ix sk m).length by omega)]
    have := ih0
    rw [List.getD_eq_getElem?_getD, List.getElem?_eq_getElem (by omega)] at this
    simp at this
    simp [this]
  rw [e0]
  have hpos : ∀ i, i < n → ∀ j (hj : j < (ix sk m).length), posOf (wsOf L (i + 1)) j = posIn (txA T i) (ws.getD ((ix sk m)[j]) 0) (txA T i).length := fun i hi j hj => by
    rw [wsOf_pos ⟨show j < L.length by omega, rfl⟩, hLA j (by omega), posDoc_pst (hok _) hi]
    rfl
  have hst : ∀ i, i < n → ∀ f : Nat, stand lo (wsOf L (i + 1)) (f : Int) (wsOf L (i + 1)).length ↔ fromB (txA T i) ws (ix sk m) f = true := fun i hi f => by
    unfold fromB stand
    rw [wsOf_len, hlen, List.all_eq_true]
    have key : ∀ o, (((f : Int) + (o : Int)) ∈ posIn (txA T i) (ws.getD o 0) (txA T i).length) ↔ frB (txA T i) ws f o = true := fun o => by
      unfold frB
      rw [mem_posIn, Bool.and_eq_true, decide_eq_true_eq, decide_eq_true_eq]
      constructor
      · rintro ⟨j, hj, h7, h8⟩
        obtain rfl : j = f + o := by omega
        exact ⟨hj, h7⟩
      · rintro ⟨hj, h7⟩
        exact ⟨f + o, hj, h7, by omega⟩
    constructor
    · intro h o hm
      obtain ⟨j, hj, rfl⟩ := List.getElem_of_mem hm
      have := h j hj
      rw [hloA j hj, hpos i hi j hj] at this
      exact (key _).1 this
    · intro h j hj
      rw [hloA j hj, hpos i hi j hj]
      exact (key _).2 (h _ (List.getElem_mem hj))
  have hat : ∀ i, i < n → phAt lo L (i + 1) = wantAt T ws (ix sk m) i := fun i hi => by
    unfold phAt rowL rowOf wantAt rowIn
    rw [hpos i hi 0 (by omega)]
    unfold posIn
    rw [List.filter_filterMap]
    refine fm_congr fun f hf => ?_
    have hz : (ix sk m)[0]'(by omega) = 0 := by
      have := ih0
      rw [List.getD_eq_getElem?_getD, List.getElem?_eq_getElem (by omega)] at this
      simpa using this
    rw [hz]
    by_cases hb : fromB (txA T i) ws (ix sk m) f = true
    · rw [if_pos hb]
      have h7 : (txA T i).getD f 0 = ws.getD 0 0 := by
        have h8 := List.all_eq_true.1 hb 0 ihm
        unfold frB at h8
        rw [Bool.and_eq_true, decide_eq_true_eq, decide_eq_true_eq] at h8
        simpa using h8.2
      rw [if_pos h7]
      simp [(hst i hi f).2 hb]
    · rw [if_neg hb]
      have h9 : ¬ stand lo (wsOf L (i + 1)) (f : Int) (wsOf L (i + 1)).length := fun h => hb ((hst i hi f).1 h)
      split
      · simp [h9]
      · rfl
  unfold phL pstBy
  rw [List.filterMap_filterMap]
  refine fm_congr fun i hi => ?_
  have hi := List.mem_range.1 hi
  by_cases hw : wordAt T (ws.getD 0 0) i = []
  · rw [if_pos hw]
    have : wantAt T ws (ix sk m) i = [] := by
      rw [← hat i hi]
      unfold phAt rowL rowOf
      have h7 := hpos i hi 0 (by omega)
      have hz : (ix sk m)[0]'(by omega) = 0 := by
        have := ih0
        rw [List.getD_eq_getElem?_getD, List.getElem?_eq_getElem (by omega)] at this
        simpa using this
      rw [hz] at h7
      rw [h7]
      unfold wordAt at hw
      rw [hw]
      rfl
    rw [if_pos this]
    rfl
  · rw [if_neg hw]
    simp only [Option.bind_some]
    rw [hat i hi]
end Go.Proofs.Ytaaddckhldccjaa
