import Derived.Test.YtbmdjmnjbflfeaaSh
import Derived.Test.YtbmdjmnjbflfeaaOwnK
import Derived.Test.YtbmdjmnjbflfeaaWoMath
import Derived.Sort.OwnSorted
import Derived.Test.YtbmdjmnjbflfeaaTold
import Derived.Test.YtbmdjmnjbflfeaaLiveW
import Derived.RangeFuncCalls
import Derived.TacticsIn
import Derived.LoopIn

/- Strings sorted, each once: the library's functions at slices of the call's own; what they come to, in plain Lean. -/
namespace Go.Proofs.Ytbmdjmnjbflfeaa
open Go.RowKit Go.Shelf Go.Sort
set_option linter.unusedVariables false
set_option linter.unusedSimpArgs false

abbrev encT1 : ByteArray → List Value := fun s => [.string s]
theorem encT1_len (x : ByteArray) : (encT1 x).length = 1 := rfl
theorem encT1_one : ∀ x, ∀ u ∈ encT1 x, u.oneCell' = true := by
  intro x u hu
  simp at hu
  subst hu
  rfl
theorem encT1_flat (L : List ByteArray) : L.flatMap encT1 = L.map Value.string := by
  induction L with
  | nil => rfl
  | cons a l ih => simp [ih]
def uB (s : ByteArray) : List UInt8 := s.data.toList
def bB (l : List UInt8) : ByteArray := ⟨l.toArray⟩
theorem bB_uB (s : ByteArray) : bB (uB s) = s := by simp [bB, uB]
theorem uB_bB (l : List UInt8) : uB (bB l) = l := by simp [bB, uB]
theorem map_bu (L : List ByteArray) : (L.map uB).map bB = L := by
  rw [List.map_map]
  conv => rhs; rw [← List.map_id L]
  exact List.map_congr_left fun s _ => bB_uB s
theorem enc_bB (l : List (List UInt8)) : l.map encStr = (l.map bB).flatMap encT1 := by
  rw [encT1_flat, List.map_map]
  rfl
/-- Sorted. -/
def srtB (L : List ByteArray) : List ByteArray := ((L.map uB).mergeSort fun x y => decide (x ≤ y)).map bB
theorem srtB_len (L : List ByteArray) : (srtB L).length = L.length := by simp [srtB]
/-- .. each once. -/
def cptB (L : List ByteArray) : List ByteArray := (Lib.compact (L.map uB)).map bB
theorem Sort_own (base : Nat) (v : Value) (L : List ByteArray) (w : World) (h : OwnK encT1 1 9 w base v L) (hl : L.length ≤ 100000000) :
    Calls Try.prog 65 #[v] w fun e w' => e = .returned (.tuple #[]) ∧ OwnK encT1 1 9 w' base v (srtB L) ∧ w.grownBy w' v.ownBlock := by
  rcases h.2 with ⟨rfl, h0⟩ | ⟨g, cap, cur, rfl, hbase, hb, h1, h2, h3, h4⟩
  · obtain rfl : L = [] := List.eq_nil_of_length_eq_zero h0
    refine (AnyM.slices_Sort_string_none Try.sortL none 0 w).mono ?_
    rintro e w' ⟨rfl, rfl⟩
    exact ⟨rfl, by simpa [srtB] using h, World.grownBy.refl _ _⟩
  · have hlen : (L.map uB).length = L.length := List.length_map ..
    have e4 : cur.toList.take (L.map uB).length = (L.map uB).map encStr := by
      rw [enc_bB, map_bu, hlen]
      simpa using h4
    have hH := holds_of_block hb e4
    have hg : g < w.heap.size := (Array.getElem?_eq_some_iff.1 hb).1
    have hC := AnyM.slices_Sort_string Try.sortL g 0 cap (L.map uB) w hH hg (by rw [hlen]; omega)
    rw [hlen] at hC
    refine hC.mono ?_
    rintro e w' ⟨rfl, n, os, rfl⟩
    refine ⟨rfl, ?_, grownBy_sorted _⟩
    have ho := ownsRow_sorted (n := n) (os := os) (ss := L.map uB) (ts := (L.map uB).mergeSort fun x y => decide (x ≤ y)) (by simp) hbase hb (by rw [hlen]; exact h1) h2 h3
    rw [enc_bB, hlen] at ho
    unfold OwnK
    rw [srtB_len]
    exact ho
/-- What is read behind it. -/
def SS (w : World) (v : Value) (L : List ByteArray) : Prop := ∃ A n c, v = .slice A n c ∧ n ≤ c ∧ c ≤ 9223372036854775807 ∧ RdK encT1 1 w A n L
theorem SS.below {w w' : World} {v : Value} {L : List ByteArray} (h : SS w v L) (hb : Below w.heap.size w w') : SS w' v L := by
  obtain ⟨A, n, c, e, h1, h2, h3⟩ := h
  exact ⟨A, n, c, e, h1, h2, h3.below hb⟩
theorem OwnK.ss {w : World} {base : Nat} {v : Value} {L : List ByteArray} (h : OwnK encT1 1 9 w base v L) : SS w v L := by
  obtain ⟨A, c, e, h1, h2, h3⟩ := OwnK.rd encT1_len h
  exact ⟨A, _, c, e, h1, h2, h3⟩
theorem Compact_own (base : Nat) (v : Value) (L : List ByteArray) (w : World) (h : OwnK encT1 1 9 w base v L) (hl : L.length ≤ 100000000) :
    Calls Try.prog 66 #[v] w fun e w' => ∃ v', e = .returned v' ∧ SS w' v' (cptB L) ∧ w.grownBy w' v.ownBlock := by
  rcases h.2 with ⟨rfl, h0⟩ | ⟨g, cap, cur, rfl, hbase, hb, h1, h2, h3, h4⟩
  · obtain rfl : L = [] := List.eq_nil_of_length_eq_zero h0
    refine (AnyG.slices_Compact_string_empty Try.compL none 0 w).mono ?_
    rintro e w' ⟨rfl, rfl⟩
    exact ⟨_, rfl, OwnK.ss h, World.grownBy.refl _ _⟩
  · have hlen : (L.map uB).length = L.length := List.length_map ..
    have e4 : cur.toList.take (L.map uB).length = (L.map uB).map encStr := by
      rw [enc_bB, map_bu, hlen]
      simpa using h4
    have hH := holds_of_block hb e4
    have hC := AnyG.slices_Compact_string Try.compL g 0 cap (L.map uB) w hH (by rw [hlen]; omega) (by rw [hlen]; exact h1)
    rw [hlen] at hC
    refine hC.mono ?_
    rintro e w' ⟨rfl, q, rfl⟩
    have hcl : (Lib.compact (L.map uB)).length ≤ L.length := by
      unfold Lib.compact Lib.compactUpTo
      rw [List.length_map]
      refine Nat.le_trans (List.length_filter_le _ _) ?_
      simp
    have ho := ownsRow_sorted (n := q) (os := #[]) (ss := L.map uB) (ts := Lib.compact (L.map uB) ++ List.replicate (L.length - (Lib.compact (L.map uB)).length) []) (by simp; omega) hbase hb (by rw [hlen]; exact h1) h2 h3
    have hgr := grownBy_sorted (w := w) (g := g) (n := q) (os := #[]) (Lib.compact (L.map uB) ++ List.replicate (L.length - (Lib.compact (L.map uB)).length) []).toArray
    have e0 : ∀ W : World, grow W #[] = W := fun W => by simp [grow]
    rw [e0] at ho hgr
    refine ⟨_, rfl, ?_, hgr⟩
    rw [enc_bB, hlen] at ho
    have hF : ((Lib.compact (L.map uB) ++ List.replicate (L.length - (Lib.compact (L.map uB)).length) []).map bB).length = L.length := by
      simp
      omega
    have ho2 : OwnK encT1 1 9 (putRow encStr (Sort.ahead w q) g 0 (Lib.compact (L.map uB) ++ List.replicate (L.length - (Lib.compact (L.map uB)).length) []).toArray) base (.slice (some ⟨g, 0, none⟩) L.length cap) ((Lib.compact (L.map uB) ++ List.replicate (L.length - (Lib.compact (L.map uB)).length) []).map bB) := by
      unfold OwnK
      rw [hF]
      exact ho
    obtain ⟨A, c, e, r1, r2, r3⟩ := OwnK.rd encT1_len ho2
    rw [hF] at e r1 r3
    injection e with e1 e2 e3
    subst e1
    subst e3
    refine ⟨_, _, _, rfl, by omega, r2, ?_⟩
    have r4 := r3.take (Lib.compact (L.map uB)).length hcl
    rw [List.map_append, List.take_append_of_le_length (by simp), List.take_of_length_le (by simp)] at r4
    exact r4
end Go.Proofs.Ytbmdjmnjbflfeaa

/- Strings sorted, each once: plain Lean. -/
namespace Go.Proofs.Ytbmdjmnjbflfeaa
open Go.RowKit Go.Shelf Go.Sort
set_option linter.unusedVariables false
set_option linter.unusedSimpArgs false

theorem lt_of_le_ne' {a b : List UInt8} (h : a ≤ b) (hn : b ≠ a) : a < b := by
  refine Classical.byContradiction fun hc => hn ?_
  exact List.le_antisymm (List.not_lt.1 hc) h
theorem compact_mem (zs : List (List UInt8)) (x : List UInt8) : x ∈ Lib.compact zs ↔ x ∈ zs := by
  unfold Lib.compact Lib.compactUpTo
  rw [List.mem_map]
  constructor
  · rintro ⟨j, hj, rfl⟩
    have := List.mem_range.1 (List.mem_filter.1 hj).1
    rw [getElem!_pos zs.toArray j (by simpa using this)]
    simp
  · intro hx
    obtain ⟨j, hj, e⟩ := List.mem_iff_getElem.1 hx
    have key : ∀ j, j < zs.length → ∃ k, k ∈ (List.range zs.length).filter (Lib.keeps zs.toArray) ∧ zs.toArray[k]! = zs.toArray[j]! := by
      intro j
      induction j with
      | zero => intro hj; exact ⟨0, List.mem_filter.2 ⟨List.mem_range.2 hj, by simp [Lib.keeps]⟩, rfl⟩
      | succ j ih =>
        intro hj
        by_cases he : zs.toArray[j + 1]! = zs.toArray[j]!
        · obtain ⟨k, hk, e⟩ := ih (by omega)
          exact ⟨k, hk, e.trans he.symm⟩
        · exact ⟨j + 1, List.mem_filter.2 ⟨List.mem_range.2 hj, by unfold Lib.keeps; exact decide_eq_true (.inr he)⟩, rfl⟩
    obtain ⟨k, hk, e2⟩ := key j hj
    refine ⟨k, hk, e2.trans ?_⟩
    rw [getElem!_pos zs.toArray j (by simpa using hj)]
    simpa using e
theorem compact_lt (zs : List (List UInt8)) (h : zs.Pairwise (· ≤ ·)) : (Lib.compact zs).Pairwise (· < ·) := by
  have le : ∀ i j, i ≤ j → j < zs.length → zs.toArray[i]! ≤ zs.toArray[j]! := by
    intro i j hij hj
    rw [getElem!_pos zs.toArray i (by simp; omega), getElem!_pos zs.toArray j (by simpa using hj)]
    rcases Nat.lt_or_ge i j with h1 | h1
    · simpa using List.pairwise_iff_getElem.1 h i j (by omega) hj h1
    · obtain rfl : i = j := by omega
      exact List.le_refl _
  unfold Lib.compact Lib.compactUpTo
  rw [List.pairwise_map, List.pairwise_filter]
  refine List.Pairwise.imp_of_mem ?_ List.pairwise_lt_range
  intro i j hi hj hij _ kj
  have hj' := List.mem_range.1 hj
  have kj := of_decide_eq_true kj
  have h2 : zs.toArray[j]! ≠ zs.toArray[j - 1]! := by
    rcases kj with h0 | h0
    · omega
    · exact h0
  have h3 := lt_of_le_ne' (le (j - 1) j (by omega) hj') h2
  exact List.lt_of_le_of_lt (le i (j - 1) (by omega) (by omega)) h3
theorem mem_map_uB (L : List ByteArray) (x : ByteArray) : uB x ∈ L.map uB ↔ x ∈ L := by
  constructor
  · intro h
    obtain ⟨y, hy, e⟩ := List.mem_map.1 h
    have := congrArg bB e
    rw [bB_uB, bB_uB] at this
    exact this ▸ hy
  · exact fun h => List.mem_map.2 ⟨x, h, rfl⟩
theorem mem_map_bB (l : List (List UInt8)) (x : ByteArray) : x ∈ l.map bB ↔ uB x ∈ l := by
  constructor
  · intro h
    obtain ⟨y, hy, e⟩ := List.mem_map.1 h
    subst e
    rw [uB_bB]
    exact hy
  · exact fun h => List.mem_map.2 ⟨uB x, h, bB_uB x⟩
/-- A text's terms, each once. -/
def eachB (L : List ByteArray) : List ByteArray := cptB (srtB L)
theorem srt_u (L : List ByteArray) : (srtB L).map uB = (L.map uB).mergeSort fun x y => decide (x ≤ y) := by
  unfold srtB
  rw [List.map_map]
  conv => rhs; rw [← List.map_id ((L.map uB).mergeSort fun x y => decide (x ≤ y))]
  exact List.map_congr_left fun s _ => uB_bB s
theorem each_mem (L : List ByteArray) (x : ByteArray) : x ∈ eachB L ↔ x ∈ L := by
  unfold eachB cptB
  rw [mem_map_bB, compact_mem, srt_u, List.mem_mergeSort, mem_map_uB]
theorem each_lt (L : List ByteArray) : (eachB L).Pairwise ltB := by
  unfold eachB cptB
  rw [srt_u, List.pairwise_map]
  have h1 := List.pairwise_mergeSort (le := fun x y : List UInt8 => decide (x ≤ y)) (by
    intro a b c h1 h2
    exact decide_eq_true (List.le_trans (of_decide_eq_true h1) (of_decide_eq_true h2))) (by
    intro a b
    rcases List.le_total a b with h | h <;> simp [h]) (L.map uB)
  have h2 : ((L.map uB).mergeSort fun x y => decide (x ≤ y)).Pairwise (· ≤ ·) := h1.imp fun h => of_decide_eq_true h
  refine (compact_lt _ h2).imp ?_
  intro a b h
  show uB (bB a) < uB (bB b)
  rw [uB_bB, uB_bB]
  exact h
theorem sorted_ext : ∀ (a b : List ByteArray), a.Pairwise ltB → b.Pairwise ltB → (∀ x, x ∈ a ↔ x ∈ b) → a = b
  | [], [], _, _, _ => rfl
  | [], y :: b, _, _, h => by have := (h y).2 (by simp); cases this
  | x :: a, [], _, _, h => by have := (h x).1 (by simp); cases this
  | x :: a, y :: b, ha, hb, h => by
    rw [List.pairwise_cons] at ha hb
    have hxy : x = y := by
      rcases List.mem_cons.1 ((h x).1 (by simp)) with e | h1
      · exact e
      · rcases List.mem_cons.1 ((h y).2 (by simp)) with e | h2
        · exact e.symm
        · exact absurd (ltB_trans (ha.1 y h2) (hb.1 x h1)) (ltB_irrefl x)
    subst hxy
    refine congrArg (x :: ·) (sorted_ext a b ha.2 hb.2 fun z => ?_)
    constructor
    · intro hz
      rcases List.mem_cons.1 ((h z).1 (by simp [hz])) with e | h1
      · subst e; exact absurd (ha.1 z hz) (ltB_irrefl z)
      · exact h1
    · intro hz
      rcases List.mem_cons.1 ((h z).2 (by simp [hz])) with e | h1
      · subst e; exact absurd (hb.1 z hz) (ltB_irrefl z)
      · exact h1
theorem ltB_tri3 {a b : ByteArray} (h : ¬ ltB a b) (hn : a ≠ b) : ltB b a := Classical.byContradiction fun hc => hn (ltB_tri h hc)
/-- One more is put in. -/
theorem put_lt {o : List ByteArray} {k : Nat} {t : ByteArray} (ho : o.Pairwise ltB) (hk : k ≤ o.length) (h1 : ∀ j (hj : j < o.length), j < k → ltB o[j] t) (h2 : ∀ hj : k < o.length, ltB t o[k]) : (o.take k ++ [t] ++ o.drop k).Pairwise ltB := by
  rw [List.append_assoc, List.pairwise_append]
  refine ⟨ho.sublist (List.take_sublist _ _), ?_, ?_⟩
  · rw [List.singleton_append, List.pairwise_cons]
    refine ⟨fun x hx => ?_, ho.sublist (List.drop_sublist _ _)⟩
    obtain ⟨j, hj, rfl⟩ := List.mem_iff_getElem.1 hx
    rw [List.length_drop] at hj
    rw [List.getElem_drop]
    have h3 := h2 (by omega)
    rcases Nat.eq_zero_or_pos j with h0 | h0
    · subst h0; exact h3
    · exact ltB_trans h3 (List.pairwise_iff_getElem.1 ho k (k + j) (by omega) (by omega) (by omega))
  · intro a ha b hb
    obtain ⟨j, hj, rfl⟩ := List.mem_iff_getElem.1 ha
    rw [List.length_take] at hj
    rw [List.getElem_take]
    have h4 := h1 j (by omega) (by omega)
    rcases List.mem_append.1 hb with h5 | h5
    · rw [List.mem_singleton] at h5; subst h5; exact h4
    · obtain ⟨i, hi, rfl⟩ := List.mem_iff_getElem.1 h5
      rw [List.length_drop] at hi
      rw [List.getElem_drop]
      exact List.pairwise_iff_getElem.1 ho j (k + i) (by omega) (by omega) (by omega)
theorem put_mem (o : List ByteArray) (k : Nat) (t x : ByteArray) : x ∈ o.take k ++ [t] ++ o.drop k ↔ x = t ∨ x ∈ o := by
  conv => rhs; rw [← List.take_append_drop k o]
  simp only [List.mem_append, List.mem_singleton]
  constructor
  · rintro ((h | h) | h)
    · exact .inr (.inl h)
    · exact .inl h
    · exact .inr (.inr h)
  · rintro (h | h | h)
    · exact .inl (.inr h)
    · exact .inl (.inl h)
    · exact .inr h
end Go.Proofs.Ytbmdjmnjbflfeaa

/- A text's terms, each once: gathered, sorted, made compact. -/
namespace Go.Proofs.Ytbmdjmnjbflfeaa
open Go.RowKit Go.Shelf
set_option linter.unusedVariables false
set_option linter.unusedSimpArgs false
attribute [local go_sem] Oper.semAt_some

theorem infoS : (Try.prog.info? 9).map (fun i => (i.zero, i.size, i.bytes)) = some (some (.string .empty), 1, 16) := by kernel_rfl
/-- The types that the gatherer writes. -/
def S239 (t : TypeId) : Bool := t == 23 || t == 33 || t == 9
theorem okS239 : okS S239 := ⟨rfl, rfl, rfl, rfl, rfl, rfl, rfl⟩
def TmI (w : World) (Bl : Nat) (pre : List Tok) (W : World) : Prop := Below w.heap.size w W ∧ ∃ v, Boxed W Bl 23 v ∧ OwnK encT1 1 9 W w.heap.size v (pre.map (·.1))
theorem tmI_firm (w : World) (Bl D : Nat) (hD : w.heap.size ≤ D) : Firm D S239 (TmI w Bl) := by
  rintro s A B ⟨hb, v, h1, h2⟩ hst
  exact ⟨hb.trans ((hst.mono hD).belowB hb.size), v, Boxed.step h1 hst rfl, ownsRow_step h2 hst rfl⟩
theorem tmI_below {w : World} {Bl : Nat} {pre : List Tok} {W W' : World} (h : TmI w Bl pre W) (hb : Below W.heap.size W W') : TmI w Bl pre W' := by
  obtain ⟨h0, v, h1, h2⟩ := h
  exact ⟨Below.thn h0 hb, v, (hb.block _ h1.lt).trans h1, OwnK.below (enc := encT1) h2 hb⟩
theorem rdK_put {α : Type} {enc : α → List Value} {sz : Nat} {W : World} {A : Option Addr} {n D : Nat} {L : List α} {o : Option (List Deferred)} (h : RdK enc sz W A n L) (hD : W.heap[D]? = some (.deferred o)) (o' : Obj) : RdK enc sz (W.putObj D o') A n L :=
  ⟨h.len, h.max, fun hn => by
    obtain ⟨ad, e, hc⟩ := h.cell hn
    refine ⟨ad, e, fun j hj i v hv => ?_⟩
    have h1 := hc j hj i v hv
    unfold World.cell? at h1 ⊢
    by_cases hb : (ad.add (j * sz + i)).block = D
    · rw [hb, hD] at h1
      simp at h1
    · rw [World.putObj_heap_other hb]
      exact h1⟩
abbrev TmFr (g g3 : Nat) (A : Option Addr) (n c : Nat) (B : Option Addr) (m d : Nat) (cap : Int) (T : Option Addr) (nt ct : Nat) (q : Nat) (x : Tok) : Act :=
  { tmps := #[confV A n c B m d cap, .slice T nt ct, .pointer (some ⟨g, 0, none⟩), undef, .slice none 0 0, .pointer (some ⟨g + 1, 0, none⟩), .pointer (some ⟨q, 0, none⟩), confV A n c B m d cap, .slice T nt ct, .func (.func 41) #[] #[.pointer (some ⟨g3, 0, none⟩), .pointer (some ⟨g3 + 1, 0, none⟩)], .agg #[.string x.1, .int .i64 (x.2 : Nat)], undef, undef, undef, undef, undef, undef, undef, undef, undef], defers := [] }
set_option maxRecDepth 100000 in
set_option maxHeartbeats 4000000 in
theorem Terms_any (A : Option Addr) (n c : Nat) (B : Option Addr) (m d : Nat) (cf : Cf) (T : Option Addr) (nt ct : Nat) (l : List Nat) (w : World) (hR : RdC w A n c B m d cf) (ht : RdB w T nt l) (htc : nt ≤ ct) (htl : l.length ≤ 10000000) (hm : m ≤ 1000000) :
    Calls Try.prog 34 #[confV A n c B m d cf.cap, .slice T nt ct] w fun e w' => ∃ v, e = .returned v ∧ SS w' v (eachB ((toksL cf l).map (·.1))) ∧ Below w.heap.size w w' := by
  obtain ⟨w2, hw2⟩ : ∃ w2, w2 = (w.alloc (.cells #[.slice A n c, .slice B m d, .int .i64 cf.cap] 25)).alloc (.cells #[.slice none 0 0] 23) := ⟨_, rfl⟩
  have hb2 : Below w.heap.size w w2 := by rw [hw2]; exact ((Below.refl _ _).alloc (Nat.le_refl _) _).alloc (by simp) _
  have hc2 : w2.heap[w.heap.size]? = some (.cells #[.slice A n c, .slice B m d, .int .i64 cf.cap] 25 (0, 0)) := by
    rw [hw2]
    exact (Lib.alloc_old _ _ _ (by simp)).trans (World.alloc_heap_new w _)
  have bx2 : Boxed w2 (w.heap.size + 1) 23 (.slice none 0 0) := by
    rw [hw2]
    have := Boxed.new (w.alloc (.cells #[.slice A n c, .slice B m d, .int .i64 cf.cap] 25)) 23 (.slice none 0 0)
    rwa [World.size_alloc] at this
  have hs2 : w2.heap.size = w.heap.size + 2 := by rw [hw2]; simp
  obtain ⟨w3, hw3⟩ : ∃ w3, w3 = (w2.alloc (.cells #[.slice A n c, .slice B m d, .int .i64 cf.cap] 25)).alloc (.cells #[.slice T nt ct] 26) := ⟨_, rfl⟩
  have hb3 : Below w2.heap.size w2 w3 := by rw [hw3]; exact ((Below.refl _ _).alloc (Nat.le_refl _) _).alloc (by simp) _
  have HSQ := Lib.hid (all_seq' A n c B m d cf T nt ct l S239 okS239 w w2 hb2 hR ht htc htl hm)
  rw [← hw3] at HSQ
  have CA := Lib.hid (All_any A n c B m d cf.cap T nt ct w2)
  rw [← hw3] at CA
  have HI3 : Hid (TmI w (w.heap.size + 1) [] w3) := Lib.hid (tmI_below ⟨hb2, _, bx2, World.ownsRow_nil _ _ _ _⟩ hb3)
  have HSZ : Hid (w2.heap.size = w.heap.size + 2 ∧ w.heap.size + 2 ≤ w3.heap.size) := Lib.hid ⟨hs2, by have := hb3.size; omega⟩
  have HTL := Lib.hid (show (toksL cf l).length ≤ 10000001 by have := toks_len cf l; omega)
  obtain ⟨c0, c1, c2⟩ := cells3 hc2
  rw [hw2] at c0 c1 c2
  have HW2 := Lib.hid hw2
  obtain ⟨cp, hcp⟩ : ∃ cp, cp = cf.cap := ⟨_, rfl⟩
  rw [← hcp] at c0 c1 c2 CA HW2
  rw [← hcp]
  have HCP := Lib.hid hcp
  rw [hs2] at CA HSQ
  clear hR ht htl htc hm hw2 hb2 hc2 bx2 hs2 hw3 hb3 hcp
  refine (callsIn_wide (n := 10)).1 ?_
  refine callsIn_of_wp_marks Try.func34 rfl trivial ?_ rfl
  simp only [Try.ntmps34, List.size_toArray, List.length_cons, List.length_nil, Nat.reduceAdd, Nat.reduceSub, Array.replicate_succ, Array.replicate_zero, List.push_toArray, List.append_toArray, List.nil_append, List.cons_append]
  gi_wp2_with fail
  rw [← HW2.out]
  refine ⟨trivial, (callsIn_wide.2 CA.out).mono ?_⟩
  rintro e W9 ⟨rfl, h9⟩
  obtain rfl := h9.symm
  clear CA HW2 c0 c1 c2
  gi_wp2_with fail
  refine wpIn_range_Q (n := 10) rfl (by omega) (gf := 41) (lb := #[.pointer (some ⟨w.heap.size + 2, 0, none⟩), .pointer (some ⟨w.heap.size + 2 + 1, 0, none⟩)]) rfl trivial (enters_of Try.func41 (by kernel_rfl) rfl) HSQ.out (by have := HSZ.out; omega) (Below.refl _ _) (fun _ => rfl)
    (TmI w (w.heap.size + 1)) (fun _ _ _ => False) (tmI_firm w _ _ (by have := HSZ.out; omega)) (fun c s X Y h _ => h) HI3.out
    (fun pre x a' W' => ∃ q, a' = TmFr w.heap.size (w.heap.size + 2) A n c B m d cp T nt ct q x ∧ W'.heap[q]? = some (.cells #[.string x.1, .int .i64 (x.2 : Nat)] 33 (0, 0))) ?axfirm ?assign ?body ?done ?stop
  case axfirm =>
    rintro pre x a' s X Y ⟨q, e, h⟩ hst
    exact ⟨q, e, hst.own _ _ _ _ rfl h⟩
  case assign =>
    intro L' pre x W' K hpx hI hK
    have HI := Lib.hid hI
    have HK := Lib.hid hK
    clear hI hK
    gi_wp2
    have hbA : Below W'.heap.size W' (W'.alloc (.cells #[.string x.1, .int .i64 (x.2 : Nat)] 33)) := (Below.refl _ _).alloc (Nat.le_refl _) _
    exact HK.out _ _ (Keep.below hbA) (tmI_below HI.out hbA) ⟨W'.heap.size, rfl, World.alloc_heap_new W' _⟩
  case body =>
    rintro L' pre x a' W hpx hI ⟨q, rfl, hg⟩
    obtain ⟨i1, v, hv, hrow⟩ := hI
    obtain ⟨A1, cc1, hvs, hl1, hc1, _⟩ := OwnK.rd (enc := encT1) encT1_len hrow
    have hpl : pre.length + 1 ≤ 100000000 := by
      have h1 := hpx.length_le
      rw [List.length_append, List.length_singleton] at h1
      have := HTL.out
      omega
    obtain ⟨ps, hps⟩ : ∃ ps, ps = pre.map (·.1) := ⟨_, rfl⟩
    have hpsl : ps.length = pre.length := by rw [hps, List.length_map]
    rw [← hps] at hrow hvs hl1
    obtain ⟨v1, w2', r1, hC⟩ := collStep (P := Try.prog) (enc := encT1) (sz := 1) (x := x.1) (pre := ps) (n₀ := w.heap.size) (B := w.heap.size + 1) 23 9 (.string .empty) 16 Try.underlying23 infoS rfl (by decide) (by decide) encT1_len encT1_one (by decide) hv hrow i1.size (by omega) (by omega) 23 #[.string x.1] rfl
    obtain ⟨g6, c6, hv1⟩ := hC.sh
    have HFin : Hid (∀ a, postQ w3.heap.size w.heap.size S239 (TmI w (w.heap.size + 1)) (fun _ _ _ => False) (pre ++ [x]) W .normal a (w2'.setCell ⟨w.heap.size + 1, 0, none⟩ v1)) := Lib.hid (fun a => by
      refine ⟨hC.keepQ hv hrow (Nat.le_refl _) (by omega) rfl rfl (Nat.le_refl _) i1.size, i1.trans hC.bl, v1, hC.out, ?_⟩
      have := hC.row
      unfold OwnK
      rw [List.map_append, ← hps]
      simpa using this)
    have hc := hv.cell
    obtain ⟨g0, g1⟩ := tok_box hg
    have f0 := hC.box.cell
    have f1 := hC.box.frozen
    subst hv1
    subst hvs
    obtain ⟨pl, hpl2⟩ : ∃ pl, pl = ps.length := ⟨_, rfl⟩
    rw [← hpl2] at hc r1 f0 hl1 HFin hpsl
    rw [← hpsl] at hpl
    clear hv hrow hC i1 hg hpl2 hpx hps hpsl
    gi_wp2_with (first | (gi_at_builtin; refine wplIn_append_run rfl _ _ _ rfl rfl rfl r1 ?_))
    exact HFin.out _
  case stop =>
    rintro D cc pre W' hD hpx hI hK
    exact hI.elim
  case done =>
    rintro D W' hD ⟨i1, v, hv, hrow⟩ hK
    have HK := Lib.hid hK
    have c5 := hv.cell
    obtain ⟨tl, htl⟩ : ∃ tl, tl = (toksL cf l).map (·.1) := ⟨_, rfl⟩
    rw [← htl] at hrow
    obtain ⟨A1, cc1, hvs, hl1, hc1, _⟩ := OwnK.rd (enc := encT1) encT1_len hrow
    subst hvs
    obtain ⟨yl, hyl⟩ : ∃ yl, yl = tl.length := ⟨_, rfl⟩
    rw [← hyl] at c5 hl1 hrow hv
    have hlen : tl.length ≤ 100000000 := by rw [htl, List.length_map]; have := HTL.out; omega
    have HLEN := Lib.hid hlen
    have HRW := Lib.hid hrow
    have HBX := Lib.hid hv
    have HTLe := Lib.hid htl
    have CS := Lib.hid (Sort_own w.heap.size (.slice A1 yl cc1) tl W' hrow hlen)
    have HB := Lib.hid i1
    clear hv hrow hK hyl htl hlen i1
    gi_wp2_with fail
    refine ⟨trivial, (callsIn_wide.2 CS.out).mono ?_⟩
    rintro e W5 ⟨rfl, ho, hg⟩
    have hb5 : Below w.heap.size w W5 := HB.out.grown hg HB.out.size (fun k hk => (OwnK.base HRW.out k hk).1)
    have bx5 : Boxed W5 (w.heap.size + 1) 23 (.slice A1 yl cc1) := HBX.out.kept hg (fun e => HBX.out.not_row (by decide) HRW.out e)
    have HK5 : Hid (W5.heap[D]? = some (.deferred (some []))) := Lib.hid (by
      refine (hg.block D (Array.getElem?_eq_some_iff.1 HK.out).1 (fun e => ?_)).trans HK.out
      rcases HRW.out.2 with ⟨e2, _⟩ | ⟨g', cap, cur, e2, _, hh, _⟩
      · rw [e2] at e; simp [Value.ownBlock] at e
      · rw [e2] at e
        simp only [Value.ownBlock, Option.some.injEq] at e
        subst e
        rw [HK.out] at hh
        cases hh)
    have c5' := bx5.cell
    have HO5 := Lib.hid ho
    have HB5 := Lib.hid hb5
    have CC := Lib.hid (Compact_own w.heap.size (.slice A1 yl cc1) (srtB tl) W5 ho (by rw [srtB_len]; exact HLEN.out))
    clear ho hg hb5 bx5 CS HBX c5
    gi_wp2_with fail
    refine ⟨trivial, (callsIn_wide.2 CC.out).mono ?_⟩
    rintro e W6 ⟨v6, rfl, hs6, hg⟩
    have hb6 : Below w.heap.size w W6 := HB5.out.grown hg HB5.out.size (fun k hk => (OwnK.base HO5.out k hk).1)
    have HK6 : Hid (W6.heap[D]? = some (.deferred (some []))) := Lib.hid (by
      refine (hg.block D (Array.getElem?_eq_some_iff.1 HK5.out).1 (fun e => ?_)).trans HK5.out
      rcases HO5.out.2 with ⟨e2, _⟩ | ⟨g', cap, cur, e2, _, hh, _⟩
      · rw [e2] at e; simp [Value.ownBlock] at e
      · rw [e2] at e
        simp only [Value.ownBlock, Option.some.injEq] at e
        subst e
        rw [HK5.out] at hh
        cases hh)
    have HS6 := Lib.hid hs6
    have HB6 := Lib.hid hb6
    clear hs6 hg hb6 CC
    obtain ⟨A6, n6, c6, rfl, h61, h62, h63⟩ := HS6.out
    have HR6 := Lib.hid h63
    clear h63
    gi_wp2
    refine ⟨by simp, .inl ⟨_, _, rfl, run_takeDeferred HK6.out, ?_⟩⟩
    have hpb : Below W6.heap.size W6 (W6.putObj D (.deferred none)) ∨ True := .inr trivial
    refine ⟨.slice A6 n6 c6, by simp [results, Try.results34, go_sem], _, rfl, ⟨A6, n6, c6, rfl, h61, h62, ?_⟩, ?_⟩
    · rw [← HTLe.out]
      exact rdK_put HR6.out HK6.out _
    · exact HB6.out.grown (grownBy_putObj' W6 D _) HB6.out.size (fun k hk => by cases hk; have := HSZ.out; omega)
end Go.Proofs.Ytbmdjmnjbflfeaa
