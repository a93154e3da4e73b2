import Derived.Test.YtaaddckhldccjaaRefMg
import Derived.Test.YtaaddckhldccjaaSets
import Derived.Test.YtaaddckhldccjaaSh
import Derived.Sort.OwnSortedInts

/- The documents of postings, by both; how many. -/
namespace Go.Proofs.Ytaaddckhldccjaa
open Go.RowKit
set_option linter.unusedVariables false
set_option linter.unusedSimpArgs false

def docsOf (ls : List Po) : List Nat := ls.map (·.1)
theorem docsOf_step {ls : List Po} {k d : Nat} {l : List Int} (h : ∃ hl : k < ls.length, ls[k] = (d, l)) : docsOf (ls.take (k + 1)) = docsOf (ls.take k) ++ [d] := by
  obtain ⟨hl, e⟩ := h
  rw [List.take_succ_eq_append_getElem hl, e]
  simp [docsOf]
set_option maxRecDepth 100000 in
set_option maxHeartbeats 4000000 in
theorem Docs_any (A : Option Addr) (n c : Nat) (ls : List Po) (w : World) (h : RdPo w A n ls) (hn1 : n ≤ 1000000) :
    Calls Try.prog 31 #[.slice A n c] w fun e w' => ∃ v, e = .returned v ∧ OwnU w' w.heap.size v (docsOf ls) ∧ Below w.heap.size w w' := by
  have HR := Lib.hid h
  have HLn := Lib.hid h.len
  clear h
  go_enter Try.func31, Try.ntmps31
  go_wp2_with fail
  go_loopw [3, 8] (fun o x wr => ∃ (Ao : Option Addr) (co k : Nat), o = .slice Ao k co ∧ x = .int .i64 (k : Nat) ∧ k ≤ n ∧ k ≤ co ∧ co ≤ 9223372036854775807 ∧ Hid (OwnU wr w.heap.size (.slice Ao k co) (docsOf (ls.take k))) ∧ Hid (Below w.heap.size w wr)) (fun _ x _ => n - (intOf x).toNat)
  case atStart => exact ⟨none, 0, 0, rfl, rfl, Nat.zero_le _, Nat.le_refl _, by decide, Lib.hid (OwnU.nil _ _), Lib.hid (Below.refl _ _)⟩
  case round =>
    obtain ⟨Ao, co, k, rfl, rfl, hk, hco, hco2, HO, HB⟩ := hrel
    by_cases hlt : (k : Int) < (n : Int)
    · obtain ⟨ad, B, m, c1, d, l, rfl, HX, x0, x1, hm1, hm2, HRI, hd⟩ := (HR.out.below HB.out).at (k := k) (by omega)
      obtain ⟨wB, hwB⟩ : ∃ wB, wB = wr.alloc (.cells #[.int .u32 (d : Nat), .slice B m c1] 32) := ⟨_, rfl⟩
      have hbB : Below wr.heap.size wr wB := by rw [hwB]; exact (Below.refl _ _).alloc (Nat.le_refl _) _
      have hb2 := Box2.new wr 32 (.int .u32 (d : Nat)) (.slice B m c1)
      obtain ⟨y0, y1, y2, y3⟩ := hb2.facts
      have hlk : (docsOf (ls.take k)).length = k := by rw [docsOf, List.length_map, List.length_take, HLn.out]; omega
      obtain ⟨A', c', w', r', o', hb', hc1, hc2, _⟩ := push_u d (HO.out.below hbB) (Below.thn HB.out hbB) hd (by rw [hlk]; omega)
      rw [hlk] at r' o' hc1
      obtain ⟨k2, hk2⟩ : ∃ k2, k2 = k + 1 := ⟨_, rfl⟩
      rw [← hk2] at r' o' hc1
      have HN : Hid (OwnU w' w.heap.size (.slice A' k2 c') (docsOf (ls.take k2))) := Lib.hid (by rw [hk2, docsOf_step HX.out, ← hk2]; exact o')
      have HB2 := Lib.hid hb'
      have HWB := Lib.hid hwB
      have HK2 := Lib.hid hk2
      rw [hwB] at r'
      simp only [World.size_alloc] at r'
      clear o' hb' hwB hbB hb2 hlk hk2
      go_wp2_with (first | (at_builtin; refine wpl_append_run rfl _ _ _ rfl rfl rfl r' ?_) | fail)
      exact ⟨⟨A', c', k2, rfl, by have := HK2.out; go_num, by have := HK2.out; omega, hc1, hc2, HN, HB2⟩, by have := HK2.out; simp [intOf]; omega⟩
    · have HF : Hid (docsOf (ls.take k) = docsOf ls) := Lib.hid (by rw [List.take_of_length_le (by have := HLn.out; omega)])
      go_wp2
      go_ret
      exact ⟨_, rfl, by rw [← HF.out]; exact HO.out, HB.out⟩
set_option maxRecDepth 100000 in
set_option maxHeartbeats 4000000 in
theorem refDocs_any (A : Option Addr) (n c : Nat) (ls : List Po) (w : World) (h : RdPo w A n ls) (hn1 : n ≤ 1000000) :
    Calls Try.prog 32 #[.slice A n c] w fun e w' => ∃ v, e = .returned v ∧ OwnU w' w.heap.size v (docsOf ls) ∧ Below w.heap.size w w' := by
  have HR := Lib.hid h
  have HLn := Lib.hid h.len
  clear h
  go_enter Try.func32, Try.ntmps32
  go_wp2_with fail
  go_loopw [3, 4] (fun o x wr => ∃ (Ao : Option Addr) (co k : Nat), o = .slice Ao k co ∧ x = .int .i64 (k : Nat) ∧ k ≤ n ∧ k ≤ co ∧ co ≤ 9223372036854775807 ∧ Hid (OwnU wr w.heap.size (.slice Ao k co) (docsOf (ls.take k))) ∧ Hid (Below w.heap.size w wr)) (fun _ x _ => n - (intOf x).toNat)
  case atStart => exact ⟨none, 0, 0, rfl, rfl, Nat.zero_le _, Nat.le_refl _, by decide, Lib.hid (OwnU.nil _ _), Lib.hid (Below.refl _ _)⟩
  case round =>
    obtain ⟨Ao, co, k, rfl, rfl, hk, hco, hco2, HO, HB⟩ := hrel
    by_cases hlt : (k : Int) < (n : Int)
    · obtain ⟨ad, B, m, c1, d, l, rfl, HX, x0, x1, hm1, hm2, HRI, hd⟩ := (HR.out.below HB.out).at (k := k) (by omega)
      have hlk : (docsOf (ls.take k)).length = k := by rw [docsOf, List.length_map, List.length_take, HLn.out]; omega
      obtain ⟨A', c', w', r', o', hb', hc1, hc2, _⟩ := push_u d HO.out HB.out hd (by rw [hlk]; omega)
      rw [hlk] at r' o' hc1
      obtain ⟨k2, hk2⟩ : ∃ k2, k2 = k + 1 := ⟨_, rfl⟩
      rw [← hk2] at r' o' hc1
      have HN : Hid (OwnU w' w.heap.size (.slice A' k2 c') (docsOf (ls.take k2))) := Lib.hid (by rw [hk2, docsOf_step HX.out, ← hk2]; exact o')
      have HB2 := Lib.hid hb'
      have HK2 := Lib.hid hk2
      clear o' hb' hlk hk2 x1
      go_wp2_with (first | (at_builtin; refine wpl_append_run rfl _ _ _ rfl rfl rfl r' ?_) | fail)
      exact ⟨⟨A', c', k2, rfl, by have := HK2.out; go_num, by have := HK2.out; omega, hc1, hc2, HN, HB2⟩, by have := HK2.out; simp [intOf]; omega⟩
    · have HF : Hid (docsOf (ls.take k) = docsOf ls) := Lib.hid (by rw [List.take_of_length_le (by have := HLn.out; omega)])
      go_wp2
      go_ret
      exact ⟨_, rfl, by rw [← HF.out]; exact HO.out, HB.out⟩
def shortP (ls : List VV) : Prop := ls.length ≤ 20 ∧ ∀ x ∈ ls, x.n ≤ 40 ∧ ∀ p ∈ x.l, p.2.length ≤ 120
instance (ls : List VV) : Decidable (shortP ls) := inferInstanceAs (Decidable (_ ∧ _))
def shortB (ls : List VV) : Bool := decide (shortP ls)
set_option maxRecDepth 100000 in
set_option maxHeartbeats 4000000 in
theorem short_any (A : Option Addr) (n c : Nat) (ls : List VV) (w : World) (h : RdVV w A n ls) :
    Calls Try.prog 30 #[.slice A n c] w fun e w' => e = .returned (.bool (shortB ls)) ∧ Below w.heap.size w w' := by
  have HR := Lib.hid h
  have hn := h.rd.max
  have HLn := Lib.hid h.len
  clear h
  by_cases h20 : (n : Int) > 20
  · have HN : Hid (shortB ls = false) := Lib.hid (decide_eq_false fun hf => by have := hf.1; have := HLn.out; omega)
    go_enter Try.func30, Try.ntmps30
    go_wp2
    go_ret
    exact ⟨by rw [HN.out]; rfl, Below.refl _ _⟩
  go_enter Try.func30, Try.ntmps30
  go_wp2_with fail
  go_loopw [12] (fun x wr => ∃ k : Nat, x = .int .i64 (k : Nat) ∧ k ≤ n ∧ Hid (∀ y ∈ ls.take k, y.n ≤ 40 ∧ ∀ p ∈ y.l, p.2.length ≤ 120) ∧ Hid (Below w.heap.size w wr)) (fun x _ => n - (intOf x).toNat)
  case atStart => exact ⟨0, rfl, Nat.zero_le _, Lib.hid (fun y hy => by simp at hy), Lib.hid (Below.refl _ _)⟩
  case round =>
    obtain ⟨k, rfl, hk, HI, HB⟩ := hrel
    by_cases hlt : (k : Int) < (n : Int)
    · obtain ⟨ad, x, rfl, HX, HXO, hxm, x0⟩ := (HR.out.below HB.out).at (k := k) (by omega)
      have HXm : Hid (x ∈ ls) := Lib.hid (by obtain ⟨hl, e9⟩ := HX.out; rw [← e9]; exact List.getElem_mem hl)
      by_cases h40 : (x.n : Int) > 40
      · have HN : Hid (shortB ls = false) := Lib.hid (decide_eq_false fun hf => by have := (hf.2 x HXm.out).1; omega)
        go_wp2
        go_ret
        exact ⟨by rw [HN.out]; rfl, HB.out⟩
      · go_wp2_with fail
        obtain ⟨W1, hW1⟩ : ∃ W1, W1 = wr := ⟨_, rfl⟩
        subst hW1
        go_loopw [21] (fun z wq => ∃ j : Nat, z = .int .i64 (j : Nat) ∧ j ≤ x.n ∧ Hid (∀ p ∈ x.l.take j, p.2.length ≤ 120) ∧ Hid (Below W1.heap.size W1 wq)) (fun z _ => x.n - (intOf z).toNat)
        case atStart => exact ⟨0, rfl, Nat.zero_le _, Lib.hid (fun p hp => by simp at hp), Lib.hid (Below.refl _ _)⟩
        case round =>
          obtain ⟨j, rfl, hj, HJ, HBj⟩ := hrel
          by_cases hlj : (j : Int) < (x.n : Int)
          · obtain ⟨ae, B, m, c1, d, l, eA, HP, y0, y1, hm1, hm2, HRI, hd⟩ := (HXO.out.below HBj.out).rd.at (k := j) (by omega)
            obtain ⟨wB, hwB⟩ : ∃ wB, wB = wr.alloc (.cells #[.int .u32 (d : Nat), .slice B m c1] 32) := ⟨_, rfl⟩
            have hbB : Below wr.heap.size wr wB := by rw [hwB]; exact (Below.refl _ _).alloc (Nat.le_refl _) _
            have hb2 := Box2.new wr 32 (.int .u32 (d : Nat)) (.slice B m c1)
            obtain ⟨z0, z1, z2, z3⟩ := hb2.facts
            have HBN : Hid (Below W1.heap.size W1 wB) := Lib.hid (Below.thn HBj.out hbB)
            have HWB := Lib.hid hwB
            clear hwB hbB hb2
            by_cases h120 : (m : Int) > 120
            · have HN : Hid (shortB ls = false) := Lib.hid (decide_eq_false fun hf => by
                obtain ⟨hl, e9⟩ := HP.out
                have h1 := (hf.2 x HXm.out).2 _ (List.getElem_mem hl)
                rw [e9] at h1
                have h2 := HRI.out.len
                simp only at h1
                omega)
              have HBE : Hid (Below w.heap.size w wB) := Lib.hid (HB.out.trans (HBN.out.mono HB.out.size))
              go_wp2
              rw [← HWB.out]
              go_ret
              exact ⟨by rw [HN.out]; rfl, HBE.out⟩
            · have HN : Hid (∀ p ∈ x.l.take (j + 1), p.2.length ≤ 120) := Lib.hid (fun p hp => by
                obtain ⟨hl, e9⟩ := HP.out
                rw [List.take_succ_eq_append_getElem hl, e9] at hp
                rcases List.mem_append.1 hp with hp | hp
                · exact HJ.out p hp
                · rw [List.mem_singleton] at hp
                  subst hp
                  have := HRI.out.len
                  simp only
                  omega)
              go_wp2
              rw [← HWB.out]
              exact ⟨⟨j + 1, by simp; try go_num, by omega, HN, HBN⟩, by simp [intOf]; omega⟩
          · have HN : Hid (∀ y ∈ ls.take (k + 1), y.n ≤ 40 ∧ ∀ p ∈ y.l, p.2.length ≤ 120) := Lib.hid (fun y hy => by
              obtain ⟨hl, e9⟩ := HX.out
              rw [List.take_succ_eq_append_getElem hl, e9] at hy
              rcases List.mem_append.1 hy with hy | hy
              · exact HI.out y hy
              · rw [List.mem_singleton] at hy
                subst hy
                refine ⟨by omega, fun p hp => HJ.out p (by rw [List.take_of_length_le (by have := HXO.out.rd.len; omega)]; exact hp)⟩)
            have HBE : Hid (Below w.heap.size w wr) := Lib.hid (HB.out.trans (HBj.out.mono HB.out.size))
            go_wp2
            exact ⟨⟨k + 1, by simp; try go_num, by omega, HN, HBE⟩, by simp [intOf]; omega⟩
    · have HT : Hid (shortB ls = true) := Lib.hid (decide_eq_true ⟨by have := HLn.out; omega, fun y hy => HI.out y (by rw [List.take_of_length_le (by have := HLn.out; omega)]; exact hy)⟩)
      go_wp2
      go_ret
      exact ⟨by rw [HT.out]; rfl, HB.out⟩
end Go.Proofs.Ytaaddckhldccjaa

/- Whole numbers sorted, each once: the library's functions at slices of the call's own. -/
namespace Go.Proofs.Ytaaddckhldccjaa
open Go.RowKit Go.Shelf Go.Sort
set_option linter.unusedVariables false
set_option linter.unusedSimpArgs false

def sortI (L : List Int) : List Int := L.mergeSort fun x y => decide (x ≤ y)
theorem sortI_len (L : List Int) : (sortI L).length = L.length := by simp [sortI]
def cmpI (L : List Int) : List Int := Lib.compact L
theorem OwnL.cut {enc : Int → Value} {e : TypeId} {w : World} {base n c : Nat} {A : Option Addr} {L : List Int} (h : OwnL enc e w base (.slice A n c) L) (k : Nat) (hk : k ≤ n) : OwnL enc e w base (.slice A k c) (L.take k) := by
  have h' := h
  rcases h.2 with ⟨e1, h0⟩ | ⟨g, cap, cur, e1, hg, hh, h1, h2, h3, h4⟩
  · injection e1 with e2 e3 e4
    subst e2
    subst e3
    subst e4
    obtain rfl : k = 0 := by omega
    exact OwnL.nil _ _ _ _
  · injection e1 with e2 e3 e4
    subst e2
    subst e4
    have hkl : k ≤ L.length := by omega
    refine ⟨by simp, .inr ⟨g, c, cur, ?_, hg, hh, by rw [List.length_take]; omega, h2, h3, ?_⟩⟩
    · rw [List.length_take, Nat.min_eq_left hkl]
    · rw [List.length_take, Nat.min_eq_left hkl, List.map_take, ← h4, List.take_take]
      congr 1
      omega
theorem SortI_own (base : Nat) (v : Value) (L : List Int) (w : World) (h : OwnI w base v L) (hl : L.length ≤ 100000000) :
    Calls Try.prog 57 #[v] w fun e w' => e = .returned (.tuple #[]) ∧ OwnI w' base v (sortI L) ∧ w.grownBy w' v.ownBlock := by
  rcases h.2 with ⟨rfl, h0⟩ | ⟨g, cap, cur, rfl, hbase, hb, h1, h2, h3, h4⟩
  · obtain rfl : L = [] := List.eq_nil_of_length_eq_zero h0
    refine (AnyM.slices_Sort_int_none Try.sortI none 0 w).mono ?_
    rintro e w' ⟨rfl, rfl⟩
    exact ⟨rfl, by simpa [sortI] using h, World.grownBy.refl _ _⟩
  · have e4 : cur.toList.take L.length = L.map (Value.int .i64) := by simpa using h4
    have hH := holds_of_blockI hb e4
    have hg : g < w.heap.size := (Array.getElem?_eq_some_iff.1 hb).1
    have hC := AnyM.slices_Sort_int Try.sortI g 0 cap L w hH hg (by omega)
    refine hC.mono ?_
    rintro e w' ⟨rfl, n, os, rfl⟩
    refine ⟨rfl, ?_, grownBy_sortedI _⟩
    have ho := ownsRow_sortedI (n := n) (os := os) (ss := L) (ts := L.mergeSort fun x y => decide (x ≤ y)) (by simp) hbase hb h1 h2 h3
    unfold OwnI OwnL
    rw [sortI_len]
    exact ho
theorem compactI_len (L : List Int) : (cmpI L).length ≤ L.length := by
  unfold cmpI Lib.compact Lib.compactUpTo
  rw [List.length_map]
  exact Nat.le_trans (List.length_filter_le _ _) (by simp)
theorem CompactI_own (base : Nat) (v : Value) (L : List Int) (w : World) (h : OwnI w base v L) (hl : L.length ≤ 100000000) :
    Calls Try.prog 58 #[v] w fun e w' => ∃ v', e = .returned v' ∧ OwnI w' base v' (cmpI L) ∧ w.grownBy w' v.ownBlock ∧ v'.ownBlock = v.ownBlock := by
  rcases h.2 with ⟨rfl, h0⟩ | ⟨g, cap, cur, rfl, hbase, hb, h1, h2, h3, h4⟩
  · obtain rfl : L = [] := List.eq_nil_of_length_eq_zero h0
    refine (AnyG.slices_Compact_int_empty Try.compI none 0 w).mono ?_
    rintro e w' ⟨rfl, rfl⟩
    exact ⟨_, rfl, h, World.grownBy.refl _ _, rfl⟩
  · have e4 : cur.toList.take L.length = L.map (Value.int .i64) := by simpa using h4
    have hH := holds_of_blockI hb e4
    have hC := AnyG.slices_Compact_int Try.compI g 0 cap L w hH (by omega) h1
    refine hC.mono ?_
    rintro e w' ⟨rfl, q, rfl⟩
    have hcl := compactI_len L
    have ho := ownsRow_sortedI (n := q) (os := #[]) (ss := L) (ts := Lib.compact L ++ List.replicate (L.length - (Lib.compact L).length) 0) (by unfold cmpI at hcl; simp; omega) hbase hb h1 h2 h3
    have hgr := grownBy_sortedI (w := w) (g := g) (n := q) (os := #[]) (Lib.compact L ++ List.replicate (L.length - (Lib.compact L).length) 0).toArray
    have e0 : ∀ W : World, grow W #[] = W := fun W => by simp [grow]
    rw [e0] at ho hgr
    have ho2 : OwnI (putRow (Value.int .i64) (Sort.ahead w q) g 0 (Lib.compact L ++ List.replicate (L.length - (Lib.compact L).length) 0).toArray) base (.slice (some ⟨g, 0, none⟩) L.length cap) (Lib.compact L ++ List.replicate (L.length - (Lib.compact L).length) 0) := by
      unfold OwnI OwnL
      have e9 : (Lib.compact L ++ List.replicate (L.length - (Lib.compact L).length) 0).length = L.length := by unfold cmpI at hcl; simp; omega
      rw [e9]
      exact ho
    refine ⟨_, rfl, ?_, hgr, rfl⟩
    have h5 := OwnL.cut ho2 (Lib.compact L).length hcl
    rw [List.take_append_of_le_length (Nat.le_refl _), List.take_of_length_le (Nat.le_refl _)] at h5
    exact h5
theorem compactI_mem (zs : List Int) (x : Int) : x ∈ cmpI zs ↔ x ∈ zs := by
  unfold cmpI Lib.compact Lib.compactUpTo
  rw [List.mem_map]
  constructor
  · rintro ⟨j, hj, rfl⟩
    have := List.mem_range.1 (List.mem_filter.1 hj).1
    rw [getElem!_pos zs.toArray j (by simpa using this)]
    simp
  · intro hx
    obtain ⟨j, hj, e⟩ := List.mem_iff_getElem.1 hx
    have key : ∀ j, j < zs.length → ∃ k, k ∈ (List.range zs.length).filter (Lib.keeps zs.toArray) ∧ zs.toArray[k]! = zs.toArray[j]! := by
      intro j
      induction j with
      | zero => intro hj; exact ⟨0, List.mem_filter.2 ⟨List.mem_range.2 hj, by simp [Lib.keeps]⟩, rfl⟩
      | succ j ih =>
        intro hj
        by_cases he : zs.toArray[j + 1]! = zs.toArray[j]!
        · obtain ⟨k, hk, e⟩ := ih (by omega)
          exact ⟨k, hk, e.trans he.symm⟩
        · exact ⟨j + 1, List.mem_filter.2 ⟨List.mem_range.2 hj, by unfold Lib.keeps; exact decide_eq_true (.inr he)⟩, rfl⟩
    obtain ⟨k, hk, e2⟩ := key j hj
    refine ⟨k, hk, e2.trans ?_⟩
    rw [getElem!_pos zs.toArray j (by simpa using hj)]
    simpa using e
theorem compactI_up (zs : List Int) (h : zs.Pairwise (· ≤ ·)) : UpI (cmpI zs) := by
  have le : ∀ i j, i ≤ j → j < zs.length → zs.toArray[i]! ≤ zs.toArray[j]! := by
    intro i j hij hj
    rw [getElem!_pos zs.toArray i (by simp; omega), getElem!_pos zs.toArray j (by simpa using hj)]
    rcases Nat.lt_or_ge i j with h1 | h1
    · simpa using List.pairwise_iff_getElem.1 h i j (by omega) hj h1
    · obtain rfl : i = j := by omega
      exact Int.le_refl _
  unfold UpI cmpI Lib.compact Lib.compactUpTo
  rw [List.pairwise_map, List.pairwise_filter]
  refine List.Pairwise.imp_of_mem ?_ List.pairwise_lt_range
  intro i j hi hj hij _ kj
  have hj' := List.mem_range.1 hj
  have kj := of_decide_eq_true kj
  have h2 : zs.toArray[j]! ≠ zs.toArray[j - 1]! := by
    rcases kj with h0 | h0
    · omega
    · exact h0
  have h3 := le (j - 1) j (by omega) hj'
  have h4 := le i (j - 1) (by omega) (by omega)
  omega
theorem sortI_le (L : List Int) : (sortI L).Pairwise (· ≤ ·) := by
  have h := List.pairwise_mergeSort (le := fun x y : Int => decide (x ≤ y)) (fun a b c h1 h2 => by
    have h1 := of_decide_eq_true h1
    have h2 := of_decide_eq_true h2
    exact decide_eq_true (Int.le_trans h1 h2)) (fun a b => by
    rcases Int.le_total a b with h | h
    · simp [h]
    · simp [h]) L
  exact h.imp fun h => of_decide_eq_true h
theorem sc_mem (L : List Int) (x : Int) : x ∈ cmpI (sortI L) ↔ x ∈ L := by rw [compactI_mem, sortI, List.mem_mergeSort]
theorem sc_up (L : List Int) : UpI (cmpI (sortI L)) := compactI_up _ (sortI_le L)
end Go.Proofs.Ytaaddckhldccjaa
