/- What some terms count together: the program's sum and the document's. -/
import Derived.Test.YthliplkkenolgaaTermMath
import Derived.Test.YthliplkkenolgaaLive
import Derived.Deep.DeepCutAuto
import Derived.Laws.NewBlocks
import Derived.WalkKit
namespace Go.Proofs.Ythliplkkenolgaa
open Go.RowKit
set_option linter.unusedVariables false
set_option linter.unusedSimpArgs false

noncomputable def sumT (D W n : Int) (l : List (Int × Int)) : Int := (l.map fun x => termX D W x.1 x.2 n).sum
def okA (D W n : Int) (l : List (Int × Int)) : Prop := okS D W ∧ ∀ x ∈ l, okT D W x.1 x.2 n
noncomputable def sumX (D W n : Int) (l : List (Int × Int)) : Int := open Classical in if okA D W n l then sumT D W n l else 0
noncomputable def sumE (D W n : Int) (l : List (Int × Int)) : Int := open Classical in if okA D W n l then 0 else 220
theorem sum_yes {D W n : Int} {l : List (Int × Int)} (h : okA D W n l) : sumX D W n l = sumT D W n l ∧ sumE D W n l = 0 := ⟨if_pos h, if_pos h⟩
theorem sum_no {D W n : Int} {l : List (Int × Int)} (h : ¬ okA D W n l) : sumX D W n l = 0 ∧ sumE D W n l = 220 := ⟨if_neg h, if_neg h⟩
theorem take_succ {α : Type} (l : List α) (k : Nat) (h : k < l.length) : l.take (k + 1) = l.take k ++ [l[k]] := by
  rw [List.take_add_one, List.getElem?_eq_getElem h]; rfl
theorem sumT_succ (D W n : Int) (l : List (Int × Int)) (k : Nat) (h : k < l.length) : sumT D W n (l.take (k + 1)) = sumT D W n (l.take k) + termX D W l[k].1 l[k].2 n := by
  unfold sumT
  rw [take_succ l k h, List.map_append, List.sum_append]
  simp
theorem termX_small (D W d m n : Int) : 0 ≤ termX D W d m n ∧ termX D W d m n ≤ 5632 := by
  by_cases h : okT D W d m n
  · have h1 := term_le h
    have h2 := idf_2560 h.1
    omega
  · rw [(term_no h).1]; decide
theorem sumT_small (D W n : Int) (l : List (Int × Int)) : 0 ≤ sumT D W n l ∧ sumT D W n l ≤ 5632 * l.length := by
  induction l with
  | nil => simp [sumT]
  | cons x r ih =>
    have h1 := termX_small D W x.1 x.2 n
    unfold sumT at *
    simp only [List.map_cons, List.sum_cons, List.length_cons]
    omega
theorem sumT_take (D W n : Int) (l : List (Int × Int)) (k : Nat) (hk : k ≤ 1000) : 0 ≤ sumT D W n (l.take k) ∧ sumT D W n (l.take k) ≤ 5632000 := by
  have h := sumT_small D W n (l.take k)
  have : (l.take k).length ≤ k := by simp; omega
  omega

/-- A slice of pairs, read. -/
structure RdP (w : World) (A : Option Addr) (n : Nat) (l : List (Int × Int)) : Prop where
  len : l.length = n
  small : ∀ x ∈ l, i64 x.1 ∧ i64 x.2
  cell : 0 < n → ∃ ad, A = some ad ∧ ∀ j (h : j < l.length), w.cell? (ad.add (j * 2)) = some (.int .i64 l[j].1) ∧ w.cell? ⟨(ad.add (j * 2)).block, (ad.add (j * 2)).off + 1, none⟩ = some (.int .i64 l[j].2)
theorem RdP.below {w w' : World} {A : Option Addr} {n : Nat} {l : List (Int × Int)} (h : RdP w A n l) (hb : Below w.heap.size w w') : RdP w' A n l :=
  ⟨h.len, h.small, fun hn => by
    obtain ⟨ad, e, hc⟩ := h.cell hn
    refine ⟨ad, e, fun j hj => ?_⟩
    obtain ⟨h1, h2⟩ := hc j hj
    exact ⟨(hb.cell (World.block_lt_of_cell? w _ h1)).trans h1, (hb.cell (World.block_lt_of_cell? w _ h2)).trans h2⟩⟩
theorem RdP.at {w : World} {A : Option Addr} {n : Nat} {l : List (Int × Int)} (h : RdP w A n l) {k : Nat} (hk : k < n) : ∃ ad, A = some ad ∧ ∃ p q : Int, i64 p ∧ i64 q ∧ (∃ hl : k < l.length, p = l[k].1 ∧ q = l[k].2) ∧
    w.cell? (ad.add (k * 2)) = some (.int .i64 p) ∧ w.cell? ⟨(ad.add (k * 2)).block, (ad.add (k * 2)).off + 1, none⟩ = some (.int .i64 q) := by
  obtain ⟨ad, e, hc⟩ := h.cell (by omega)
  have hl : k < l.length := by rw [h.len]; exact hk
  have hs := h.small _ (List.getElem_mem hl)
  exact ⟨ad, e, _, _, hs.1, hs.2, ⟨hl, rfl, rfl⟩, hc k hl⟩
theorem okA_false {D W n : Int} {l : List (Int × Int)} {k : Nat} (hl : k < l.length) (h : ¬ okT D W l[k].1 l[k].2 n) : ¬ okA D W n l := fun ho => h (ho.2 _ (List.getElem_mem hl))
theorem okA_all {D W n : Int} {l : List (Int × Int)} {k : Nat} (hs : okS D W) (h : ∀ j (hj : j < l.length), j < k → okT D W l[j].1 l[j].2 n) (hk : l.length ≤ k) : okA D W n l := by
  refine ⟨hs, fun x hx => ?_⟩
  obtain ⟨j, hj, rfl⟩ := List.getElem_of_mem hx
  exact h j hj (by omega)
set_option maxRecDepth 100000 in
set_option maxHeartbeats 4000000 in
theorem Sum_any (D W n : Int) (A : Option Addr) (r c : Nat) (l : List (Int × Int)) (w : World) (hD : i64 D) (hW : i64 W) (hn : i64 n) (hl : RdP w A r l) (hr : r ≤ 1000) :
    Calls Try.prog 17 #[.agg #[.int .i64 D, .int .i64 W], .int .i64 n, .slice A r c] w fun e w' => e = .returned (.tuple #[.int .i64 (sumX D W n l), .int .i64 (sumE D W n l)]) ∧ Below w.heap.size w w' := by
  have HB := Lib.hid ((Below.refl w.heap.size w).alloc (Nat.le_refl _) (.cells #[.int .i64 D, .int .i64 W] 23))
  have HK : Hid (∀ w', Below (w.alloc (.cells #[.int .i64 D, .int .i64 W] 23)).heap.size (w.alloc (.cells #[.int .i64 D, .int .i64 W] 23)) w' → w'.cell? ⟨w.heap.size, 0, none⟩ = some (.int .i64 D) ∧ w'.cell? ⟨w.heap.size, 1, none⟩ = some (.int .i64 W)) := fun w' hb => ⟨box_keep hb, box_keep1 hb⟩
  have HC : Hid (∀ w : World, Calls Try.prog 13 #[.agg #[.int .i64 D, .int .i64 W]] w fun e w' => e = .returned (.int .i64 (chk D W)) ∧ Below w.heap.size w w') := fun w => Check_any D W w hD hW
  have HT : Hid (∀ (d m : Int) (w : World), i64 d → i64 m → Calls Try.prog 15 #[.agg #[.int .i64 D, .int .i64 W], .int .i64 d, .int .i64 m, .int .i64 n] w fun e w' => e = .returned (.tuple #[.int .i64 (termX D W d m n), .int .i64 (termE D W d m n)]) ∧ Below w.heap.size w w') := fun d m w h1 h2 => Term_any D W d m n w hD hW h1 h2 hn
  have HL := Lib.hid (hl.below HB.out)
  have HLen := Lib.hid hl.len
  clear hD hW hn hl
  by_cases hs : okS D W
  · rw [chk_yes hs] at HC
    have HS := Lib.hid hs
    clear hs
    go_enter Try.func17, Try.ntmps17
    go_wp2_with fail
    refine (HC.out _).mono ?_
    rintro e w1 ⟨rfl, hb⟩
    have HB1 := Lib.hid hb
    clear hb
    go_wp2_with fail
    go_loopw [9, 21] (fun s i wr => ∃ k : Nat, k ≤ r ∧ i = .int .i64 k ∧ s = .int .i64 (sumT D W n (l.take k)) ∧ Hid ((∀ j (hj : j < l.length), j < k → okT D W l[j].1 l[j].2 n) ∧ Below (w.alloc (.cells #[.int .i64 D, .int .i64 W] 23)).heap.size (w.alloc (.cells #[.int .i64 D, .int .i64 W] 23)) wr)) (fun _ i _ => r - (intOf i).toNat)
    case atStart => exact ⟨0, by omega, rfl, rfl, ⟨fun j hj h => absurd h (Nat.not_lt_zero _), HB1.out⟩⟩
    case round =>
      obtain ⟨k, hk, rfl, rfl, HI⟩ := hrel
      have HBr := Lib.hid HI.out.2
      obtain ⟨c0, c1⟩ := HK.out _ HBr.out
      by_cases hlt : (k : Int) < (r : Int)
      · obtain ⟨ad, rfl, p, q, hp, hq, HP, e0, e1⟩ := (HL.out.below HBr.out).at (k := k) (by omega)
        have HP' := Lib.hid HP
        have hst := sumT_take D W n l k (by omega)
        have htt := termX_small D W p q n
        have HBn := Lib.hid ((Below.refl wr.heap.size wr).alloc (Nat.le_refl _) (.cells #[.int .i64 p, .int .i64 q] 45))
        have HC2 := Lib.hid (fun w => HT.out p q w hp hq)
        clear hp hq HP
        obtain ⟨S, hS⟩ : ∃ S, S = sumT D W n (l.take k) := ⟨_, rfl⟩
        obtain ⟨X, hX⟩ : ∃ X, X = termX D W p q n := ⟨_, rfl⟩
        rw [← hS] at hst ⊢
        rw [← hX] at htt HC2
        have HSX := Lib.hid (And.intro hS hX)
        clear hS hX
        have hsz : w.heap.size < wr.heap.size := by have := HBr.out.size; simp at this; omega
        by_cases hok : okT D W p q n
        · rw [(term_yes hok).2] at HC2
          have HOK := Lib.hid hok
          clear hok
          go_wp2_with fail
          refine (HC2.out _).mono ?_
          rintro e w2 ⟨rfl, hb⟩
          have HB2 := Lib.hid (HBr.out.trans ((Below.thn' HBn.out hb).mono HBr.out.size))
          clear hb e0 e1 c0 c1
          go_wp2
          go_roundw
          case rel =>
            obtain ⟨hl, rfl, rfl⟩ := HP'.out
            refine ⟨k + 1, by omega, by go_num, ?_, ⟨?_, HB2.out⟩⟩
            · rw [sumT_succ D W n l k hl, ← HSX.out.1, ← HSX.out.2]
            · intro j hj hjk
              rcases Nat.lt_succ_iff_lt_or_eq.1 hjk with h | rfl
              · exact HI.out.1 j hj h
              · exact HOK.out
          case measure => simp [intOf]; omega
        · rw [(term_no hok).2] at HC2
          have HOK := Lib.hid hok
          clear hok
          go_wp2_with fail
          refine (HC2.out _).mono ?_
          rintro e w2 ⟨rfl, hb⟩
          have HB2 := Lib.hid (HBr.out.trans ((Below.thn' HBn.out hb).mono HBr.out.size))
          clear hb e0 e1 c0 c1
          go_wp2
          go_ret2
          obtain ⟨hl, rfl, rfl⟩ := HP'.out
          have hv := sum_no (okA_false hl HOK.out)
          exact ⟨by rw [hv.1, hv.2]; rfl, Below.thn' HB.out HB2.out⟩
      · have hkr : k = r := by omega
        have hle : sumT D W n (l.take k) = sumT D W n l := by rw [List.take_of_length_le (by rw [HLen.out]; omega)]
        rw [hle]
        clear hle c0 c1
        go_wp2
        go_ret2
        have hv := sum_yes (okA_all HS.out HI.out.1 (by rw [HLen.out]; omega))
        exact ⟨by rw [hv.1, hv.2]; rfl, Below.thn' HB.out HBr.out⟩
  · rw [chk_no hs] at HC
    have hv := sum_no (fun h : okA D W n l => hs h.1)
    rw [hv.1, hv.2]
    clear hv hs HL HLen
    go_enter Try.func17, Try.ntmps17
    go_wp2_with fail
    refine (HC.out _).mono ?_
    rintro e w1 ⟨rfl, hb⟩
    have HB1 := Lib.hid (Below.thn' HB.out hb)
    clear hb
    go_wp2
    go_ret2
    exact ⟨rfl, HB1.out⟩
end Go.Proofs.Ythliplkkenolgaa
