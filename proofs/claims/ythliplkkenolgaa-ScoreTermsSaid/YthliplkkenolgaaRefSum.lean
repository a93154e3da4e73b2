/- What some terms count together: the document's sum. -/
import Derived.Test.YthliplkkenolgaaSum
import Derived.WalkKit
import Derived.Test.YthliplkkenolgaaReg
namespace Go.Proofs.Ythliplkkenolgaa
open Go.RowKit
set_option linter.unusedVariables false
set_option linter.unusedSimpArgs false

/-- A frame behind a region: what it wrote is laid over what was. -/
theorem getD_at (x : Array Value) (t : Nat) (h : t < x.size) : x.getD t undef = x[t] := by simp [Array.getD, h]
theorem foldl_set_getD (f : Nat → Value) : ∀ (L : List Nat) (x : Array Value) (t : Nat), t < x.size → (L.foldl (fun x d => x.setIfInBounds d (f d)) x).size = x.size ∧ (L.foldl (fun x d => x.setIfInBounds d (f d)) x).getD t undef = if t ∈ L then f t else x.getD t undef
  | [], x, t, _ => ⟨rfl, by simp⟩
  | d :: L, x, t, ht => by
    obtain ⟨h1, h2⟩ := foldl_set_getD f L (x.setIfInBounds d (f d)) t (by simpa using ht)
    refine ⟨by simpa using h1, ?_⟩
    show (L.foldl (fun x d => x.setIfInBounds d (f d)) (x.setIfInBounds d (f d))).getD t undef = _
    rw [h2]
    by_cases hL : t ∈ L
    · simp [hL]
    · by_cases hd : t = d
      · subst hd; simp [hL, Array.getD, ht]
      · simp [hL, hd, Array.getD_eq_getD_getElem?, Array.getElem?_setIfInBounds_ne (Ne.symm hd)]
theorem frame_of {ops : Array Oper} {a a0 : Act} (hd : a.defers = a0.defers) (hs : a.tmps.size = a0.tmps.size) (hrest : ∀ t, writesB ops t = false → a.tmps.getD t undef = a0.tmps.getD t undef)
    (L : List Nat) (hL : ((List.range a0.tmps.size).all fun t => writesB ops t == L.contains t) = true) : a = ⟨L.foldl (fun x d => x.setIfInBounds d (a.tmps.getD d undef)) a0.tmps, a0.defers⟩ := by
  obtain ⟨tm, df⟩ := a
  simp only at hd hs hrest ⊢
  subst hd
  congr 1
  have hall := List.all_eq_true.1 hL
  apply Array.ext
  · by_cases h0 : a0.tmps.size = 0
    · rw [hs]
      have : ∀ (L : List Nat) (x : Array Value), (L.foldl (fun x d => x.setIfInBounds d (tm.getD d undef)) x).size = x.size := by
        intro L
        induction L with
        | nil => intro x; rfl
        | cons d L ih => intro x; rw [List.foldl_cons, ih]; simp
      exact (this L a0.tmps).symm
    · rw [(foldl_set_getD (fun d => tm.getD d undef) L a0.tmps 0 (by omega)).1, hs]
  · intro t h1 h2
    have ht : t < a0.tmps.size := by omega
    have h3 := (foldl_set_getD (fun d => tm.getD d undef) L a0.tmps t ht).2
    have hw := hall t (List.mem_range.2 ht)
    rw [beq_iff_eq] at hw
    refine ((getD_at tm t h1).symm.trans (Eq.trans ?_ h3.symm)).trans (getD_at _ t h2)
    by_cases hm : t ∈ L
    · rw [if_pos hm]
    · rw [if_neg hm]
      exact hrest t (by rw [hw]; simpa using hm)

def RSumF (h0 : Nat) (D W n p q X E : Int) (ad : Addr) (r c k : Nat) : Nat → Value → World → Prop
  | 0 => fun v w => v = .agg #[.int .i64 D, .int .i64 W]
  | 1 => fun v w => v = .slice (some ad) r c
  | 2 => fun v w => v = .int .i64 (k : Int)
  | 3 => fun v w => v = .pointer (some (ad.add (k * 2)))
  | 4 => fun v w => v = .pointer (some (ad.add (k * 2)))
  | 5 => fun v w => v = .int .i64 p
  | 6 => fun v w => v = .slice (some ad) r c
  | 7 => fun v w => v = .int .i64 (k : Int)
  | 8 => fun v w => v = .pointer (some (ad.add (k * 2)))
  | 9 => fun v w => v = .pointer (some ⟨(ad.add (k * 2)).block, (ad.add (k * 2)).off + 1, none⟩)
  | 10 => fun v w => v = .int .i64 q
  | 11 => fun v w => v = .int .i64 n
  | 12 => fun v w => v = .tuple #[.int .i64 X, .int .i64 E]
  | 13 => fun v w => v = .tuple #[.int .i64 X, .int .i64 E]
  | 14 => fun v w => v = .int .i64 X
  | 15 => fun v w => v = .int .i64 E
  | 16 => fun v w => v = .int .i64 X
  | 17 => fun v w => v = .int .i64 E
  | _ => fun _ _ => True
theorem RSumF.below (h0 : Nat) (D W n p q X E : Int) (ad : Addr) (r c k : Nat) : ∀ i v w w', Below w.heap.size w w' → RSumF h0 D W n p q X E ad r c k i v w → RSumF h0 D W n p q X E ad r c k i v w'
  | 0, _, _, _, _, h => h
  | 1, _, _, _, _, h => h
  | 2, _, _, _, _, h => h
  | 3, _, _, _, _, h => h
  | 4, _, _, _, _, h => h
  | 5, _, _, _, _, h => h
  | 6, _, _, _, _, h => h
  | 7, _, _, _, _, h => h
  | 8, _, _, _, _, h => h
  | 9, _, _, _, _, h => h
  | 10, _, _, _, _, h => h
  | 11, _, _, _, _, h => h
  | 12, _, _, _, _, h => h
  | 13, _, _, _, _, h => h
  | 14, _, _, _, _, h => h
  | 15, _, _, _, _, h => h
  | 16, _, _, _, _, h => h
  | 17, _, _, _, _, h => h
  | _ + 18, _, _, _, _, _ => trivial

set_option maxRecDepth 100000 in
set_option maxHeartbeats 4000000 in
theorem refSum_any (D W n : Int) (A : Option Addr) (r c : Nat) (l : List (Int × Int)) (w : World) (hD : i64 D) (hW : i64 W) (hn : i64 n) (hl : RdP w A r l) (hr : r ≤ 1000) :
    Calls Try.prog 18 #[.agg #[.int .i64 D, .int .i64 W], .int .i64 n, .slice A r c] w fun e w' => e = .returned (.tuple #[.int .i64 (sumX D W n l), .int .i64 (sumE D W n l)]) ∧ Below w.heap.size w w' := by
  have HB := Lib.hid ((Below.refl w.heap.size w).alloc (Nat.le_refl _) (.cells #[.int .i64 D, .int .i64 W] 23))
  have HK : Hid (∀ w', Below (w.alloc (.cells #[.int .i64 D, .int .i64 W] 23)).heap.size (w.alloc (.cells #[.int .i64 D, .int .i64 W] 23)) w' → w'.cell? ⟨w.heap.size, 0, none⟩ = some (.int .i64 D) ∧ w'.cell? ⟨w.heap.size, 1, none⟩ = some (.int .i64 W)) := fun w' hb => ⟨box_keep hb, box_keep1 hb⟩
  have HC : Hid (∀ w : World, Calls Try.prog 14 #[.agg #[.int .i64 D, .int .i64 W]] w fun e w' => e = .returned (.int .i64 (chk D W)) ∧ Below w.heap.size w w') := fun w => refCheck_any D W w hD hW
  have HT : Hid (∀ (d m : Int) (w : World), i64 d → i64 m → Calls Try.prog 16 #[.agg #[.int .i64 D, .int .i64 W], .int .i64 d, .int .i64 m, .int .i64 n] w fun e w' => e = .returned (.tuple #[.int .i64 (termX D W d m n), .int .i64 (termE D W d m n)]) ∧ Below w.heap.size w w') := fun d m w h1 h2 => refTerm_any D W d m n w hD hW h1 h2 hn
  have HL := Lib.hid (hl.below HB.out)
  have HLen := Lib.hid hl.len
  clear hD hW hn hl
  by_cases hs : okS D W
  · rw [chk_yes hs] at HC
    have HS := Lib.hid hs
    clear hs
    go_enter Try.func18, Try.ntmps18
    go_wp2_with fail
    refine (HC.out _).mono ?_
    rintro e w1 ⟨rfl, hb⟩
    have HB1 := Lib.hid hb
    clear hb
    go_wp2_with fail
    go_loopw [9, 10] (fun s i wr => ∃ k : Nat, k ≤ r ∧ i = .int .i64 k ∧ s = .int .i64 (sumT D W n (l.take k)) ∧ Hid ((∀ j (hj : j < l.length), j < k → okT D W l[j].1 l[j].2 n) ∧ Below (w.alloc (.cells #[.int .i64 D, .int .i64 W] 23)).heap.size (w.alloc (.cells #[.int .i64 D, .int .i64 W] 23)) wr)) (fun _ i _ => r - (intOf i).toNat)
    case atStart => exact ⟨0, by omega, rfl, rfl, ⟨fun j hj h => absurd h (Nat.not_lt_zero _), HB1.out⟩⟩
    case round =>
      obtain ⟨k, hk, rfl, rfl, HI⟩ := hrel
      have HBr := Lib.hid HI.out.2
      obtain ⟨c0, c1⟩ := HK.out _ HBr.out
      by_cases hlt : (k : Int) < (r : Int)
      · obtain ⟨ad, rfl, p, q, hp, hq, HP, e0, e1⟩ := (HL.out.below HBr.out).at (k := k) (by omega)
        have HP' := Lib.hid HP
        have hst := sumT_take D W n l k (by omega)
        have htt := termX_small D W p q n
        have HC2 := Lib.hid (fun w => HT.out p q w hp hq)
        clear hp hq HP
        obtain ⟨S, hS⟩ : ∃ S, S = sumT D W n (l.take k) := ⟨_, rfl⟩
        obtain ⟨X, hX⟩ : ∃ X, X = termX D W p q n := ⟨_, rfl⟩
        rw [← hS] at hst ⊢
        rw [← hX] at htt HC2
        have HSX := Lib.hid (And.intro hS hX)
        clear hS hX
        have hsz : w.heap.size < wr.heap.size := by have := HBr.out.size; simp at this; omega
        obtain ⟨E, hE⟩ : ∃ E : Int, E = termE D W p q n := ⟨_, rfl⟩
        rw [← hE] at HC2
        have HEE := Lib.hid hE
        clear hE
        have hk1 : (k : Int) < (r : Int) := hlt
        have hk2 : k < r := by omega
        have hlt0 := World.block_lt_of_cell? wr _ c0
        have hlt1 := World.block_lt_of_cell? wr _ c1
        have hlt2 := World.block_lt_of_cell? wr _ e0
        have hlt3 := World.block_lt_of_cell? wr _ e1
        go_upto_region 8 with fail
        go_cut [11, 12] (fun s11 s12 wx => s11 = .int .i64 X ∧ s12 = .int .i64 E ∧ Hid (Below wr.heap.size wr wx))
        case first =>
          rename_i K1 hK1
          refine wp_region_flow (by kernel_rfl) (RSumF w.heap.size D W n p q X E ad r c k) (RSumF.below _ _ _ _ _ _ _ _ _ _ _ _) (by kernel_rfl) (by kernel_rfl) ?_ ?_
          case refine_1 =>
            intro i o ho ρ y w2 hb2 hreg hn hf hyb hyn
            have hi := (Array.getElem?_eq_some_iff.1 ho).1
            rcases Nat.lt_or_ge i 18 with hi2 | hi2
            case inr => simp at hi; omega
            obtain rfl | rfl | rfl | rfl | rfl | rfl | rfl | rfl | rfl | rfl | rfl | rfl | rfl | rfl | rfl | rfl | rfl | rfl : i = 0 ∨ i = 1 ∨ i = 2 ∨ i = 3 ∨ i = 4 ∨ i = 5 ∨ i = 6 ∨ i = 7 ∨ i = 8 ∨ i = 9 ∨ i = 10 ∨ i = 11 ∨ i = 12 ∨ i = 13 ∨ i = 14 ∨ i = 15 ∨ i = 16 ∨ i = 17 := by omega
            · cases ho
              rw [if_pos (show Region.wanted _ y = true from rfl)]
              have f3 : ρ (.tmp 3) = .pointer (some ⟨w.heap.size, 0, none⟩) := hf 3 (by kernel_rfl)
              have k0 := (hb2.cell hlt0).trans c0
              have k1 := (hb2.cell hlt1).trans c1
              exact does_ok (v := .agg #[.int .i64 D, .int .i64 W]) (w' := w2) (by simp [go_sem, hreg.const, f3, k0, k1]) ⟨rfl, Below.refl _ _⟩
            · cases ho
              rw [if_pos (show Region.wanted _ y = true from rfl)]
              have f2 : ρ (.tmp 2) = .slice (some ad) r c := hf 2 (by kernel_rfl)
              exact ⟨f2, Below.refl _ _⟩
            · cases ho
              rw [if_pos (show Region.wanted _ y = true from rfl)]
              have f10 : ρ (.tmp 10) = .int .i64 (k : Int) := hf 10 (by kernel_rfl)
              exact ⟨f10, Below.refl _ _⟩
            · cases ho
              rw [if_pos (show Region.wanted _ y = true from rfl)]
              have f26 : ρ (.tmp 26) = .slice (some ad) r c := hn 1 _ 26 rfl (by kernel_rfl) rfl
              have f27 : ρ (.tmp 27) = .int .i64 (k : Int) := hn 2 _ 27 rfl (by kernel_rfl) rfl
              exact does_ok (v := .pointer (some (ad.add (k * 2)))) (w' := w2) (by simp [go_sem, hreg.const, f26, f27, hk1, hk2]) ⟨rfl, Below.refl _ _⟩
            · cases ho
              rw [if_pos (show Region.wanted _ y = true from rfl)]
              have f28 : ρ (.tmp 28) = .pointer (some (ad.add (k * 2))) := hn 3 _ 28 rfl (by kernel_rfl) rfl
              exact does_ok (v := .pointer (some (ad.add (k * 2)))) (w' := w2) (by simp [go_sem, hreg.const, f28]) ⟨rfl, Below.refl _ _⟩
            · cases ho
              rw [if_pos (show Region.wanted _ y = true from rfl)]
              have f29 : ρ (.tmp 29) = .pointer (some (ad.add (k * 2))) := hn 4 _ 29 rfl (by kernel_rfl) rfl
              have k0 := (hb2.cell hlt2).trans e0
              exact does_ok (v := .int .i64 p) (w' := w2) (by simp [go_sem, hreg.const, f29, k0]) ⟨rfl, Below.refl _ _⟩
            · cases ho
              rw [if_pos (show Region.wanted _ y = true from rfl)]
              have f2 : ρ (.tmp 2) = .slice (some ad) r c := hf 2 (by kernel_rfl)
              exact ⟨f2, Below.refl _ _⟩
            · cases ho
              rw [if_pos (show Region.wanted _ y = true from rfl)]
              have f10 : ρ (.tmp 10) = .int .i64 (k : Int) := hf 10 (by kernel_rfl)
              exact ⟨f10, Below.refl _ _⟩
            · cases ho
              rw [if_pos (show Region.wanted _ y = true from rfl)]
              have f31 : ρ (.tmp 31) = .slice (some ad) r c := hn 6 _ 31 rfl (by kernel_rfl) rfl
              have f32 : ρ (.tmp 32) = .int .i64 (k : Int) := hn 7 _ 32 rfl (by kernel_rfl) rfl
              exact does_ok (v := .pointer (some (ad.add (k * 2)))) (w' := w2) (by simp [go_sem, hreg.const, f31, f32, hk1, hk2]) ⟨rfl, Below.refl _ _⟩
            · cases ho
              rw [if_pos (show Region.wanted _ y = true from rfl)]
              have f33 : ρ (.tmp 33) = .pointer (some (ad.add (k * 2))) := hn 8 _ 33 rfl (by kernel_rfl) rfl
              exact does_ok (v := .pointer (some ⟨(ad.add (k * 2)).block, (ad.add (k * 2)).off + 1, none⟩)) (w' := w2) (by simp [go_sem, hreg.const, f33]) ⟨rfl, Below.refl _ _⟩
            · cases ho
              rw [if_pos (show Region.wanted _ y = true from rfl)]
              have f34 : ρ (.tmp 34) = .pointer (some ⟨(ad.add (k * 2)).block, (ad.add (k * 2)).off + 1, none⟩) := hn 9 _ 34 rfl (by kernel_rfl) rfl
              have k0 := (hb2.cell hlt3).trans e1
              exact does_ok (v := .int .i64 q) (w' := w2) (by simp [go_sem, hreg.const, f34, k0]) ⟨rfl, Below.refl _ _⟩
            · cases ho
              rw [if_pos (show Region.wanted _ y = true from rfl)]
              have f1 : ρ (.tmp 1) = .int .i64 n := hf 1 (by kernel_rfl)
              exact ⟨f1, Below.refl _ _⟩
            · cases ho
              rw [if_pos (show Region.wanted _ y = true from rfl)]
              have f25 : ρ (.tmp 25) = .agg #[.int .i64 D, .int .i64 W] := hn 0 _ 25 rfl (by kernel_rfl) rfl
              have f30 : ρ (.tmp 30) = .int .i64 p := hn 5 _ 30 rfl (by kernel_rfl) rfl
              have f35 : ρ (.tmp 35) = .int .i64 q := hn 10 _ 35 rfl (by kernel_rfl) rfl
              have f36 : ρ (.tmp 36) = .int .i64 n := hn 11 _ 36 rfl (by kernel_rfl) rfl
              refine does_enter (f := 16) (args := #[.agg #[.int .i64 D, .int .i64 W], .int .i64 p, .int .i64 q, .int .i64 n]) (w' := w2) (by simp [go_sem, hreg.func, f25, f30, f35, f36]) ?_
              refine (HC2.out w2).mono ?_
              rintro e w' ⟨rfl, hbx⟩
              exact ⟨_, rfl, rfl, hbx⟩
            · cases ho
              rw [if_pos (show Region.wanted _ y = true from rfl)]
              have f37 : ρ (.tmp 37) = .tuple #[.int .i64 X, .int .i64 E] := hn 12 _ 37 rfl (by kernel_rfl) rfl
              exact ⟨f37, Below.refl _ _⟩
            · cases ho
              rw [if_pos (show Region.wanted _ y = true from rfl)]
              have f24 : ρ (.tmp 24) = .tuple #[.int .i64 X, .int .i64 E] := hn 13 _ 24 rfl (by kernel_rfl) rfl
              exact does_ok (v := .int .i64 X) (w' := w2) (by simp [go_sem, hreg.const, f24]) ⟨rfl, Below.refl _ _⟩
            · cases ho
              rw [if_pos (show Region.wanted _ y = true from rfl)]
              have f24 : ρ (.tmp 24) = .tuple #[.int .i64 X, .int .i64 E] := hn 13 _ 24 rfl (by kernel_rfl) rfl
              exact does_ok (v := .int .i64 E) (w' := w2) (by simp [go_sem, hreg.const, f24]) ⟨rfl, Below.refl _ _⟩
            · cases ho
              rw [if_pos (show Region.wanted _ y = true from rfl)]
              have f38 : ρ (.tmp 38) = .int .i64 X := hn 14 _ 38 rfl (by kernel_rfl) rfl
              exact ⟨f38, Below.refl _ _⟩
            · cases ho
              rw [if_pos (show Region.wanted _ y = true from rfl)]
              have f39 : ρ (.tmp 39) = .int .i64 E := hn 15 _ 39 rfl (by kernel_rfl) rfl
              exact ⟨f39, Below.refl _ _⟩
          case refine_2 =>
            intro a2 w5 hb5 hd2 hs2 hfacts hrest
            have f11 : a2.tmps.getD 11 undef = .int .i64 X := hfacts 16 _ 11 rfl rfl
            have f12 : a2.tmps.getD 12 undef = .int .i64 E := hfacts 17 _ 12 rfl rfl
            have ha := frame_of hd2 hs2 hrest [11, 12, 24, 25, 26, 27, 28, 29, 30, 31, 32, 33, 34, 35, 36, 37, 38, 39] (by kernel_rfl)
            simp only [f11, f12, List.foldl, List.setIfInBounds_toArray, List.set_cons_succ, List.set_cons_zero] at ha
            clear f11 f12 hd2 hs2 hfacts hrest
            generalize a2.tmps.getD = gg at ha
            subst ha
            refine hK1 _ _ ?_
            go_meet
            case rel => exact ⟨rfl, rfl, Lib.hid hb5⟩
        case rest =>
          obtain ⟨rfl, rfl, HB2'⟩ := hcut
          have HB2 := Lib.hid (HBr.out.trans (HB2'.out.mono HBr.out.size))
          clear HB2' e0 e1 c0 c1
          by_cases hok : okT D W p q n
          · have HOK := Lib.hid hok
            have hEE := HEE.out.trans (term_yes hok).2
            subst hEE
            clear hok
            go_wp2
            go_roundw
            case rel =>
              obtain ⟨hl, rfl, rfl⟩ := HP'.out
              refine ⟨k + 1, by omega, by go_num, ?_, ⟨?_, HB2.out⟩⟩
              · rw [sumT_succ D W n l k hl, ← HSX.out.1, ← HSX.out.2]
              · intro j hj hjk
                rcases Nat.lt_succ_iff_lt_or_eq.1 hjk with h | rfl
                · exact HI.out.1 j hj h
                · exact HOK.out
            case measure => simp [intOf]; omega
          · have HOK := Lib.hid hok
            have hEE := HEE.out.trans (term_no hok).2
            subst hEE
            clear hok
            go_wp2
            go_ret2
            obtain ⟨hl, rfl, rfl⟩ := HP'.out
            have hv := sum_no (okA_false hl HOK.out)
            exact ⟨by rw [hv.1, hv.2]; rfl, Below.thn' HB.out HB2.out⟩
      · have hkr : k = r := by omega
        have hle : sumT D W n (l.take k) = sumT D W n l := by rw [List.take_of_length_le (by rw [HLen.out]; omega)]
        rw [hle]
        clear hle c0 c1
        go_wp2
        go_ret2
        have hv := sum_yes (okA_all HS.out HI.out.1 (by rw [HLen.out]; omega))
        exact ⟨by rw [hv.1, hv.2]; rfl, Below.thn' HB.out HBr.out⟩
  · rw [chk_no hs] at HC
    have hv := sum_no (fun h : okA D W n l => hs h.1)
    rw [hv.1, hv.2]
    clear hv hs HL HLen
    go_enter Try.func18, Try.ntmps18
    go_wp2_with fail
    refine (HC.out _).mono ?_
    rintro e w1 ⟨rfl, hb⟩
    have HB1 := Lib.hid (Below.thn' HB.out hb)
    clear hb
    go_wp2
    go_ret2
    exact ⟨rfl, HB1.out⟩
end Go.Proofs.Ythliplkkenolgaa
