/- The law PackTakes. -/
import Derived.Test.YtljnfciolalbdaaTakes2
import Derived.Test.YtljnfciolalbdaaPutsLaw
import Derived.Laws.NewBlocks
import Derived.Lib.MinMax
namespace Go.Proofs.Ytljnfciolalbdaa
open Go.RowKit
set_option linter.unusedVariables false
set_option linter.unusedSimpArgs false

def i64' (x : Int) : Prop := -9223372036854775808 ≤ x ∧ x ≤ 9223372036854775807
/-- A script, read. -/
structure RdP (w : World) (A : Option Addr) (n : Nat) (l : List (Int × Int)) : Prop where
  len : l.length = n
  small : ∀ x ∈ l, i64' x.1 ∧ i64' x.2
  cell : 0 < n → ∃ ad, A = some ad ∧ ∀ j (h : j < l.length), w.cell? (ad.add (j * 2)) = some (.int .i64 l[j].1) ∧ w.cell? ⟨(ad.add (j * 2)).block, (ad.add (j * 2)).off + 1, none⟩ = some (.int .i64 l[j].2)
theorem RdP.below {w w' : World} {A : Option Addr} {n : Nat} {l : List (Int × Int)} (h : RdP w A n l) (hb : Below w.heap.size w w') : RdP w' A n l :=
  ⟨h.len, h.small, fun hn => by
    obtain ⟨ad, e, hc⟩ := h.cell hn
    refine ⟨ad, e, fun j hj => ?_⟩
    obtain ⟨h1, h2⟩ := hc j hj
    exact ⟨(hb.cell (World.block_lt_of_cell? w _ h1)).trans h1, (hb.cell (World.block_lt_of_cell? w _ h2)).trans h2⟩⟩
theorem RdP.at {w : World} {A : Option Addr} {n : Nat} {l : List (Int × Int)} (h : RdP w A n l) {k : Nat} (hk : k < n) : ∃ ad, A = some ad ∧ ∃ p q : Int, i64' p ∧ i64' q ∧
    w.cell? (ad.add (k * 2)) = some (.int .i64 p) ∧ w.cell? ⟨(ad.add (k * 2)).block, (ad.add (k * 2)).off + 1, none⟩ = some (.int .i64 q) := by
  obtain ⟨ad, e, hc⟩ := h.cell (by omega)
  have hl : k < l.length := by rw [h.len]; exact hk
  have hs := h.small _ (List.getElem_mem hl)
  exact ⟨ad, e, _, _, hs.1, hs.2, hc k hl⟩

/-- What holds in a round's test. -/
structure TkJ (w0 : World) (g1 g2 lo hi h : Nat) (d k : Int) (l : List Nat) (e : Int) (L : List Nat) (E : Int) (S : Nat → Prop) (w : World) : Prop where
  one : S 3 → Two w0 w g1 g2 lo hi L E
  no : ¬ S 3 → Two w0 w g1 g2 lo hi l e ∧ w.cell? ⟨h, 0, none⟩ = some (.int .i64 d) ∧ w.cell? ⟨h, 1, none⟩ = some (.int .i64 k)
theorem TkJ.same {w0 w : World} {g1 g2 lo hi h : Nat} {d k : Int} {l L : List Nat} {e E : Int} {S : Nat → Prop} (hj : TkJ w0 g1 g2 lo hi h d k l e L E S w) {i : Nat} (h3 : i ≠ 3) : TkJ w0 g1 g2 lo hi h d k l e L E (fun j => j = i ∨ S j) w :=
  ⟨fun hs => hj.one (hs.resolve_left (Ne.symm h3)), fun hs => hj.no (fun h => hs (.inr h))⟩
def TkF (g1 g2 : Nat) (d k : Int) (L : List Nat) (E : Int) : Nat → Value → World → Prop
  | 0 => fun v w => v = .pointer (some ⟨g1, 0, none⟩)
  | 1 => fun v w => v = .pointer (some ⟨g2, 0, none⟩)
  | 2 => fun v w => v = .agg #[.int .i64 d, .int .i64 k]
  | 3 => fun v w => v = .bool true
  | 4 => fun v w => v = .bool false
  | 5 => fun v w => v = .bool false
  | 6 => fun v w => v = .pointer (some ⟨g1, 0, none⟩)
  | 7 => fun v w => v = .int .i64 (L.length : Nat)
  | 8 => fun v w => v = .pointer (some ⟨g2, 0, none⟩)
  | 9 => fun v w => v = .pointer (some ⟨g2, 0, none⟩)
  | 10 => fun v w => v = .pointer (some ⟨g2, 0, none⟩)
  | 11 => fun v w => ∃ A c, v = .slice A L.length c
  | 12 => fun v w => v = .int .i64 (L.length : Nat)
  | 13 => fun v w => v = .bool false
  | 14 => fun v w => v = .bool false
  | 15 => fun v w => v = .bool false
  | 16 => fun v w => v = .pointer (some ⟨g1, 0, none⟩)
  | 17 => fun v w => v = .int .i64 E
  | 18 => fun v w => v = .pointer (some ⟨g2, 0, none⟩)
  | 19 => fun v w => v = .pointer (some ⟨g2, 0, none⟩)
  | 20 => fun v w => v = .pointer (some ⟨g2, 1, none⟩)
  | 21 => fun v w => v = .int .i64 E
  | 22 => fun v w => v = .bool false
  | 23 => fun v w => v = .bool false
  | 24 => fun v w => v = .bool false
  | 25 => fun v w => v = .pointer (some ⟨g1, 0, none⟩)
  | 26 => fun v w => v = .int .i64 (endE L E)
  | 27 => fun v w => v = .pointer (some ⟨g2, 0, none⟩)
  | 28 => fun v w => v = .int .i64 (endE L E)
  | 29 => fun v w => v = .bool false
  | 30 => fun v w => v = .bool false
  | _ => fun _ _ => True
theorem TkF.kept (g1 g2 : Nat) (d k : Int) (L : List Nat) (E : Int) : ∀ i v w w', (fun _ _ : World => True) w w' → TkF g1 g2 d k L E i v w → TkF g1 g2 d k L E i v w'
  | 0, _, _, _, _, hf => hf
  | 1, _, _, _, _, hf => hf
  | 2, _, _, _, _, hf => hf
  | 3, _, _, _, _, hf => hf
  | 4, _, _, _, _, hf => hf
  | 5, _, _, _, _, hf => hf
  | 6, _, _, _, _, hf => hf
  | 7, _, _, _, _, hf => hf
  | 8, _, _, _, _, hf => hf
  | 9, _, _, _, _, hf => hf
  | 10, _, _, _, _, hf => hf
  | 11, _, _, _, _, hf => hf
  | 12, _, _, _, _, hf => hf
  | 13, _, _, _, _, hf => hf
  | 14, _, _, _, _, hf => hf
  | 15, _, _, _, _, hf => hf
  | 16, _, _, _, _, hf => hf
  | 17, _, _, _, _, hf => hf
  | 18, _, _, _, _, hf => hf
  | 19, _, _, _, _, hf => hf
  | 20, _, _, _, _, hf => hf
  | 21, _, _, _, _, hf => hf
  | 22, _, _, _, _, hf => hf
  | 23, _, _, _, _, hf => hf
  | 24, _, _, _, _, hf => hf
  | 25, _, _, _, _, hf => hf
  | 26, _, _, _, _, hf => hf
  | 27, _, _, _, _, hf => hf
  | 28, _, _, _, _, hf => hf
  | 29, _, _, _, _, hf => hf
  | 30, _, _, _, _, hf => hf
  | _ + 31, _, _, _, _, _ => trivial

set_option maxRecDepth 100000 in
set_option maxHeartbeats 4000000 in
theorem takes_law (A B : Option Addr) (n m c c' : Nat) (b : List Nat) (sc : List (Int × Int)) (w : World) (ha : RdB w A n b) (hb : RdP w B m sc) (hc1 : n ≤ c) (hx1 : c ≤ 9223372036854775807) (hc2 : m ≤ c') (hm : c' ≤ 9223372036854775807) :
    Calls Try.prog 7 #[.slice A n c, .slice B m c'] w fun e w' => e = .returned (.bool true) ∧ Below w.heap.size w w' := by
  have HA := Lib.hid (ha.bs hc1 hx1)
  have HB := Lib.hid hb
  have hla := Lib.hid ha.len
  clear ha hb
  by_cases hbig : 2000 < n
  · have q1 : (2000 : Int) < (n : Int) := by omega
    clear hbig
    go_enter Try.func7, Try.ntmps7
    go_wp2_with fail
    refine (live_any _).mono ?_
    rintro e w1 ⟨rfl, hb⟩
    have KB := Lib.hid hb
    clear hb
    go_wp2_with fail
    refine (live_any _).mono ?_
    rintro e w2 ⟨rfl, hb⟩
    have KB2 := Lib.hid (Below.thn KB.out hb)
    clear hb KB
    go_wp2
    go_ret
    exact ⟨rfl, KB2.out⟩
  · have q1 : ¬ (2000 : Int) < (n : Int) := by omega
    have hla2 : Hid (b.length ≤ 2000) := Lib.hid (by rw [hla.out]; omega)
    clear hbig
    go_enter Try.func7, Try.ntmps7
    go_wp2_with fail
    refine (live_any _).mono ?_
    rintro e w1 ⟨rfl, hb⟩
    have KB := Lib.hid hb
    clear hb
    go_wp2_with fail
    refine (Join_bs _ (BS.nil _) (HA.out.below KB.out) (by have := hla2.out; simp; omega)).mono ?_
    rintro e w2 ⟨own, rfl, ho, hb⟩
    rw [List.nil_append] at ho
    have KB2 := Lib.hid (Below.thn KB.out hb)
    obtain ⟨Ao, Co, rfl, hC1, hC2, _⟩ := ho.1.rd
    rw [hla.out] at hC1
    have ho2 := ho.mono KB.out.size
    rw [hla.out] at ho2 ⊢
    have HO := Lib.hid ho2
    have HG : Hid (∀ g, Ao = some ⟨g, 0, none⟩ → w.heap.size ≤ g ∧ g < w2.heap.size) := Lib.hid (fun g e => by subst e; exact ho2.1.base g rfl)
    clear hb ho ho2 KB
    go_wp2_with fail
    refine (Read_bs _ HO.out.bs (by have := hla2.out; omega)).mono ?_
    rintro e w3 ⟨g1, rfl, hg1, hrd, hb⟩
    have HO3 := Lib.hid (HO.out.below hb)
    have KB3 := Lib.hid (Below.thn KB2.out hb)
    have HR1 := Lib.hid hrd
    have HG1 : Hid (w2.heap.size < g1 ∧ g1 < w3.heap.size ∧ w.heap.size ≤ g1) := Lib.hid ⟨hg1, hrd.lt, by have := KB2.out.size; omega⟩
    clear hb hrd hg1 HO
    go_wp2_with fail
    refine (rRead_bs _ (HA.out.below KB3.out) (by have := hla2.out; omega)).mono ?_
    rintro e w4 ⟨g2, rfl, hg2, hrf, hb⟩
    have HG2 : Hid (g1 < g2 ∧ w2.heap.size < g2) := Lib.hid (by have := HG1.out; omega)
    have HF1 := Lib.hid (hrf g1 HG1.out.2.1)
    have HF2 : Hid (∀ g, Ao = some ⟨g, 0, none⟩ → Rf w4 g2 b 0 g) := Lib.hid (fun g e => hrf g (by have := HG.out g e; have := HG1.out; omega))
    have HR2 := Lib.hid (HR1.out.below hb)
    have HO4 := Lib.hid (HO3.out.below hb)
    have KB4 := Lib.hid (Below.thn KB3.out hb)
    clear hb hrf hg2 HR1 HO3 KB3
    go_wp2_with fail
    generalize w2.heap.size = lo at HR2 HG HG1 HG2
    go_loopw [29] (fun z wr => ∃ k : Nat, z = .int .i64 k ∧ k ≤ n ∧ Hid (Below w.heap.size w wr ∧ (∃ l', OwnB wr w.heap.size (.slice Ao n Co) l' ∧ l'.length = n) ∧ Rdr wr g1 b 0 lo g1 ∧ Rf wr g2 b 0 g1 ∧ ∀ g, Ao = some ⟨g, 0, none⟩ → Rf wr g2 b 0 g)) (fun z _ => n - (intOf z).toNat)
    case atStart => exact ⟨0, rfl, Nat.zero_le _, Lib.hid ⟨KB4.out, ⟨b, HO4.out, hla.out⟩, HR2.out, HF1.out, HF2.out⟩⟩
    case round =>
      clear KB4 HO4 HR2 HF1 HF2
      obtain ⟨k, rfl, hk, HI⟩ := hrel
      by_cases hlt : (k : Int) < (n : Int)
      · obtain ⟨l', ho, hl'⟩ := HI.out.2.1
        obtain ⟨g, C', heq, hga, hgb, _⟩ := ho.op hl' (by omega)
        injection heq with q3 q4 q5
        subst q3 q5
        have hgc := HG.out g rfl
        obtain ⟨hget, hgx⟩ := ho.get hl' (i := k) (by omega)
        have hfl := u8_flip _ hgx
        obtain ⟨p, hp⟩ : ∃ p, p = l'.getD k 0 := ⟨_, rfl⟩
        rw [← hp] at hget hgx hfl
        obtain ⟨q, hq⟩ : ∃ q, q = 255 - p := ⟨_, rfl⟩
        rw [← hq] at hfl
        obtain ⟨⟨cv, _, hc2'⟩, hs1, hs2⟩ := ho.put hl' (i := k) (x := q) (by omega) (by omega)
        have hn1 : g ≠ g1 := by have := HG1.out; omega
        have hn2 : g ≠ g2 := by have := HG2.out; omega
        have hF := HI.out.2.2.2.2 g rfl
        have HN : Hid (Below w.heap.size w (wr.setCell ⟨g, k, none⟩ (.int .u8 (q : Int))) ∧ (∃ l', OwnB (wr.setCell ⟨g, k, none⟩ (.int .u8 (q : Int))) w.heap.size (.slice (some ⟨g, 0, none⟩) n Co) l' ∧ l'.length = n) ∧ Rdr (wr.setCell ⟨g, k, none⟩ (.int .u8 (q : Int))) g1 b 0 lo g1 ∧ Rf (wr.setCell ⟨g, k, none⟩ (.int .u8 (q : Int))) g2 b 0 g1 ∧ ∀ g', some (⟨g, 0, none⟩ : Addr) = some ⟨g', 0, none⟩ → Rf (wr.setCell ⟨g, k, none⟩ (.int .u8 (q : Int))) g2 b 0 g') := Lib.hid
          ⟨below_grown HI.out.1 hs2 hga, ⟨_, hs1, by rw [List.length_set]; exact hl'⟩, HI.out.2.2.1.kept hs2 (fun e => by injection e with e; exact hn1 e.symm) (fun j j1 j2 e => by injection e with e; omega), HI.out.2.2.2.1.kept2 hF hs2 hn2, fun g' e => by
            injection e with e
            injection e with e
            subst e
            exact hF.kept hs2 hn2 rfl⟩
        have q6 : k < n := by omega
        clear hp hq hs1 hs2 ho hl' hga hgb hgc hF hn1 hn2
        go_wp2
        exact ⟨⟨k + 1, by go_num, by omega, HN⟩, by simp [intOf]; omega⟩
      · have HT : Hid (Two w wr g1 g2 lo g1 b 0) := Lib.hid ⟨HI.out.2.2.1, HI.out.2.2.2.1, by have := HG2.out; omega, by have := HG2.out; omega, HI.out.1, HG1.out.2.2, by have := HG1.out; have := HG2.out; omega, by have := hla2.out; omega⟩
        clear HI
        obtain ⟨M, hM1, hM2, hM3⟩ : ∃ M : Nat, min (m : Int) 40 = (M : Int) ∧ M ≤ m ∧ M ≤ 40 := ⟨min m 40, by omega, by omega, by omega⟩
        have hM4 : M ≤ c' := by omega
        go_wp2_with fail
        go_loopw [45] (fun z wx => ∃ (j : Nat) (l : List Nat) (e : Int), z = .int .i64 j ∧ j ≤ M ∧ Hid (Two w wx g1 g2 lo g1 l e)) (fun z _ => M - (intOf z).toNat)
        case atStart => exact ⟨0, b, 0, rfl, Nat.zero_le _, HT⟩
        case round =>
          clear HT
          obtain ⟨j, l, e, rfl, hj, HT⟩ := hrel
          by_cases hjl : (j : Int) < (M : Int)
          · obtain ⟨ad, rfl, d, kk, hd, hkk, e0, e1⟩ := (HB.out.below HT.out.b).at (k := j) (by omega)
            obtain ⟨L, E, HTK⟩ := takes_any d kk l e hkk.2
            have HTK' := Lib.hid HTK
            have hj2 : j < M := by omega
            clear HTK hd hkk
            go_upto_region 15 with fail
            have HTb : Two w (wr.alloc (.cells #[.int .i64 d, .int .i64 kk] 50)) g1 g2 lo g1 l e := HT.out.below ((Below.refl _ _).alloc (Nat.le_refl _) _)
            have k0 : (wr.alloc (.cells #[.int .i64 d, .int .i64 kk] 50)).cell? ⟨wr.heap.size, 0, none⟩ = some (.int .i64 d) := World.cell?_alloc_mark wr _ _ (0, 0) 0
            have k1 : (wr.alloc (.cells #[.int .i64 d, .int .i64 kk] 50)).cell? ⟨wr.heap.size, 1, none⟩ = some (.int .i64 kk) := World.cell?_alloc_mark wr _ _ (0, 0) 1
            have HZ := Lib.hid (And.intro HTb (And.intro k0 k1))
            clear HTb k0 k1
            go_cut [79] (fun s79 wx => s79 = .bool false ∧ Hid (Two w wx g1 g2 lo g1 L E))
            case first =>
              rename_i K1 hK1
              have HTK := HTK'.out
              refine wp_region_flowJ (by kernel_rfl) (TkF g1 g2 d kk L E) (fun _ _ => True) (TkJ w g1 g2 lo g1 wr.heap.size d kk l e L E) (TkF.kept _ _ _ _ _ _) ?_ (by kernel_rfl) (by kernel_rfl) ?_ ?_
              case refine_1 => exact ⟨fun h => h.elim, fun _ => ⟨HZ.out.1.below (Below.refl _ _).drew, HZ.out.2.1, HZ.out.2.2⟩⟩
              case refine_2 =>
                intro i o ho ρ y w5 S hJ hnS hneeds hcl hreg hn hf hyb hyn
                have hi := (Array.getElem?_eq_some_iff.1 ho).1
                rcases Nat.lt_or_ge i 31 with hi2 | hi2
                case inr => simp at hi; omega
                obtain rfl | rfl | rfl | rfl | rfl | rfl | rfl | rfl | rfl | rfl | rfl | rfl | rfl | rfl | rfl | rfl | rfl | rfl | rfl | rfl | rfl | rfl | rfl | rfl | rfl | rfl | rfl | rfl | rfl | rfl | rfl : i = 0 ∨ i = 1 ∨ i = 2 ∨ i = 3 ∨ i = 4 ∨ i = 5 ∨ i = 6 ∨ i = 7 ∨ i = 8 ∨ i = 9 ∨ i = 10 ∨ i = 11 ∨ i = 12 ∨ i = 13 ∨ i = 14 ∨ i = 15 ∨ i = 16 ∨ i = 17 ∨ i = 18 ∨ i = 19 ∨ i = 20 ∨ i = 21 ∨ i = 22 ∨ i = 23 ∨ i = 24 ∨ i = 25 ∨ i = 26 ∨ i = 27 ∨ i = 28 ∨ i = 29 ∨ i = 30 := by omega
                · cases ho
                  rw [if_pos (show Region.wanted _ y = true from rfl)]
                  have f0 : ρ (.tmp 6) = .pointer (some ⟨g1, 0, none⟩) := hf 6 (by kernel_rfl)
                  exact does_ok (v := .pointer (some ⟨g1, 0, none⟩)) (w' := w5) (by simp [go_sem, hreg.const, f0]) ⟨rfl, trivial, hJ.same (by decide)⟩
                · cases ho
                  rw [if_pos (show Region.wanted _ y = true from rfl)]
                  have f0 : ρ (.tmp 7) = .pointer (some ⟨g2, 0, none⟩) := hf 7 (by kernel_rfl)
                  exact does_ok (v := .pointer (some ⟨g2, 0, none⟩)) (w' := w5) (by simp [go_sem, hreg.const, f0]) ⟨rfl, trivial, hJ.same (by decide)⟩
                · cases ho
                  rw [if_pos (show Region.wanted _ y = true from rfl)]
                  have f0 : ρ (.tmp 10) = .pointer (some ⟨wr.heap.size, 0, none⟩) := hf 10 (by kernel_rfl)
                  have hn3 : ¬ S 3 := fun hs => hnS (hcl 3 _ rfl hs 2 (by kernel_rfl))
                  obtain ⟨_, k0, k1⟩ := hJ.no hn3
                  exact does_ok (v := .agg #[.int .i64 d, .int .i64 kk]) (w' := w5) (by simp [go_sem, hreg.const, f0, k0, k1]) ⟨rfl, trivial, hJ.same (by decide)⟩
                · cases ho
                  rw [if_pos (show Region.wanted _ y = true from rfl)]
                  have f0 : ρ (.tmp 49) = .pointer (some ⟨g1, 0, none⟩) := hn 0 _ 49 rfl (by kernel_rfl) rfl
                  have f1 : ρ (.tmp 50) = .pointer (some ⟨g2, 0, none⟩) := hn 1 _ 50 rfl (by kernel_rfl) rfl
                  have f2 : ρ (.tmp 51) = .agg #[.int .i64 d, .int .i64 kk] := hn 2 _ 51 rfl (by kernel_rfl) rfl
                  refine does_enter (f := 31) (args := #[.pointer (some ⟨g1, 0, none⟩), .pointer (some ⟨g2, 0, none⟩), .agg #[.int .i64 d, .int .i64 kk]]) (w' := w5) (by simp [go_sem, hreg.func, f0, f1, f2]) ?_
                  refine (HTK _ _ _ _ _ _ (hJ.no hnS).1).mono ?_
                  rintro e' w6 ⟨rfl, hT⟩
                  exact ⟨_, rfl, rfl, trivial, fun _ => hT, fun hs => absurd (.inl rfl) hs⟩
                · cases ho
                  rw [if_pos (show Region.wanted _ y = true from rfl)]
                  have f3 : ρ (.tmp 52) = .bool true := hn 3 _ 52 rfl (by kernel_rfl) rfl
                  exact does_ok (v := .bool false) (w' := w5) (by simp [go_sem, hreg.const, f3]) ⟨rfl, trivial, hJ.same (by decide)⟩
                · cases ho
                  rw [if_pos (show Region.wanted _ y = true from rfl)]
                  have f4 : ρ (.tmp 53) = .bool false := hn 4 _ 53 rfl (by kernel_rfl) rfl
                  exact does_ok (v := .bool false) (w' := w5) (by simp [go_sem, hreg.const, f4]) ⟨rfl, trivial, hJ.same (by decide)⟩
                · cases ho
                  rw [if_pos (show Region.wanted _ y = true from by simp [Region.wanted, hyb 5 _ _ _ rfl rfl (hn 5 _ _ rfl (by kernel_rfl) rfl)])]
                  have f0 : ρ (.tmp 6) = .pointer (some ⟨g1, 0, none⟩) := hf 6 (by kernel_rfl)
                  exact does_ok (v := .pointer (some ⟨g1, 0, none⟩)) (w' := w5) (by simp [go_sem, hreg.const, f0]) ⟨rfl, trivial, hJ.same (by decide)⟩
                · cases ho
                  rw [if_pos (show Region.wanted _ y = true from by simp [Region.wanted, hyb 5 _ _ _ rfl rfl (hn 5 _ _ rfl (by kernel_rfl) rfl)])]
                  have f6 : ρ (.tmp 55) = .pointer (some ⟨g1, 0, none⟩) := hn 6 _ 55 rfl (by kernel_rfl) rfl
                  have s5 := hneeds 5 (by kernel_rfl)
                  have s3 := hcl 5 _ rfl s5 3 (by kernel_rfl)
                  have hT := hJ.one s3
                  refine does_enter (f := 32) (args := #[.pointer (some ⟨g1, 0, none⟩)]) (w' := w5) (by simp [go_sem, hreg.func, f6]) ?_
                  refine (RLeft_any hT.r).mono ?_
                  rintro e' w6 ⟨rfl, rfl⟩
                  exact ⟨_, rfl, rfl, trivial, hJ.same (by decide)⟩
                · cases ho
                  rw [if_pos (show Region.wanted _ y = true from by simp [Region.wanted, hyb 5 _ _ _ rfl rfl (hn 5 _ _ rfl (by kernel_rfl) rfl)])]
                  have f0 : ρ (.tmp 7) = .pointer (some ⟨g2, 0, none⟩) := hf 7 (by kernel_rfl)
                  exact does_ok (v := .pointer (some ⟨g2, 0, none⟩)) (w' := w5) (by simp [go_sem, hreg.const, f0]) ⟨rfl, trivial, hJ.same (by decide)⟩
                · cases ho
                  rw [if_pos (show Region.wanted _ y = true from by simp [Region.wanted, hyb 5 _ _ _ rfl rfl (hn 5 _ _ rfl (by kernel_rfl) rfl)])]
                  have f8 : ρ (.tmp 57) = .pointer (some ⟨g2, 0, none⟩) := hn 8 _ 57 rfl (by kernel_rfl) rfl
                  exact does_ok (v := .pointer (some ⟨g2, 0, none⟩)) (w' := w5) (by simp [go_sem, hreg.const, f8]) ⟨rfl, trivial, hJ.same (by decide)⟩
                · cases ho
                  rw [if_pos (show Region.wanted _ y = true from by simp [Region.wanted, hyb 5 _ _ _ rfl rfl (hn 5 _ _ rfl (by kernel_rfl) rfl)])]
                  have f9 : ρ (.tmp 58) = .pointer (some ⟨g2, 0, none⟩) := hn 9 _ 58 rfl (by kernel_rfl) rfl
                  exact does_ok (v := .pointer (some ⟨g2, 0, none⟩)) (w' := w5) (by simp [go_sem, hreg.const, f9]) ⟨rfl, trivial, hJ.same (by decide)⟩
                · cases ho
                  rw [if_pos (show Region.wanted _ y = true from by simp [Region.wanted, hyb 5 _ _ _ rfl rfl (hn 5 _ _ rfl (by kernel_rfl) rfl)])]
                  have f10 : ρ (.tmp 59) = .pointer (some ⟨g2, 0, none⟩) := hn 10 _ 59 rfl (by kernel_rfl) rfl
                  have s5 := hneeds 5 (by kernel_rfl)
                  have s3 := hcl 5 _ rfl s5 3 (by kernel_rfl)
                  have hT := hJ.one s3
                  obtain ⟨A', n', c', k0, _, _, k3, _⟩ := hT.f.b
                  obtain rfl := k3.len
                  exact does_ok (v := .slice A' L.length c') (w' := w5) (by simp [go_sem, f10, k0]) ⟨⟨_, _, rfl⟩, trivial, hJ.same (by decide)⟩
                · cases ho
                  rw [if_pos (show Region.wanted _ y = true from by simp [Region.wanted, hyb 5 _ _ _ rfl rfl (hn 5 _ _ rfl (by kernel_rfl) rfl)])]
                  obtain ⟨A11, c11, f11⟩ : ∃ A c, ρ (.tmp 60) = .slice A L.length c := hn 11 _ 60 rfl (by kernel_rfl) rfl
                  exact does_ok (v := .int .i64 (L.length : Nat)) (w' := w5) (by simp [go_sem, hreg.const, f11]) ⟨rfl, trivial, hJ.same (by decide)⟩
                · cases ho
                  rw [if_pos (show Region.wanted _ y = true from by simp [Region.wanted, hyb 5 _ _ _ rfl rfl (hn 5 _ _ rfl (by kernel_rfl) rfl)])]
                  have f7 : ρ (.tmp 56) = .int .i64 (L.length : Nat) := hn 7 _ 56 rfl (by kernel_rfl) rfl
                  have f12 : ρ (.tmp 61) = .int .i64 (L.length : Nat) := hn 12 _ 61 rfl (by kernel_rfl) rfl
                  exact does_ok (v := .bool false) (w' := w5) (by simp [go_sem, hreg.const, f7, f12]) ⟨rfl, trivial, hJ.same (by decide)⟩
                · cases ho
                  rw [if_pos (show Region.wanted _ y = true from rfl)]
                  have f5 : ρ (.tmp 54) = .bool false := hn 5 _ 54 rfl (by kernel_rfl) rfl
                  have f13 : ρ (.tmp 62) = .bool false := hn 13 _ 62 rfl (by kernel_rfl) rfl
                  exact does_ok (v := .bool false) (w' := w5) (by simp [go_sem, hreg.const, f5, f13]) ⟨rfl, trivial, hJ.same (by decide)⟩
                · cases ho
                  rw [if_pos (show Region.wanted _ y = true from rfl)]
                  have f14 : ρ (.tmp 63) = .bool false := hn 14 _ 63 rfl (by kernel_rfl) rfl
                  exact does_ok (v := .bool false) (w' := w5) (by simp [go_sem, hreg.const, f14]) ⟨rfl, trivial, hJ.same (by decide)⟩
                · cases ho
                  rw [if_pos (show Region.wanted _ y = true from by simp [Region.wanted, hyb 15 _ _ _ rfl rfl (hn 15 _ _ rfl (by kernel_rfl) rfl)])]
                  have f0 : ρ (.tmp 6) = .pointer (some ⟨g1, 0, none⟩) := hf 6 (by kernel_rfl)
                  exact does_ok (v := .pointer (some ⟨g1, 0, none⟩)) (w' := w5) (by simp [go_sem, hreg.const, f0]) ⟨rfl, trivial, hJ.same (by decide)⟩
                · cases ho
                  rw [if_pos (show Region.wanted _ y = true from by simp [Region.wanted, hyb 15 _ _ _ rfl rfl (hn 15 _ _ rfl (by kernel_rfl) rfl)])]
                  have f16 : ρ (.tmp 65) = .pointer (some ⟨g1, 0, none⟩) := hn 16 _ 65 rfl (by kernel_rfl) rfl
                  have s15 := hneeds 15 (by kernel_rfl)
                  have s14 := hcl 15 _ rfl s15 14 (by kernel_rfl)
                  have s5 := hcl 14 _ rfl s14 5 (by kernel_rfl)
                  have s3 := hcl 5 _ rfl s5 3 (by kernel_rfl)
                  have hT := hJ.one s3
                  refine does_enter (f := 33) (args := #[.pointer (some ⟨g1, 0, none⟩)]) (w' := w5) (by simp [go_sem, hreg.func, f16]) ?_
                  refine (Err_any hT.r).mono ?_
                  rintro e' w6 ⟨rfl, rfl⟩
                  exact ⟨_, rfl, rfl, trivial, hJ.same (by decide)⟩
                · cases ho
                  rw [if_pos (show Region.wanted _ y = true from by simp [Region.wanted, hyb 15 _ _ _ rfl rfl (hn 15 _ _ rfl (by kernel_rfl) rfl)])]
                  have f0 : ρ (.tmp 7) = .pointer (some ⟨g2, 0, none⟩) := hf 7 (by kernel_rfl)
                  exact does_ok (v := .pointer (some ⟨g2, 0, none⟩)) (w' := w5) (by simp [go_sem, hreg.const, f0]) ⟨rfl, trivial, hJ.same (by decide)⟩
                · cases ho
                  rw [if_pos (show Region.wanted _ y = true from by simp [Region.wanted, hyb 15 _ _ _ rfl rfl (hn 15 _ _ rfl (by kernel_rfl) rfl)])]
                  have f18 : ρ (.tmp 67) = .pointer (some ⟨g2, 0, none⟩) := hn 18 _ 67 rfl (by kernel_rfl) rfl
                  exact does_ok (v := .pointer (some ⟨g2, 0, none⟩)) (w' := w5) (by simp [go_sem, hreg.const, f18]) ⟨rfl, trivial, hJ.same (by decide)⟩
                · cases ho
                  rw [if_pos (show Region.wanted _ y = true from by simp [Region.wanted, hyb 15 _ _ _ rfl rfl (hn 15 _ _ rfl (by kernel_rfl) rfl)])]
                  have f19 : ρ (.tmp 68) = .pointer (some ⟨g2, 0, none⟩) := hn 19 _ 68 rfl (by kernel_rfl) rfl
                  exact does_ok (v := .pointer (some ⟨g2, 1, none⟩)) (w' := w5) (by simp [go_sem, hreg.const, f19]) ⟨rfl, trivial, hJ.same (by decide)⟩
                · cases ho
                  rw [if_pos (show Region.wanted _ y = true from by simp [Region.wanted, hyb 15 _ _ _ rfl rfl (hn 15 _ _ rfl (by kernel_rfl) rfl)])]
                  have f20 : ρ (.tmp 69) = .pointer (some ⟨g2, 1, none⟩) := hn 20 _ 69 rfl (by kernel_rfl) rfl
                  have s15 := hneeds 15 (by kernel_rfl)
                  have s14 := hcl 15 _ rfl s15 14 (by kernel_rfl)
                  have s5 := hcl 14 _ rfl s14 5 (by kernel_rfl)
                  have s3 := hcl 5 _ rfl s5 3 (by kernel_rfl)
                  have hT := hJ.one s3
                  have k0 := hT.f.err
                  exact does_ok (v := .int .i64 E) (w' := w5) (by simp [go_sem, f20, k0]) ⟨rfl, trivial, hJ.same (by decide)⟩
                · cases ho
                  rw [if_pos (show Region.wanted _ y = true from by simp [Region.wanted, hyb 15 _ _ _ rfl rfl (hn 15 _ _ rfl (by kernel_rfl) rfl)])]
                  have f17 : ρ (.tmp 66) = .int .i64 E := hn 17 _ 66 rfl (by kernel_rfl) rfl
                  have f21 : ρ (.tmp 70) = .int .i64 E := hn 21 _ 70 rfl (by kernel_rfl) rfl
                  exact does_ok (v := .bool false) (w' := w5) (by simp [go_sem, hreg.const, f17, f21]) ⟨rfl, trivial, hJ.same (by decide)⟩
                · cases ho
                  rw [if_pos (show Region.wanted _ y = true from rfl)]
                  have f15 : ρ (.tmp 64) = .bool false := hn 15 _ 64 rfl (by kernel_rfl) rfl
                  have f22 : ρ (.tmp 71) = .bool false := hn 22 _ 71 rfl (by kernel_rfl) rfl
                  exact does_ok (v := .bool false) (w' := w5) (by simp [go_sem, hreg.const, f15, f22]) ⟨rfl, trivial, hJ.same (by decide)⟩
                · cases ho
                  rw [if_pos (show Region.wanted _ y = true from rfl)]
                  have f23 : ρ (.tmp 72) = .bool false := hn 23 _ 72 rfl (by kernel_rfl) rfl
                  exact does_ok (v := .bool false) (w' := w5) (by simp [go_sem, hreg.const, f23]) ⟨rfl, trivial, hJ.same (by decide)⟩
                · cases ho
                  rw [if_pos (show Region.wanted _ y = true from by simp [Region.wanted, hyb 24 _ _ _ rfl rfl (hn 24 _ _ rfl (by kernel_rfl) rfl)])]
                  have f0 : ρ (.tmp 6) = .pointer (some ⟨g1, 0, none⟩) := hf 6 (by kernel_rfl)
                  exact does_ok (v := .pointer (some ⟨g1, 0, none⟩)) (w' := w5) (by simp [go_sem, hreg.const, f0]) ⟨rfl, trivial, hJ.same (by decide)⟩
                · cases ho
                  rw [if_pos (show Region.wanted _ y = true from by simp [Region.wanted, hyb 24 _ _ _ rfl rfl (hn 24 _ _ rfl (by kernel_rfl) rfl)])]
                  have f25 : ρ (.tmp 74) = .pointer (some ⟨g1, 0, none⟩) := hn 25 _ 74 rfl (by kernel_rfl) rfl
                  have s24 := hneeds 24 (by kernel_rfl)
                  have s23 := hcl 24 _ rfl s24 23 (by kernel_rfl)
                  have s15 := hcl 23 _ rfl s23 15 (by kernel_rfl)
                  have s14 := hcl 15 _ rfl s15 14 (by kernel_rfl)
                  have s5 := hcl 14 _ rfl s14 5 (by kernel_rfl)
                  have s3 := hcl 5 _ rfl s5 3 (by kernel_rfl)
                  have hT := hJ.one s3
                  refine does_enter (f := 34) (args := #[.pointer (some ⟨g1, 0, none⟩)]) (w' := w5) (by simp [go_sem, hreg.func, f25]) ?_
                  refine (End_any hT.r).mono ?_
                  rintro e' w6 ⟨rfl, rfl⟩
                  exact ⟨_, rfl, rfl, trivial, hJ.same (by decide)⟩
                · cases ho
                  rw [if_pos (show Region.wanted _ y = true from by simp [Region.wanted, hyb 24 _ _ _ rfl rfl (hn 24 _ _ rfl (by kernel_rfl) rfl)])]
                  have f0 : ρ (.tmp 7) = .pointer (some ⟨g2, 0, none⟩) := hf 7 (by kernel_rfl)
                  exact does_ok (v := .pointer (some ⟨g2, 0, none⟩)) (w' := w5) (by simp [go_sem, hreg.const, f0]) ⟨rfl, trivial, hJ.same (by decide)⟩
                · cases ho
                  rw [if_pos (show Region.wanted _ y = true from by simp [Region.wanted, hyb 24 _ _ _ rfl rfl (hn 24 _ _ rfl (by kernel_rfl) rfl)])]
                  have f27 : ρ (.tmp 76) = .pointer (some ⟨g2, 0, none⟩) := hn 27 _ 76 rfl (by kernel_rfl) rfl
                  have s24 := hneeds 24 (by kernel_rfl)
                  have s23 := hcl 24 _ rfl s24 23 (by kernel_rfl)
                  have s15 := hcl 23 _ rfl s23 15 (by kernel_rfl)
                  have s14 := hcl 15 _ rfl s15 14 (by kernel_rfl)
                  have s5 := hcl 14 _ rfl s14 5 (by kernel_rfl)
                  have s3 := hcl 5 _ rfl s5 3 (by kernel_rfl)
                  have hT := hJ.one s3
                  refine does_enter (f := 35) (args := #[.pointer (some ⟨g2, 0, none⟩)]) (w' := w5) (by simp [go_sem, hreg.func, f27]) ?_
                  refine (rEnd_any hT.f).mono ?_
                  rintro e' w6 ⟨rfl, rfl⟩
                  exact ⟨_, rfl, rfl, trivial, hJ.same (by decide)⟩
                · cases ho
                  rw [if_pos (show Region.wanted _ y = true from by simp [Region.wanted, hyb 24 _ _ _ rfl rfl (hn 24 _ _ rfl (by kernel_rfl) rfl)])]
                  have f26 : ρ (.tmp 75) = .int .i64 (endE L E) := hn 26 _ 75 rfl (by kernel_rfl) rfl
                  have f28 : ρ (.tmp 77) = .int .i64 (endE L E) := hn 28 _ 77 rfl (by kernel_rfl) rfl
                  exact does_ok (v := .bool false) (w' := w5) (by simp [go_sem, hreg.const, f26, f28]) ⟨rfl, trivial, hJ.same (by decide)⟩
                · cases ho
                  rw [if_pos (show Region.wanted _ y = true from rfl)]
                  have f24 : ρ (.tmp 73) = .bool false := hn 24 _ 73 rfl (by kernel_rfl) rfl
                  have f29 : ρ (.tmp 78) = .bool false := hn 29 _ 78 rfl (by kernel_rfl) rfl
                  exact does_ok (v := .bool false) (w' := w5) (by simp [go_sem, hreg.const, f24, f29]) ⟨rfl, trivial, hJ.same (by decide)⟩
              case refine_3 =>
                intro a2 w5 S hJ hS hd2 hs2 hfacts hrest
                have f79 : a2.tmps.getD 79 undef = .bool false := hfacts 30 _ 79 rfl rfl
                have hT := hJ.one (hS 3 (by decide))
                have ha := frame_of hd2 hs2 hrest [49, 50, 51, 52, 53, 54, 55, 56, 57, 58, 59, 60, 61, 62, 63, 64, 65, 66, 67, 68, 69, 70, 71, 72, 73, 74, 75, 76, 77, 78, 79] (by kernel_rfl)
                simp only [f79, List.foldl, List.setIfInBounds_toArray, List.set_cons_succ, List.set_cons_zero] at ha
                clear f79 hd2 hs2 hfacts hrest
                generalize a2.tmps.getD = gg at ha
                subst ha
                refine hK1 _ _ ?_
                go_meet
                case rel => exact ⟨rfl, Lib.hid hT⟩
            case rest =>
              obtain ⟨rfl, HT2⟩ := hcut
              clear HT e0 e1
              go_wp2
              exact ⟨⟨j + 1, L, E, by go_num, by omega, HT2⟩, by simp [intOf]; omega⟩
          · go_wp2
            go_ret
            exact ⟨rfl, HT.out.b⟩
end Go.Proofs.Ytljnfciolalbdaa
