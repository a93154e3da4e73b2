import Derived.Test.YtkkeodlnejckjaaGreatShp
import Derived.Test.YtkkeodlnejckjaaGreatRefRdr
import Derived.Test.YtkkeodlnejckjaaGreatQMay3
import Derived.Test.YtkkeodlnejckjaaGreatPar
import Derived.Lib.SmallJoins
import Derived.Test.YtkkeodlnejckjaaGreatRefPar

/- A builder's methods, Join and Repeat, by the kit's shelf. -/
namespace Go.Proofs.YtkkeodlnejckjaaGreat
open Go.RowKit Go.Shelf
set_option linter.unusedVariables false
set_option linter.unusedSimpArgs false

def bldR : Go.Shelf.Ren := ⟨fun | 167 => 88 | 105 => 89 | 212 => 103 | 99 => 104 | 165 => 69 | 166 => 70 | 170 => 105 | 169 => 71 | 263 => 115 | 264 => 116 | 206 => 117 | 240 => 90 | 241 => 91 | 276 => 106 | 277 => 107 | n => n, fun | 9 => 9 | 3 => 3 | 4 => 4 | 20 => 20 | 0 => 0 | 46 => 147 | 109 => 148 | 5 => 5 | 72 => 112 | 76 => 116 | 51 => 163 | 146 => 164 | 53 => 166 | 148 => 167 | 70 => 110 | 37 => 26 | 75 => 115 | 127 => 134 | 164 => 152 | 80 => 105 | n => n, fun | n => n⟩
theorem bld167 : Lays.n167 Tryz.prog bldR := {
  mixed := by kernel_rfl
  f167 := Tryz.func88.trans (congrArg some (by kernel_rfl))
  f240 := Tryz.func90.trans (congrArg some (by kernel_rfl))
  f276 := Tryz.func106.trans (congrArg some (by kernel_rfl))
  t0 := Tryz.underlying0
  a0 := Tryz.isAgg0
  z0 := Tryz.sizeOf0
  v0 := Tryz.zeroValue0
  t4 := Tryz.underlying4
  a4 := Tryz.isAgg4
  z4 := Tryz.sizeOf4
  v4 := Tryz.zeroValue4
  t5 := Tryz.underlying5
  a5 := Tryz.isAgg5
  z5 := Tryz.sizeOf5
  v5 := Tryz.zeroValue5
  t9 := Tryz.underlying9
  a9 := Tryz.isAgg9
  z9 := Tryz.sizeOf9
  v9 := Tryz.zeroValue9
  t20 := Tryz.underlying20
  a20 := Tryz.isAgg20
  z20 := Tryz.sizeOf20
  v20 := Tryz.zeroValue20
  t37 := Tryz.underlying26
  a37 := Tryz.isAgg26
  z37 := Tryz.sizeOf26
  v37 := Tryz.zeroValue26
  t70 := Tryz.underlying110
  a70 := Tryz.isAgg110
  z70 := Tryz.sizeOf110
  v70 := Tryz.zeroValue110
  t72 := Tryz.underlying112
  a72 := Tryz.isAgg112
  z72 := Tryz.sizeOf112
  v72 := Tryz.zeroValue112
  t75 := Tryz.underlying115
  a75 := Tryz.isAgg115
  z75 := Tryz.sizeOf115
  v75 := Tryz.zeroValue115
  t164 := Tryz.underlying152
  a164 := Tryz.isAgg152
  z164 := Tryz.sizeOf152
  v164 := Tryz.zeroValue152 }
theorem bld166 : Lays.n166 Tryz.prog Tryz.lays156_ren := { Tryz.lays156 with }
theorem bldX (ρ : Go.Shelf.Ren) (h5 : ρ.t 5 = 5) (h72 : ρ.t 72 = 112) : Builder.Extra Tryz.prog ρ := by
  refine { sizeBuilder := ?_, liesBuilder := ?_, t5 := ?_, a5 := ?_, z5 := ?_, v5 := ?_, infoByte := ?_, cellsByte := ?_, sizeByte := ?_, neB5 := ?_ } <;> simp only [h5, h72]
  · kernel_rfl
  · kernel_rfl
  · exact Tryz.underlying5
  · exact Tryz.isAgg5
  · exact Tryz.sizeOf5
  · exact Tryz.zeroValue5
  · kernel_rfl
  · kernel_rfl
  · kernel_rfl
  · decide
abbrev IsB (B b : Nat) (bs : List Value) (w : World) : Prop := Lib.IsBuilder 112 5 B b bs w
theorem wByte_any (B b : Nat) (bs : List Value) (c : Int) (w : World) (h : IsB B b bs w) (hlen : bs.length + 1 ≤ 140737488355328) (hBw : B ≤ w.heap.size) :
    Calls Tryz.prog 88 #[.pointer (some ⟨b, 0, none⟩), .int .u8 c] w fun e w' => e = .returned .nilIface ∧ IsB B b (bs ++ [.int .u8 c]) w' ∧ Below B w w' :=
  (Any.Builder_WriteByte bld167 (bldX bldR rfl rfl) B b bs c w h hlen hBw).mono fun e w' h => ⟨h.1, .inr h.2.1, h.2.2⟩
theorem wStr_any (B b : Nat) (bs : List Value) (s : ByteArray) (w : World) (h : IsB B b bs w) (hlen : bs.length + s.size ≤ 140737488355328) (hBw : B ≤ w.heap.size) :
    Calls Tryz.prog 70 #[.pointer (some ⟨b, 0, none⟩), .string s] w fun e w' => e = .returned (.tuple #[.int .i64 s.size, .nilIface]) ∧ IsB B b (bs ++ Lib.strCells s) w' ∧ Below B w w' :=
  (Any.Builder_WriteString bld166 (bldX Tryz.lays156_ren rfl rfl) B b bs s w h hlen hBw).mono fun e w' h => ⟨h.1, .inr h.2.1, h.2.2⟩
theorem bStr_any (B b : Nat) (l : List UInt8) (w : World) (h : IsB B b (Lib.byteCells l) w) (h0 : l ≠ []) :
    Calls Tryz.prog 71 #[.pointer (some ⟨b, 0, none⟩)] w fun e w' => e = .returned (.string ⟨l.toArray⟩) ∧ Below B w w' :=
  Any.Builder_String Tryz.lays169 (bldX Tryz.lays169_ren rfl rfl) B b l w h h0
theorem join_any (bk o c : Nat) (xs : List ByteArray) (sep : ByteArray) (w : World) (hcells : ∀ (j : Nat) x, xs[j]? = some x → w.cell? ⟨bk, o + j, none⟩ = some (.string x)) (hbk : bk < w.heap.size) (hN : xs.length ≤ 140737488355328) (hcap : xs.length ≤ c)
    (hlen : (Lib.join (xs.map (·.data.toList)) sep.data.toList).length ≤ 140737488355328) :
    Calls Tryz.prog 50 #[.slice (some ⟨bk, o, none⟩) xs.length c, .string sep] w fun e w' => e = .returned (.string ⟨(Lib.join (xs.map (·.data.toList)) sep.data.toList).toArray⟩) ∧ Below w.heap.size w w' :=
  Any.strings_Join Tryz.lays156 (bldX Tryz.lays156_ren rfl rfl) bk o c xs sep w hcells hbk hN hcap hlen
end Go.Proofs.YtkkeodlnejckjaaGreat

/- A query's text, part by part (phrases of one term). -/
namespace Go.Proofs.YtkkeodlnejckjaaGreat
open Go.RowKit Go.Shelf
set_option linter.unusedVariables false
set_option linter.unusedSimpArgs false

/-- A part's text. -/
def TxtS (x : QOp) (s : ByteArray) : Prop := (x.1 = 1 ∧ x.2.1 = [s]) ∨ (x.1 = 2 ∧ ∃ t : ByteArray, x.2.1 = [t] ∧ t.size ≤ 1000 ∧ s = ⟨((34 : UInt8) :: (t.data.toList ++ [34])).toArray⟩) ∨ (x.1 = 5 ∧ s = ⟨#[65, 78, 68]⟩) ∨ (x.1 = 6 ∧ s = ⟨#[79, 82]⟩) ∨ (x.1 = 7 ∧ s = ⟨#[78, 79, 84]⟩)
theorem rdS_one {w : World} {A : Option Addr} {n : Nat} {t : ByteArray} (h : Rd encS w A n [t]) : n = 1 ∧ ∃ ad, A = some ad ∧ w.cell? ad = some (.string t) := by
  have hl := h.len
  have hn : n = 1 := by rw [← hl]; rfl
  subst hn
  obtain ⟨ad, e, hc⟩ := h.cell (by omega)
  refine ⟨rfl, ad, e, ?_⟩
  have := hc 0 (by simp)
  rwa [Addr.add_zero'] at this
set_option maxRecDepth 100000 in
set_option maxHeartbeats 2000000 in
theorem phrase1_any (k : Int) (A1 : Option Addr) (n1 c1 : Nat) (A2 : Option Addr) (n2 c2 : Nat) (t : ByteArray) (w : World) (h : Rd encS w A1 n1 [t]) (hts : t.size ≤ 1000) :
    Calls Tryz.prog 68 #[opV k A1 n1 c1 A2 n2 c2] w fun e w' => e = .returned (.string ⟨((34 : UInt8) :: (t.data.toList ++ [34])).toArray⟩) ∧ Below w.heap.size w w' := by
  obtain ⟨rfl, ad, rfl, x0⟩ := rdS_one h
  clear h
  obtain ⟨w1, hw1⟩ : ∃ w1, w1 = w.alloc (.cells #[.int .i64 k, .slice (some ad) 1 c1, .slice A2 n2 c2] 76) := ⟨_, rfl⟩
  obtain ⟨g, hg⟩ : ∃ g, g = w.heap.size := ⟨_, rfl⟩
  have hb1 : Below w.heap.size w w1 := by rw [hw1]; exact (Below.refl _ _).alloc (Nat.le_refl _) _
  have hB : BoxA w1 g 76 [.int .i64 k, .slice (some ad) 1 c1, .slice A2 n2 c2] := by rw [hw1, hg]; exact BoxA.new _ _ _
  obtain ⟨w2, hw2⟩ : ∃ w2, w2 = w1.alloc (.cells #[.pointer none, .slice none 0 0] 112) := ⟨_, rfl⟩
  obtain ⟨gb, hgb⟩ : ∃ gb, gb = w.heap.size + 1 := ⟨_, rfl⟩
  have hs1 : gb = w1.heap.size := by rw [hw1, hgb]; simp
  have hfr : IsB gb gb [] w2 := by rw [hw2, hs1]; exact Lib.fresh_isBuilder _ _ _
  have hb2 : Below w1.heap.size w1 w2 := by rw [hw2]; exact (Below.refl _ _).alloc (Nat.le_refl _) _
  have hgbs : gb ≤ w2.heap.size := by rw [hs1]; exact hb2.size
  rw [← hs1] at hb2
  have HB1 := Lib.hid hb1
  have HB2 := Lib.hid hb2
  have HX := Lib.hid hB
  have HX0 := Lib.hid (cell_keep hb1 x0)
  have HW1 := Lib.hid hw1
  have HW2 := Lib.hid hw2
  have HG := Lib.hid hg
  have HGB := Lib.hid hgb
  have HS1 := Lib.hid hs1
  have keep : ∀ W, Below gb w1 W → W.cell? ad = some (.string t) ∧ W.cell? ⟨g, 1, none⟩ = some (.slice (some ad) 1 c1) := fun W hW => by
    rw [hs1] at hW
    exact ⟨cell_keep hW (cell_keep hb1 x0), (hB.below hW).cell 1 _ rfl⟩
  have HK := Lib.hid keep
  have C1 := Lib.hid (wByte_any gb gb [] 34 w2 hfr (by simp) hgbs)
  clear x0 hw1 hg hb1 hB hw2 hgb hs1 hfr hb2 hgbs keep
  go_enter Tryz.func68, Tryz.ntmps68
  go_upto_region 2 with fail
  rw [← HW1.out, ← HW2.out, ← HGB.out, ← HG.out]
  go_wp2_with fail
  refine C1.out.mono ?_
  rintro e w3 ⟨rfl, hi3, hb3⟩
  have HB3 := Lib.hid (HB2.out.trans hb3)
  have HI3 := Lib.hid hi3
  obtain ⟨u0, u1⟩ := HK.out w3 HB3.out
  clear C1 hi3 hb3
  go_wp2_with fail
  clear u0 u1
  go_loopw [10] (fun x wr => ∃ j : Nat, x = .int .i64 (j : Nat) ∧ j ≤ 1 ∧ Hid (Below gb w1 wr) ∧ Hid (IsB gb gb (if j = 0 then [.int .u8 34] else [.int .u8 34] ++ Lib.strCells t) wr)) (fun x _ => 1 - (intOf x).toNat)
  case atStart => exact ⟨0, rfl, Nat.zero_le _, HB3, Lib.hid HI3.out⟩
  case round =>
    obtain ⟨j, rfl, hj, HB, HI⟩ := hrel
    by_cases hj0 : j = 0
    · subst hj0
      obtain ⟨u0, u1⟩ := HK.out wr HB.out
      have hsz : gb ≤ wr.heap.size := by
        have h1 := HB.out.size
        have h2 := HS1.out
        omega
      have C2 := Lib.hid (wStr_any gb gb [.int .u8 34] t wr HI.out (by simp; omega) hsz)
      clear hsz
      go_wp2_with fail
      refine C2.out.mono ?_
      rintro e w4 ⟨rfl, hi4, hb4⟩
      have HB4 := Lib.hid (HB.out.trans hb4)
      have HI4 := Lib.hid hi4
      clear C2 hi4 hb4 u0 u1
      go_wp2
      exact ⟨⟨1, rfl, Nat.le_refl _, HB4, HI4⟩, by simp [intOf]⟩
    · have hj1 : j = 1 := by omega
      subst hj1
      have hsz : gb ≤ wr.heap.size := by
        have h1 := HB.out.size
        have h2 := HS1.out
        omega
      have C3 := Lib.hid (wByte_any gb gb ([.int .u8 34] ++ Lib.strCells t) 34 wr HI.out (by simp [Lib.strCells_length]; omega) hsz)
      clear hsz
      go_wp2_with fail
      refine C3.out.mono ?_
      rintro e w5 ⟨rfl, hi5, hb5⟩
      have HB5 := Lib.hid (HB.out.trans hb5)
      have e5 : [.int .u8 34] ++ Lib.strCells t ++ [.int .u8 34] = Lib.byteCells ((34 : UInt8) :: (t.data.toList ++ [34])) := by
        rw [Lib.strCells_eq]
        simp [Lib.byteCells]
      rw [e5] at hi5
      have C4 := Lib.hid (bStr_any gb gb _ w5 hi5 (by simp))
      clear C3 hi5 hb5 e5
      go_wp2_with fail
      refine C4.out.mono ?_
      rintro e w6 ⟨rfl, hb6⟩
      have HB6 : Hid (Below w.heap.size w w6) := Lib.hid (HB1.out.trans ((HB5.out.trans hb6).mono (by have h2 := HS1.out; have := HB1.out.size; omega)))
      clear C4 hb6
      go_wp2
      go_ret
      exact ⟨rfl, HB6.out⟩
set_option maxRecDepth 100000 in
set_option maxHeartbeats 2000000 in
theorem text_any (k : Int) (A1 : Option Addr) (n1 c1 : Nat) (A2 : Option Addr) (n2 c2 : Nat) (x : QOp) (s : ByteArray) (w : World) (hv : PtV w k A1 n1 c1 A2 n2 c2 x) (hs : TxtS x s) :
    Calls Tryz.prog 49 #[opV k A1 n1 c1 A2 n2 c2] w fun e w' => e = .returned (.string s) ∧ Below w.heap.size w w' := by
  obtain ⟨k', ts, os⟩ := x
  obtain ⟨rfl, h1, h2⟩ := hv
  simp only at h1 h2 ⊢
  obtain ⟨w1, hw1⟩ : ∃ w1, w1 = w.alloc (.cells #[.int .i64 k', .slice A1 n1 c1, .slice A2 n2 c2] 76) := ⟨_, rfl⟩
  obtain ⟨g, hg⟩ : ∃ g, g = w.heap.size := ⟨_, rfl⟩
  have hb1 : Below w.heap.size w w1 := by rw [hw1]; exact (Below.refl _ _).alloc (Nat.le_refl _) _
  have hB : BoxA w1 g 76 [.int .i64 k', .slice A1 n1 c1, .slice A2 n2 c2] := by rw [hw1, hg]; exact BoxA.new _ _ _
  obtain ⟨y0, y1, y2, _⟩ := hB.three
  have HW1 := Lib.hid hw1
  have HG := Lib.hid hg
  have HB1 := Lib.hid hb1
  rcases hs with ⟨hk, hts⟩ | ⟨hk, t, hts, htz, hss⟩ | ⟨hk, hss⟩ | ⟨hk, hss⟩ | ⟨hk, hss⟩
  · simp only at hk hts
    subst hk
    rw [hts] at h1
    obtain ⟨rfl, ad, rfl, x0⟩ := rdS_one h1
    have x0' := cell_keep hb1 x0
    clear h1 h2 hts hw1 hg hb1 hB x0
    go_enter Tryz.func49, Tryz.ntmps49
    go_upto_region 1 with fail
    rw [← HW1.out, ← HG.out]
    go_wp2
    go_ret
    exact ⟨rfl, HB1.out⟩
  · simp only at hk hts
    subst hk
    rw [hts] at h1
    have C := Lib.hid (phrase1_any 2 A1 n1 c1 A2 n2 c2 t w1 (h1.below hb1) htz)
    have HSS := Lib.hid hss
    clear h1 h2 hts hw1 hg hb1 hB hss
    go_enter Tryz.func49, Tryz.ntmps49
    go_upto_region 1 with fail
    rw [← HW1.out, ← HG.out]
    go_wp2_with fail
    refine C.out.mono ?_
    rintro e w2 ⟨rfl, hb⟩
    have HB2 := Lib.hid (Below.thn HB1.out hb)
    clear C hb
    go_wp2
    go_ret
    exact ⟨by rw [HSS.out]; rfl, HB2.out⟩
  · simp only at hk
    subst hk
    subst hss
    clear h1 h2 hw1 hg hb1 hB
    go_enter Tryz.func49, Tryz.ntmps49
    go_upto_region 1 with fail
    rw [← HW1.out, ← HG.out]
    go_wp2
    go_ret
    exact ⟨rfl, HB1.out⟩
  · simp only at hk
    subst hk
    subst hss
    clear h1 h2 hw1 hg hb1 hB
    go_enter Tryz.func49, Tryz.ntmps49
    go_upto_region 1 with fail
    rw [← HW1.out, ← HG.out]
    go_wp2
    go_ret
    exact ⟨rfl, HB1.out⟩
  · simp only at hk
    subst hk
    subst hss
    clear h1 h2 hw1 hg hb1 hB
    go_enter Tryz.func49, Tryz.ntmps49
    go_upto_region 1 with fail
    rw [← HW1.out, ← HG.out]
    go_wp2
    go_ret
    exact ⟨rfl, HB1.out⟩
set_option maxRecDepth 100000 in
set_option maxHeartbeats 4000000 in
theorem Text_any (A : Option Addr) (n c : Nat) (o : List QOp) (ss : List ByteArray) (w : World) (h : RdO w A n o) (hok : MayOk o) (hl : ss.length = o.length) (hs : ∀ i (h1 : i < o.length) (h2 : i < ss.length), TxtS o[i] ss[i])
    (hj : (Lib.join (ss.map (·.data.toList)) [32]).length ≤ 140737488355328) :
    Calls Tryz.prog 25 #[.agg #[.slice A n c]] w fun e w' => e = .returned (.string ⟨(Lib.join (ss.map (·.data.toList)) [32]).toArray⟩) ∧ Below w.heap.size w w' := by
  have hn := h.len
  have hn1 := hok.1
  have hn2 := hok.2.1
  rw [hn] at hn1 hn2
  obtain ⟨w1, hw1⟩ : ∃ w1, w1 = w.alloc (.cells #[.slice A n c] 31) := ⟨_, rfl⟩
  obtain ⟨g, hg⟩ : ∃ g, g = w.heap.size := ⟨_, rfl⟩
  have hb1 : Below w.heap.size w w1 := by rw [hw1]; exact (Below.refl _ _).alloc (Nat.le_refl _) _
  have hB : BoxA w1 g 31 [.slice A n c] := by rw [hw1, hg]; exact BoxA.new _ _ _
  have y0 := hB.cell 0 _ rfl
  have C1 := Lib.hid (may_yesQ A n c o w1 (h.below hb1) hok)
  have HW1 := Lib.hid hw1
  have HG := Lib.hid hg
  have HB1 := Lib.hid hb1
  have HX := Lib.hid hB
  have HR := Lib.hid h
  have HS := Lib.hid hs
  have HJ := Lib.hid hj
  have HL : Hid (ss.length = n) := Lib.hid (by rw [hl, hn])
  have HN := Lib.hid hn
  clear h hok hl hs hj hw1 hg hb1 hB hn
  go_enter Tryz.func25, Tryz.ntmps25
  go_upto_region 1 with fail
  rw [← HW1.out, ← HG.out]
  go_wp2_with fail
  refine C1.out.mono ?_
  rintro e w2 ⟨rfl, hb2⟩
  have HB2 := Lib.hid (Below.thn HB1.out hb2)
  have y1 := (HX.out.below hb2).cell 0 _ rfl
  clear C1 hb2 y0
  go_wp2_with fail
  clear y1
  go_loopw [3, 12] (fun v x wr => ∃ ix : Nat, x = .int .i64 (ix : Nat) ∧ ix ≤ n ∧ Hid (OwnL encS 9 wr w.heap.size v (ss.take ix)) ∧ Hid (Below w.heap.size w wr)) (fun _ x _ => n - (intOf x).toNat)
  case atStart => exact ⟨0, rfl, Nat.zero_le _, Lib.hid (OwnL.nil _ _ _ _), HB2⟩
  case round =>
    obtain ⟨ix, rfl, hix, HO, HB⟩ := hrel
    by_cases hlt : (ix : Int) < (n : Int)
    · obtain ⟨ad, k, ts, os, A1, n1, c1, A2, n2, c2, rfl, hoi, u0, u1, u2, ⟨_, _, hr1⟩, _, _, hr2⟩ := rdOp_at (HR.out.below HB.out) (i := ix) (by omega)
      have hxl : ix < o.length := by rw [HN.out]; omega
      have hsl : ix < ss.length := by rw [HL.out]; omega
      obtain ⟨s, hs⟩ : ∃ s, s = ss[ix] := ⟨_, rfl⟩
      have hox : o[ix] = (k, ts, os) := by
        rw [List.getElem?_eq_getElem hxl] at hoi
        injection hoi
      have htx : TxtS (k, ts, os) s := by
        have := HS.out ix hxl hsl
        rw [hox, ← hs] at this
        exact this
      have hdt : ss.take (ix + 1) = ss.take ix ++ [s] := by rw [hs]; exact List.take_succ_eq_append_getElem hsl
      have HDT := Lib.hid hdt
      obtain ⟨w3, hw3⟩ : ∃ w3, w3 = wr.alloc (.cells #[.int .i64 k, .slice A1 n1 c1, .slice A2 n2 c2] 76) := ⟨_, rfl⟩
      obtain ⟨g5, hg5⟩ : ∃ g5, g5 = wr.heap.size := ⟨_, rfl⟩
      have hb3 : Below wr.heap.size wr w3 := by rw [hw3]; exact (Below.refl _ _).alloc (Nat.le_refl _) _
      have HX5 := Lib.hid (show BoxA w3 g5 76 [.int .i64 k, .slice A1 n1 c1, .slice A2 n2 c2] by rw [hw3, hg5]; exact BoxA.new _ _ _)
      have C2 := Lib.hid (text_any k A1 n1 c1 A2 n2 c2 (k, ts, os) s w3 ⟨rfl, hr1.below hb3, hr2.below hb3⟩ htx)
      obtain ⟨z0, z1, z2, _⟩ := HX5.out.three
      have HW3 := Lib.hid hw3
      have HG5 := Lib.hid hg5
      have HB3 := Lib.hid hb3
      have hlen : (ss.take ix).length = ix := by rw [List.length_take, HL.out]; omega
      clear hoi hr1 hr2 hxl hsl hs hox htx hdt hw3 hg5 hb3
      go_upto_region 7 with fail
      rw [← HW3.out, ← HG5.out]
      clear u0 u1 u2
      go_wp2_with fail
      refine C2.out.mono ?_
      rintro e w4 ⟨rfl, hb4⟩
      have hb34 := Below.thn HB3.out hb4
      have HB4 := Lib.hid (Below.thn HB.out hb34)
      obtain ⟨A6, c6, w6, r6, o6, h61, h62, g6⟩ := push_L (P := Tryz.prog) (enc := encS) w.heap.size 23 9 (.string ⟨#[]⟩) 16 Tryz.underlying23 infoS rfl (by decide) (by decide) encS_one s (HO.out.below hb34) HB4.out.size (by rw [hlen]; omega)
      rw [hlen] at r6 o6
      have HO6 : Hid (OwnL encS 9 w6 w.heap.size (.slice A6 (ix + 1) c6) (ss.take (ix + 1))) := Lib.hid (by rw [HDT.out]; exact o6)
      have HB6 := Lib.hid (HB4.out.grown g6 HB4.out.size (fun k hk => (HO.out.base k hk).1))
      clear C2 hb4 hb34 o6 g6 z0 z1 z2
      go_wp2_with (at_builtin; refine wpl_append_run rfl _ _ _ rfl rfl rfl r6 ?_)
      exact ⟨⟨ix + 1, by simp, by omega, HO6, HB6⟩, by simp [intOf]; omega⟩
    · have hE : ix = n := by omega
      subst hE
      have ho := HO.out
      rw [List.take_of_length_le (by rw [HL.out]; exact Nat.le_refl _)] at ho
      obtain ⟨Ar, cr', er, _, _, hrd⟩ := OwnL.rd ho
      obtain ⟨gr, cr, rfl, hgr, hgl, hnc, hcc⟩ := ho.place (by rw [HL.out]; omega)
      injection er with e1 e2 e3
      have hcells : ∀ (j : Nat) x, ss[j]? = some x → wr.cell? ⟨gr, 0 + j, none⟩ = some (.string x) := fun j x hx => by
        obtain ⟨hj, ex⟩ := List.getElem?_eq_some_iff.1 hx
        obtain ⟨ad', e4, hc⟩ := hrd.cell (by omega)
        rw [← e1] at e4
        injection e4 with e4
        subst e4
        have h1 := hc j hj
        rw [add_lit0, ex] at h1
        rw [Nat.zero_add]
        exact h1
      have CJ := Lib.hid (join_any gr 0 cr ss ⟨#[32]⟩ wr hcells hgl (by have := HL.out; omega) hnc HJ.out)
      clear ho hrd e1 e3 hcells hgr hgl hnc hcc HO
      go_wp2_with fail
      refine CJ.out.mono ?_
      rintro e w9 ⟨rfl, hb9⟩
      have HB9 := Lib.hid (Below.thn HB.out hb9)
      clear CJ hb9
      go_wp2
      go_ret
      exact ⟨rfl, HB9.out⟩
end Go.Proofs.YtkkeodlnejckjaaGreat

/- The chapter's example: the way, and what the text is read as. -/
namespace Go.Proofs.YtkkeodlnejckjaaGreat
open Go.RowKit Go.Shelf
set_option linter.unusedVariables false
set_option linter.unusedSimpArgs false

def someC : Cf := ⟨[(65, 97, 26)], [⟨#[116, 104, 101]⟩], 4⟩
theorem some_key : ∀ k : Fin 26, (letB (65 + ((k.1 : Nat) : Int)) = true ∧ letB (97 + ((k.1 : Nat) : Int)) = true) := by decide
theorem some_ok : okTb someC.fo := by
  refine ⟨by decide, fun i h => ?_, fun i h k hk => ?_⟩
  · have h0 : i = 0 := by
      have : someC.fo.length = 1 := rfl
      omega
    subst h0
    refine ⟨?_, fun h => absurd h (by decide)⟩
    show 1 ≤ (26 : Int) ∧ (26 : Int) ≤ 256 ∧ ∀ k : Nat, (k : Int) < 26 → letB 65 = true ∧ letB 97 = true ∧ letB (65 + (k : Int)) = true ∧ letB (97 + (k : Int)) = true
    exact ⟨by decide, by decide, fun k hk => ⟨by decide, by decide, (some_key ⟨k, by omega⟩).1, (some_key ⟨k, by omega⟩).2⟩⟩
  · have h0 : i = 0 := by
      have : someC.fo.length = 1 := rfl
      omega
    subst h0
    have hk2 : (k : Int) < 26 := hk
    show fnd [(65, 97, 26)] (97 + (k : Int)) = none
    have e : hit (97 + (k : Int)) (65, 97, 26) = false := by
      unfold hit
      simp only
      have h1 : wrap32 (97 + (k : Int) - 65) = 32 + (k : Int) := by
        unfold wrap32
        omega
      rw [h1, show wrap32 26 = 26 from by unfold wrap32; omega]
      simp
      omega
    simp [fnd, e]
theorem some_may : mayC someC := by
  refine ⟨some_ok, by decide, by decide, by decide, fun i h => ?_⟩
  have h0 : i = 0 := by
    have : someC.st.length = 1 := rfl
    omega
  subst h0
  refine ⟨fun h => absurd h (by decide), ?_⟩
  have e : rnsL (bsL (stAt someC.st 0)) = [116, 104, 101] := by kernel_rfl
  refine ⟨fun r hr => ?_, by rw [e]; decide, by rw [e]; decide⟩
  rw [e] at hr
  unfold okR
  rw [eff_yes some_ok]
  simp at hr
  rcases hr with rfl | rfl | rfl <;> exact ⟨by decide, by kernel_rfl⟩
/-- The terms by a table that may be. -/
def tmB (c : Cf) : List (List Nat) → Nat → List (Nat × ByteArray)
  | [], _ => []
  | w :: ws, k => (k, strL (encsL ((w.take c.cap.toNat).map fun r : Nat => oneR c.fo (r : Int)))) :: tmB c ws (k + 1)
theorem tmB_eq (c : Cf) (h : okTb c.fo) : ∀ (ws : List (List Nat)) (k : Nat), tmG c ws k = tmB c ws k
  | [], _ => rfl
  | w :: ws, k => by
    unfold tmG tmB termS termL
    rw [eff_yes h, tmB_eq c h ws (k + 1)]
abbrev liveB : List Nat := [99, 97, 116, 32, 79, 82, 32, 78, 79, 84, 32, 34, 116, 104, 101, 32, 100, 111, 103, 34]
theorem toks_some (l : List Nat) : toksL someC l = fltL someC.st (tmB someC (wordsL l) 0) := by
  rw [toks_flt]
  unfold termsL
  rw [if_pos some_may, tmB_eq someC some_ok]
theorem asks_cat : asksG someC [99, 97, 116] = some (1, [⟨#[99, 97, 116]⟩], []) := by
  rw [asksG_W, toks_some]
  have e : tmB someC (wordsL [99, 97, 116]) 0 = [(0, ⟨#[99, 97, 116]⟩)] := by kernel_rfl
  have e2 : (wordsL [99, 97, 116]).length = 1 := by kernel_rfl
  rw [e, e2]
  have i2 : inS someC.st ⟨#[99, 97, 116]⟩ = false := by decide
  have e3 : fltL someC.st [(0, ⟨#[99, 97, 116]⟩)] = [(⟨#[99, 97, 116]⟩, 0)] := by simp [fltL, i2]
  rw [e3]
  rfl
theorem asks_dog : asksG someC [116, 104, 101, 32, 100, 111, 103] = some (2, [⟨#[100, 111, 103]⟩], [0]) := by
  rw [asksG_W, toks_some]
  have e : tmB someC (wordsL [116, 104, 101, 32, 100, 111, 103]) 0 = [(0, ⟨#[116, 104, 101]⟩), (1, ⟨#[100, 111, 103]⟩)] := by kernel_rfl
  have e2 : (wordsL [116, 104, 101, 32, 100, 111, 103]).length = 2 := by kernel_rfl
  rw [e, e2]
  have i1 : inS someC.st ⟨#[116, 104, 101]⟩ = true := by decide
  have i2 : inS someC.st ⟨#[100, 111, 103]⟩ = false := by decide
  have e3 : fltL someC.st [(0, ⟨#[116, 104, 101]⟩), (1, ⟨#[100, 111, 103]⟩)] = [(⟨#[100, 111, 103]⟩, 1)] := by simp [fltL, i1, i2]
  rw [e3]
  rfl
abbrev pc1 : Pc := (8, 0, [99, 97, 116])
abbrev pc2 : Pc := (6, 4, [79, 82])
abbrev pc3 : Pc := (7, 7, [78, 79, 84])
abbrev pc4 : Pc := (3, 11, [34, 116, 104, 101, 32, 100, 111, 103, 34])
theorem live_pcs : piecesL liveB = [pc1, pc2, pc3, pc4] := by kernel_rfl
abbrev liveO : List QOp := [(1, [⟨#[99, 97, 116]⟩], []), (2, [⟨#[100, 111, 103]⟩], [0]), opQ 7, opQ 6]
theorem not_cat (k : Nat) (r : List Pc) : notK someC 20 (k + 1) (pc1 :: r) = .ok [(1, [⟨#[99, 97, 116]⟩], [])] r := by
  rw [notK_s, base_8 rfl]
  show ofO 0 r (itemG someC [99, 97, 116]) = _
  have e : itemG someC [99, 97, 116] = asksG someC [99, 97, 116] := if_pos (.inr (by decide))
  rw [e, asks_cat]
  rfl
theorem not_dog (k : Nat) (r : List Pc) : notK someC 20 (k + 1) (pc4 :: r) = .ok [(2, [⟨#[100, 111, 103]⟩], [0])] r := by
  rw [notK_s, base_3 rfl]
  show ofO 11 r (asksG someC [116, 104, 101, 32, 100, 111, 103]) = _
  rw [asks_dog]
  rfl
theorem live_par : parG someC liveB = (liveO, 0, 0) := by
  rw [parG_eq some_may (by decide), live_pcs]
  show parR (anyS (allS (notK someC 20 16)) [pc1, pc2, pc3, pc4]) = _
  have h7 : notK someC 20 16 [pc3, pc4] = .ok [(2, [⟨#[100, 111, 103]⟩], [0]), opQ 7] [] := by
    rw [notK_s, base_7 rfl]
    show nots (notK someC 20 15 [pc4]) = _
    rw [not_dog 14 []]
    rfl
  have a1 : allS (notK someC 20 16) [pc1, pc2, pc3, pc4] = .ok [(1, [⟨#[99, 97, 116]⟩], [])] [pc2, pc3, pc4] := by
    unfold allS
    rw [not_cat 15]
    rfl
  have a2 : allS (notK someC 20 16) [pc3, pc4] = .ok [(2, [⟨#[100, 111, 103]⟩], [0]), opQ 7] [] := by
    unfold allS
    rw [h7]
    rfl
  unfold anyS
  rw [a1]
  show parR (anyLoop (allS (notK someC 20 16)) 5 [(1, [⟨#[99, 97, 116]⟩], [])] (pc2 :: [pc3, pc4])) = _
  have e : anyLoop (allS (notK someC 20 16)) 5 [(1, [⟨#[99, 97, 116]⟩], [])] (pc2 :: [pc3, pc4]) = (match allS (notK someC 20 16) [pc3, pc4] with
    | .bad a => .bad a
    | .ok o l2 => anyLoop (allS (notK someC 20 16)) 4 ([(1, [⟨#[99, 97, 116]⟩], [])] ++ o ++ [opQ 6]) l2) := if_pos rfl
  rw [e, a2]
  rfl
set_option maxRecDepth 100000 in
set_option maxHeartbeats 2000000 in
theorem some_any (w : World) : Calls Tryz.prog 28 #[] w fun e w' => ∃ g, e = .returned (confV (some ⟨g, 0, none⟩) 1 1 (some ⟨g + 1, 0, none⟩) 1 1 someC.cap) ∧ RdC w' (some ⟨g, 0, none⟩) 1 1 (some ⟨g + 1, 0, none⟩) 1 1 someC ∧ Below w.heap.size w w' := by
  go_enter Tryz.func28, Tryz.ntmps28
  go_wp2
  obtain ⟨s, hs⟩ : ∃ s, s = w.heap.size := ⟨_, rfl⟩
  have h0 := World.alloc_heap_new w (.cells #[.slice (some ⟨s + 1, 0, none⟩) 1 1, .slice (some ⟨s + 1 + 1, 0, none⟩) 1 1, .int .i64 4] 25)
  have h1 := World.alloc_heap_new (w.alloc (.cells #[.slice (some ⟨s + 1, 0, none⟩) 1 1, .slice (some ⟨s + 1 + 1, 0, none⟩) 1 1, .int .i64 4] 25)) (.cells #[.int .i32 65, .int .i32 97, .int .i64 26] 96)
  have h2 := World.alloc_heap_new ((w.alloc (.cells #[.slice (some ⟨s + 1, 0, none⟩) 1 1, .slice (some ⟨s + 1 + 1, 0, none⟩) 1 1, .int .i64 4] 25)).alloc (.cells #[.int .i32 65, .int .i32 97, .int .i64 26] 96)) (.cells #[.string ⟨#[116, 104, 101]⟩] 9)
  have b1 : Below w.heap.size w (w.alloc (.cells #[.slice (some ⟨s + 1, 0, none⟩) 1 1, .slice (some ⟨s + 1 + 1, 0, none⟩) 1 1, .int .i64 4] 25)) := (Below.refl _ _).alloc (Nat.le_refl _) _
  obtain ⟨w1, hw1⟩ : ∃ w1, w1 = w.alloc (.cells #[.slice (some ⟨s + 1, 0, none⟩) 1 1, .slice (some ⟨s + 1 + 1, 0, none⟩) 1 1, .int .i64 4] 25) := ⟨_, rfl⟩
  have s1 : w1.heap.size = s + 1 := by rw [hw1, hs]; simp
  rw [← hw1] at h0 h1 h2 b1
  have b2 : Below w1.heap.size w1 (w1.alloc (.cells #[.int .i32 65, .int .i32 97, .int .i64 26] 96)) := (Below.refl _ _).alloc (Nat.le_refl _) _
  obtain ⟨w2, hw2⟩ : ∃ w2, w2 = w1.alloc (.cells #[.int .i32 65, .int .i32 97, .int .i64 26] 96) := ⟨_, rfl⟩
  have s2 : w2.heap.size = s + 1 + 1 := by rw [hw2]; simp; omega
  rw [← hw2] at h1 h2 b2
  have b3 : Below w2.heap.size w2 (w2.alloc (.cells #[.string ⟨#[116, 104, 101]⟩] 9)) := (Below.refl _ _).alloc (Nat.le_refl _) _
  rw [← hs, ← hw1, ← hw2]
  obtain ⟨w3, hw3⟩ : ∃ w3, w3 = w2.alloc (.cells #[.string ⟨#[116, 104, 101]⟩] 9) := ⟨_, rfl⟩
  rw [← hw3] at h2 b3 ⊢
  rw [← hs] at h0
  rw [s1] at h1
  rw [s2] at h2
  have h0' := (b3.block s (by omega)).trans ((b2.block s (by omega)).trans h0)
  have h1' := (b3.block (s + 1) (by omega)).trans h1
  obtain ⟨y0, y1, y2⟩ := cells3 h0'
  obtain ⟨z0, z1, z2⟩ := cells3 h1'
  have x0 : w3.cell? ⟨s + 1 + 1, 0, none⟩ = some (.string ⟨#[116, 104, 101]⟩) := by simp [World.cell?, h2]
  refine bodyPost_ret (v := confV (some ⟨s + 1, 0, none⟩) 1 1 (some ⟨s + 1 + 1, 0, none⟩) 1 1 someC.cap) (by simp [results, Tryz.results28, go_sem, y0, y1, y2, someC]) rfl ?_
  refine ⟨s + 1, rfl, ⟨⟨rfl, by decide, fun _ => ⟨_, rfl, fun j hj => ?_⟩⟩, ⟨rfl, by decide, fun _ => ⟨_, rfl, fun j hj => ?_⟩⟩, by decide, by decide, by decide, by decide, ?_, ?_⟩, by rw [hs]; exact Below.thn (Below.thn b1 b2) b3⟩
  · obtain rfl : j = 0 := by simp [someC] at hj; omega
    exact ⟨z0, z1, z2⟩
  · obtain rfl : j = 0 := by simp [someC] at hj; omega
    exact x0
  · intro x hx
    simp [someC] at hx
    subst hx
    exact ⟨by decide, by decide, by decide⟩
  · intro x hx
    simp [someC] at hx
    subst hx
    decide
theorem markC (C : Array Value) (n c : Nat) (w : World) : (convert 26 26 (.slice (some ⟨w.heap.size, 0, none⟩) n c)).run Tryz.prog (w.alloc (.cells C 5)) = .ok (.slice (some ⟨w.heap.size, 0, none⟩) n c) (w.alloc (.cells C 5 (C.size, C.size + 1))) :=
  Lib.run_convert_bytes_const (P := Tryz.prog) w 26 5 C n c Tryz.underlying26 Tryz.underlying5
end Go.Proofs.YtkkeodlnejckjaaGreat

/- The chapter's example holds. -/
namespace Go.Proofs.YtkkeodlnejckjaaGreat
open Go.RowKit Go.Shelf
set_option linter.unusedVariables false
set_option linter.unusedSimpArgs false

theorem live_may : MayOk liveO := by
  refine ⟨by decide, by decide, by decide, fun x hx => ?_⟩
  simp only [List.mem_cons, List.not_mem_nil, or_false] at hx
  rcases hx with rfl | rfl | rfl | rfl
  · refine .inl ⟨.inl rfl, rfl, fun s hs => ?_, rfl⟩
    simp only [List.mem_cons, List.not_mem_nil, or_false] at hs
    subst hs
    exact ⟨by decide, by decide⟩
  · refine .inr (.inl ⟨rfl, by decide, fun s hs => ?_, rfl, by decide, rfl, fun i h1 h2 => ?_⟩)
    · simp only [List.mem_cons, List.not_mem_nil, or_false] at hs
      subst hs
      exact ⟨by decide, by decide⟩
    · simp at h2
      omega
  · exact .inr (.inr ⟨.inr (.inr (.inr rfl)), rfl, rfl⟩)
  · exact .inr (.inr ⟨.inr (.inr (.inl rfl)), rfl, rfl⟩)
abbrev liveT : List ByteArray := [⟨#[99, 97, 116]⟩, ⟨#[34, 100, 111, 103, 34]⟩, ⟨#[78, 79, 84]⟩, ⟨#[79, 82]⟩]
theorem live_txt : ∀ i (h1 : i < liveO.length) (h2 : i < liveT.length), TxtS liveO[i] liveT[i] := by
  intro i h1 h2
  have h3 : i < 4 := h2
  have hi : i = 0 ∨ i = 1 ∨ i = 2 ∨ i = 3 := by omega
  rcases hi with rfl | rfl | rfl | rfl
  · exact .inl ⟨rfl, rfl⟩
  · exact .inr (.inl ⟨rfl, ⟨#[100, 111, 103]⟩, rfl, by decide, rfl⟩)
  · exact .inr (.inr (.inr (.inr ⟨rfl, rfl⟩)))
  · exact .inr (.inr (.inr (.inl ⟨rfl, rfl⟩)))
theorem live_join : (⟨(Lib.join (liveT.map (·.data.toList)) [32]).toArray⟩ : ByteArray) = ⟨#[99, 97, 116, 32, 34, 100, 111, 103, 34, 32, 78, 79, 84, 32, 79, 82]⟩ := by decide
theorem live_jl : (Lib.join (liveT.map (·.data.toList)) [32]).length ≤ 140737488355328 := by decide
set_option maxRecDepth 100000 in
set_option maxHeartbeats 4000000 in
theorem live_any (w : World) : Calls Tryz.prog 6 #[] w fun e w' => e = .returned (.bool true) ∧ Below w.heap.size w w' := by
  go_enter Tryz.func6, Tryz.ntmps6
  go_wp2_with fail
  refine (some_any w).mono ?_
  rintro e w1 ⟨g, rfl, hC, hb⟩
  have km := fun (C : Array Value) (n c : Nat) => markC C n c w1
  have hbA : Below w1.heap.size w1 (w1.alloc (.cells #[.int .u8 99, .int .u8 97, .int .u8 116, .int .u8 32, .int .u8 79, .int .u8 82, .int .u8 32, .int .u8 78, .int .u8 79, .int .u8 84, .int .u8 32, .int .u8 34, .int .u8 116, .int .u8 104, .int .u8 101, .int .u8 32, .int .u8 100, .int .u8 111, .int .u8 103, .int .u8 34] 5 (20, 21))) := (Below.refl _ _).alloc (Nat.le_refl _) _
  have hR : RdB (w1.alloc (.cells #[.int .u8 99, .int .u8 97, .int .u8 116, .int .u8 32, .int .u8 79, .int .u8 82, .int .u8 32, .int .u8 78, .int .u8 79, .int .u8 84, .int .u8 32, .int .u8 34, .int .u8 116, .int .u8 104, .int .u8 101, .int .u8 32, .int .u8 100, .int .u8 111, .int .u8 103, .int .u8 34] 5 (20, 21))) (some ⟨w1.heap.size, 0, none⟩) 20 liveB := ⟨Rd.new w1 5 liveB #[.int .u8 99, .int .u8 97, .int .u8 116, .int .u8 32, .int .u8 79, .int .u8 82, .int .u8 32, .int .u8 78, .int .u8 79, .int .u8 84, .int .u8 32, .int .u8 34, .int .u8 116, .int .u8 104, .int .u8 101, .int .u8 32, .int .u8 100, .int .u8 111, .int .u8 103, .int .u8 34] 20 (20, 21) (enc := encB) rfl rfl (by decide), by
    intro c hc
    simp [liveB] at hc
    omega⟩
  have CT := Lib.hid (Parse_any _ 1 1 _ 1 1 someC (some ⟨w1.heap.size, 0, none⟩) 20 20 liveB _ (hC.below hbA) hR (Nat.le_refl _) (by decide) (by decide) (by decide))
  rw [live_par] at CT
  have HB1 := Lib.hid (Below.thn hb hbA)
  clear hb hC hR hbA
  go_wp2_with fail
  refine CT.out.mono ?_
  rintro e w2 ⟨v, rfl, ho, hb⟩
  have HB2 := Lib.hid (Below.thn HB1.out hb)
  obtain ⟨Av, cv, rfl, _, _, hrd⟩ := ho.rd
  obtain ⟨w3, hw3⟩ : ∃ w3, w3 = w2.alloc (.cells #[.slice Av liveO.length cv] 31) := ⟨_, rfl⟩
  have hb3 : Below w2.heap.size w2 w3 := by rw [hw3]; exact (Below.refl _ _).alloc (Nat.le_refl _) _
  have CX := Lib.hid (Text_any Av liveO.length cv liveO liveT w3 (hrd.below hb3) live_may rfl live_txt live_jl)
  rw [live_join] at CX
  have HB3 := Lib.hid (Below.thn HB2.out hb3)
  have HW3 := Lib.hid hw3
  obtain ⟨nn, hnn⟩ : ∃ nn, nn = liveO.length := ⟨_, rfl⟩
  rw [← hnn] at CX HW3 ⊢
  obtain ⟨g1, hg1⟩ : ∃ g1, g1 = w2.heap.size := ⟨_, rfl⟩
  have y0 : w3.cell? ⟨g1, 0, none⟩ = some (.slice Av nn cv) := by
    rw [hnn, hw3, hg1]
    exact (BoxA.new w2 31 [.slice Av liveO.length cv]).cell 0 _ rfl
  have HG1 := Lib.hid hg1
  clear ho hb hrd CT km hw3 hb3 hnn hg1
  go_upto_region 2 with fail
  rw [← HW3.out, ← HG1.out]
  go_wp2_with fail
  refine CX.out.mono ?_
  rintro e w4 ⟨rfl, hb4⟩
  have HB4 := Lib.hid (Below.thn HB3.out hb4)
  clear CX hb4 y0
  go_wp2
  go_ret
  exact ⟨rfl, HB4.out⟩
end Go.Proofs.YtkkeodlnejckjaaGreat

/- QueryParses: the query of any text, by any way, or its first fault, and where that is: the code and the document say the same. No condition. -/
namespace Go.Proofs.YtkkeodlnejckjaaGreat
open Go.RowKit Go.Shelf
set_option linter.unusedVariables false
set_option linter.unusedSimpArgs false

set_option maxRecDepth 100000 in
set_option maxHeartbeats 4000000 in
theorem Parses_any (A : Option Addr) (n c : Nat) (B : Option Addr) (m d : Nat) (cf : Cf) (T : Option Addr) (nt ct : Nat) (l : List Nat) (w : World) (h : RdC0 w A n c B m d cf) (ht : RdB w T nt l) (htc : nt ≤ ct) (htc2 : ct ≤ 9223372036854775807) :
    Calls Tryz.prog 3 #[confV A n c B m d cf.cap, .slice T nt ct] w fun e w' => e = .returned (.bool true) ∧ Below w.heap.size w w' := by
  have HR := Lib.hid h
  have HT := Lib.hid ht
  obtain ⟨cp, hcp⟩ : ∃ cp, cp = cf.cap := ⟨_, rfl⟩
  rw [← hcp]
  obtain ⟨w1, hw1⟩ : ∃ w1, w1 = w.alloc (.cells #[.slice A n c, .slice B m d, .int .i64 cp] 25) := ⟨_, rfl⟩
  obtain ⟨g, hg⟩ : ∃ g, g = w.heap.size := ⟨_, rfl⟩
  have hb1 : Below w.heap.size w w1 := by rw [hw1]; exact (Below.refl _ _).alloc (Nat.le_refl _) _
  have HB1 := Lib.hid hb1
  have HX := Lib.hid (show BoxA w1 g 25 [.slice A n c, .slice B m d, .int .i64 cp] by rw [hw1, hg]; exact BoxA.new _ _ _)
  have HW1 := Lib.hid hw1
  have HG := Lib.hid hg
  have HCP := Lib.hid hcp
  clear h ht hcp hw1 hg hb1
  go_enter Tryz.func3, Tryz.ntmps3
  go_upto_region 1 with fail
  rw [← HW1.out, ← HG.out]
  go_wp2_with fail
  refine (live_any w1).mono ?_
  rintro e w2 ⟨rfl, hb⟩
  have HB2 := Lib.hid (Below.thn HB1.out hb)
  have HX2 := Lib.hid (HX.out.below hb)
  obtain ⟨y0, y1, y2, _⟩ := HX2.out.three
  have CF := Lib.hid (qfew_any A n c B m d cf w2 (HR.out.below HB2.out))
  rw [← HCP.out] at CF
  clear hb HB1 HX
  go_wp2_with fail
  refine CF.out.mono ?_
  rintro e w3 ⟨⟨b, rfl, hbf⟩, hb⟩
  have HB3 := Lib.hid (Below.thn HB2.out hb)
  have HX3 := Lib.hid (HX2.out.below hb)
  have HFw := Lib.hid hbf
  clear hb hbf CF y0 y1 y2 HX2 HB2
  cases b
  case false =>
    go_wp2_with fail
    refine (live_any _).mono ?_
    rintro e w9 ⟨rfl, hb⟩
    have HB9 := Lib.hid (Below.thn HB3.out hb)
    clear hb
    go_wp2
    go_ret
    exact ⟨rfl, HB9.out⟩
  have hfw := HFw.out.1 rfl
  have HRC := Lib.hid (RdC0.full HR.out (by exact hfw.2.2))
  have hm100 : m ≤ 100 := hfw.2.1
  clear hfw HFw
  by_cases hbig : (nt : Int) > 1000
  · go_wp2_with fail
    refine (live_any _).mono ?_
    rintro e w9 ⟨rfl, hb⟩
    have HB9 := Lib.hid (Below.thn HB3.out hb)
    clear hb
    go_wp2
    go_ret
    exact ⟨rfl, HB9.out⟩
  have hnt : nt ≤ 1000 := by omega
  obtain ⟨y0, y1, y2, _⟩ := HX3.out.three
  have C1 := Lib.hid (Parse_any A n c B m d cf T nt ct l w3 (HRC.out.below HB3.out) (HT.out.below HB3.out) htc htc2 (by omega) (by omega))
  rw [← HCP.out] at C1
  obtain ⟨G, hG⟩ : ∃ G, G = parG cf l := ⟨_, rfl⟩
  have HGP := Lib.hid hG
  rw [← hG] at C1
  clear hG
  go_wp2_with fail
  refine C1.out.mono ?_
  rintro e w4 ⟨v, rfl, ho, hb⟩
  obtain ⟨Av, cv, rfl, _, _, hrd⟩ := ho.rd
  obtain ⟨nn, hnn⟩ : ∃ nn, nn = G.1.length := ⟨_, rfl⟩
  obtain ⟨a0, ha0⟩ : ∃ a0, a0 = G.2.1 := ⟨_, rfl⟩
  obtain ⟨e0, he0⟩ : ∃ e0, e0 = G.2.2 := ⟨_, rfl⟩
  obtain ⟨w5, hw5⟩ : ∃ w5, w5 = w4.alloc (.cells #[.slice Av nn cv] 31) := ⟨_, rfl⟩
  obtain ⟨g5, hg5⟩ : ∃ g5, g5 = w4.heap.size := ⟨_, rfl⟩
  have hb5 : Below w4.heap.size w4 w5 := by rw [hw5]; exact (Below.refl _ _).alloc (Nat.le_refl _) _
  have hb35 := Below.thn hb hb5
  have HX5 := Lib.hid (show BoxA w5 g5 31 [.slice Av nn cv] by rw [hw5, hg5]; exact BoxA.new _ _ _)
  have HXC5 := Lib.hid (HX3.out.below hb35)
  have HB5 := Lib.hid (Below.thn HB3.out hb35)
  have HRD1 := Lib.hid (hrd.below hb5)
  have C2 := Lib.hid (refParse_any A n c B m d cf T nt ct l w5 (HRC.out.below HB5.out) (HT.out.below HB5.out) htc htc2 (by omega) (by omega))
  rw [← HCP.out, ← HGP.out] at C2
  obtain ⟨u0, u1, u2, _⟩ := HXC5.out.three
  rw [← hnn, ← ha0, ← he0]
  have HNN := Lib.hid hnn
  have HA0 := Lib.hid ha0
  have HE0 := Lib.hid he0
  have HW5 := Lib.hid hw5
  have HG5 := Lib.hid hg5
  clear C1 ho hb hrd hw5 hg5 hb5 hb35 y0 y1 y2 HX3 HB3 hnn ha0 he0
  go_upto_region 4 with fail
  rw [← HW5.out, ← HG5.out]
  go_wp2_with fail
  refine C2.out.mono ?_
  rintro e w6 ⟨v2, rfl, ho, hb⟩
  obtain ⟨Bv, dv, rfl, _, _, hrd⟩ := ho.rd
  rw [← HNN.out, ← HA0.out, ← HE0.out]
  obtain ⟨w7, hw7⟩ : ∃ w7, w7 = w6.alloc (.cells #[.slice Bv nn dv] 31) := ⟨_, rfl⟩
  obtain ⟨g7, hg7⟩ : ∃ g7, g7 = w6.heap.size := ⟨_, rfl⟩
  have hb7 : Below w6.heap.size w6 w7 := by rw [hw7]; exact (Below.refl _ _).alloc (Nat.le_refl _) _
  have hb57 := Below.thn hb hb7
  have HX7 := Lib.hid (show BoxA w7 g7 31 [.slice Bv nn dv] by rw [hw7, hg7]; exact BoxA.new _ _ _)
  have HB7 := Lib.hid (Below.thn HB5.out hb57)
  have x5 := (HX5.out.below hb57).cell 0 _ rfl
  have x7 := HX7.out.cell 0 _ rfl
  have CS := Lib.hid (rsame_eq Av nn cv Bv nn dv G.1 w7 (by rw [HNN.out]; exact HRD1.out.below hb57) (by rw [HNN.out]; exact hrd.below hb7))
  have HW7 := Lib.hid hw7
  have HG7 := Lib.hid hg7
  clear C2 ho hb hrd hw7 hg7 hb7 hb57 u0 u1 u2
  go_upto_region 5 with fail
  rw [← HW7.out, ← HG7.out]
  go_wp2_with fail
  refine CS.out.mono ?_
  rintro e w8 ⟨rfl, hb⟩
  have HB8 := Lib.hid (Below.thn HB7.out hb)
  clear CS hb x5 x7
  go_wp2
  go_ret
  exact ⟨rfl, HB8.out⟩
end Go.Proofs.YtkkeodlnejckjaaGreat
