/- Which ways may be, which are the same, any one's form, the way of any bytes: the law. -/
import Derived.Test.YtbmdjmnjbflfeaaRefPar
import Derived.BigQuiet
namespace Go.Proofs.Ytbmdjmnjbflfeaa
open Go.RowKit Go.Shelf
set_option linter.unusedVariables false
set_option linter.unusedSimpArgs false

theorem few2_any (x y : CV) (w : World) (h : x.rd w) (k : y.rd w) : Calls Try.prog 11 #[.slice (some ⟨w.heap.size, 0, none⟩) 2 2] (w.alloc (.cells #[.slice x.A x.n x.c, .slice x.B x.m x.d, .int .i64 x.cf.cap, .slice y.A y.n y.c, .slice y.B y.m y.d, .int .i64 y.cf.cap] 25)) fun e w' => TellB (fewC x ∧ fewC y) e ∧ Below w.heap.size w w' := by
  have hb : Below w.heap.size w (w.alloc (.cells #[.slice x.A x.n x.c, .slice x.B x.m x.d, .int .i64 x.cf.cap, .slice y.A y.n y.c, .slice y.B y.m y.d, .int .i64 y.cf.cap] 25)) := (Below.refl _ _).alloc (Nat.le_refl _) _
  have hk : RdK encC 3 (w.alloc (.cells #[.slice x.A x.n x.c, .slice x.B x.m x.d, .int .i64 x.cf.cap, .slice y.A y.n y.c, .slice y.B y.m y.d, .int .i64 y.cf.cap] 25)) (some ⟨w.heap.size, 0, none⟩) 2 [x, y] := by
    obtain ⟨A, c, e, _, _, h⟩ := OwnK.rd (enc := encC) encC_len (OwnK.lit (enc := encC) encC_len w w.heap.size 25 [x, y] #[.slice x.A x.n x.c, .slice x.B x.m x.d, .int .i64 x.cf.cap, .slice y.A y.n y.c, .slice y.B y.m y.d, .int .i64 y.cf.cap] 2 rfl rfl (Nat.le_refl _) (by decide))
    injection e with e1 e2 e3
    subst e1
    exact h
  refine (few_any _ 2 2 [x, y] _ hk (fun z hz => by simp at hz; rcases hz with rfl | rfl; exact h.below hb; exact k.below hb) (by decide)).mono ?_
  rintro e w' ⟨⟨b, e1, e2⟩, hb2⟩
  exact ⟨⟨b, e1, by rw [e2]; simp⟩, Below.thn hb hb2⟩
def MyF (A : Option Addr) (n c : Nat) (B : Option Addr) (m d : Nat) (cp : Int) (A' : Option Addr) (n' c' : Nat) (B' : Option Addr) (m' d' : Nat) (cq : Int) (Au : Option Addr) (nu cu : Nat) (Bu : Option Addr) (mu du : Nat) (Av : Option Addr) (nv cv : Nat) (Bv : Option Addr) (mv dv : Nat) (up : Int) (g gh gu gv : Nat) (X Y : Option Addr) (N cx cy : Nat) (e0 ge ck : Int) (q : Bool) : Nat → Value → World → Prop
  | 0 => fun v w => v = confV A n c B m d cp
  | 1 => fun v w => v = .int .i64 ck
  | 2 => fun v w => v = confV A n c B m d cp
  | 3 => fun v w => v = .int .i64 ck
  | 4 => fun v w => v = .bool true
  | 5 => fun v w => v = .bool true
  | 6 => fun v w => v = confV A n c B m d cp
  | 7 => fun v w => v = confV A' n' c' B' m' d' cq
  | 8 => fun v w => v = .bool q
  | 9 => fun v w => v = confV A n c B m d cp
  | 10 => fun v w => v = confV A' n' c' B' m' d' cq
  | 11 => fun v w => v = .bool q
  | 12 => fun v w => v = .bool true
  | 13 => fun v w => v = .bool true
  | 14 => fun v w => v = .bool true
  | 15 => fun v w => v = confV A n c B m d cp
  | 16 => fun v w => v = confV A n c B m d cp
  | 17 => fun v w => v = .bool true
  | 18 => fun v w => v = .bool true
  | 19 => fun v w => v = .bool true
  | 20 => fun v w => v = .slice X N cx
  | 21 => fun v w => v = .slice Y N cy
  | 22 => fun v w => v = .bool true
  | 23 => fun v w => v = .bool true
  | 24 => fun v w => v = .bool true
  | 25 => fun v w => v = .int .i64 e0
  | 26 => fun v w => v = .int .i64 e0
  | 27 => fun v w => v = .bool true
  | 28 => fun v w => v = .bool true
  | 29 => fun v w => v = .bool true
  | 30 => fun v w => v = confV Au nu cu Bu mu du up
  | 31 => fun v w => v = confV Av nv cv Bv mv dv up
  | 32 => fun v w => v = .bool true
  | 33 => fun v w => v = .bool true
  | 34 => fun v w => v = .bool true
  | 35 => fun v w => v = .int .i64 ge
  | 36 => fun v w => v = .int .i64 ge
  | 37 => fun v w => v = .bool true
  | 38 => fun v w => v = .bool true
  | 39 => fun v w => v = .bool true
  | _ => fun _ _ => True
theorem MyF.below (A : Option Addr) (n c : Nat) (B : Option Addr) (m d : Nat) (cp : Int) (A' : Option Addr) (n' c' : Nat) (B' : Option Addr) (m' d' : Nat) (cq : Int) (Au : Option Addr) (nu cu : Nat) (Bu : Option Addr) (mu du : Nat) (Av : Option Addr) (nv cv : Nat) (Bv : Option Addr) (mv dv : Nat) (up : Int) (g gh gu gv : Nat) (X Y : Option Addr) (N cx cy : Nat) (e0 ge ck : Int) (q : Bool) : ∀ i v w w', Below w.heap.size w w' → MyF A n c B m d cp A' n' c' B' m' d' cq Au nu cu Bu mu du Av nv cv Bv mv dv up g gh gu gv X Y N cx cy e0 ge ck q i v w → MyF A n c B m d cp A' n' c' B' m' d' cq Au nu cu Bu mu du Av nv cv Bv mv dv up g gh gu gv X Y N cx cy e0 ge ck q i v w'
  | 0, _, _, _, _, h => h
  | 1, _, _, _, _, h => h
  | 2, _, _, _, _, h => h
  | 3, _, _, _, _, h => h
  | 4, _, _, _, _, h => h
  | 5, _, _, _, _, h => h
  | 6, _, _, _, _, h => h
  | 7, _, _, _, _, h => h
  | 8, _, _, _, _, h => h
  | 9, _, _, _, _, h => h
  | 10, _, _, _, _, h => h
  | 11, _, _, _, _, h => h
  | 12, _, _, _, _, h => h
  | 13, _, _, _, _, h => h
  | 14, _, _, _, _, h => h
  | 15, _, _, _, _, h => h
  | 16, _, _, _, _, h => h
  | 17, _, _, _, _, h => h
  | 18, _, _, _, _, h => h
  | 19, _, _, _, _, h => h
  | 20, _, _, _, _, h => h
  | 21, _, _, _, _, h => h
  | 22, _, _, _, _, h => h
  | 23, _, _, _, _, h => h
  | 24, _, _, _, _, h => h
  | 25, _, _, _, _, h => h
  | 26, _, _, _, _, h => h
  | 27, _, _, _, _, h => h
  | 28, _, _, _, _, h => h
  | 29, _, _, _, _, h => h
  | 30, _, _, _, _, h => h
  | 31, _, _, _, _, h => h
  | 32, _, _, _, _, h => h
  | 33, _, _, _, _, h => h
  | 34, _, _, _, _, h => h
  | 35, _, _, _, _, h => h
  | 36, _, _, _, _, h => h
  | 37, _, _, _, _, h => h
  | 38, _, _, _, _, h => h
  | 39, _, _, _, _, h => h
  | _ + 40, _, _, _, _, _ => trivial

set_option maxRecDepth 100000 in
set_option maxHeartbeats 8000000 in
theorem MayLaw_any (A : Option Addr) (n c : Nat) (B : Option Addr) (m d : Nat) (cf : Cf) (A' : Option Addr) (n' c' : Nat) (B' : Option Addr) (m' d' : Nat) (cg : Cf) (T : Option Addr) (nt ct : Nat) (l : List Nat) (w : World) (h0 : RdC0 w A n c B m d cf) (h1 : RdC0 w A' n' c' B' m' d' cg) (ht : RdB w T nt l) (htc : nt ≤ ct) (htc2 : ct ≤ 9223372036854775807) :
    Calls Try.prog 8 #[confV A n c B m d cf.cap, confV A' n' c' B' m' d' cg.cap, .slice T nt ct] w fun e w' => e = .returned (.bool true) ∧ Below w.heap.size w w' := by
  have HR := Lib.hid h0
  have HR' := Lib.hid h1
  have HT := Lib.hid ht
  have HLn := Lib.hid ht.len
  obtain ⟨cp, hcp⟩ : ∃ cp, cp = cf.cap := ⟨_, rfl⟩
  obtain ⟨cq, hcq⟩ : ∃ cq, cq = cg.cap := ⟨_, rfl⟩
  obtain ⟨wa, hwa⟩ : ∃ wa, wa = w.alloc (.cells #[.slice A n c, .slice B m d, .int .i64 cp] 25) := ⟨_, rfl⟩
  have hba : Below w.heap.size w wa := by rw [hwa]; exact (Below.refl _ _).alloc (Nat.le_refl _) _
  have hca : wa.heap[w.heap.size]? = some (.cells #[.slice A n c, .slice B m d, .int .i64 cp] 25 (0, 0)) := by rw [hwa]; exact World.alloc_heap_new w _
  have hsa : wa.heap.size = w.heap.size + 1 := by rw [hwa]; simp
  obtain ⟨w1, hw1⟩ : ∃ w1, w1 = wa.alloc (.cells #[.slice A' n' c', .slice B' m' d', .int .i64 cq] 25) := ⟨_, rfl⟩
  have hbb : Below wa.heap.size wa w1 := by rw [hw1]; exact (Below.refl _ _).alloc (Nat.le_refl _) _
  have hcb : w1.heap[w.heap.size + 1]? = some (.cells #[.slice A' n' c', .slice B' m' d', .int .i64 cq] 25 (0, 0)) := by
    have := World.alloc_heap_new wa (.cells #[.slice A' n' c', .slice B' m' d', .int .i64 cq] 25)
    rw [hsa] at this
    rw [hw1]
    exact this
  obtain ⟨g, hg⟩ : ∃ g, g = w.heap.size := ⟨_, rfl⟩
  obtain ⟨gh, hh⟩ : ∃ gh, gh = w.heap.size + 1 := ⟨_, rfl⟩
  rw [← hg] at hca
  rw [← hh] at hcb
  have HC1 : Hid (w1.heap[g]? = some (.cells #[.slice A n c, .slice B m d, .int .i64 cp] 25 (0, 0)) ∧ w1.heap[gh]? = some (.cells #[.slice A' n' c', .slice B' m' d', .int .i64 cq] 25 (0, 0))) := Lib.hid ⟨(hbb.block g (Array.getElem?_eq_some_iff.1 hca).1).trans hca, hcb⟩
  have HB1 := Lib.hid (Below.thn hba hbb)
  have HW1 : Hid (w1 = (w.alloc (.cells #[.slice A n c, .slice B m d, .int .i64 cp] 25)).alloc (.cells #[.slice A' n' c', .slice B' m' d', .int .i64 cq] 25)) := Lib.hid (by rw [hw1, hwa])
  have HG := Lib.hid hg
  have HH := Lib.hid hh
  have HCP := Lib.hid hcp
  have HCQ := Lib.hid hcq
  rw [← hcp, ← hcq]
  have keep : Hid (∀ {W W' : World}, Below W.heap.size W W' → (W.heap[g]? = some (.cells #[.slice A n c, .slice B m d, .int .i64 cp] 25 (0, 0)) ∧ W.heap[gh]? = some (.cells #[.slice A' n' c', .slice B' m' d', .int .i64 cq] 25 (0, 0))) → (W'.heap[g]? = some (.cells #[.slice A n c, .slice B m d, .int .i64 cp] 25 (0, 0)) ∧ W'.heap[gh]? = some (.cells #[.slice A' n' c', .slice B' m' d', .int .i64 cq] 25 (0, 0)))) := Lib.hid fun hb hc => ⟨(hb.block g (Array.getElem?_eq_some_iff.1 hc.1).1).trans hc.1, (hb.block gh (Array.getElem?_eq_some_iff.1 hc.2).1).trans hc.2⟩
  clear h0 h1 ht hcp hcq hwa hba hca hsa hw1 hbb hcb hg hh
  go_enter Try.func8, Try.ntmps8
  go_wp2_with fail
  rw [← HW1.out, ← HH.out, ← HG.out]
  clear HW1
  refine (live_any w1).mono ?_
  rintro e w2 ⟨rfl, hb⟩
  have HC2 := Lib.hid (keep.out hb HC1.out)
  have HB2 := Lib.hid (Below.thn HB1.out hb)
  obtain ⟨c0, c1, c2⟩ := cells3 HC2.out.1
  obtain ⟨d0, d1, d2⟩ := cells3 HC2.out.2
  have CF := Lib.hid (few2_any ⟨A, n, c, B, m, d, cf⟩ ⟨A', n', c', B', m', d', cg⟩ w2 (HR.out.below HB2.out) (HR'.out.below HB2.out))
  simp only at CF
  rw [← HCP.out, ← HCQ.out] at CF
  clear hb HC1 HB1
  go_wp2_with fail
  refine CF.out.mono ?_
  rintro e w3 ⟨⟨b, rfl, hbf⟩, hb⟩
  have HC3 := Lib.hid (keep.out hb HC2.out)
  have HB3 := Lib.hid (Below.thn HB2.out hb)
  have HFw := Lib.hid hbf
  clear hb hbf CF c0 c1 c2 d0 d1 d2 HC2 HB2
  cases b
  case false =>
    go_wp2_with fail
    refine (live_any _).mono ?_
    rintro e w9 ⟨rfl, hb⟩
    have HB9 := Lib.hid (Below.thn HB3.out hb)
    clear hb
    go_wp2
    go_ret
    exact ⟨rfl, HB9.out⟩
  have hfw := HFw.out.1 (by simp)
  have HRC := Lib.hid (RdC0.full HR.out (by exact hfw.1.2.2))
  have HRC' := Lib.hid (RdC0.full HR'.out (by exact hfw.2.2.2))
  have hm100 : m ≤ 100 := hfw.1.2.1
  have hm101 : m' ≤ 100 := hfw.2.2.1
  clear hfw HFw
  by_cases hbig : (1000 : Int) < (nt : Int)
  · go_wp2_with fail
    refine (live_any _).mono ?_
    rintro e w9 ⟨rfl, hb⟩
    have HB9 := Lib.hid (Below.thn HB3.out hb)
    clear hb
    go_wp2
    go_ret
    exact ⟨rfl, HB9.out⟩
  have hnt : nt ≤ 1000 := by omega
  obtain ⟨e0, he0⟩ : ∃ e0, e0 = (bytX cf).2 := ⟨_, rfl⟩
  obtain ⟨x0, hx0⟩ : ∃ x0, x0 = (bytX cf).1 := ⟨_, rfl⟩
  obtain ⟨ge, hge⟩ : ∃ ge, ge = (parX l).2 := ⟨_, rfl⟩
  obtain ⟨pc, hpc⟩ : ∃ pc, pc = (parX l).1 := ⟨_, rfl⟩
  obtain ⟨up, hup⟩ : ∃ up, up = pc.cap := ⟨_, rfl⟩
  have CC1 : Hid (∀ w9, Below w.heap.size w w9 → Calls Try.prog 24 #[confV A n c B m d cp] w9 fun e w' => ∃ r, e = .returned (.tuple #[r, .int .i64 e0]) ∧ OwnB w' w9.heap.size r x0 ∧ Below w9.heap.size w9 w') := Lib.hid fun w9 h9 => by
    rw [HCP.out, he0, hx0]; exact BytesW_any A n c B m d cf w9 (HRC.out.below h9)
  have CC2 : Hid (∀ w9, Below w.heap.size w w9 → Calls Try.prog 28 #[confV A n c B m d cp] w9 fun e w' => ∃ r, e = .returned (.tuple #[r, .int .i64 e0]) ∧ OwnB w' w9.heap.size r x0 ∧ Below w9.heap.size w9 w') := Lib.hid fun w9 h9 => by
    rw [HCP.out, he0, hx0]; exact refBytesW_any A n c B m d cf w9 (HRC.out.below h9) (by omega)
  have CC3 : Hid (∀ w9, Below w.heap.size w w9 → Calls Try.prog 25 #[.slice T nt ct] w9 fun e w' => ∃ (A' : Option Addr) (n' c' : Nat) (B' : Option Addr) (m' d' : Nat), e = .returned (.tuple #[confV A' n' c' B' m' d' up, .int .i64 ge]) ∧ RdC w' A' n' c' B' m' d' pc ∧ Below w9.heap.size w9 w') := Lib.hid fun w9 h9 => by
    rw [hup, hpc, hge]; exact ParseW_any T nt ct l w9 (HT.out.below h9) htc htc2 (by omega)
  have CC4 : Hid (∀ w9, Below w.heap.size w w9 → Calls Try.prog 29 #[.slice T nt ct] w9 fun e w' => ∃ (A' : Option Addr) (n' c' : Nat) (B' : Option Addr) (m' d' : Nat), e = .returned (.tuple #[confV A' n' c' B' m' d' up, .int .i64 ge]) ∧ RdC w' A' n' c' B' m' d' pc ∧ Below w9.heap.size w9 w') := Lib.hid fun w9 h9 => by
    rw [hup, hpc, hge]; exact refParse_any T nt ct l w9 (HT.out.below h9) htc htc2
  have HUP := Lib.hid hup
  clear he0 hx0 hge hpc hup
  obtain ⟨c0, c1, c2⟩ := cells3 HC3.out.1
  have K1 := Lib.hid (CC1.out w3 HB3.out)
  go_wp2_with fail
  refine K1.out.mono ?_
  rintro e w4 ⟨r, rfl, ho, hb⟩
  have HC4 := Lib.hid (keep.out hb HC3.out)
  have HB4 := Lib.hid (Below.thn HB3.out hb)
  obtain ⟨X, cx, rfl, hx1, hx2, hx3⟩ := OwnL.rd ho.1
  obtain ⟨N, hN⟩ : ∃ N, N = x0.length := ⟨_, rfl⟩
  rw [← hN] at hx1 hx3 ⊢
  have HX4 : Hid (RdB w4 X N x0) := Lib.hid ⟨hx3, ho.2⟩
  have HN := Lib.hid hN
  clear ho hb K1 CC1 c0 c1 c2 hx3 hN HC3 HB3
  obtain ⟨c0, c1, c2⟩ := cells3 HC4.out.1
  have K2 := Lib.hid (CC2.out w4 HB4.out)
  go_wp2_with fail
  refine K2.out.mono ?_
  rintro e w5 ⟨r, rfl, ho, hb⟩
  have HC5 := Lib.hid (keep.out hb HC4.out)
  have HB5 := Lib.hid (Below.thn HB4.out hb)
  have HX5 := Lib.hid (HX4.out.below hb)
  obtain ⟨Y, cy, rfl, hy1, hy2, hy3⟩ := OwnL.rd ho.1
  rw [← HN.out] at hy1 hy3 ⊢
  have HY5 : Hid (RdB w5 Y N x0) := Lib.hid ⟨hy3, ho.2⟩
  clear ho hb K2 CC2 c0 c1 c2 hy3 HC4 HB4 HX4
  have K3 := Lib.hid (CC3.out w5 HB5.out)
  go_wp2_with fail
  refine K3.out.mono ?_
  rintro e w6 ⟨Au, nu, cu, Bu, mu, du, rfl, hru, hb⟩
  have hbx := (Below.refl w6.heap.size w6).alloc (Nat.le_refl _) (.cells #[.slice Au nu cu, .slice Bu mu du, .int .i64 up] 25)
  have hcell := World.alloc_heap_new w6 (.cells #[.slice Au nu cu, .slice Bu mu du, .int .i64 up] 25)
  obtain ⟨w7, hw7⟩ : ∃ w7, w7 = w6.alloc (.cells #[.slice Au nu cu, .slice Bu mu du, .int .i64 up] 25) := ⟨_, rfl⟩
  rw [← hw7] at hbx hcell
  obtain ⟨gu, hu⟩ : ∃ gu, gu = w6.heap.size := ⟨_, rfl⟩
  rw [← hu] at hcell
  have HC7 := Lib.hid (keep.out hbx (keep.out hb HC5.out))
  have HB7 := Lib.hid (Below.thn (Below.thn HB5.out hb) hbx)
  have HX7 := Lib.hid ((HX5.out.below hb).below hbx)
  have HY7 := Lib.hid ((HY5.out.below hb).below hbx)
  have HU7 := Lib.hid (And.intro (hru.below hbx) hcell)
  have HW7 := Lib.hid hw7
  have HUU := Lib.hid hu
  have K4 := Lib.hid (CC4.out w7 HB7.out)
  clear hru hb hbx hcell hw7 hu K3 CC3 CC4 HC5 HB5 HX5 HY5
  go_wp2_with fail
  rw [← HW7.out, ← HUU.out]
  refine K4.out.mono ?_
  rintro e w8 ⟨Av, nv, cv, Bv, mv, dv, rfl, hrv, hb⟩
  have hbx := (Below.refl w8.heap.size w8).alloc (Nat.le_refl _) (.cells #[.slice Av nv cv, .slice Bv mv dv, .int .i64 up] 25)
  have hcell := World.alloc_heap_new w8 (.cells #[.slice Av nv cv, .slice Bv mv dv, .int .i64 up] 25)
  obtain ⟨w9, hw9⟩ : ∃ w9, w9 = w8.alloc (.cells #[.slice Av nv cv, .slice Bv mv dv, .int .i64 up] 25) := ⟨_, rfl⟩
  rw [← hw9] at hbx hcell
  obtain ⟨gv, hv⟩ : ∃ gv, gv = w8.heap.size := ⟨_, rfl⟩
  rw [← hv] at hcell
  have HC9 := Lib.hid (keep.out hbx (keep.out hb HC7.out))
  have HB9 := Lib.hid (Below.thn (Below.thn HB7.out hb) hbx)
  have HX9 := Lib.hid ((HX7.out.below hb).below hbx)
  have HY9 := Lib.hid ((HY7.out.below hb).below hbx)
  have hu9 := (hbx.block gu (Array.getElem?_eq_some_iff.1 ((hb.block gu (Array.getElem?_eq_some_iff.1 HU7.out.2).1).trans HU7.out.2)).1).trans ((hb.block gu (Array.getElem?_eq_some_iff.1 HU7.out.2).1).trans HU7.out.2)
  have HRU := Lib.hid ((HU7.out.1.below hb).below hbx)
  have HRV := Lib.hid (hrv.below hbx)
  have GA := Lib.hid (cells3 HC9.out.1)
  have GB := Lib.hid (cells3 HC9.out.2)
  have GU := Lib.hid (cells3 hu9)
  have GV := Lib.hid (cells3 hcell)
  have HW9 := Lib.hid hw9
  have HVV := Lib.hid hv
  obtain ⟨ck, hck⟩ : ∃ ck, ck = mayE cf := ⟨_, rfl⟩
  obtain ⟨q, hq⟩ : ∃ q, q = decide (cf = cg) := ⟨_, rfl⟩
  have C51 : Hid (∀ wz, Below w9.heap.size w9 wz → Calls Try.prog 20 #[confV A n c B m d cp] wz fun e w' => e = .returned (.int .i64 ck) ∧ Below wz.heap.size wz w') := Lib.hid fun wz hz => by
    rw [HCP.out, hck]; exact CheckW_any A n c B m d cf wz (HRC.out.below (Below.thn HB9.out hz))
  have C53 : Hid (∀ wz, Below w9.heap.size w9 wz → Calls Try.prog 30 #[confV A n c B m d cp] wz fun e w' => e = .returned (.int .i64 ck) ∧ Below wz.heap.size wz w') := Lib.hid fun wz hz => by
    rw [HCP.out, hck]; exact refCkW_any A n c B m d cf wz (HRC.out.below (Below.thn HB9.out hz))
  have C58 : Hid (∀ wz, Below w9.heap.size w9 wz → Calls Try.prog 26 #[confV A n c B m d cp, confV A' n' c' B' m' d' cq] wz fun e w' => e = .returned (.bool q) ∧ Below wz.heap.size wz w') := Lib.hid fun wz hz => by
    rw [HCP.out, HCQ.out, hq]; exact SameW_any A n c B m d cf A' n' c' B' m' d' cg wz (HRC.out.below (Below.thn HB9.out hz)) (HRC'.out.below (Below.thn HB9.out hz))
  have C61 : Hid (∀ wz, Below w9.heap.size w9 wz → Calls Try.prog 31 #[confV A n c B m d cp, confV A' n' c' B' m' d' cq] wz fun e w' => e = .returned (.bool q) ∧ Below wz.heap.size wz w') := Lib.hid fun wz hz => by
    rw [HCP.out, HCQ.out, hq]; exact refSame_any A n c B m d cf A' n' c' B' m' d' cg wz (HRC.out.below (Below.thn HB9.out hz)) (HRC'.out.below (Below.thn HB9.out hz))
  have C67 : Hid (∀ wz, Below w9.heap.size w9 wz → Calls Try.prog 26 #[confV A n c B m d cp, confV A n c B m d cp] wz fun e w' => e = .returned (.bool true) ∧ Below wz.heap.size wz w') := Lib.hid fun wz hz => by
    have := SameW_any A n c B m d cf A n c B m d cf wz (HRC.out.below (Below.thn HB9.out hz)) (HRC.out.below (Below.thn HB9.out hz))
    rw [decide_eq_true (rfl : cf = cf), ← HCP.out] at this
    exact this
  have C72 : Hid (∀ wz, Below w9.heap.size w9 wz → Calls Try.prog 27 #[.slice X N cx, .slice Y N cy] wz fun e w' => e = .returned (.bool true) ∧ Below wz.heap.size wz w') := Lib.hid fun wz hz => by
    refine (bytesEqual_any X N cx x0 Y N cy x0 wz (HX9.out.below hz) hx1 (HY9.out.below hz) hy1).mono ?_
    rintro e w' ⟨rfl, rfl⟩
    exact ⟨by rw [decide_eq_true (rfl : x0 = x0)], Below.refl _ _⟩
  have C82 : Hid (∀ wz, Below w9.heap.size w9 wz → Calls Try.prog 31 #[confV Au nu cu Bu mu du up, confV Av nv cv Bv mv dv up] wz fun e w' => e = .returned (.bool true) ∧ Below wz.heap.size wz w') := Lib.hid fun wz hz => by
    have := refSame_any Au nu cu Bu mu du pc Av nv cv Bv mv dv pc wz (HRU.out.below hz) (HRV.out.below hz)
    rw [decide_eq_true (rfl : pc = pc), ← HUP.out] at this
    exact this
  clear hrv hb hbx hcell hw9 hv K4 HC7 HB7 HX7 HY7 HU7 hu9 hck hq
  go_wp2_with fail
  rw [← HW9.out, ← HVV.out]
  refine wp_region_flow (by kernel_rfl) (MyF A n c B m d cp A' n' c' B' m' d' cq Au nu cu Bu mu du Av nv cv Bv mv dv up g gh gu gv X Y N cx cy e0 ge ck q) (MyF.below A n c B m d cp A' n' c' B' m' d' cq Au nu cu Bu mu du Av nv cv Bv mv dv up g gh gu gv X Y N cx cy e0 ge ck q) (by kernel_rfl) (by kernel_rfl) ?_ ?_
  case refine_1 =>
    intro i o ho ρ y w2 hb2 hreg hn hf hyb hyn
    have hi := (Array.getElem?_eq_some_iff.1 ho).1
    rcases Nat.lt_or_ge i 40 with hi2 | hi2
    case inr => simp at hi; omega
    obtain rfl | rfl | rfl | rfl | rfl | rfl | rfl | rfl | rfl | rfl | rfl | rfl | rfl | rfl | rfl | rfl | rfl | rfl | rfl | rfl | rfl | rfl | rfl | rfl | rfl | rfl | rfl | rfl | rfl | rfl | rfl | rfl | rfl | rfl | rfl | rfl | rfl | rfl | rfl | rfl : i = 0 ∨ i = 1 ∨ i = 2 ∨ i = 3 ∨ i = 4 ∨ i = 5 ∨ i = 6 ∨ i = 7 ∨ i = 8 ∨ i = 9 ∨ i = 10 ∨ i = 11 ∨ i = 12 ∨ i = 13 ∨ i = 14 ∨ i = 15 ∨ i = 16 ∨ i = 17 ∨ i = 18 ∨ i = 19 ∨ i = 20 ∨ i = 21 ∨ i = 22 ∨ i = 23 ∨ i = 24 ∨ i = 25 ∨ i = 26 ∨ i = 27 ∨ i = 28 ∨ i = 29 ∨ i = 30 ∨ i = 31 ∨ i = 32 ∨ i = 33 ∨ i = 34 ∨ i = 35 ∨ i = 36 ∨ i = 37 ∨ i = 38 ∨ i = 39 := by omega
    · cases ho
      rw [if_pos (show Region.wanted _ y = true from rfl)]
      have f3 : ρ (.tmp 3) = .pointer (some ⟨g, 0, none⟩) := hf 3 (by kernel_rfl)
      have k0 := cell_keep hb2 GA.out.1
      have k1 := cell_keep hb2 GA.out.2.1
      have k2 := cell_keep hb2 GA.out.2.2
      exact does_ok (v := confV A n c B m d cp) (w' := w2) (by simp [go_sem, hreg.const, f3, k0, k1, k2]) ⟨rfl, Below.refl _ _⟩
    · cases ho
      rw [if_pos (show Region.wanted _ y = true from rfl)]
      have f50 : ρ (.tmp 50) = confV A n c B m d cp := hn 0 _ 50 rfl (by kernel_rfl) rfl
      refine does_enter (f := 20) (args := #[confV A n c B m d cp]) (w' := w2) (by simp [go_sem, hreg.func, hreg.const, f50]) ?_
      refine (C51.out w2 hb2).mono ?_
      rintro e w' ⟨rfl, hb⟩
      exact ⟨_, rfl, rfl, hb⟩
    · cases ho
      rw [if_pos (show Region.wanted _ y = true from rfl)]
      have f3 : ρ (.tmp 3) = .pointer (some ⟨g, 0, none⟩) := hf 3 (by kernel_rfl)
      have k0 := cell_keep hb2 GA.out.1
      have k1 := cell_keep hb2 GA.out.2.1
      have k2 := cell_keep hb2 GA.out.2.2
      exact does_ok (v := confV A n c B m d cp) (w' := w2) (by simp [go_sem, hreg.const, f3, k0, k1, k2]) ⟨rfl, Below.refl _ _⟩
    · cases ho
      rw [if_pos (show Region.wanted _ y = true from rfl)]
      have f52 : ρ (.tmp 52) = confV A n c B m d cp := hn 2 _ 52 rfl (by kernel_rfl) rfl
      refine does_enter (f := 30) (args := #[confV A n c B m d cp]) (w' := w2) (by simp [go_sem, hreg.func, hreg.const, f52]) ?_
      refine (C53.out w2 hb2).mono ?_
      rintro e w' ⟨rfl, hb⟩
      exact ⟨_, rfl, rfl, hb⟩
    · cases ho
      rw [if_pos (show Region.wanted _ y = true from rfl)]
      have f51 : ρ (.tmp 51) = .int .i64 ck := hn 1 _ 51 rfl (by kernel_rfl) rfl
      have f53 : ρ (.tmp 53) = .int .i64 ck := hn 3 _ 53 rfl (by kernel_rfl) rfl
      exact does_ok (v := .bool true) (w' := w2) (by simp [go_sem, hreg.const, f51, f53]) ⟨rfl, Below.refl _ _⟩
    · cases ho
      rw [if_pos (show Region.wanted _ y = true from rfl)]
      have f54 : ρ (.tmp 54) = .bool true := hn 4 _ 54 rfl (by kernel_rfl) rfl
      exact ⟨f54, Below.refl _ _⟩
    · cases ho
      rw [if_pos (show Region.wanted _ y = true from by simp [Region.wanted, hyb 5 _ _ _ rfl rfl (hn 5 _ _ rfl (by kernel_rfl) rfl)])]
      have f3 : ρ (.tmp 3) = .pointer (some ⟨g, 0, none⟩) := hf 3 (by kernel_rfl)
      have k0 := cell_keep hb2 GA.out.1
      have k1 := cell_keep hb2 GA.out.2.1
      have k2 := cell_keep hb2 GA.out.2.2
      exact does_ok (v := confV A n c B m d cp) (w' := w2) (by simp [go_sem, hreg.const, f3, k0, k1, k2]) ⟨rfl, Below.refl _ _⟩
    · cases ho
      rw [if_pos (show Region.wanted _ y = true from by simp [Region.wanted, hyb 5 _ _ _ rfl rfl (hn 5 _ _ rfl (by kernel_rfl) rfl)])]
      have f4 : ρ (.tmp 4) = .pointer (some ⟨gh, 0, none⟩) := hf 4 (by kernel_rfl)
      have k0 := cell_keep hb2 GB.out.1
      have k1 := cell_keep hb2 GB.out.2.1
      have k2 := cell_keep hb2 GB.out.2.2
      exact does_ok (v := confV A' n' c' B' m' d' cq) (w' := w2) (by simp [go_sem, hreg.const, f4, k0, k1, k2]) ⟨rfl, Below.refl _ _⟩
    · cases ho
      rw [if_pos (show Region.wanted _ y = true from by simp [Region.wanted, hyb 5 _ _ _ rfl rfl (hn 5 _ _ rfl (by kernel_rfl) rfl)])]
      have f56 : ρ (.tmp 56) = confV A n c B m d cp := hn 6 _ 56 rfl (by kernel_rfl) rfl
      have f57 : ρ (.tmp 57) = confV A' n' c' B' m' d' cq := hn 7 _ 57 rfl (by kernel_rfl) rfl
      refine does_enter (f := 26) (args := #[confV A n c B m d cp, confV A' n' c' B' m' d' cq]) (w' := w2) (by simp [go_sem, hreg.func, hreg.const, f56, f57]) ?_
      refine (C58.out w2 hb2).mono ?_
      rintro e w' ⟨rfl, hb⟩
      exact ⟨_, rfl, rfl, hb⟩
    · cases ho
      rw [if_pos (show Region.wanted _ y = true from by simp [Region.wanted, hyb 5 _ _ _ rfl rfl (hn 5 _ _ rfl (by kernel_rfl) rfl)])]
      have f3 : ρ (.tmp 3) = .pointer (some ⟨g, 0, none⟩) := hf 3 (by kernel_rfl)
      have k0 := cell_keep hb2 GA.out.1
      have k1 := cell_keep hb2 GA.out.2.1
      have k2 := cell_keep hb2 GA.out.2.2
      exact does_ok (v := confV A n c B m d cp) (w' := w2) (by simp [go_sem, hreg.const, f3, k0, k1, k2]) ⟨rfl, Below.refl _ _⟩
    · cases ho
      rw [if_pos (show Region.wanted _ y = true from by simp [Region.wanted, hyb 5 _ _ _ rfl rfl (hn 5 _ _ rfl (by kernel_rfl) rfl)])]
      have f4 : ρ (.tmp 4) = .pointer (some ⟨gh, 0, none⟩) := hf 4 (by kernel_rfl)
      have k0 := cell_keep hb2 GB.out.1
      have k1 := cell_keep hb2 GB.out.2.1
      have k2 := cell_keep hb2 GB.out.2.2
      exact does_ok (v := confV A' n' c' B' m' d' cq) (w' := w2) (by simp [go_sem, hreg.const, f4, k0, k1, k2]) ⟨rfl, Below.refl _ _⟩
    · cases ho
      rw [if_pos (show Region.wanted _ y = true from by simp [Region.wanted, hyb 5 _ _ _ rfl rfl (hn 5 _ _ rfl (by kernel_rfl) rfl)])]
      have f59 : ρ (.tmp 59) = confV A n c B m d cp := hn 9 _ 59 rfl (by kernel_rfl) rfl
      have f60 : ρ (.tmp 60) = confV A' n' c' B' m' d' cq := hn 10 _ 60 rfl (by kernel_rfl) rfl
      refine does_enter (f := 31) (args := #[confV A n c B m d cp, confV A' n' c' B' m' d' cq]) (w' := w2) (by simp [go_sem, hreg.func, hreg.const, f59, f60]) ?_
      refine (C61.out w2 hb2).mono ?_
      rintro e w' ⟨rfl, hb⟩
      exact ⟨_, rfl, rfl, hb⟩
    · cases ho
      rw [if_pos (show Region.wanted _ y = true from by simp [Region.wanted, hyb 5 _ _ _ rfl rfl (hn 5 _ _ rfl (by kernel_rfl) rfl)])]
      have f58 : ρ (.tmp 58) = .bool q := hn 8 _ 58 rfl (by kernel_rfl) rfl
      have f61 : ρ (.tmp 61) = .bool q := hn 11 _ 61 rfl (by kernel_rfl) rfl
      exact does_ok (v := .bool true) (w' := w2) (by simp [go_sem, hreg.const, f58, f61]) ⟨rfl, Below.refl _ _⟩
    · cases ho
      rw [if_pos (show Region.wanted _ y = true from rfl)]
      have f55 : ρ (.tmp 55) = .bool true := hn 5 _ 55 rfl (by kernel_rfl) rfl
      have f62 : ρ (.tmp 62) = .bool true := hn 12 _ 62 rfl (by kernel_rfl) rfl
      exact does_ok (v := .bool true) (w' := w2) (by simp [go_sem, hreg.const, f55, f62]) ⟨rfl, Below.refl _ _⟩
    · cases ho
      rw [if_pos (show Region.wanted _ y = true from rfl)]
      have f63 : ρ (.tmp 63) = .bool true := hn 13 _ 63 rfl (by kernel_rfl) rfl
      exact ⟨f63, Below.refl _ _⟩
    · cases ho
      rw [if_pos (show Region.wanted _ y = true from by simp [Region.wanted, hyb 14 _ _ _ rfl rfl (hn 14 _ _ rfl (by kernel_rfl) rfl)])]
      have f3 : ρ (.tmp 3) = .pointer (some ⟨g, 0, none⟩) := hf 3 (by kernel_rfl)
      have k0 := cell_keep hb2 GA.out.1
      have k1 := cell_keep hb2 GA.out.2.1
      have k2 := cell_keep hb2 GA.out.2.2
      exact does_ok (v := confV A n c B m d cp) (w' := w2) (by simp [go_sem, hreg.const, f3, k0, k1, k2]) ⟨rfl, Below.refl _ _⟩
    · cases ho
      rw [if_pos (show Region.wanted _ y = true from by simp [Region.wanted, hyb 14 _ _ _ rfl rfl (hn 14 _ _ rfl (by kernel_rfl) rfl)])]
      have f3 : ρ (.tmp 3) = .pointer (some ⟨g, 0, none⟩) := hf 3 (by kernel_rfl)
      have k0 := cell_keep hb2 GA.out.1
      have k1 := cell_keep hb2 GA.out.2.1
      have k2 := cell_keep hb2 GA.out.2.2
      exact does_ok (v := confV A n c B m d cp) (w' := w2) (by simp [go_sem, hreg.const, f3, k0, k1, k2]) ⟨rfl, Below.refl _ _⟩
    · cases ho
      rw [if_pos (show Region.wanted _ y = true from by simp [Region.wanted, hyb 14 _ _ _ rfl rfl (hn 14 _ _ rfl (by kernel_rfl) rfl)])]
      have f65 : ρ (.tmp 65) = confV A n c B m d cp := hn 15 _ 65 rfl (by kernel_rfl) rfl
      have f66 : ρ (.tmp 66) = confV A n c B m d cp := hn 16 _ 66 rfl (by kernel_rfl) rfl
      refine does_enter (f := 26) (args := #[confV A n c B m d cp, confV A n c B m d cp]) (w' := w2) (by simp [go_sem, hreg.func, hreg.const, f65, f66]) ?_
      refine (C67.out w2 hb2).mono ?_
      rintro e w' ⟨rfl, hb⟩
      exact ⟨_, rfl, rfl, hb⟩
    · cases ho
      rw [if_pos (show Region.wanted _ y = true from rfl)]
      have f64 : ρ (.tmp 64) = .bool true := hn 14 _ 64 rfl (by kernel_rfl) rfl
      have f67 : ρ (.tmp 67) = .bool true := hn 17 _ 67 rfl (by kernel_rfl) rfl
      exact does_ok (v := .bool true) (w' := w2) (by simp [go_sem, hreg.const, f64, f67]) ⟨rfl, Below.refl _ _⟩
    · cases ho
      rw [if_pos (show Region.wanted _ y = true from rfl)]
      have f68 : ρ (.tmp 68) = .bool true := hn 18 _ 68 rfl (by kernel_rfl) rfl
      exact ⟨f68, Below.refl _ _⟩
    · cases ho
      rw [if_pos (show Region.wanted _ y = true from by simp [Region.wanted, hyb 19 _ _ _ rfl rfl (hn 19 _ _ rfl (by kernel_rfl) rfl)])]
      have f7 : ρ (.tmp 7) = .slice X N cx := hf 7 (by kernel_rfl)
      exact ⟨f7, Below.refl _ _⟩
    · cases ho
      rw [if_pos (show Region.wanted _ y = true from by simp [Region.wanted, hyb 19 _ _ _ rfl rfl (hn 19 _ _ rfl (by kernel_rfl) rfl)])]
      have f9 : ρ (.tmp 9) = .slice Y N cy := hf 9 (by kernel_rfl)
      exact ⟨f9, Below.refl _ _⟩
    · cases ho
      rw [if_pos (show Region.wanted _ y = true from by simp [Region.wanted, hyb 19 _ _ _ rfl rfl (hn 19 _ _ rfl (by kernel_rfl) rfl)])]
      have f70 : ρ (.tmp 70) = .slice X N cx := hn 20 _ 70 rfl (by kernel_rfl) rfl
      have f71 : ρ (.tmp 71) = .slice Y N cy := hn 21 _ 71 rfl (by kernel_rfl) rfl
      refine does_enter (f := 27) (args := #[.slice X N cx, .slice Y N cy]) (w' := w2) (by simp [go_sem, hreg.func, hreg.const, f70, f71]) ?_
      refine (C72.out w2 hb2).mono ?_
      rintro e w' ⟨rfl, hb⟩
      exact ⟨_, rfl, rfl, hb⟩
    · cases ho
      rw [if_pos (show Region.wanted _ y = true from rfl)]
      have f69 : ρ (.tmp 69) = .bool true := hn 19 _ 69 rfl (by kernel_rfl) rfl
      have f72 : ρ (.tmp 72) = .bool true := hn 22 _ 72 rfl (by kernel_rfl) rfl
      exact does_ok (v := .bool true) (w' := w2) (by simp [go_sem, hreg.const, f69, f72]) ⟨rfl, Below.refl _ _⟩
    · cases ho
      rw [if_pos (show Region.wanted _ y = true from rfl)]
      have f73 : ρ (.tmp 73) = .bool true := hn 23 _ 73 rfl (by kernel_rfl) rfl
      exact ⟨f73, Below.refl _ _⟩
    · cases ho
      rw [if_pos (show Region.wanted _ y = true from by simp [Region.wanted, hyb 24 _ _ _ rfl rfl (hn 24 _ _ rfl (by kernel_rfl) rfl)])]
      have f8 : ρ (.tmp 8) = .int .i64 e0 := hf 8 (by kernel_rfl)
      exact ⟨f8, Below.refl _ _⟩
    · cases ho
      rw [if_pos (show Region.wanted _ y = true from by simp [Region.wanted, hyb 24 _ _ _ rfl rfl (hn 24 _ _ rfl (by kernel_rfl) rfl)])]
      have f10 : ρ (.tmp 10) = .int .i64 e0 := hf 10 (by kernel_rfl)
      exact ⟨f10, Below.refl _ _⟩
    · cases ho
      rw [if_pos (show Region.wanted _ y = true from by simp [Region.wanted, hyb 24 _ _ _ rfl rfl (hn 24 _ _ rfl (by kernel_rfl) rfl)])]
      have f75 : ρ (.tmp 75) = .int .i64 e0 := hn 25 _ 75 rfl (by kernel_rfl) rfl
      have f76 : ρ (.tmp 76) = .int .i64 e0 := hn 26 _ 76 rfl (by kernel_rfl) rfl
      exact does_ok (v := .bool true) (w' := w2) (by simp [go_sem, hreg.const, f75, f76]) ⟨rfl, Below.refl _ _⟩
    · cases ho
      rw [if_pos (show Region.wanted _ y = true from rfl)]
      have f74 : ρ (.tmp 74) = .bool true := hn 24 _ 74 rfl (by kernel_rfl) rfl
      have f77 : ρ (.tmp 77) = .bool true := hn 27 _ 77 rfl (by kernel_rfl) rfl
      exact does_ok (v := .bool true) (w' := w2) (by simp [go_sem, hreg.const, f74, f77]) ⟨rfl, Below.refl _ _⟩
    · cases ho
      rw [if_pos (show Region.wanted _ y = true from rfl)]
      have f78 : ρ (.tmp 78) = .bool true := hn 28 _ 78 rfl (by kernel_rfl) rfl
      exact ⟨f78, Below.refl _ _⟩
    · cases ho
      rw [if_pos (show Region.wanted _ y = true from by simp [Region.wanted, hyb 29 _ _ _ rfl rfl (hn 29 _ _ rfl (by kernel_rfl) rfl)])]
      have f11 : ρ (.tmp 11) = .pointer (some ⟨gu, 0, none⟩) := hf 11 (by kernel_rfl)
      have k0 := cell_keep hb2 GU.out.1
      have k1 := cell_keep hb2 GU.out.2.1
      have k2 := cell_keep hb2 GU.out.2.2
      exact does_ok (v := confV Au nu cu Bu mu du up) (w' := w2) (by simp [go_sem, hreg.const, f11, k0, k1, k2]) ⟨rfl, Below.refl _ _⟩
    · cases ho
      rw [if_pos (show Region.wanted _ y = true from by simp [Region.wanted, hyb 29 _ _ _ rfl rfl (hn 29 _ _ rfl (by kernel_rfl) rfl)])]
      have f13 : ρ (.tmp 13) = .pointer (some ⟨gv, 0, none⟩) := hf 13 (by kernel_rfl)
      have k0 := cell_keep hb2 GV.out.1
      have k1 := cell_keep hb2 GV.out.2.1
      have k2 := cell_keep hb2 GV.out.2.2
      exact does_ok (v := confV Av nv cv Bv mv dv up) (w' := w2) (by simp [go_sem, hreg.const, f13, k0, k1, k2]) ⟨rfl, Below.refl _ _⟩
    · cases ho
      rw [if_pos (show Region.wanted _ y = true from by simp [Region.wanted, hyb 29 _ _ _ rfl rfl (hn 29 _ _ rfl (by kernel_rfl) rfl)])]
      have f80 : ρ (.tmp 80) = confV Au nu cu Bu mu du up := hn 30 _ 80 rfl (by kernel_rfl) rfl
      have f81 : ρ (.tmp 81) = confV Av nv cv Bv mv dv up := hn 31 _ 81 rfl (by kernel_rfl) rfl
      refine does_enter (f := 31) (args := #[confV Au nu cu Bu mu du up, confV Av nv cv Bv mv dv up]) (w' := w2) (by simp [go_sem, hreg.func, hreg.const, f80, f81]) ?_
      refine (C82.out w2 hb2).mono ?_
      rintro e w' ⟨rfl, hb⟩
      exact ⟨_, rfl, rfl, hb⟩
    · cases ho
      rw [if_pos (show Region.wanted _ y = true from rfl)]
      have f79 : ρ (.tmp 79) = .bool true := hn 29 _ 79 rfl (by kernel_rfl) rfl
      have f82 : ρ (.tmp 82) = .bool true := hn 32 _ 82 rfl (by kernel_rfl) rfl
      exact does_ok (v := .bool true) (w' := w2) (by simp [go_sem, hreg.const, f79, f82]) ⟨rfl, Below.refl _ _⟩
    · cases ho
      rw [if_pos (show Region.wanted _ y = true from rfl)]
      have f83 : ρ (.tmp 83) = .bool true := hn 33 _ 83 rfl (by kernel_rfl) rfl
      exact ⟨f83, Below.refl _ _⟩
    · cases ho
      rw [if_pos (show Region.wanted _ y = true from by simp [Region.wanted, hyb 34 _ _ _ rfl rfl (hn 34 _ _ rfl (by kernel_rfl) rfl)])]
      have f12 : ρ (.tmp 12) = .int .i64 ge := hf 12 (by kernel_rfl)
      exact ⟨f12, Below.refl _ _⟩
    · cases ho
      rw [if_pos (show Region.wanted _ y = true from by simp [Region.wanted, hyb 34 _ _ _ rfl rfl (hn 34 _ _ rfl (by kernel_rfl) rfl)])]
      have f14 : ρ (.tmp 14) = .int .i64 ge := hf 14 (by kernel_rfl)
      exact ⟨f14, Below.refl _ _⟩
    · cases ho
      rw [if_pos (show Region.wanted _ y = true from by simp [Region.wanted, hyb 34 _ _ _ rfl rfl (hn 34 _ _ rfl (by kernel_rfl) rfl)])]
      have f85 : ρ (.tmp 85) = .int .i64 ge := hn 35 _ 85 rfl (by kernel_rfl) rfl
      have f86 : ρ (.tmp 86) = .int .i64 ge := hn 36 _ 86 rfl (by kernel_rfl) rfl
      exact does_ok (v := .bool true) (w' := w2) (by simp [go_sem, hreg.const, f85, f86]) ⟨rfl, Below.refl _ _⟩
    · cases ho
      rw [if_pos (show Region.wanted _ y = true from rfl)]
      have f84 : ρ (.tmp 84) = .bool true := hn 34 _ 84 rfl (by kernel_rfl) rfl
      have f87 : ρ (.tmp 87) = .bool true := hn 37 _ 87 rfl (by kernel_rfl) rfl
      exact does_ok (v := .bool true) (w' := w2) (by simp [go_sem, hreg.const, f84, f87]) ⟨rfl, Below.refl _ _⟩
    · cases ho
      rw [if_pos (show Region.wanted _ y = true from rfl)]
      have f88 : ρ (.tmp 88) = .bool true := hn 38 _ 88 rfl (by kernel_rfl) rfl
      exact ⟨f88, Below.refl _ _⟩
  case refine_2 =>
    intro a w2 hb2 hd hs hfacts hrest
    have q6 : a.tmps.getD 6 undef = .bool true := hfacts 39 _ 6 rfl rfl
    have ha := frame_of hd hs hrest [6, 50, 51, 52, 53, 54, 55, 56, 57, 58, 59, 60, 61, 62, 63, 64, 65, 66, 67, 68, 69, 70, 71, 72, 73, 74, 75, 76, 77, 78, 79, 80, 81, 82, 83, 84, 85, 86, 87, 88] (by kernel_rfl)
    simp only [q6, List.foldl, List.setIfInBounds_toArray, List.set_cons_succ, List.set_cons_zero] at ha
    clear q6 hd hs hfacts hrest
    generalize a.tmps.getD = gg at ha
    subst ha
    have HBE := Lib.hid (Below.thn HB9.out hb2)
    clear hb2 C51 C53 C58 C61 C67 C72 C82
    go_wp2
    go_ret
    exact ⟨rfl, HBE.out⟩
end Go.Proofs.Ytbmdjmnjbflfeaa
