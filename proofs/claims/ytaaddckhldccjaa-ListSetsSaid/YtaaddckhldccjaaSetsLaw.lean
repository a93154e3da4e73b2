/- ListSets. -/
import Derived.Test.YtaaddckhldccjaaSets
import Derived.Laws.BitsAllLaws
namespace Go.Proofs.Ytaaddckhldccjaa
open Go.RowKit
set_option linter.unusedVariables false
set_option linter.unusedSimpArgs false

theorem few_uu (A : Option Addr) (n c : Nat) (ls : List UV) (W : World) (h : RdUU W A n ls) :
    Calls Try.prog 13 #[.slice A n c] W fun e w' => e = .returned (.bool (fewB ls)) ∧ Below W.heap.size W w' := by
  refine (few_any A n c ls W h).mono ?_
  rintro e w' ⟨he, rfl⟩
  exact ⟨he, Below.refl _ _⟩
theorem few_n {ls : List UV} (h : fewB ls = true) : ls.length ≤ 12 ∧ ∀ x ∈ ls, x.n ≤ 120 := of_decide_eq_true h
theorem Clone_uv (x : UV) (W : World) (hx : x.ok W) (h : x.l.length ≤ 1000000) :
    Calls Try.prog 21 #[.slice x.A x.n x.c] W fun e w' => ∃ s : UV, e = .returned (.slice s.A s.n s.c) ∧ s.ok w' ∧ s.l = x.l ∧ Below W.heap.size W w' := by
  refine (CloneU_any x.A x.n x.c x.l W hx.rd.rd (by rw [← hx.rd.len]; exact h) hx.nc hx.c2).mono ?_
  rintro e w' ⟨v, rfl, ho, hb⟩
  obtain ⟨s, rfl, hs, e2⟩ := OwnU.uv (show OwnU w' W.heap.size v x.l from ⟨ho, hx.rd.lt⟩)
  exact ⟨s, rfl, hs, e2, hb⟩
theorem refAnd_uu (A : Option Addr) (n c : Nat) (ls : List UV) (W : World) (h : RdUU W A n ls) (hs : smallU ls) :
    Calls Try.prog 14 #[.slice A n c] W fun e w' => Res W (allE ls) (· = andX ls) e w' := by
  refine (refAnd_any A n c ls W h (by rw [← h.len]; exact Nat.le_trans hs.1 (by decide)) fun x hx => by rw [← (h.ok x hx).rd.len]; exact Nat.le_trans (hs.2 x hx) (by decide)).mono ?_
  rintro e w' ⟨v, he, ho, hb⟩
  exact Res.of (Below.refl _ _) he ho rfl hb
theorem refOr_uu (A : Option Addr) (n c : Nat) (ls : List UV) (W : World) (h : RdUU W A n ls) (hs : smallU ls) :
    Calls Try.prog 24 #[.slice A n c] W fun e w' => Res W (allE ls) (OrR ls) e w' := by
  refine (refOr_any A n c ls W h (by rw [← h.len]; exact Nat.le_trans hs.1 (by decide)) fun x hx => by rw [← (h.ok x hx).rd.len]; exact hs.2 x hx).mono ?_
  rintro e w' ⟨v, he, ⟨r, ho, hr⟩, hb⟩
  exact Res.of (Below.refl _ _) he ho hr hb
theorem refNot_uv (x y : UV) (W : World) (hx : x.ok W) (hy : y.ok W) (hs : x.l.length ≤ 1000) :
    Calls Try.prog 26 #[.slice x.A x.n x.c, .slice y.A y.n y.c] W fun e w' => Res W (notE x.l y.l) (· = notX x.l y.l) e w' := by
  refine (refNot_any x.A x.n x.c x.l y.A y.n y.c y.l W hx.rd hy.rd hx.nc hx.c2 hy.nc hy.c2 (by rw [← hx.rd.len]; exact Nat.le_trans hs (by decide))).mono ?_
  rintro e w' ⟨v, he, ho, hb⟩
  exact Res.of (Below.refl _ _) he ho rfl hb
theorem refCheck_uv (x : UV) (W : World) (hx : x.ok W) :
    Calls Try.prog 28 #[.slice x.A x.n x.c] W fun e w' => e = .returned (.int .i64 (upE x.l)) ∧ Below W.heap.size W w' := refCheckL_any x.A x.n x.c x.l W hx.rd
theorem orR_same {ls : List UV} {a b : List Nat} (ha : OrR ls a) (hb : OrR ls b) : a = b := by
  by_cases h : allUp ls
  · exact up_ext (ha.1 h).1 (hb.1 h).1 fun d => by rw [(ha.1 h).2, (hb.1 h).2]
  · rw [ha.2 h, hb.2 h]
/-- A row of numbers that may be written, from block M on. -/
def RowW (M : Nat) (W : World) (x : UV) : Prop := x.n ≤ 9223372036854775807 ∧ ∀ j, j < x.n → ∃ ad, x.A = some ad ∧ M ≤ (ad.add j).block ∧ ∃ z : Nat, z ≤ 4294967295 ∧ W.cell? (ad.add j) = some (.int .u32 (z : Nat)) ∧ W.frozen? (ad.add j) = false
theorem RowW.of {M base : Nat} {W : World} {x : UV} (h : OwnU W base (.slice x.A x.n x.c) x.l) (hM : M ≤ base) : RowW M W x := by
  obtain ⟨A, c, e, _, _, h3⟩ := h.1.rd
  injection e with e1 e2 e3
  refine ⟨by rw [e2]; exact h3.max, fun j hj => ?_⟩
  obtain ⟨g, c', e, hg, _, _, _⟩ := h.1.place (by omega)
  injection e with e4 e5 e6
  have hl : j < x.l.length := by omega
  have h1 := h.1
  rw [e4, e2] at h1
  obtain ⟨k1, k2⟩ := h1.cellAt j hl
  rw [e4]
  exact ⟨_, rfl, by rw [add_lit0]; exact Nat.le_trans hM hg, x.l[j], by have := h.2 _ (List.getElem_mem hl); omega, by rw [add_lit0]; exact k1, by rw [add_lit0]; exact k2⟩
theorem RowW.below {M : Nat} {W W' : World} {x : UV} (h : RowW M W x) (hb : Below W.heap.size W W') : RowW M W' x := ⟨h.1, fun j hj => by
  obtain ⟨ad, e, hM, z, hz, k1, k2⟩ := h.2 j hj
  refine ⟨ad, e, hM, z, hz, cell_keep hb k1, ?_⟩
  have hlt : (ad.add j).block < W.heap.size := by
    unfold World.cell? at k1
    cases hh : W.heap[(ad.add j).block]? with
    | none => rw [hh] at k1; simp at k1
    | some o => exact (Array.getElem?_eq_some_iff.1 hh).1
  have h1 := hb.block _ hlt
  unfold World.frozen? at k2 ⊢
  rw [h1]
  exact k2⟩
theorem RowW.set {M : Nat} {W : World} {x : UV} (h : RowW M W x) {p : Addr} {u : Value} (hp : W.cell? p = some u) (z' : Nat) (hz' : z' ≤ 4294967295) : RowW M (W.setCell p (.int .u32 (z' : Nat))) x := ⟨h.1, fun j hj => by
  obtain ⟨ad, e, hM, z, hz, k1, k2⟩ := h.2 j hj
  by_cases hpj : p = ad.add j
  · refine ⟨ad, e, hM, z', hz', ?_, by rw [World.frozen?_setCell]; exact k2⟩
    rw [← hpj]
    exact World.cell?_setCell_same _ _ _ hp
  · exact ⟨ad, e, hM, z, hz, by rw [World.cell?_setCell_other (h := hpj)]; exact k1, by rw [World.frozen?_setCell]; exact k2⟩⟩
/-- Three rows that are gone through. -/
structure LpW (wM W : World) (T : Nat) (a b c : UV) (P : World → Prop) : Prop where
  be : Below wM.heap.size wM W
  t0 : W.cell? ⟨T, 0, none⟩ = some (.slice a.A a.n a.c)
  t1 : W.cell? ⟨T, 1, none⟩ = some (.slice b.A b.n b.c)
  t2 : W.cell? ⟨T, 2, none⟩ = some (.slice c.A c.n c.c)
  r0 : RowW wM.heap.size W a
  r1 : RowW wM.heap.size W b
  r2 : RowW wM.heap.size W c
  p : P W
theorem LpW.new {wM W : World} {a b c : UV} (h : Below wM.heap.size wM W) (r0 : RowW wM.heap.size W a) (r1 : RowW wM.heap.size W b) (r2 : RowW wM.heap.size W c) :
    LpW wM (W.alloc (.cells #[.slice a.A a.n a.c, .slice b.A b.n b.c, .slice c.A c.n c.c] 38)) W.heap.size a b c (fun _ => True) := by
  have hb : Below W.heap.size W (W.alloc (.cells #[.slice a.A a.n a.c, .slice b.A b.n b.c, .slice c.A c.n c.c] 38)) := (Below.refl _ _).alloc (Nat.le_refl _) _
  have hc := fun j => World.cell?_alloc_mark W #[.slice a.A a.n a.c, .slice b.A b.n b.c, .slice c.A c.n c.c] 38 (0, 0) j
  exact ⟨Below.thn h hb, hc 0, hc 1, hc 2, r0.below hb, r1.below hb, r2.below hb, trivial⟩
theorem LpW.at {wM W : World} {T : Nat} {a b c : UV} {P : World → Prop} (h : LpW wM W T a b c P) {k : Nat} (hk : k < 3) : ∃ z : UV, W.cell? ⟨T, k, none⟩ = some (.slice z.A z.n z.c) ∧ RowW wM.heap.size W z := by
  match k, hk with
  | 0, _ => exact ⟨a, h.t0, h.r0⟩
  | 1, _ => exact ⟨b, h.t1, h.r1⟩
  | 2, _ => exact ⟨c, h.t2, h.r2⟩
theorem LpW.more {wM W : World} {T : Nat} {a b c z : UV} {P : World → Prop} (h : LpW wM W T a b c P) (hz : RowW wM.heap.size W z) : LpW wM W T a b c (fun W => RowW wM.heap.size W z) := ⟨h.be, h.t0, h.t1, h.t2, h.r0, h.r1, h.r2, hz⟩
theorem LpW.less {wM W : World} {T : Nat} {a b c : UV} {P : World → Prop} (h : LpW wM W T a b c P) : LpW wM W T a b c (fun _ => True) := ⟨h.be, h.t0, h.t1, h.t2, h.r0, h.r1, h.r2, trivial⟩
theorem LpW.small {wM W : World} {T : Nat} {a b c z : UV} (h : LpW wM W T a b c (fun W => RowW wM.heap.size W z)) : z.n ≤ 9223372036854775807 := h.p.1
theorem LpW.set {wM W : World} {T : Nat} {a b c z : UV} (h : LpW wM W T a b c (fun W => RowW wM.heap.size W z)) {p : Addr} {q : Nat} (hp : W.cell? p = some (.int .u32 (q : Nat))) (hM : wM.heap.size ≤ p.block) (z' : Nat) (hz' : z' ≤ 4294967295) :
    LpW wM (W.setCell p (.int .u32 (z' : Nat))) T a b c (fun W => RowW wM.heap.size W z) := by
  have far : ∀ (j : Nat) (u : UV), W.cell? ⟨T, j, none⟩ = some (.slice u.A u.n u.c) → (W.setCell p (.int .u32 (z' : Nat))).cell? ⟨T, j, none⟩ = some (.slice u.A u.n u.c) := fun j u hu => by
    rw [World.cell?_setCell_other (h := fun e => by rw [e, hu] at hp; cases hp)]
    exact hu
  exact ⟨h.be.setCell hM _, far 0 a h.t0, far 1 b h.t1, far 2 c h.t2, h.r0.set hp z' hz', h.r1.set hp z' hz', h.r2.set hp z' hz', h.p.set hp z' hz'⟩
theorem few_small {ls : List UV} (hok : ∀ x ∈ ls, x.l.length = x.n) (h : fewB ls = true) : smallU ls := by
  have := few_n h
  exact ⟨by omega, fun x hx => by rw [hok x hx]; exact Nat.le_trans (this.2 x hx) (by decide)⟩
set_option maxRecDepth 100000 in
set_option maxHeartbeats 8000000 in
theorem ListSets_any (A : Option Addr) (n c : Nat) (ls : List UV) (x y : UV) (w : World) (h : RdUU w A n ls) (hc : n ≤ c) (hc2 : c ≤ 9223372036854775807) (hx : x.ok w) (hy : y.ok w) :
    Calls Try.prog 5 #[.slice A n c, .slice x.A x.n x.c, .slice y.A y.n y.c] w fun e w' => e = .returned (.bool true) ∧ Below w.heap.size w w' := by
  have OR := Lib.hid h
  have OX := Lib.hid hx
  have OY := Lib.hid hy
  have HLn := Lib.hid h.len
  have HC := Lib.hid (And.intro hc hc2)
  have HB := Lib.hid (Below.refl w.heap.size w)
  obtain ⟨E, hE⟩ : ∃ E, E = allE ls := ⟨_, rfl⟩
  have HE := Lib.hid hE
  obtain ⟨EN, hEN⟩ : ∃ EN, EN = notE x.l y.l := ⟨_, rfl⟩
  have HEN := Lib.hid hEN
  obtain ⟨EC, hEC⟩ : ∃ EC, EC = upE x.l := ⟨_, rfl⟩
  have HEC := Lib.hid hEC
  clear h hx hy hE hEN hEC hc hc2
  go_enter Try.func5, Try.ntmps5
  have C := Lib.hid (live_any w)
  go_wp2_with fail
  refine C.out.mono ?_
  rintro e w1 ⟨rfl, hb⟩
  replace HB := Lib.hid (Below.thn HB.out hb)
  replace OR := Lib.hid (OR.out.below hb)
  replace OX := Lib.hid (OX.out.below hb)
  replace OY := Lib.hid (OY.out.below hb)
  clear C hb 
  have C := Lib.hid (few_uu A n c ls w1 OR.out)
  go_wp2_with fail
  refine C.out.mono ?_
  rintro e w2 ⟨rfl, hb⟩
  replace HB := Lib.hid (Below.thn HB.out hb)
  replace OR := Lib.hid (OR.out.below hb)
  replace OX := Lib.hid (OX.out.below hb)
  replace OY := Lib.hid (OY.out.below hb)
  clear C hb 
  by_cases hu : fewB ls = true
  case neg =>
    rw [Bool.not_eq_true] at hu
    rw [hu]
    clear hu
    have C9 := Lib.hid (live_any w2)
    go_wp2_with fail
    refine C9.out.mono ?_
    rintro e w99 ⟨rfl, hb⟩
    replace HB := Lib.hid (Below.thn HB.out hb)
    clear hb C9
    go_wp2
    go_ret
    exact ⟨rfl, HB.out⟩
  rw [hu]
  have HS := Lib.hid (few_small (fun x hx => (OR.out.ok x hx).rd.len) hu)
  have HXN := Lib.hid (few_n hu)
  clear hu
  have C := Lib.hid (few_lit [x, y] #[.slice x.A x.n x.c, .slice y.A y.n y.c] 2 w2 rfl rfl (by decide) (ok_2 OX.out OY.out))
  go_wp2_with fail
  refine C.out.mono ?_
  rintro e w3 ⟨rfl, hb⟩
  replace HB := Lib.hid (Below.thn HB.out hb)
  replace OR := Lib.hid (OR.out.below hb)
  replace OX := Lib.hid (OX.out.below hb)
  replace OY := Lib.hid (OY.out.below hb)
  clear C hb 
  by_cases hu : fewB [x, y] = true
  case neg =>
    rw [Bool.not_eq_true] at hu
    rw [hu]
    clear hu
    have C9 := Lib.hid (live_any w3)
    go_wp2_with fail
    refine C9.out.mono ?_
    rintro e w99 ⟨rfl, hb⟩
    replace HB := Lib.hid (Below.thn HB.out hb)
    clear hb C9
    go_wp2
    go_ret
    exact ⟨rfl, HB.out⟩
  rw [hu]
  have HF := Lib.hid (few_2 OX.out OY.out hu)
  clear hu
  have C := Lib.hid (Clone_uv x w3 OX.out (Nat.le_trans HF.out.1 (by decide)))
  go_wp2_with fail
  refine C.out.mono ?_
  rintro e w4 ⟨s, rfl, hso, hsl, hb⟩
  replace HB := Lib.hid (Below.thn HB.out hb)
  replace OR := Lib.hid (OR.out.below hb)
  replace OX := Lib.hid (OX.out.below hb)
  replace OY := Lib.hid (OY.out.below hb)
  have OS := Lib.hid hso
  have HSL := Lib.hid hsl
  clear C hb hso hsl
  have HB0 := HB
  have OX0 := OX
  have OS0 := OS
  replace HB := Lib.hid (Below.refl w4.heap.size w4)
  have HSz : Hid (w4.heap.size ≤ w4.heap.size) := Lib.hid HB.out.size
  have C := Lib.hid (And_uu A n c ls w4 OR.out HC.out.1 HC.out.2 HS.out)
  rw [← HE.out] at C
  go_wp2_with fail
  refine C.out.mono ?_
  rintro e w5 ⟨p1, rfl, ⟨hno, hnw⟩, hnr, hb⟩
  replace HB := Lib.hid (Below.thn HB.out hb)
  replace OR := Lib.hid (OR.out.below hb)
  replace OX := Lib.hid (OX.out.below hb)
  replace OY := Lib.hid (OY.out.below hb)
  have HP1 := Lib.hid hnr
  have OP1 := Lib.hid hno
  clear C hb hno hnr hnw HSz
  have HSz : Hid (w4.heap.size ≤ w5.heap.size) := Lib.hid HB.out.size
  have C := Lib.hid (refAnd_uu A n c ls w5 OR.out HS.out)
  rw [← HE.out] at C
  go_wp2_with fail
  refine C.out.mono ?_
  rintro e w6 ⟨p2, rfl, ⟨hno, hnw⟩, hnr, hb⟩
  replace HB := Lib.hid (Below.thn HB.out hb)
  replace OR := Lib.hid (OR.out.below hb)
  replace OX := Lib.hid (OX.out.below hb)
  replace OY := Lib.hid (OY.out.below hb)
  replace OP1 := Lib.hid (OP1.out.below hb)
  have HP2 := Lib.hid hnr
  have OP2 := Lib.hid hno
  clear C hb hno hnr hnw HSz
  have HSz : Hid (w4.heap.size ≤ w6.heap.size) := Lib.hid HB.out.size
  have C := Lib.hid (Or_uu A n c ls w6 OR.out HC.out.1 HC.out.2 HS.out)
  rw [← HE.out] at C
  go_wp2_with fail
  refine C.out.mono ?_
  rintro e w7 ⟨q1, rfl, ⟨hno, hnw⟩, hnr, hb⟩
  replace HB := Lib.hid (Below.thn HB.out hb)
  replace OR := Lib.hid (OR.out.below hb)
  replace OX := Lib.hid (OX.out.below hb)
  replace OY := Lib.hid (OY.out.below hb)
  replace OP1 := Lib.hid (OP1.out.below hb)
  replace OP2 := Lib.hid (OP2.out.below hb)
  have HQ1 := Lib.hid hnr
  have OQ1 := Lib.hid hno
  clear C hb hno hnr hnw HSz
  have HSz : Hid (w4.heap.size ≤ w7.heap.size) := Lib.hid HB.out.size
  have C := Lib.hid (refOr_uu A n c ls w7 OR.out HS.out)
  rw [← HE.out] at C
  go_wp2_with fail
  refine C.out.mono ?_
  rintro e w8 ⟨q2, rfl, ⟨hno, hnw⟩, hnr, hb⟩
  replace HB := Lib.hid (Below.thn HB.out hb)
  replace OR := Lib.hid (OR.out.below hb)
  replace OX := Lib.hid (OX.out.below hb)
  replace OY := Lib.hid (OY.out.below hb)
  replace OP1 := Lib.hid (OP1.out.below hb)
  replace OP2 := Lib.hid (OP2.out.below hb)
  replace OQ1 := Lib.hid (OQ1.out.below hb)
  have HQ2 := Lib.hid hnr
  have OQ2 := Lib.hid hno
  clear C hb hno hnr hnw HSz
  have HSz : Hid (w4.heap.size ≤ w8.heap.size) := Lib.hid HB.out.size
  have C := Lib.hid (Not_uv x y w8 OX.out OY.out (Nat.le_trans HF.out.1 (by decide)))
  rw [← HEN.out] at C
  go_wp2_with fail
  refine C.out.mono ?_
  rintro e w9 ⟨n1, rfl, ⟨hno, hnw⟩, hnr, hb⟩
  replace HB := Lib.hid (Below.thn HB.out hb)
  replace OR := Lib.hid (OR.out.below hb)
  replace OX := Lib.hid (OX.out.below hb)
  replace OY := Lib.hid (OY.out.below hb)
  replace OP1 := Lib.hid (OP1.out.below hb)
  replace OP2 := Lib.hid (OP2.out.below hb)
  replace OQ1 := Lib.hid (OQ1.out.below hb)
  replace OQ2 := Lib.hid (OQ2.out.below hb)
  have HN1 := Lib.hid hnr
  have ON1 := Lib.hid hno
  have OWN1 := Lib.hid (RowW.of hnw HSz.out)
  clear C hb hno hnr hnw HSz
  have HSz : Hid (w4.heap.size ≤ w9.heap.size) := Lib.hid HB.out.size
  have C := Lib.hid (refNot_uv x y w9 OX.out OY.out (Nat.le_trans HF.out.1 (by decide)))
  rw [← HEN.out] at C
  go_wp2_with fail
  refine C.out.mono ?_
  rintro e w10 ⟨n2, rfl, ⟨hno, hnw⟩, hnr, hb⟩
  replace HB := Lib.hid (Below.thn HB.out hb)
  replace OR := Lib.hid (OR.out.below hb)
  replace OX := Lib.hid (OX.out.below hb)
  replace OY := Lib.hid (OY.out.below hb)
  replace OP1 := Lib.hid (OP1.out.below hb)
  replace OP2 := Lib.hid (OP2.out.below hb)
  replace OQ1 := Lib.hid (OQ1.out.below hb)
  replace OQ2 := Lib.hid (OQ2.out.below hb)
  replace ON1 := Lib.hid (ON1.out.below hb)
  replace OWN1 := Lib.hid (OWN1.out.below hb)
  have HN2 := Lib.hid hnr
  have ON2 := Lib.hid hno
  clear C hb hno hnr hnw HSz
  have C := Lib.hid (check_uv x w10 OX.out)
  rw [← HEC.out] at C
  go_wp2_with fail
  refine C.out.mono ?_
  rintro e w11 ⟨rfl, hb⟩
  replace HB := Lib.hid (Below.thn HB.out hb)
  replace OR := Lib.hid (OR.out.below hb)
  replace OX := Lib.hid (OX.out.below hb)
  replace OY := Lib.hid (OY.out.below hb)
  replace OP1 := Lib.hid (OP1.out.below hb)
  replace OP2 := Lib.hid (OP2.out.below hb)
  replace OQ1 := Lib.hid (OQ1.out.below hb)
  replace OQ2 := Lib.hid (OQ2.out.below hb)
  replace ON1 := Lib.hid (ON1.out.below hb)
  replace OWN1 := Lib.hid (OWN1.out.below hb)
  replace ON2 := Lib.hid (ON2.out.below hb)
  clear C hb 
  have C := Lib.hid (refCheck_uv x w11 OX.out)
  rw [← HEC.out] at C
  go_wp2_with fail
  refine C.out.mono ?_
  rintro e w12 ⟨rfl, hb⟩
  replace HB := Lib.hid (Below.thn HB.out hb)
  replace OR := Lib.hid (OR.out.below hb)
  replace OX := Lib.hid (OX.out.below hb)
  replace OY := Lib.hid (OY.out.below hb)
  replace OP1 := Lib.hid (OP1.out.below hb)
  replace OP2 := Lib.hid (OP2.out.below hb)
  replace OQ1 := Lib.hid (OQ1.out.below hb)
  replace OQ2 := Lib.hid (OQ2.out.below hb)
  replace ON1 := Lib.hid (ON1.out.below hb)
  replace OWN1 := Lib.hid (OWN1.out.below hb)
  replace ON2 := Lib.hid (ON2.out.below hb)
  clear C hb 
  have heq : p1.l = p2.l := HP1.out.trans HP2.out.symm
  have C := Lib.hid (equal_uv p1 p2 w12 OP1.out OP2.out)
  rw [decide_eq_true heq] at C
  clear heq
  go_wp2_with fail
  refine C.out.mono ?_
  rintro e w13 ⟨rfl, hb⟩
  replace HB := Lib.hid (Below.thn HB.out hb)
  replace OR := Lib.hid (OR.out.below hb)
  replace OX := Lib.hid (OX.out.below hb)
  replace OY := Lib.hid (OY.out.below hb)
  replace OP1 := Lib.hid (OP1.out.below hb)
  replace OP2 := Lib.hid (OP2.out.below hb)
  replace OQ1 := Lib.hid (OQ1.out.below hb)
  replace OQ2 := Lib.hid (OQ2.out.below hb)
  replace ON1 := Lib.hid (ON1.out.below hb)
  replace OWN1 := Lib.hid (OWN1.out.below hb)
  replace ON2 := Lib.hid (ON2.out.below hb)
  clear C hb 
  have heq : q1.l = q2.l := orR_same HQ1.out HQ2.out
  have C := Lib.hid (equal_uv q1 q2 w13 OQ1.out OQ2.out)
  rw [decide_eq_true heq] at C
  clear heq
  go_wp2_with fail
  refine C.out.mono ?_
  rintro e w14 ⟨rfl, hb⟩
  replace HB := Lib.hid (Below.thn HB.out hb)
  replace OR := Lib.hid (OR.out.below hb)
  replace OX := Lib.hid (OX.out.below hb)
  replace OY := Lib.hid (OY.out.below hb)
  replace OP1 := Lib.hid (OP1.out.below hb)
  replace OP2 := Lib.hid (OP2.out.below hb)
  replace OQ1 := Lib.hid (OQ1.out.below hb)
  replace OQ2 := Lib.hid (OQ2.out.below hb)
  replace ON1 := Lib.hid (ON1.out.below hb)
  replace OWN1 := Lib.hid (OWN1.out.below hb)
  replace ON2 := Lib.hid (ON2.out.below hb)
  clear C hb 
  have heq : n1.l = n2.l := HN1.out.trans HN2.out.symm
  have C := Lib.hid (equal_uv n1 n2 w14 ON1.out ON2.out)
  rw [decide_eq_true heq] at C
  clear heq
  go_wp2_with fail
  refine C.out.mono ?_
  rintro e w15 ⟨rfl, hb⟩
  replace HB := Lib.hid (Below.thn HB.out hb)
  replace OR := Lib.hid (OR.out.below hb)
  replace OX := Lib.hid (OX.out.below hb)
  replace OY := Lib.hid (OY.out.below hb)
  replace OP1 := Lib.hid (OP1.out.below hb)
  replace OP2 := Lib.hid (OP2.out.below hb)
  replace OQ1 := Lib.hid (OQ1.out.below hb)
  replace OQ2 := Lib.hid (OQ2.out.below hb)
  replace ON1 := Lib.hid (ON1.out.below hb)
  replace OWN1 := Lib.hid (OWN1.out.below hb)
  replace ON2 := Lib.hid (ON2.out.below hb)
  clear C hb 
  have HSz : Hid (w4.heap.size ≤ w15.heap.size) := Lib.hid HB.out.size
  obtain ⟨EA1, hEE⟩ : ∃ EE, EE = allE [x] := ⟨_, rfl⟩
  have C := Lib.hid (And_lit [x] #[.slice x.A x.n x.c] 1 w15 rfl rfl (fun z hz => by rw [List.mem_singleton] at hz; rw [hz]; exact OX.out) ⟨by simp, fun z hz => by rw [List.mem_singleton] at hz; rw [hz]; exact Nat.le_trans HF.out.1 (by decide)⟩)
  rw [← hEE] at C
  clear hEE
  go_wp2_with fail
  refine C.out.mono ?_
  rintro e w16 ⟨one, rfl, ⟨hno, hnw⟩, hnr, hb⟩
  replace HB := Lib.hid (Below.thn HB.out hb)
  replace OR := Lib.hid (OR.out.below hb)
  replace OX := Lib.hid (OX.out.below hb)
  replace OY := Lib.hid (OY.out.below hb)
  replace OP1 := Lib.hid (OP1.out.below hb)
  replace OP2 := Lib.hid (OP2.out.below hb)
  replace OQ1 := Lib.hid (OQ1.out.below hb)
  replace OQ2 := Lib.hid (OQ2.out.below hb)
  replace ON1 := Lib.hid (ON1.out.below hb)
  replace OWN1 := Lib.hid (OWN1.out.below hb)
  replace ON2 := Lib.hid (ON2.out.below hb)
  have OWA1 := Lib.hid (RowW.of hnw HSz.out)
  clear C hb hno hnr hnw HSz
  have HSz : Hid (w4.heap.size ≤ w16.heap.size) := Lib.hid HB.out.size
  obtain ⟨EB1, hEE⟩ : ∃ EE, EE = allE [x] := ⟨_, rfl⟩
  have C := Lib.hid (Or_lit [x] #[.slice x.A x.n x.c] 1 w16 rfl rfl (fun z hz => by rw [List.mem_singleton] at hz; rw [hz]; exact OX.out) ⟨by simp, fun z hz => by rw [List.mem_singleton] at hz; rw [hz]; exact Nat.le_trans HF.out.1 (by decide)⟩)
  rw [← hEE] at C
  clear hEE
  go_wp2_with fail
  refine C.out.mono ?_
  rintro e w17 ⟨two, rfl, ⟨hno, hnw⟩, hnr, hb⟩
  replace HB := Lib.hid (Below.thn HB.out hb)
  replace OR := Lib.hid (OR.out.below hb)
  replace OX := Lib.hid (OX.out.below hb)
  replace OY := Lib.hid (OY.out.below hb)
  replace OP1 := Lib.hid (OP1.out.below hb)
  replace OP2 := Lib.hid (OP2.out.below hb)
  replace OQ1 := Lib.hid (OQ1.out.below hb)
  replace OQ2 := Lib.hid (OQ2.out.below hb)
  replace ON1 := Lib.hid (ON1.out.below hb)
  replace OWN1 := Lib.hid (OWN1.out.below hb)
  replace ON2 := Lib.hid (ON2.out.below hb)
  replace OWA1 := Lib.hid (OWA1.out.below hb)
  have OWB1 := Lib.hid (RowW.of hnw HSz.out)
  clear C hb hno hnr hnw HSz
  obtain ⟨T, hT⟩ : ∃ T, T = w17.heap.size := ⟨_, rfl⟩
  obtain ⟨Wt, hWt⟩ : ∃ Wt, Wt = w17.alloc (.cells #[.slice one.A one.n one.c, .slice two.A two.n two.c, .slice n1.A n1.n n1.c] 38) := ⟨_, rfl⟩
  have HL : Hid (LpW w4 Wt T one two n1 (fun _ => True)) := Lib.hid (by
    rw [hWt, hT]
    exact LpW.new HB.out OWA1.out OWB1.out OWN1.out)
  have HT := Lib.hid hT
  have HWt := Lib.hid hWt
  clear hT hWt
  go_wp2_with fail
  rw [← HWt.out, ← HT.out]
  go_loopw [131] (fun z wr => ∃ k : Nat, z = .int .i64 (k : Nat) ∧ k ≤ 3 ∧ Hid (LpW w4 wr T one two n1 (fun _ => True))) (fun z _ => 3 - (intOf z).toNat)
  case atStart => exact ⟨0, rfl, by omega, HL⟩
  case round =>
    obtain ⟨k, rfl, hk, HL⟩ := hrel
    by_cases h3 : (k : Int) < 3
    · obtain ⟨zz, hzc, hzm⟩ := HL.out.at (k := k) (by omega)
      have HL1 : Hid (LpW w4 wr T one two n1 (fun W => RowW w4.heap.size W zz)) := Lib.hid (HL.out.more hzm)
      have hzn := HL1.out.small
      obtain ⟨W1, hW1⟩ : ∃ W1, W1 = wr := ⟨_, rfl⟩
      subst hW1
      go_wp2_with fail
      go_loopw [137] (fun z wq => ∃ j : Nat, z = .int .i64 (j : Nat) ∧ j ≤ zz.n ∧ Hid (LpW w4 wq T one two n1 (fun W => RowW w4.heap.size W zz))) (fun z _ => zz.n - (intOf z).toNat)
      case atStart => exact ⟨0, rfl, Nat.zero_le _, HL1⟩
      case round =>
        obtain ⟨j, rfl, hj, HLq⟩ := hrel
        by_cases hlt : (j : Int) < (zz.n : Int)
        · obtain ⟨ad, eA, hM, z, hz, k1, k2⟩ := HLq.out.p.2 j (by omega)
          obtain ⟨zq, hzq⟩ : ∃ zq, zq = z ^^^ 1 := ⟨_, rfl⟩
          have hx32 : bits .xor .u32 (z : Int) 1 = (zq : Int) := by
            have := u32_xor_nat z 1 (by omega) (by decide)
            rw [hzq]
            simpa using this
          have hz32 : zq ≤ 4294967295 := by
            have := Nat.xor_lt_two_pow (x := z) (y := 1) (n := 32) (by omega) (by decide)
            omega
          have HN := Lib.hid (HLq.out.set k1 hM zq hz32)
          clear hzq hM hz32
          go_wp2
          exact ⟨⟨j + 1, by simp; try go_num, by omega, HN⟩, by simp [intOf]; omega⟩
        · go_wp2
          exact ⟨⟨k + 1, by simp; try go_num, by omega, Lib.hid HLq.out.less⟩, by simp [intOf]; omega⟩
    · have OXE := Lib.hid (OX0.out.below HL.out.be)
      have OSE := Lib.hid (OS0.out.below HL.out.be)
      have HBE : Hid (Below w.heap.size w wr) := Lib.hid (HB0.out.trans (HL.out.be.mono HB0.out.size))
      have C := Lib.hid (equal_uv x s wr OXE.out OSE.out)
      rw [decide_eq_true HSL.out.symm] at C
      go_wp2_with fail
      refine C.out.mono ?_
      rintro e wz ⟨rfl, hb⟩
      have HBZ := Lib.hid (Below.thn HBE.out hb)
      clear C hb
      go_wp2
      go_ret
      exact ⟨rfl, HBZ.out⟩
end Go.Proofs.Ytaaddckhldccjaa
