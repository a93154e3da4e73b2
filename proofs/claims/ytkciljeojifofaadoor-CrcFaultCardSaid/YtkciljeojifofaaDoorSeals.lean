/- The law of Seal and Open. -/
import Derived.Test.YtkciljeojifofaaDoorOpen3
import Derived.Test.YtkciljeojifofaaDoorLinear
namespace Go.Proofs.YtkciljeojifofaaDoor
open Go.RowKit Crc
set_option linter.unusedVariables false
set_option linter.unusedSimpArgs false

theorem sealed_open (l : List Nat) : openB (sumB (crcAdd 0 l) ++ l) = true ∧ openL (sumB (crcAdd 0 l) ++ l) = l := by
  have h : openB (sumB (crcAdd 0 l) ++ l) = true := by
    unfold openB sumB
    simp
  refine ⟨h, ?_⟩
  rw [openL_yes h]
  rfl
theorem OwnL.rdB {w : World} {base : Nat} {v : Value} {l : List Nat} (h : OwnL encB 5 w base v l) (hb : ∀ c ∈ l, c < 256) {n : Nat} (hn : l.length = n) : ∃ A c, v = .slice A n c ∧ n ≤ c ∧ RdB w A n l := by
  obtain ⟨A, c, e, h1, h2, h3⟩ := h.rd
  subst hn
  exact ⟨A, c, e, h1, RdB.of_rd h3 hb⟩
theorem OwnL.rdB' {w : World} {base : Nat} {A : Option Addr} {n c : Nat} {l : List Nat} (h : OwnL encB 5 w base (.slice A n c) l) (hb : ∀ c ∈ l, c < 256) : RdB w A n l := by
  obtain ⟨A, c, e, h1, h2, h3⟩ := h.rd
  injection e with e1 e2 e3
  subst e1 e2 e3
  exact RdB.of_rd h3 hb
theorem OwnL.elem {w : World} {base : Nat} {A : Option Addr} {n c : Nat} {l : List Nat} (h : OwnL encB 5 w base (.slice A n c) l) (k : Nat) (hk : k < n) :
    ∃ g x, A = some ⟨g, 0, none⟩ ∧ w.cell? ⟨g, k, none⟩ = some (.int .u8 (x : Nat)) ∧ w.frozen? ⟨g, k, none⟩ = false ∧ x ∈ l := by
  obtain ⟨A1, c1, e, _⟩ := h.rd
  injection e with e1 e2 e3
  subst e2
  obtain ⟨g, c2, e, _⟩ := h.place (by omega)
  injection e with e4 e5 e6
  subst e4 e6
  have := h.cellAt k hk
  exact ⟨g, l[k], rfl, this.1, this.2, List.getElem_mem _⟩
theorem u8_not (x : Nat) (hx : x < 256) : ∃ y : Nat, y < 256 ∧ (bits .xor .u8 (x : Int) 255 : Int) = (y : Int) := ⟨x ^^^ 255, Nat.xor_lt_two_pow (n := 8) hx (by decide), u8_xor x 255 hx (by decide)⟩
/-- What lies where while the seal and what was opened are turned over. -/
structure SealI (w W : World) (vw vs vx vz : Value) (l : List Nat) : Prop where
  below : Below w.heap.size w W
  was : OwnL encB 5 W w.heap.size vw l
  s : ∃ ls, (∀ c ∈ ls, c < 256) ∧ OwnL encB 5 W w.heap.size vs ls
  x : ∃ lx, (∀ c ∈ lx, c < 256) ∧ OwnL encB 5 W w.heap.size vx lx
  z : OwnL encB 5 W w.heap.size vz l
def Apart (u v : Value) : Prop := ∀ k, u.ownBlock = some k → v.ownBlock ≠ some k
theorem set_one {w W : World} {base g n c : Nat} {ls : List Nat} (hb : ∀ c ∈ ls, c < 256) (h : OwnL encB 5 W base (.slice (some ⟨g, 0, none⟩) n c) ls) (i y : Nat) (hy : y < 256) :
    ∃ ls, (∀ c ∈ ls, c < 256) ∧ OwnL encB 5 (W.setCell ⟨g, i, none⟩ (.int .u8 (y : Int))) base (.slice (some ⟨g, 0, none⟩) n c) ls := by
  obtain ⟨A1, c1, e, _⟩ := h.rd
  injection e with e1 e2 e3
  subst e2
  refine ⟨ls.set i y, fun c hc => ?_, (OwnL.set h i y).1⟩
  rcases List.mem_or_eq_of_mem_set hc with h | h
  · exact hb c h
  · omega
theorem grown_one {W : World} {base g n c : Nat} {ls : List Nat} (h : OwnL encB 5 W base (.slice (some ⟨g, 0, none⟩) n c) ls) (i y : Nat) : W.grownBy (W.setCell ⟨g, i, none⟩ (.int .u8 (y : Int))) (some g) ∧ base ≤ g := by
  obtain ⟨A1, c1, e, _⟩ := h.rd
  injection e with e1 e2 e3
  subst e2
  exact ⟨(OwnL.set h i y).2, (h.base g rfl).1⟩
theorem SealI.setS {w W : World} {vw vx vz : Value} {g n c : Nat} {l : List Nat} (h : SealI w W vw (.slice (some ⟨g, 0, none⟩) n c) vx vz l)
    (h1 : Apart (.slice (some ⟨g, 0, none⟩) n c) vw) (h2 : Apart (.slice (some ⟨g, 0, none⟩) n c) vx) (h3 : Apart (.slice (some ⟨g, 0, none⟩) n c) vz) (i y : Nat) (hy : y < 256) :
    SealI w (W.setCell ⟨g, i, none⟩ (.int .u8 (y : Int))) vw (.slice (some ⟨g, 0, none⟩) n c) vx vz l := by
  obtain ⟨ls, hls, hs⟩ := h.s
  obtain ⟨lx, hlx, hx⟩ := h.x
  obtain ⟨hg, hbg⟩ := grown_one hs i y
  exact ⟨h.below.setCell hbg _, h.was.kept hg (.inr (h1 g rfl)), set_one (w := w) hls hs i y hy, ⟨lx, hlx, hx.kept hg (.inr (h2 g rfl))⟩, h.z.kept hg (.inr (h3 g rfl))⟩
theorem SealI.setX {w W : World} {vw vs vz : Value} {g n c : Nat} {l : List Nat} (h : SealI w W vw vs (.slice (some ⟨g, 0, none⟩) n c) vz l)
    (h1 : Apart (.slice (some ⟨g, 0, none⟩) n c) vw) (h2 : Apart (.slice (some ⟨g, 0, none⟩) n c) vs) (h3 : Apart (.slice (some ⟨g, 0, none⟩) n c) vz) (i y : Nat) (hy : y < 256) :
    SealI w (W.setCell ⟨g, i, none⟩ (.int .u8 (y : Int))) vw vs (.slice (some ⟨g, 0, none⟩) n c) vz l := by
  obtain ⟨ls, hls, hs⟩ := h.s
  obtain ⟨lx, hlx, hx⟩ := h.x
  obtain ⟨hg, hbg⟩ := grown_one hx i y
  exact ⟨h.below.setCell hbg _, h.was.kept hg (.inr (h1 g rfl)), ⟨ls, hls, hs.kept hg (.inr (h2 g rfl))⟩, set_one (w := w) hlx hx i y hy, h.z.kept hg (.inr (h3 g rfl))⟩
/-- What is made later lies apart. -/
theorem apart_later {w1 w2 : World} {base : Nat} {u v : Value} {l m : List Nat} (h1 : OwnL encB 5 w1 base u l) (h2 : OwnL encB 5 w2 w1.heap.size v m) : Apart u v ∧ Apart v u := by
  constructor
  · intro k hk e
    have a := (h1.base k hk).2
    have b := (h2.base k e).1
    omega
  · intro k hk e
    have a := (h1.base k e).2
    have b := (h2.base k hk).1
    omega

set_option maxRecDepth 100000 in
set_option maxHeartbeats 1000000 in
theorem seals_any (A : Option Addr) (n c : Nat) (l : List Nat) (w : World) (hT : Tab w) (hl : RdB w A n l) (hc : n ≤ c) :
    Calls Tryd.prog 5 #[.slice A n c] w fun e w' => e = .returned (.bool true) ∧ Below w.heap.size w w' := by
  have HT := Lib.hid hT
  have HL := Lib.hid hl
  have HN := Lib.hid hl.1
  have hmax := hl.2.1
  clear hT hl
  by_cases hn : (20000 : Int) < (n : Int)
  · go_enter Tryd.func5, Tryd.ntmps5
    go_wp2_with fail
    refine (live_any w HT.out).mono ?_
    rintro e w1 ⟨rfl, hb1⟩
    have HB1 := Lib.hid hb1
    clear hb1
    go_wp2_with fail
    refine (live_any w1 (HT.out.below HB1.out)).mono ?_
    rintro e w2 ⟨rfl, hb2⟩
    have HB2 := Lib.hid (Below.thn HB1.out hb2)
    clear hb2
    go_wp2
    go_ret
    exact ⟨rfl, HB2.out⟩
  · go_enter Tryd.func5, Tryd.ntmps5
    go_wp2_with fail
    refine (live_any w HT.out).mono ?_
    rintro e w1 ⟨rfl, hb1⟩
    have HB1 := Lib.hid hb1
    clear hb1
    go_wp2_with fail
    refine (Clone_any _ _ _ _ _ (HL.out.below HB1.out) (by omega)).mono ?_
    rintro e w2 ⟨vw, rfl, ho, hb2⟩
    have HB2 := Lib.hid (Below.thn HB1.out hb2)
    have HOW2 := Lib.hid ho
    clear ho hb2
    go_wp2_with fail
    refine (Seal_any _ _ _ _ _ (HT.out.below HB2.out) (HL.out.below HB2.out) (by omega)).mono ?_
    rintro e w3 ⟨vs, rfl, ho, hb3⟩
    have HB3 := Lib.hid (Below.thn HB2.out hb3)
    have HOS3 := Lib.hid ho
    have HB23 := Lib.hid hb3
    clear ho hb3
    go_wp2_with fail
    refine (Open_any _ _ _ _ _ (HT.out.below HB3.out) (HL.out.below HB3.out) hc (by omega)).mono ?_
    rintro e w4 ⟨vx, rfl, ho, hb4⟩
    have HB4 := Lib.hid (Below.thn HB3.out hb4)
    have HOX4 := Lib.hid ho
    have HB34 := Lib.hid hb4
    clear ho hb4
    obtain ⟨q, hq⟩ : ∃ q, q = openB l := ⟨_, rfl⟩
    have HQ := Lib.hid hq
    rw [← hq]
    clear hq
    go_wp2_with fail
    refine (refOpen_any _ _ _ _ _ (HL.out.below HB4.out) hc (by omega)).mono ?_
    rintro e w5 ⟨vy, rfl, ho, hb5⟩
    have HB5 := Lib.hid (Below.thn HB4.out hb5)
    have HOY5 := Lib.hid ho
    have HB45 := Lib.hid hb5
    clear ho hb5
    rw [← HQ.out]
    go_wp2_with fail
    refine (refSeal_any _ _ _ _ _ (HL.out.below HB5.out) (by omega)).mono ?_
    rintro e w6 ⟨vr, rfl, ho, hb6⟩
    have HB6 := Lib.hid (Below.thn HB5.out hb6)
    have HOR6 := Lib.hid ho
    have HB56 := Lib.hid hb6
    clear ho hb6
    have HYB : Hid (∀ x ∈ sumB (crcAdd 0 l) ++ l, x < 256) := by
      intro x hx
      rcases List.mem_append.1 hx with h | h
      · exact sumB_bytes _ x h
      · exact HL.out.bytes x h
    have HOB : Hid (∀ x ∈ openL l, x < 256) := by
      intro x hx
      unfold openL at hx
      split at hx
      · exact HL.out.bytes x (List.mem_of_mem_drop hx)
      · cases hx
    have HSO := Lib.hid (sealed_open l)
    have HYN : Hid ((sumB (crcAdd 0 l) ++ l).length = n + 4) := by show _ = _; rw [List.length_append, HN.out]; simp [sumB]; omega
    have HON : Hid ((openL l).length ≤ n) := by show _ ≤ _; unfold openL; split <;> simp <;> have := HN.out <;> omega
    obtain ⟨y, hy⟩ : ∃ y, y = sumB (crcAdd 0 l) ++ l := ⟨_, rfl⟩
    rw [← hy] at HOS3 HOR6 HYB HSO HYN
    clear hy
    obtain ⟨lo, hlo⟩ : ∃ y, y = openL l := ⟨_, rfl⟩
    rw [← hlo] at HOX4 HOY5 HOB HON
    clear hlo
    obtain ⟨no, hno⟩ : ∃ y, lo.length = y := ⟨_, rfl⟩
    rw [hno] at HON
    have hno2 : no ≤ n := HON.out
    obtain ⟨A3, c3, rfl, hc3, _⟩ := HOS3.out.rdB HYB.out HYN.out
    obtain ⟨A4, c4, rfl, _⟩ := HOX4.out.rdB HOB.out hno
    obtain ⟨A5, c5, rfl, _⟩ := HOY5.out.rdB HOB.out hno
    obtain ⟨A6, c6, rfl, _⟩ := HOR6.out.rdB HYB.out HYN.out
    have HNO := Lib.hid hno
    clear hno
    have HS6 := Lib.hid (((HOS3.out.below HB34.out).below HB45.out).below HB56.out)
    have HX6 := Lib.hid ((HOX4.out.below HB45.out).below HB56.out)
    go_wp2_with fail
    refine (Equal_any _ _ _ _ _ _ _ _ _ (HS6.out.rdB' HYB.out) (HOR6.out.rdB' HYB.out)).mono ?_
    rintro e w7 ⟨rfl, rfl⟩
    rw [decide_eq_true rfl]
    go_wp2_with fail
    refine (Equal_any _ _ _ _ _ _ _ _ _ (HX6.out.rdB' HOB.out) ((HOY5.out.below HB56.out).rdB' HOB.out)).mono ?_
    rintro e w7 ⟨rfl, rfl⟩
    rw [decide_eq_true rfl]
    cases q
    all_goals
      go_wp2_with fail
      refine (Open_any _ _ _ _ _ (HT.out.below HB6.out) (HS6.out.rdB' HYB.out) hc3 (by omega)).mono ?_
      rintro e w7 ⟨vz, rfl, ho, hb7⟩
      have HB7 := Lib.hid (Below.thn HB6.out hb7)
      rw [HSO.out.2] at ho
      rw [HSO.out.1]
      have HOZ := Lib.hid ho
      have HI : Hid (SealI w w7 vw (.slice A3 (n + 4) c3) (.slice A4 no c4) vz l) :=
        ⟨HB7.out, ((((((HOW2.out.below HB23.out).below HB34.out).below HB45.out).below HB56.out).below hb7).mono HB1.out.size),
          ⟨y, HYB.out, (HS6.out.below hb7).mono HB2.out.size⟩, ⟨lo, HOB.out, (HX6.out.below hb7).mono HB3.out.size⟩, ho.mono HB6.out.size⟩
      have D1 := Lib.hid (apart_later HOW2.out HOS3.out).2
      have D2 := Lib.hid (apart_later HOS3.out HOX4.out)
      have D3 := Lib.hid (apart_later HS6.out HOZ.out).1
      have D4 := Lib.hid (apart_later (HOW2.out.below HB23.out) HOX4.out).2
      have D5 := Lib.hid (apart_later HX6.out HOZ.out).1
      clear hb7 ho
      go_wp2
      go_loopw [58] (fun i wr => ∃ k : Nat, k ≤ n + 4 ∧ i = .int .i64 k ∧ Hid (SealI w wr vw (.slice A3 (n + 4) c3) (.slice A4 no c4) vz l)) (fun i _ => n + 4 - (intOf i).toNat)
      case atStart => exact ⟨0, by omega, rfl, HI⟩
      case round =>
        clear HI
        obtain ⟨k, hk, rfl, HI⟩ := hrel
        by_cases hlt : (k : Int) < (n : Int) + 4
        · obtain ⟨ls, hls, hos⟩ := HI.out.s
          obtain ⟨g, b, rfl, hcell, hfroz, hmem⟩ := hos.elem k (by omega)
          obtain ⟨b', hb', hxor⟩ := u8_not b (hls _ hmem)
          clear hls hos hmem
          go_wp2
          go_roundw
          case rel => exact ⟨k + 1, by omega, by go_num, Lib.hid (HI.out.setS D1.out D2.out.1 D3.out k b' hb')⟩
          case measure => simp [intOf]; omega
        · go_wp2
          clear hlt hk
          go_loopw [70] (fun i wr => ∃ k : Nat, k ≤ no ∧ i = .int .i64 k ∧ Hid (SealI w wr vw (.slice A3 (n + 4) c3) (.slice A4 no c4) vz l)) (fun i _ => no - (intOf i).toNat)
          case atStart => exact ⟨0, by omega, rfl, HI⟩
          case round =>
            clear HI
            obtain ⟨k2, hk2, rfl, HI⟩ := hrel
            by_cases hlt2 : (k2 : Int) < (no : Int)
            · obtain ⟨ls, hls, hos⟩ := HI.out.x
              obtain ⟨g, b, rfl, hcell, hfroz, hmem⟩ := hos.elem k2 (by omega)
              obtain ⟨b', hb', hxor⟩ := u8_not b (hls _ hmem)
              clear hls hos hmem
              go_wp2
              go_roundw
              case rel => exact ⟨k2 + 1, by omega, by go_num, Lib.hid (HI.out.setX D4.out D2.out.2 D5.out k2 b' hb')⟩
              case measure => simp [intOf]; omega
            · obtain ⟨Az, cz, rfl, _, hrz⟩ := HI.out.z.rdB HL.out.bytes HN.out
              obtain ⟨Aw, cw, rfl, _, hrw⟩ := HI.out.was.rdB HL.out.bytes HN.out
              have HRZ := Lib.hid hrz
              have HRW := Lib.hid hrw
              have HRB := Lib.hid (HL.out.below HI.out.below)
              clear hrz hrw
              go_wp2_with fail
              refine (Equal_any _ _ _ _ _ _ _ _ _ HRZ.out HRB.out).mono ?_
              rintro e w9 ⟨rfl, rfl⟩
              rw [decide_eq_true rfl]
              go_wp2_with fail
              refine (Equal_any _ _ _ _ _ _ _ _ _ HRB.out HRW.out).mono ?_
              rintro e w9 ⟨rfl, rfl⟩
              rw [decide_eq_true rfl]
              go_wp2
              go_ret
              exact ⟨rfl, HI.out.below⟩
end Go.Proofs.YtkciljeojifofaaDoor
