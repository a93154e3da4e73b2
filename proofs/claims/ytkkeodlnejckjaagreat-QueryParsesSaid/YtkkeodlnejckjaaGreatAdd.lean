/- A letter is put behind a word. -/
import Derived.Test.YtkkeodlnejckjaaGreatStr
import Derived.Test.YtkkeodlnejckjaaGreatReg
import Derived.BigQuiet
import Derived.Deep.QuietTactic
import Derived.Deep.DeepCutAuto
import Derived.WalkLawsBesides
namespace Go.Proofs.YtkkeodlnejckjaaGreat
open Go.RowKit Go.Shelf Go.Maps
set_option linter.unusedVariables false
set_option linter.unusedSimpArgs false

theorem Below.drewN (w : World) (j : Nat) : Below w.heap.size w (w.drewN j) := by
  induction j with
  | zero => exact Below.refl _ _
  | succ j ih => exact ih.drew
/-- Words stay where a map is written, or a block is laid. -/
theorem WordS.turn {w w' : World} {base b M : Nat} {l : List Nat} {many : Nat} (h : WordS w base b l many) (hg : w.grownBy w' (some M)) (hM : ∃ es c, w.heap[M]? = some (.map es c)) : WordS w' base b l many := by
  obtain ⟨p, v, h1, h2, h3⟩ := h.ex
  obtain ⟨es, c, hm⟩ := hM
  refine ⟨⟨p, v, (hg.block b (Array.getElem?_eq_some_iff.1 h1).1 ?_).trans h1, h2, h3.1.kept hg (.inr ?_), h3.2⟩, h.hb⟩
  · intro e
    cases e
    rw [hm] at h1
    cases h1
  · intro e
    obtain ⟨_, C, t, fr, hc, _⟩ := own_row h3 M e
    rw [hm] at hc
    cases hc
theorem WordS.below {w w' : World} {base b : Nat} {l : List Nat} {many : Nat} (h : WordS w base b l many) (hb : Below w.heap.size w w') : WordS w' base b l many := by
  obtain ⟨p, v, h1, h2, h3⟩ := h.ex
  exact ⟨⟨p, v, (hb.block b (Array.getElem?_eq_some_iff.1 h1).1).trans h1, h2, h3.below hb⟩, h.hb⟩
/-- As a letter is put behind. -/
structure AddJ (w : World) (lo base b f M : Nat) (fo : List Fo) (k : Nat) (l : List Nat) (many r : Nat) (S : Nat → Prop) (wr : World) : Prop where
  a : ¬ S 5 → Fol wr lo f M fo k ∧ WordS wr base b l many
  c : S 5 → Fol wr lo f M fo (k + 1)
  d : ¬ S 6 → WordS wr base b l many
  e : S 6 → WordS wr base b (l ++ encL (oneR (eff fo) (r : Int))) many
  r : Rest base (some M) w wr
  s : base ≤ wr.heap.size
theorem AddJ.next {w wr : World} {lo base b f M : Nat} {fo : List Fo} {k : Nat} {l : List Nat} {many r : Nat} {S : Nat → Prop} (h : AddJ w lo base b f M fo k l many r S wr) {i : Nat} (hi : i ≠ 5) (hj : i ≠ 6) : AddJ w lo base b f M fo k l many r (fun k => k = i ∨ S k) wr :=
  ⟨fun hs => h.a fun h6 => hs (.inr h6), fun hs => h.c (hs.resolve_left (Ne.symm hi)), fun hs => h.d fun h6 => hs (.inr h6), fun hs => h.e (hs.resolve_left (Ne.symm hj)), h.r, h.s⟩
theorem AddJ.fold {w wr w3 : World} {lo base b f M : Nat} {fo : List Fo} {k : Nat} {l : List Nat} {many r : Nat} {S : Nat → Prop} (h : AddJ w lo base b f M fo k l many r S wr) (hn : ¬ S 5) (hg : wr.grownBy w3 (some M)) (hMb : base ≤ M) (hF : Fol w3 lo f M fo (k + 1)) (h6 : ¬ S 6) : AddJ w lo base b f M fo k l many r (fun k => k = 5 ∨ S k) w3 := by
  obtain ⟨h1, h2⟩ := h.a hn
  exact ⟨fun hs => absurd (.inl rfl) hs, fun _ => hF, fun _ => h2.turn hg h1.map, fun hs => absurd (hs.resolve_left (by decide)) h6, h.r.trans (Rest.grown hg fun j e => by cases e; exact ⟨hMb, .inl rfl⟩), Nat.le_trans h.s hg.size⟩
theorem AddJ.write {w wr w3 : World} {lo base b f M : Nat} {fo : List Fo} {k : Nat} {l : List Nat} {many r R : Nat} {S : Nat → Prop} (h : AddJ w lo base b f M fo k l many r S wr) (hR : oneR (eff fo) (r : Int) = (R : Int)) (h5 : S 5) (hlo : lo ≤ base) (hW : WordS w3 base b (l ++ encL (R : Int)) many) (hr : Rest base none wr w3) : AddJ w lo base b f M fo k l many r (fun k => k = 6 ∨ S k) w3 :=
  ⟨fun hs => absurd (.inr h5) hs, fun _ => (h.c h5).rest (hr.mono hlo), fun hs => absurd (.inl rfl) hs, fun _ => by rw [hR]; exact hW, h.r.trans hr.wid, Nat.le_trans h.s hr.size⟩
def AddF (u1 : Value) (fo : List Fo) (b f r : Nat) : Nat → Value → World → Prop
  | 0 => fun v w => v = .pointer (some ⟨b, 0, none⟩)
  | 1 => fun v w => v = .pointer (some ⟨b, 0, none⟩)
  | 2 => fun v w => v = .pointer (some ⟨b, 0, none⟩)
  | 3 => fun v w => v = .pointer (some ⟨f, 0, none⟩)
  | 4 => fun v w => v = .int .i32 (r : Int)
  | 5 => fun v w => v = .int .i32 (oneR (eff fo) (r : Int))
  | 6 => fun v w => ∃ (V21 : Value), v = V21 ∧ True
  | _ => fun _ _ => True
theorem AddF.keep (u1 : Value) (fo : List Fo) (b f r : Nat) : ∀ i v w w', True → AddF u1 fo b f r i v w → AddF u1 fo b f r i v w'
  | 0, _, _, _, _, h => h
  | 1, _, _, _, _, h => h
  | 2, _, _, _, _, h => h
  | 3, _, _, _, _, h => h
  | 4, _, _, _, _, h => h
  | 5, _, _, _, _, h => h
  | 6, _, _, _, _, h => h
  | _ + 7, _, _, _, _, _ => trivial

/-- What a letter adds to a word. -/
noncomputable def addL (cap : Int) (fo : List Fo) (l : List Nat) (many r : Nat) : List Nat := if (many : Int) < cap then l ++ encL (oneR (eff fo) (r : Int)) else l
theorem oneL (fo : List Fo) {r : Nat} (h : letB (r : Int) = true) : ∃ R : Nat, oneR (eff fo) (r : Int) = (R : Int) ∧ R < 2048 ∧ 48 ≤ R := by
  have hr := letB_rng h
  have h2 := oneE_let fo (r := (r : Int)) (by omega) (by omega)
  rw [h] at h2
  have h3 := letB_rng h2
  exact ⟨(oneR (eff fo) (r : Int)).toNat, by omega, by omega, by omega⟩
set_option maxRecDepth 100000 in
set_option maxHeartbeats 4000000 in
theorem add_any (A : Option Addr) (n c : Nat) (B : Option Addr) (m d : Nat) (cap : Int) (lo base b f M : Nat) (fo : List Fo) (k : Nat) (l : List Nat) (many r : Nat) (w : World) (hW : WordS w base b l many) (hF : Fol w lo f M fo k) (hk : k < 1000000000) (hlt : letB (r : Int) = true) (hl : l.length ≤ 1000000) (hm : many ≤ 1000000000) (hlo : lo ≤ base) (hMb : base ≤ M) :
    Calls Tryz.prog 130 #[.pointer (some ⟨b, 0, none⟩), confV A n c B m d cap, .pointer (some ⟨f, 0, none⟩), .int .i32 (r : Int)] w fun e w' => e = .returned (.tuple #[]) ∧ WordS w' base b (addL cap fo l many r) (many + 1) ∧ Fol w' lo f M fo (k + 1) ∧ Rest base (some M) w w' := by
  obtain ⟨R, hR, hR2, hR3⟩ := oneL fo hlt
  have hr := letB_rng hlt
  have hbx := (Below.refl w.heap.size w).alloc (Nat.le_refl _) (.cells #[.slice A n c, .slice B m d, .int .i64 cap] 25)
  have hcell := World.alloc_heap_new w (.cells #[.slice A n c, .slice B m d, .int .i64 cap] 25)
  obtain ⟨w1, hw1⟩ : ∃ w1, w1 = w.alloc (.cells #[.slice A n c, .slice B m d, .int .i64 cap] 25) := ⟨_, rfl⟩
  obtain ⟨g, hg⟩ : ∃ g, g = w.heap.size := ⟨_, rfl⟩
  rw [← hw1] at hbx hcell
  rw [← hg] at hcell
  have hW1 := hW.below hbx
  have hF1 := hF.below hbx
  have hr1 : Rest base (some M) w w1 := Rest.below hbx
  have hbs : base ≤ w1.heap.size := by
    obtain ⟨p, v, h1, _⟩ := hW1.ex
    have := (Array.getElem?_eq_some_iff.1 h1).1
    have := hW1.hb
    omega
  obtain ⟨c0, c1, c2⟩ := cells3 hcell
  obtain ⟨p, v, hb, hpp, ho⟩ := hW1.ex
  obtain ⟨b0, b1, b2⟩ := cells3 hb
  have HW1 := Lib.hid hw1
  have HG := Lib.hid hg
  have HW := Lib.hid hW1
  have HF := Lib.hid hF1
  have HR := Lib.hid hr1
  have HBS := Lib.hid hbs
  clear hW hF hw1 hg hcell hbx hW1 hF1 hr1 hb hpp ho hbs c0 c1 b0 b1
  go_enter Tryz.func130, Tryz.ntmps130
  go_wp2_with fail
  rw [← HW1.out, ← HG.out]
  clear HW1
  obtain ⟨g1, hg1⟩ : ∃ g1, g1 = decide ((many : Int) < cap) := ⟨_, rfl⟩
  by_cases hmc : (many : Int) < cap
  · have hd : decide ((many : Int) < cap) = true := decide_eq_true hmc
    go_quiet (fail)
    obtain ⟨w2, hw2⟩ : ∃ w2, w2 = w1.drewN nq := ⟨_, rfl⟩
    have hb2 : Below w1.heap.size w1 w2 := by rw [hw2]; exact Below.drewN w1 _
    rw [← hw2]
    have HW2 := Lib.hid (HW.out.below hb2)
    have HF2 := Lib.hid (HF.out.below hb2)
    have HR2 := Lib.hid (HR.out.trans (Rest.below (base := base) (M := some M) hb2))
    have HS2 : Hid (base ≤ w2.heap.size) := Lib.hid (Nat.le_trans HBS.out hb2.size)
    clear hw2 hb2
    go_wp2_with fail
    obtain ⟨u1, hu1⟩ : ∃ u1 : Value, u1 = confV A n c B m d cap := ⟨_, rfl⟩
    refine wp_region_flowJ (by kernel_rfl) (AddF u1 fo b f r) (fun _ _ => True) (AddJ w lo base b f M fo k l many r) (AddF.keep u1 fo b f r) ?_ (by kernel_rfl) (by kernel_rfl) ?_ ?_
    case refine_1 =>
      have hb3 : Below w2.heap.size w2 w2.drew := Below.drew (Below.refl _ _)
      exact ⟨fun _ => ⟨HF2.out.below hb3, HW2.out.below hb3⟩, fun h => h.elim, fun _ => HW2.out.below hb3, fun h => h.elim, HR2.out.trans (Rest.below hb3), HS2.out⟩
    case refine_2 =>
      intro i o ho ρ y w2 S hJ hnS hneeds hcl hreg hn hf hyb hyn
      have hi := (Array.getElem?_eq_some_iff.1 ho).1
      rcases Nat.lt_or_ge i 7 with hi2 | hi2
      case inr => simp at hi; omega
      obtain rfl | rfl | rfl | rfl | rfl | rfl | rfl : i = 0 ∨ i = 1 ∨ i = 2 ∨ i = 3 ∨ i = 4 ∨ i = 5 ∨ i = 6 := by omega
      · cases ho
        rw [if_pos (show Region.wanted _ y = true from rfl)]
        have f0 : ρ (.tmp 0) = .pointer (some ⟨b, 0, none⟩) := hf 0 (by kernel_rfl)
        exact ⟨f0, trivial, hJ.next (by decide) (by decide)⟩
      · cases ho
        rw [if_pos (show Region.wanted _ y = true from rfl)]
        have f15 : ρ (.tmp 15) = .pointer (some ⟨b, 0, none⟩) := hn 0 _ 15 rfl (by kernel_rfl) rfl
        exact does_ok (v := .pointer (some ⟨b, 0, none⟩)) (w' := w2) (by simp [go_sem, hreg.const, f15]) ⟨rfl, trivial, hJ.next (by decide) (by decide)⟩
      · cases ho
        rw [if_pos (show Region.wanted _ y = true from rfl)]
        have f16 : ρ (.tmp 16) = .pointer (some ⟨b, 0, none⟩) := hn 1 _ 16 rfl (by kernel_rfl) rfl
        exact does_ok (v := .pointer (some ⟨b, 0, none⟩)) (w' := w2) (by simp [go_sem, hreg.const, f16]) ⟨rfl, trivial, hJ.next (by decide) (by decide)⟩
      · cases ho
        rw [if_pos (show Region.wanted _ y = true from rfl)]
        have f2 : ρ (.tmp 2) = .pointer (some ⟨f, 0, none⟩) := hf 2 (by kernel_rfl)
        exact ⟨f2, trivial, hJ.next (by decide) (by decide)⟩
      · cases ho
        rw [if_pos (show Region.wanted _ y = true from rfl)]
        have f3 : ρ (.tmp 3) = .int .i32 (r : Int) := hf 3 (by kernel_rfl)
        exact ⟨f3, trivial, hJ.next (by decide) (by decide)⟩
      · cases ho
        rw [if_pos (show Region.wanted _ y = true from rfl)]
        have f18 : ρ (.tmp 18) = .pointer (some ⟨f, 0, none⟩) := hn 3 _ 18 rfl (by kernel_rfl) rfl
        have f19 : ρ (.tmp 19) = .int .i32 (r : Int) := hn 4 _ 19 rfl (by kernel_rfl) rfl
        refine does_enter (f := 94) (args := #[.pointer (some ⟨f, 0, none⟩), .int .i32 (r : Int)]) (w' := w2) (by simp [go_sem, hreg.func, hreg.const, f18, f19]) ?_
        obtain ⟨hF, hW⟩ := hJ.a hnS
        refine (folderRune_any lo f M fo k (r : Int) w2 hF (by omega) (by omega) hk).mono ?_
        rintro e w3 ⟨rfl, hg, hF'⟩
        exact ⟨_, rfl, rfl, trivial, hJ.fold hnS hg hMb hF' (fun h6 => hnS (hcl 6 _ rfl h6 5 (by kernel_rfl)))⟩
      · cases ho
        rw [if_pos (show Region.wanted _ y = true from rfl)]
        have f17 : ρ (.tmp 17) = .pointer (some ⟨b, 0, none⟩) := hn 2 _ 17 rfl (by kernel_rfl) rfl
        have f20 : ρ (.tmp 20) = .int .i32 (oneR (eff fo) (r : Int)) := hn 5 _ 20 rfl (by kernel_rfl) rfl
        refine does_enter (f := 132) (args := #[.pointer (some ⟨b, 0, none⟩), .int .i32 (oneR (eff fo) (r : Int))]) (w' := w2) (by simp [go_sem, hreg.func, hreg.const, f17, f20]) ?_
        have h5 : S 5 := hneeds 5 (by kernel_rfl)
        rw [hR]
        refine (WriteRune_any base b l many R w2 (hJ.d hnS) hR2 hl (by have := hJ.s; omega)).mono ?_
        rintro e w3 ⟨⟨v, rfl⟩, hW, hr⟩
        exact ⟨_, rfl, ⟨_, rfl, trivial⟩, trivial, hJ.write hR h5 hlo hW hr⟩
    case refine_3 =>
      intro a w3 S hJ hall hd3 hs hfacts hrest
      have q16 : a.tmps.getD 16 undef = .pointer (some ⟨b, 0, none⟩) := hfacts 1 _ 16 rfl rfl
      have ha := frame_of hd3 hs hrest [15, 16, 17, 18, 19, 20, 21] (by kernel_rfl)
      simp only [q16, List.foldl, List.setIfInBounds_toArray, List.set_cons_succ, List.set_cons_zero] at ha
      clear q16 hd3 hs hfacts hrest
      generalize a.tmps.getD = gg at ha
      subst ha
      have hW3 := hJ.e (hall 6 (by decide))
      have hF3 := hJ.c (hall 5 (by decide))
      have hR3 := hJ.r
      obtain ⟨p3, v3, hb3, hp3, ho3⟩ := hW3.ex
      obtain ⟨d0, d1, d2⟩ := cells3 hb3
      have f2 : w3.frozen? ⟨b, 2, none⟩ = false := by simp [World.frozen?, hb3]
      have HW3 := Lib.hid hW3
      have HF3 := Lib.hid hF3
      have HR3 := Lib.hid hR3
      have HB3 := Lib.hid hb3
      have HO3 := Lib.hid ho3
      have HP3 := Lib.hid hp3
      have HD := Lib.hid hd
      have HMC := Lib.hid hmc
      clear hW3 hF3 hR3 hb3 hp3 ho3 hJ hall d0 d1 b2 c2 hd hmc hg1 hr hR hu1
      go_wp2
      go_end0
      refine ⟨rfl, ⟨⟨p3, v3, ?_, HP3.out, ?_⟩, HW3.out.hb⟩, HF3.out.rest ((setRest HB3.out HW3.out.hb).mono hlo), HR3.out.trans (setRest HB3.out HW3.out.hb).wid⟩
      · rw [setCell_2 HB3.out]
        congr 1
      · unfold addL
        rw [if_pos HMC.out]
        exact HO3.out.setW HB3.out
  · have hd : decide ((many : Int) < cap) = false := decide_eq_false hmc
    go_quiet (fail)
    obtain ⟨w3, hw2⟩ : ∃ w2, w2 = w1.drewN nq := ⟨_, rfl⟩
    have hb2 : Below w1.heap.size w1 w3 := by rw [hw2]; exact Below.drewN w1 _
    rw [← hw2]
    have hW3 := (HW.out.below hb2)
    have HF2 := Lib.hid (HF.out.below hb2)
    have HR2 := Lib.hid (HR.out.trans (Rest.below (base := base) (M := some M) hb2))
    obtain ⟨p3, v3, hb3, hp3, ho3⟩ := hW3.ex
    obtain ⟨d0, d1, d2⟩ := cells3 hb3
    have f2 : w3.frozen? ⟨b, 2, none⟩ = false := by simp [World.frozen?, hb3]
    have HW3 := Lib.hid hW3
    have HB3 := Lib.hid hb3
    have HO3 := Lib.hid ho3
    have HP3 := Lib.hid hp3
    have HMC := Lib.hid hmc
    clear hw2 hb2 hW3 hb3 hp3 ho3 d0 d1 b2 c2 hd hmc hg1 hr hR
    go_wp2
    go_end0
    refine ⟨rfl, ⟨⟨p3, v3, ?_, HP3.out, ?_⟩, HW3.out.hb⟩, (HF2.out.le (Nat.le_succ k) (by omega)).rest ((setRest HB3.out HW3.out.hb).mono hlo), HR2.out.trans (setRest HB3.out HW3.out.hb).wid⟩
    · rw [setCell_2 HB3.out]
      congr 1
    · unfold addL
      rw [if_neg (by have := HMC.out; omega)]
      exact HO3.out.setW HB3.out
end Go.Proofs.YtkkeodlnejckjaaGreat
