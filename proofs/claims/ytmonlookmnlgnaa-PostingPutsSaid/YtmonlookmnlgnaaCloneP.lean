/- A posting in memory of its own. -/
import Derived.Test.YtmonlookmnlgnaaRefPut
import Derived.Test.YtmonlookmnlgnaaRegT
import Derived.Test.YtmonlookmnlgnaaSames
import Derived.WalkSpells
namespace Go.Proofs.Ytmonlookmnlgnaa
open Go.RowKit
set_option linter.unusedVariables false
set_option linter.unusedSimpArgs false

set_option maxRecDepth 100000 in
set_option maxHeartbeats 1000000 in
theorem CloneI_any (A : Option Addr) (n c : Nat) (xs : List Int) (w : World) (ht : Rd encI w A n xs) (hn : n ≤ 1000000) (hc : n ≤ c) (hc2 : c ≤ 9223372036854775807) :
    Calls Try.prog 35 #[.slice A n c] w fun e w' => ∃ v, e = .returned v ∧ OwnL encI 3 w' w.heap.size v xs ∧ Below w.heap.size w w' := by
  have HT := Lib.hid ht
  clear ht
  cases A with
  | none =>
    have HN : Hid (xs = []) := Lib.hid (by
      rcases Nat.eq_zero_or_pos n with h | h
      · exact List.eq_nil_of_length_eq_zero (by rw [HT.out.len, h])
      · obtain ⟨_, h1, _⟩ := HT.out.cell h
        cases h1)
    have hnil := fun W : World => Lib.run_eql_slice_nil (P := Try.prog) W 30 3 none n c 0 0 Try.underlying30
    go_enter Try.func35, Try.ntmps35
    go_wp2
    go_ret
    exact ⟨_, rfl, by rw [HN.out]; exact OwnL.nil _ _ _ _, Below.refl _ _⟩
  | some ad =>
    have hnil := fun W : World => Lib.run_eql_slice_nil (P := Try.prog) W 30 3 (some ad) n c 0 0 Try.underlying30
    have H0 := OwnL.lit (enc := encI) w w.heap.size 3 [] #[] 0 rfl rfl (Nat.le_refl _) (by decide)
    have HB0 := (Below.refl w.heap.size w).alloc (Nat.le_refl _) (.cells #[] 3)
    obtain ⟨v1, w2, r1, o1, g1, at1⟩ := run_append_rd (P := Try.prog) (c := c) w.heap.size 30 30 3 (.int .i64 0) 8 Try.underlying30 infoI rfl (by decide) encI_one H0 (HT.out.below HB0) (by simp; omega) (by simp)
    have HX : Hid (OwnL encI 3 w2 w.heap.size v1 xs ∧ Below w.heap.size w w2) := Lib.hid (by
      rw [List.nil_append] at o1
      exact ⟨o1, HB0.grown g1 (by simp) (fun k hk => (H0.base k hk).1)⟩)
    clear o1 g1 at1 H0 HB0
    go_enter Try.func35, Try.ntmps35
    go_wp2_with (at_builtin; refine wpl_append_run rfl _ _ _ rfl rfl rfl r1 ?_)
    go_ret
    exact ⟨_, rfl, HX.out.1, HX.out.2⟩
def ClF (A : Option Addr) (n c g b0 dd : Nat) (xs : List Int) : Nat → Value → World → Prop
  | 0 => fun v w => v = .pointer (some ⟨g, 0, none⟩)
  | 1 => fun v w => v = .int .u32 (dd : Nat)
  | 2 => fun v w => v = .pointer (some ⟨g, 1, none⟩)
  | 3 => fun v w => v = .slice A n c
  | 4 => fun v w => ∃ (V7 : Value), v = V7 ∧ OwnL encI 3 w b0 V7 xs
  | 5 => fun v w => ∃ (V8 : Value), v = V8 ∧ ∃ u, V8 = .agg #[.int .u32 (dd : Nat), u] ∧ OwnL encI 3 w b0 u xs
  | _ => fun _ _ => True
theorem ClF.below (A : Option Addr) (n c g b0 dd : Nat) (xs : List Int) : ∀ i v w w', Below w.heap.size w w' → ClF A n c g b0 dd xs i v w → ClF A n c g b0 dd xs i v w'
  | 0, _, _, _, _, h => h
  | 1, _, _, _, _, h => h
  | 2, _, _, _, _, h => h
  | 3, _, _, _, _, h => h
  | 4, _, _, _, hb, h => by
    obtain ⟨V7, e, g⟩ := h
    exact ⟨V7, e, g.below hb⟩
  | 5, _, _, _, hb, h => by
    obtain ⟨V8, e, g⟩ := h
    exact ⟨V8, e, (by obtain ⟨u, e, ho⟩ := g; exact ⟨u, e, ho.below hb⟩)⟩
  | _ + 6, _, _, _, _, _ => trivial

set_option maxRecDepth 100000 in
set_option maxHeartbeats 2000000 in
theorem Clone_pv (v : Value) (p : Po) (w : World) (h : PV w v p) (hn0 : p.2.length ≤ 1000000) :
    Calls Try.prog 20 #[v] w fun e w' => ∃ u, e = .returned (.agg #[.int .u32 (p.1 : Nat), u]) ∧ OwnL encI 3 w' w.heap.size u p.2 ∧ Below w.heap.size w w' := by
  obtain ⟨u, rfl, ⟨A, n, c, rfl, hnc, hc, hr⟩, hd⟩ := h
  obtain ⟨dd, xs⟩ := p
  simp only at hr hd hn0 ⊢
  have hn6 : n ≤ 1000000 := by rw [← hr.len]; exact hn0
  obtain ⟨wB, hwB⟩ : ∃ wB, wB = (w.alloc (.cells #[.int .u32 (dd : Nat), .slice A n c] 32)).alloc (.cells #[.int .u32 0, .slice none 0 0] 32) := ⟨_, rfl⟩
  have hbw : Below w.heap.size w wB := by rw [hwB]; exact ((Below.refl _ _).alloc (Nat.le_refl _) _).alloc (by simp) _
  have hb1 : Box2 wB w.heap.size 32 (.int .u32 (dd : Nat)) (.slice A n c) := by rw [hwB]; exact (Box2.new _ _ _ _).kept (World.grownBy_alloc _ _ none) (by simp)
  have hb2' : Box2 wB (w.heap.size + 1) 32 (.int .u32 0) (.slice none 0 0) := by
    have := Box2.new (w.alloc (.cells #[.int .u32 (dd : Nat), .slice A n c] 32)) 32 (.int .u32 0) (.slice none 0 0)
    rw [hwB]; simpa using this
  have HR := Lib.hid (hr.below hbw)
  have HC := Lib.hid (And.intro hb1.facts.1 hb1.facts.2.1)
  have HZ := Lib.hid hb2'
  have HB0 := Lib.hid hbw
  obtain ⟨g, hg⟩ : ∃ g, g = w.heap.size := ⟨_, rfl⟩
  obtain ⟨b0, hb0e⟩ : ∃ b0, b0 = wB.heap.size := ⟨_, rfl⟩
  have hb0 : b0 ≤ wB.heap.size := by omega
  have HBz : Hid (g + 1 < b0) := Lib.hid (by rw [hb0e, hg]; exact hb2'.lt)
  rw [← hg] at HC HZ
  have HG := Lib.hid hg
  have HW := Lib.hid hwB
  clear hr hbw hb1 hb2' hg hwB hb0e hn0
  go_enter Try.func20, Try.ntmps20
  go_wp2_with fail
  rename_i K1 hK1
  rw [← HW.out, ← HG.out]
  refine wp_region_flowT 6 (by kernel_rfl) (by kernel_rfl) (ClF A n c g b0 dd xs) (ClF.below A n c g b0 dd xs) (by kernel_rfl) (by kernel_rfl) ?_ ?_
  case refine_1 =>
    intro i o hit ho ρ y w2 hb2 hreg hn hf hyb hyn
    obtain rfl | rfl | rfl | rfl | rfl | rfl : i = 0 ∨ i = 1 ∨ i = 2 ∨ i = 3 ∨ i = 4 ∨ i = 5 := by omega
    · cases ho
      rw [if_pos (show Region.wanted _ y = true from rfl)]
      have f1 : ρ (.tmp 1) = .pointer (some ⟨g, 0, none⟩) := hf 1 (by kernel_rfl)
      exact does_ok (v := .pointer (some ⟨g, 0, none⟩)) (w' := w2) (by simp [go_sem, hreg.const, f1]) ⟨rfl, Below.refl _ _⟩
    · cases ho
      rw [if_pos (show Region.wanted _ y = true from rfl)]
      have f3 : ρ (.tmp 3) = .pointer (some ⟨g, 0, none⟩) := hn 0 _ 3 rfl (by kernel_rfl) rfl
      have k0 := cell_keep hb2 HC.out.1
      exact does_ok (v := .int .u32 (dd : Nat)) (w' := w2) (by simp [go_sem, hreg.const, f3, k0]) ⟨rfl, Below.refl _ _⟩
    · cases ho
      rw [if_pos (show Region.wanted _ y = true from rfl)]
      have f1 : ρ (.tmp 1) = .pointer (some ⟨g, 0, none⟩) := hf 1 (by kernel_rfl)
      exact does_ok (v := .pointer (some ⟨g, 1, none⟩)) (w' := w2) (by simp [go_sem, hreg.const, f1]) ⟨rfl, Below.refl _ _⟩
    · cases ho
      rw [if_pos (show Region.wanted _ y = true from rfl)]
      have f5 : ρ (.tmp 5) = .pointer (some ⟨g, 1, none⟩) := hn 2 _ 5 rfl (by kernel_rfl) rfl
      have k0 := cell_keep hb2 HC.out.2
      exact does_ok (v := .slice A n c) (w' := w2) (by simp [go_sem, hreg.const, f5, k0]) ⟨rfl, Below.refl _ _⟩
    · cases ho
      rw [if_pos (show Region.wanted _ y = true from rfl)]
      have f6 : ρ (.tmp 6) = .slice A n c := hn 3 _ 6 rfl (by kernel_rfl) rfl
      refine does_enter (f := 35) (args := #[.slice A n c]) (w' := w2) (by simp [go_sem, hreg.func, hreg.const, f6]) ?_
      refine (CloneI_any A n c xs w2 (HR.out.below hb2) hn6 hnc hc).mono ?_
      rintro e w' ⟨r, rfl, h, hb⟩
      exact ⟨_, rfl, ⟨_, rfl, h.mono (Nat.le_trans hb0 hb2.size)⟩, hb⟩
    · cases ho
      rw [if_pos (show Region.wanted _ y = true from rfl)]
      have f4 : ρ (.tmp 4) = .int .u32 (dd : Nat) := hn 1 _ 4 rfl (by kernel_rfl) rfl
      obtain ⟨V7, f7, g7⟩ : ∃ (V7 : Value), ρ (.tmp 7) = V7 ∧ OwnL encI 3 w2 b0 V7 xs := hn 4 _ 7 rfl (by kernel_rfl) rfl
      obtain ⟨A7, c7, e7, _, _, _⟩ := g7.rd
      subst e7
      exact does_ok (v := .agg #[.int .u32 (dd : Nat), .slice A7 xs.length c7]) (w' := w2) (by simp [go_sem, hreg.const, f4, f7]) ⟨⟨_, rfl, _, rfl, g7⟩, Below.refl _ _⟩
  case refine_2 =>
    intro a w2 hb2 hd hs hfacts hrest
    obtain ⟨V8, q8, g8⟩ : ∃ (V8 : Value), a.tmps.getD 8 undef = V8 ∧ ∃ u, V8 = .agg #[.int .u32 (dd : Nat), u] ∧ OwnL encI 3 w2 b0 u xs := hfacts 5 _ 8 (by decide) rfl rfl
    have ha := frame_ofP hd hs hrest [3, 4, 5, 6, 7, 8] (by kernel_rfl)
    simp only [q8, List.foldl, List.setIfInBounds_toArray, List.set_cons_succ, List.set_cons_zero] at ha
    clear q8 hd hs hfacts hrest
    generalize a.tmps.getD = gg at ha
    subst ha
    obtain ⟨u, rfl, ho⟩ := g8
    obtain ⟨A7, c7, e7, hl7, hc7, _⟩ := ho.rd
    subst e7
    have hz2 := HZ.out.below hb2
    obtain ⟨z0, z1, z2, z3⟩ := hz2.facts
    have gA := grown_setCell w2 ⟨g + 1, 0, none⟩ (.int .u32 (dd : Nat))
    have gB := grown_setCell (w2.setCell ⟨g + 1, 0, none⟩ (.int .u32 (dd : Nat))) ⟨g + 1, 1, none⟩ (.slice A7 xs.length c7)
    have g12 := gA.trans gB
    have hy := (hz2.set0 (.int .u32 (dd : Nat))).set1 (.slice A7 xs.length c7)
    obtain ⟨y0, y1, _, _⟩ := hy.facts
    have HB2 := Below.thn HB0.out hb2
    have HF : Hid (OwnL encI 3 ((w2.setCell ⟨g + 1, 0, none⟩ (.int .u32 (dd : Nat))).setCell ⟨g + 1, 1, none⟩ (.slice A7 xs.length c7)) w.heap.size (.slice A7 xs.length c7) xs ∧ Below w.heap.size w ((w2.setCell ⟨g + 1, 0, none⟩ (.int .u32 (dd : Nat))).setCell ⟨g + 1, 1, none⟩ (.slice A7 xs.length c7))) := Lib.hid ⟨by
        refine (ho.kept g12 ?_).mono (by have := HBz.out; have := HG.out; omega)
        cases hob : (Value.slice A7 xs.length c7).ownBlock with
        | none => exact .inl rfl
        | some k => right; intro e; have e' : k = g + 1 := (by injection e); have := (ho.base k hob).1; have := HBz.out; omega, HB2.grown g12 HB2.size (fun k hk => by have e' : g + 1 = k := (by injection hk); have := HG.out; omega)⟩
    clear ho hz2 gA gB g12 hy HB2 hb2
    simp only [List.drop_succ_cons, List.drop_zero]
    go_wp2_with fail
    refine bodyPost_ret (v := .agg #[.int .u32 (dd : Nat), .slice A7 xs.length c7]) (by simp [results, Try.results20, go_sem, y0, y1]) rfl ?_
    exact ⟨_, rfl, HF.out.1, HF.out.2⟩
end Go.Proofs.Ytmonlookmnlgnaa
