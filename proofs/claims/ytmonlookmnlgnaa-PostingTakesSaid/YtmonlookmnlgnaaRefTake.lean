/- A posting taken: the document's. -/
import Derived.Test.YtmonlookmnlgnaaTakeMath2
import Derived.Test.YtmonlookmnlgnaaRefChk
import Derived.Test.YtmonlookmnlgnaaRegT
import Derived.Laws.Tables
namespace Go.Proofs.Ytmonlookmnlgnaa
open Go.RowKit
set_option linter.unusedVariables false
set_option linter.unusedSimpArgs false

theorem rVar_g2 {w : World} {g : Nat} {l : List Nat} {e : Int} {z : Nat} (h : Rf w g l e z) (hz : z < w.heap.size) (hl : l.length ≤ 70368744177600) :
    Calls Try.prog 42 #[.pointer (some ⟨g, 0, none⟩)] w fun e' w' => e' = .returned (.int .u32 (vrV l e : Nat)) ∧ Rf w' g (vrL l e) (vrE l e) z ∧ w.grownBy w' (some g) := rVar_any h hz hl
/-- A reader with nothing left. -/
theorem Rf.kept0 {w w' : World} {g : Nat} {e : Int} {z : Nat} {row : Option Nat} (h : Rf w g [] e z) (hg : w.grownBy w' row) (h1 : some g ≠ row) : Rf w' g [] e z := by
  obtain ⟨A, n, c, k0, k1, k2, k3, k4⟩ := h.b
  obtain rfl : n = 0 := by rw [← k3.len]; rfl
  refine ⟨⟨A, 0, c, ?_, k1, k2, RdB.nil _ _, k4⟩, ?_, ?_, ?_⟩
  · rw [grown_cell hg h.lt h1]; exact k0
  · rw [grown_cell hg h.lt h1]; exact h.err
  · rw [grown_frozen hg h.lt h1]; exact h.f0
  · rw [grown_frozen hg h.lt h1]; exact h.f1
/-- Its bytes lie in no block that is new. -/
theorem Rf.fresh {w : World} {g : Nat} {l : List Nat} {e : Int} {z : Nat} (h : Rf w g l e z) (hl : l ≠ []) {k : Nat} (hk : w.heap.size ≤ k) : Rf w g l e k := by
  obtain ⟨A, n, c, k0, k1, k2, k3, k4⟩ := h.b
  refine ⟨⟨A, n, c, k0, k1, k2, k3, fun a ha => ⟨(k4 a ha).1, ?_⟩⟩, h.err, h.f0, h.f1⟩
  have hn : 0 < n := by
    rw [← k3.len]
    exact List.length_pos_iff.2 hl
  obtain ⟨ad, e, hc⟩ := k3.rd.cell hn
  rw [ha] at e
  cases e
  have h1 := hc 0 (by rw [k3.len]; exact hn)
  have h2 := cell_lt' h1
  have h3 : (a.add 0).block = a.block := by unfold Addr.add; simp
  omega
/-- As one takes: the reader, the room for what is answered. -/
structure RkS (w wr : World) (g : Nat) (l : List Nat) (e : Int) (zz : Nat) : Prop where
  r : Rf wr g l e zz
  z : Box2 wr w.heap.size 32 (.int .u32 0) (.slice none 0 0)
  lt : w.heap.size < g
  b : Below w.heap.size w wr
theorem RkS.var {w wr w' : World} {g : Nat} {l l' : List Nat} {e e' : Int} {zz z' : Nat} (h : RkS w wr g l e zz) (hr : Rf w' g l' e' z') (hg : wr.grownBy w' (some g)) : RkS w w' g l' e' z' :=
  ⟨hr, h.z.kept hg (by have := h.lt; intro e; have e' : w.heap.size = g := (by injection e); omega), h.lt, h.b.grown hg h.b.size (fun k hk => by have := h.lt; have e' : g = k := (by injection hk); omega)⟩
theorem RkS.below {w wr w' : World} {g : Nat} {l : List Nat} {e : Int} {zz : Nat} (h : RkS w wr g l e zz) (hb : Below wr.heap.size wr w') : RkS w w' g l e zz :=
  ⟨h.r.below hb, h.z.below hb, h.lt, Below.thn h.b hb⟩
theorem RkS.b2 {w wr : World} {g : Nat} {l : List Nat} {e : Int} {zz : Nat} (h : RkS w wr g l e zz) (x y : Value) : Below w.heap.size w ((wr.setCell ⟨w.heap.size, 0, none⟩ x).setCell ⟨w.heap.size, 1, none⟩ y) :=
  (h.b.setCell (p := ⟨w.heap.size, 0, none⟩) (Nat.le_refl _) _).setCell (p := ⟨w.heap.size, 1, none⟩) (Nat.le_refl _) _
/-- As positions are taken: what is read lies apart from the positions. -/
def RkL (w wr : World) (g g12 doc : Nat) (lk : List Nat) (u : Value) (xs : List Int) : Prop := ∃ zz, RkS w wr g lk 0 zz ∧ Box2 wr g12 32 (.int .u32 (doc : Nat)) u ∧ OwnL encI 3 wr (g12 + 1) u xs ∧ g < g12 ∧ zz < wr.heap.size ∧
  (lk ≠ [] → ∀ k, u.ownBlock = some k → zz = k)

theorem Rf.app {wA w8 : World} {g : Nat} {l : List Nat} {z : Nat} {u v1 : Value} (h : Rf wA g l 0 z) (hz : z < wA.heap.size) (hrow : l ≠ [] → ∀ k, u.ownBlock = some k → z = k) (hg : wA.grownBy w8 u.ownBlock) (hug : ∀ k, u.ownBlock = some k → g < k)
    (hat : v1.ownBlock = u.ownBlock ∨ v1.ownBlock = some wA.heap.size) (hsz : ∀ k, v1.ownBlock = some k → k < w8.heap.size) : ∃ z', Rf w8 g l 0 z' ∧ z' < w8.heap.size ∧ (l ≠ [] → ∀ k, v1.ownBlock = some k → z' = k) := by
  have hsz8 : wA.heap.size ≤ w8.heap.size := hg.size
  by_cases hl : l = []
  · subst hl
    exact ⟨z, h.kept0 hg (fun e => by have := hug g e.symm; omega), by omega, fun h => absurd rfl h⟩
  · have step : ∀ z0, Rf wA g l 0 z0 → Rf w8 g l 0 z0 := fun z0 h0 => by
      cases hu : u.ownBlock with
      | none => rw [hu] at hg; exact h0.below ((Below.refl _ _).grown hg (Nat.le_refl _) (fun k hk => by cases hk))
      | some k =>
        have e := hrow hl k hu
        have h1 := hug k hu
        rw [hu, ← e] at hg
        exact h0.kept2 h hg (by omega)
    rcases hat with e | e
    · exact ⟨z, step z h, by omega, fun _ k hk => hrow hl k (by rw [← e]; exact hk)⟩
    · exact ⟨wA.heap.size, step _ (h.fresh hl (Nat.le_refl _)), hsz _ e, fun _ k hk => by rw [e] at hk; cases hk; rfl⟩
theorem RkL.put {w w6 w8 : World} {g g12 doc zz : Nat} {l : List Nat} {u v1 : Value} {xs ys : List Int} {C : Obj} (hs : RkS w w6 g l 0 zz) (hzz : zz < w6.heap.size) (hrow : l ≠ [] → ∀ k, u.ownBlock = some k → zz = k) (hp : Box2 w6 g12 32 (.int .u32 (doc : Nat)) u) (hun : ∀ z, u ≠ .int .u8 z)
    (ho : OwnL encI 3 w6 (g12 + 1) u xs) (hlt : g < g12) (hg : (w6.alloc C).grownBy w8 u.ownBlock) (o1 : OwnL encI 3 w8 (g12 + 1) v1 ys) (hat : v1.ownBlock = u.ownBlock ∨ v1.ownBlock = some (w6.alloc C).heap.size) :
    Box2 w8 g12 32 (.int .u32 (doc : Nat)) u ∧ RkL w (w8.setCell ⟨g12, 1, none⟩ v1) g g12 doc l v1 ys := by
  have hba := (Below.refl w6.heap.size w6).alloc (Nat.le_refl _) C
  have hru : ∀ k, u.ownBlock = some k → g12 < k := fun k hk => by have := (ho.base k hk).1; omega
  have hp8 := (hp.below hba).kept hg (by intro e; have := hru _ e.symm; omega)
  have hsA := hs.below hba
  have hg2 := grown_setCell w8 ⟨g12, 1, none⟩ v1
  obtain ⟨z', r1, r2, r3⟩ := Rf.app hsA.r (by simp; omega) hrow hg (fun k hk => by have := hru k hk; omega) hat (fun k hk => (o1.base k hk).2)
  have h12 := hs.lt
  have hz8 := (hsA.z.kept hg (by intro e; have := hru _ e.symm; omega)).kept hg2 (by intro e; have e' : w.heap.size = g12 := (by injection e); omega)
  have hb8 := (hsA.b.grown hg hsA.b.size (fun k hk => by have := hru k hk; omega))
  refine ⟨hp8, z', ⟨r1.keptc hg2 (by simp; omega) (hp8.no_u8 (by simp) hun), hz8, h12, hb8.grown hg2 hb8.size (fun k hk => by have e' : g12 = k := (by injection hk); omega)⟩, hp8.set1 v1, o1.kept hg2 ?_, hlt, by simpa using r2, r3⟩
  cases hv : v1.ownBlock with
  | none => exact .inl rfl
  | some k => right; intro e; have e' : k = g12 := (by injection e); have := (o1.base k hv).1; omega
/-- As the answer is laid. -/
structure RtJ (w : World) (g g12 doc rl c6 : Nat) (A6 : Option Addr) (u : Value) (xs : List Int) (S : Nat → Prop) (wr : World) : Prop where
  r : wr.cell? ⟨g, 0, none⟩ = some (.slice A6 rl c6)
  p : Box2 wr g12 32 (.int .u32 (doc : Nat)) u
  o : OwnL encI 3 wr (g12 + 1) u xs
  lt : w.heap.size < g ∧ g < g12
  b : Below w.heap.size w wr
  y : S 9 → Box2 wr w.heap.size 32 (.int .u32 (doc : Nat)) u
  n : ¬ S 9 → Box2 wr w.heap.size 32 (.int .u32 0) (.slice none 0 0)
theorem RtJ.next {w wr : World} {g g12 doc rl c6 : Nat} {A6 : Option Addr} {u : Value} {xs : List Int} {S : Nat → Prop} (h : RtJ w g g12 doc rl c6 A6 u xs S wr) {i : Nat} (hi : i ≠ 9) : RtJ w g g12 doc rl c6 A6 u xs (fun k => k = i ∨ S k) wr :=
  ⟨h.r, h.p, h.o, h.lt, h.b, fun hs => h.y (hs.resolve_left (Ne.symm hi)), fun hs => h.n fun h6 => hs (.inr h6)⟩
theorem RtJ.store {w wr : World} {g g12 doc rl c6 : Nat} {A6 : Option Addr} {u : Value} {xs : List Int} {S : Nat → Prop} (h : RtJ w g g12 doc rl c6 A6 u xs S wr) (hn : ¬ S 9) :
    RtJ w g g12 doc rl c6 A6 u xs (fun k => k = 9 ∨ S k) ((wr.setCell ⟨w.heap.size, 0, none⟩ (.int .u32 (doc : Nat))).setCell ⟨w.heap.size, 1, none⟩ u) := by
  have g1 := grown_setCell wr ⟨w.heap.size, 0, none⟩ (.int .u32 (doc : Nat))
  have g2 := grown_setCell (wr.setCell ⟨w.heap.size, 0, none⟩ (.int .u32 (doc : Nat))) ⟨w.heap.size, 1, none⟩ u
  have hg := g1.trans g2
  have h0 := h.lt
  refine ⟨?_, h.p.kept hg ?_, h.o.kept hg ?_, h.lt, h.b.grown hg h.b.size (fun k hk => by have e' : w.heap.size = k := (by injection hk); omega), fun _ => ((h.n hn).set0 _).set1 _, fun hs => absurd (.inl rfl) hs⟩
  · rw [grown_cell hg (cell_lt' h.r) (by intro e; have e' : g = w.heap.size := (by injection e); omega)]; exact h.r
  · intro e; have e' : g12 = w.heap.size := (by injection e); omega
  · cases ho : u.ownBlock with
    | none => exact .inl rfl
    | some k => right; intro e; have e' : k = w.heap.size := (by injection e); have := (h.o.base k ho).1; omega
def RtF (w : World) (A : Option Addr) (n c g g12 doc : Nat) (u : Value) (rl : Nat) (A6 : Option Addr) (c6 : Nat) : Nat → Value → World → Prop
  | 0 => fun v w => v = .agg #[.int .u32 (doc : Nat), u]
  | 1 => fun v w => v = .slice A n c
  | 2 => fun v w => v = .int .i64 (n : Nat)
  | 3 => fun v w => v = .pointer (some ⟨g, 0, none⟩)
  | 4 => fun v w => v = .pointer (some ⟨g, 0, none⟩)
  | 5 => fun v w => v = .pointer (some ⟨g, 0, none⟩)
  | 6 => fun v w => v = .slice A6 rl c6
  | 7 => fun v w => v = .int .i64 (rl : Nat)
  | 8 => fun v w => v = .int .i64 ((n : Int) - (rl : Nat))
  | 9 => fun v w => v = undef
  | 10 => fun v w => v = .int .i64 ((n : Int) - (rl : Nat))
  | 11 => fun v w => v = .int .i64 0
  | _ => fun _ _ => True
theorem RtF.below (w : World) (A : Option Addr) (n c g g12 doc : Nat) (u : Value) (rl : Nat) (A6 : Option Addr) (c6 : Nat) : ∀ i v w w', Below w.heap.size w w' → RtF w A n c g g12 doc u rl A6 c6 i v w → RtF w A n c g g12 doc u rl A6 c6 i v w'
  | 0, _, _, _, _, h => h
  | 1, _, _, _, _, h => h
  | 2, _, _, _, _, h => h
  | 3, _, _, _, _, h => h
  | 4, _, _, _, _, h => h
  | 5, _, _, _, _, h => h
  | 6, _, _, _, _, h => h
  | 7, _, _, _, _, h => h
  | 8, _, _, _, _, h => h
  | 9, _, _, _, _, h => h
  | 10, _, _, _, _, h => h
  | 11, _, _, _, _, h => h
  | _ + 12, _, _, _, _, _ => trivial
theorem RtF.keep (w₀ : World) (A : Option Addr) (n c g g12 doc : Nat) (u : Value) (rl : Nat) (A6 : Option Addr) (c6 : Nat) : ∀ i v w w', True → RtF w₀ A n c g g12 doc u rl A6 c6 i v w → RtF w₀ A n c g g12 doc u rl A6 c6 i v w'
  | 0, _, _, _, _, h => h
  | 1, _, _, _, _, h => h
  | 2, _, _, _, _, h => h
  | 3, _, _, _, _, h => h
  | 4, _, _, _, _, h => h
  | 5, _, _, _, _, h => h
  | 6, _, _, _, _, h => h
  | 7, _, _, _, _, h => h
  | 8, _, _, _, _, h => h
  | 9, _, _, _, _, h => h
  | 10, _, _, _, _, h => h
  | 11, _, _, _, _, h => h
  | _ + 12, _, _, _, _, _ => trivial
set_option maxRecDepth 100000 in
set_option maxHeartbeats 8000000 in
theorem refTake_bs (vb : Value) (b : List Nat) (at_ : Int) (prev : Nat) (w : World) (hB : BS w vb b) (hp : prev < 4294967296) (hb : b.length ≤ 1000000000) :
    Calls Try.prog 26 #[vb, .int .i64 at_, .int .u32 prev] w (TakeE b at_ prev w) := by
  obtain ⟨A, n, c, rfl, hnc, hc, hr⟩ := hB
  have HR := Lib.hid hr
  have HLn := Lib.hid hr.len
  have hn : n ≤ 1000000000 := by rw [← hr.len]; exact hb
  have hp' : prev ≤ 4294967295 := by omega
  have hz : ∀ (W : World), (Instr.build 32 #[]).run Try.prog W = .ok (.agg #[.int .u32 0, .slice none 0 0]) W := fun W => run_build W 32 _ _ (by kernel_rfl)
  have hz2 : ∀ (W : World) (d : Int), (Instr.build 32 #[(0, .int .u32 d)]).run Try.prog W = .ok (.agg #[.int .u32 d, .slice none 0 0]) W := fun W d => run_build W 32 _ _ (by kernel_rfl)
  clear hr hp hb
  by_cases h1 : at_ < 0
  · have HT : Hid (tkR b at_ prev = ((0, []), 0, 1)) := Lib.hid (by unfold tkR; rw [if_pos (.inl h1)])
    go_enter Try.func26, Try.ntmps26
    go_wp2
    exact bodyPost_ret (v := .tuple #[.agg #[.int .u32 0, .slice none 0 0], .int .i64 0, .int .i64 1]) (by simp [results, Try.results26, go_sem]) rfl (takeE_no HT.out ((Below.refl _ _).alloc (Nat.le_refl _) _))
  by_cases h2 : (n : Int) < at_
  · have HT : Hid (tkR b at_ prev = ((0, []), 0, 1)) := Lib.hid (by unfold tkR; rw [if_pos (.inr (by rw [HLn.out]; exact h2))])
    go_enter Try.func26, Try.ntmps26
    go_wp2
    exact bodyPost_ret (v := .tuple #[.agg #[.int .u32 0, .slice none 0 0], .int .i64 0, .int .i64 1]) (by simp [results, Try.results26, go_sem]) rfl (takeE_no HT.out ((Below.refl _ _).alloc (Nat.le_refl _) _))
  obtain ⟨k, rfl⟩ : ∃ k : Nat, at_ = k := ⟨at_.toNat, by omega⟩
  have hkn : k ≤ n := by omega
  have HK : Hid (k ≤ b.length) := Lib.hid (by rw [HLn.out]; exact hkn)
  have hcut := run_cut_l A n c k hkn hnc
  have HB0 := Lib.hid ((Below.refl w.heap.size w).alloc (Nat.le_refl _) (.cells #[.int .u32 0, .slice none 0 0] 32))
  have HS0 : Hid (BS (w.alloc (.cells #[.int .u32 0, .slice none 0 0] 32)) (.slice (cutAt A c k) (n - k) (c - k)) (b.drop k)) := Lib.hid (((HR.out.below HB0.out).cut hkn hnc).bs (by omega) (by omega))
  have HByt : Hid (Byt (b.drop k)) := Lib.hid (HR.out.byt.drop k)
  obtain ⟨l0, hl0⟩ : ∃ l0, l0 = b.drop k := ⟨_, rfl⟩
  rw [← hl0] at HS0 HByt
  have HL0 := Lib.hid hl0
  have hl0n : l0.length ≤ 70368744177600 := by rw [hl0, List.length_drop, HLn.out]; omega
  clear hl0 h1 h2
  go_enter Try.func26, Try.ntmps26
  go_wp2_with fail
  refine (rRead_bs _ HS0.out hl0n).mono ?_
  rintro e w2 ⟨g, rfl, hlt, hrd, hb⟩
  have HT2 : Hid (RkS w w2 g l0 0 w.heap.size) := Lib.hid ⟨hrd _ (by simp), (Box2.new w _ _ _).below hb, by have h := hlt; simp at h; omega, Below.thn HB0.out hb⟩
  clear hb hlt hrd hcut
  go_wp2_with fail
  refine (rVar_any HT2.out.r (by have := HT2.out.z.lt; exact this) hl0n).mono ?_
  rintro e w3 ⟨rfl, hrd, hg⟩
  simp only [if_true] at hrd ⊢
  have HT3 := Lib.hid (HT2.out.var hrd hg)
  have hm : (takeV l0).1 ≤ 4294967295 := by have := takeV_lt HByt.out; omega
  obtain ⟨m, hmq⟩ : ∃ m, m = (takeV l0).1 := ⟨_, rfl⟩
  obtain ⟨e1, he1⟩ : ∃ e1, e1 = (takeV l0).2 := ⟨_, rfl⟩
  obtain ⟨l1, hl1⟩ : ∃ l1, l1 = takeR l0 := ⟨_, rfl⟩
  rw [← he1, ← hl1] at HT3
  rw [← hmq] at hm ⊢
  have HM := Lib.hid hmq
  have HE1 := Lib.hid he1
  have HL1 := Lib.hid hl1
  have HB1 : Hid (Byt l1) := Lib.hid (by rw [hl1]; exact takeR_byt HByt.out)
  have hl1n : l1.length ≤ 70368744177600 := by rw [hl1]; exact Nat.le_trans (takeR_len _) hl0n
  clear hrd hg hmq he1 hl1 hl0n
  go_wp2_with fail
  refine (rVar_g2 HT3.out.r (by have := HT3.out.z.lt; exact this) hl1n).mono ?_
  rintro e w4 ⟨rfl, hrd, hg⟩
  have HT4 := Lib.hid (HT3.out.var hrd hg)
  have hc2 : vrV l1 e1 ≤ 4294967295 := by
    unfold vrV
    split
    · have := takeV_lt HB1.out; omega
    · omega
  obtain ⟨cnt, hcnt⟩ : ∃ cnt, cnt = vrV l1 e1 := ⟨_, rfl⟩
  obtain ⟨e2, he2⟩ : ∃ e2, e2 = vrE l1 e1 := ⟨_, rfl⟩
  obtain ⟨l2, hl2⟩ : ∃ l2, l2 = vrL l1 e1 := ⟨_, rfl⟩
  rw [← he2, ← hl2] at HT4
  rw [← hcnt] at hc2 ⊢
  have HCnt := Lib.hid hcnt
  have HE2 := Lib.hid he2
  have HL2 := Lib.hid hl2
  have HB2 : Hid (Byt l2) := Lib.hid (by rw [hl2]; exact vrL_byt HB1.out)
  clear hrd hg hcnt he2 hl2 hl1n
  have ke := HT4.out.r.err
  obtain ⟨z0, z1, z2, z3⟩ := HT4.out.z.facts
  by_cases h3 : e2 = 0
  · subst h3
    have he1 : e1 = 0 := by
      have := HE2.out
      unfold vrE at this
      split at this
      · assumption
      · exact this.symm
    have HE1' : Hid ((takeV l0).2 = 0) := Lib.hid (by rw [← HE1.out]; exact he1)
    have HE2' : Hid ((takeV (takeR l0)).2 = 0) := Lib.hid (by have := HE2.out; unfold vrE at this; rw [if_pos he1, HL1.out] at this; exact this.symm)
    have HCn' : Hid (cnt = (takeV (takeR l0)).1) := Lib.hid (by have := HCnt.out; unfold vrV at this; rw [if_pos he1, HL1.out] at this; exact this)
    have HL2' : Hid (l2 = takeR (takeR l0)) := Lib.hid (by have := HL2.out; unfold vrL at this; rw [if_pos he1, HL1.out] at this; exact this)
    clear he1
    by_cases h4a : 2147483647 < (prev : Int)
    · have HT : Hid (tkR b (k : Int) prev = ((0, []), 0, 150)) := Lib.hid (tkR_no HK.out (by
        rw [← HL0.out]; unfold takeP; rw [if_pos (.inr (.inr (.inl (by rw [← HM.out]; omega))))]))
      go_wp2
      exact bodyPost_ret (v := .tuple #[.agg #[.int .u32 0, .slice none 0 0], .int .i64 0, .int .i64 150]) (by simp [results, Try.results26, go_sem, z0, z1]) rfl (takeE_no HT.out (HT4.out.b2 _ _))
    have wsb : IntKind.u32.wrap (2147483647 - (prev : Int)) = 2147483647 - (prev : Int) := by rw [IntKind.wrap_u32]; omega
    by_cases h4 : 2147483647 - (prev : Int) < (m : Int)
    · have HT : Hid (tkR b (k : Int) prev = ((0, []), 0, 150)) := Lib.hid (tkR_no HK.out (by
        rw [← HL0.out]; unfold takeP; rw [if_pos (.inr (.inr (.inl (by rw [← HM.out]; omega))))]))
      go_wp2
      exact bodyPost_ret (v := .tuple #[.agg #[.int .u32 0, .slice none 0 0], .int .i64 0, .int .i64 150]) (by simp [results, Try.results26, go_sem, z0, z1]) rfl (takeE_no HT.out (HT4.out.b2 _ _))
    by_cases h5 : 2000 < (cnt : Int)
    · have HT : Hid (tkR b (k : Int) prev = ((0, []), 0, 150)) := Lib.hid (tkR_no HK.out (by
        rw [← HL0.out]; unfold takeP; rw [if_pos (.inr (.inr (.inr (by rw [← HCn'.out]; omega))))]))
      go_wp2
      exact bodyPost_ret (v := .tuple #[.agg #[.int .u32 0, .slice none 0 0], .int .i64 0, .int .i64 150]) (by simp [results, Try.results26, go_sem, z0, z1]) rfl (takeE_no HT.out (HT4.out.b2 _ _))
    have HP : Hid (takeP (b.drop k) prev = finP prev (prev + m) (takeN2 cnt 0 l2)) := Lib.hid (by
      rw [← HL0.out, takeP_ref (by
        rintro (h | h | h | h)
        · exact h HE1'.out
        · exact h HE2'.out
        · rw [← HM.out] at h; omega
        · rw [← HCn'.out] at h; omega), ← HM.out, ← HCn'.out, ← HL2'.out])
    obtain ⟨doc, hdoc⟩ : ∃ doc, doc = prev + m := ⟨_, rfl⟩
    have ed : (prev : Int) + (m : Int) = ((doc : Nat) : Int) := by omega
    have hdoc2 : doc ≤ 2147483647 := by omega
    rw [← hdoc] at HP
    have wd : IntKind.u32.wrap ((doc : Nat) : Int) = (doc : Int) := by rw [IntKind.wrap_u32]; omega
    have hcnt2 : cnt ≤ 2000 := by omega
    clear hdoc h4 h4a h5 wsb
    clear z0 z1 z2 z3
    go_wp2_with fail
    obtain ⟨g12, hg12⟩ : ∃ g12, g12 = w4.heap.size := ⟨_, rfl⟩
    have hbp := (Below.refl w4.heap.size w4).alloc (Nat.le_refl _) (.cells #[.int .u32 (doc : Nat), .slice none 0 0] 32)
    have HLp : Hid (RkL w (w4.alloc (.cells #[.int .u32 (doc : Nat), .slice none 0 0] 32)) g g12 doc l2 (.slice none 0 0) []) := Lib.hid ⟨_, HT4.out.below hbp, by rw [hg12]; exact Box2.new _ _ _ _, OwnL.nil _ _ _ _, by have := HT4.out.r.lt; omega, by have := HT4.out.z.lt; simp; omega, fun _ k hk => by simp [Value.ownBlock] at hk⟩
    have HL2n : Hid (l2.length ≤ 1000000000) := Lib.hid (by
      rw [HL2'.out]
      refine Nat.le_trans (takeR_len _) (Nat.le_trans (takeR_len _) ?_)
      rw [HL0.out, List.length_drop, HLn.out]
      omega)
    rw [← hg12]
    clear hg12 ed wd hbp ke
    go_loopw [13, 14] (fun x13 x14 wr => ∃ i : Nat, i ≤ cnt ∧ x14 = .int .u32 i ∧ ∃ la : Nat, x13 = .int .i64 la ∧ la ≤ i * 1048576 ∧ Hid (∃ (xs : List Int) (lk : List Nat) (u : Value), takeN2 cnt 0 l2 = (takeN2 (cnt - i) la lk).map (fun x => (xs ++ x.1, x.2)) ∧ xs.length = i ∧ (Byt lk ∧ lk.length ≤ 1000000000) ∧ RkL w wr g g12 doc lk u xs)) (fun _ x14 _ => cnt - (intOf x14).toNat)
    case atStart => exact ⟨0, by omega, rfl, 0, rfl, by omega, Lib.hid ⟨[], l2, _, by simp, rfl, ⟨HB2.out, HL2n.out⟩, HLp.out⟩⟩
    case round =>
      obtain ⟨i, hi, rfl, la, rfl, hla, HI⟩ := hrel
      obtain ⟨xs, lk, u, hq, hxl, hby, zz, hS, hP, hO, hgg, hzz, hrow⟩ := HI.out
      have HQ := Lib.hid hq
      have HXl := Lib.hid hxl
      have HBy := Lib.hid hby
      have HS := Lib.hid hS
      have HPp := Lib.hid hP
      have HO := Lib.hid hO
      have HRow := Lib.hid hrow
      have HGg : Hid (g < g12) := Lib.hid hgg
      have HZz : Hid (zz < wr.heap.size) := Lib.hid hzz
      clear hq hxl hby hS hP hO hrow hgg hzz HI
      by_cases hlt : (i : Int) < (cnt : Int)
      · go_wp2_with fail
        refine (rVar_any HS.out.r HZz.out (by have := HBy.out.2; omega)).mono ?_
        rintro e w6 ⟨rfl, hrd, hg⟩
        simp only [if_true] at hrd ⊢
        have HS6 := Lib.hid (HS.out.var hrd hg)
        have HP6 := Lib.hid (HPp.out.kept hg (by have := HGg.out; intro e; have e' : g12 = g := (by injection e); omega))
        have HO6 : Hid (OwnL encI 3 w6 (g12 + 1) u xs) := Lib.hid (HO.out.kept hg (by
          cases ho : u.ownBlock with
          | none => exact .inl rfl
          | some k => right; intro e; have e' : k = g := (by injection e); have := (HO.out.base k ho).1; have := HGg.out; omega))
        have HSz6 : Hid (wr.heap.size ≤ w6.heap.size) := Lib.hid hg.size
        have hd : (takeV lk).1 ≤ 4294967295 := by have := takeV_lt HBy.out.1; omega
        have hsplit : cnt - i = (cnt - (i + 1)) + 1 := by omega
        have HSp := Lib.hid hsplit
        obtain ⟨d, hdq⟩ : ∃ d, d = (takeV lk).1 := ⟨_, rfl⟩
        obtain ⟨ed, hed⟩ : ∃ ed, ed = (takeV lk).2 := ⟨_, rfl⟩
        rw [← hed] at HS6
        rw [← hdq] at hd ⊢
        have HD := Lib.hid hdq
        have HEd := Lib.hid hed
        clear hrd hg hdq hed hsplit
        have ke := HS6.out.r.err
        obtain ⟨z0, z1, z2, z3⟩ := HS6.out.z.facts
        by_cases h6 : ed = 0
        · subst h6
          by_cases h7 : 1048576 < (d : Int)
          · have HT : Hid (tkR b (k : Int) prev = ((0, []), 0, 150)) := Lib.hid (tkR_no HK.out (by
              rw [HP.out, HQ.out, HSp.out, takeN2_no (.inr (by rw [← HD.out]; omega))]; rfl))
            go_wp2
            exact bodyPost_ret (v := .tuple #[.agg #[.int .u32 0, .slice none 0 0], .int .i64 0, .int .i64 150]) (by simp [results, Try.results26, go_sem, z0, z1]) rfl (takeE_no HT.out (HS6.out.b2 _ _))
          · obtain ⟨la2, hla2⟩ : ∃ la2, la2 = la + d := ⟨_, rfl⟩
            have ela : (la : Int) + (d : Int) = ((la2 : Nat) : Int) := by omega
            have hla3 : la2 ≤ (i + 1) * 1048576 := by omega
            have hla4 : la2 ≤ 2098200576 := by omega
            have HQ2 : Hid (takeN2 cnt 0 l2 = (takeN2 (cnt - (i + 1)) la2 (takeR lk)).map (fun x => ((xs ++ [(la2 : Int)]) ++ x.1, x.2))) := Lib.hid (by
              rw [HQ.out, HSp.out, takeN2_step (by rw [← HEd.out]) (by rw [← HD.out]; omega), ← HD.out, ← hla2, Option.map_map]
              congr 1
              funext x
              simp)
            have HRow6 : Hid (takeR lk ≠ [] → ∀ k, u.ownBlock = some k → zz = k) := Lib.hid (fun h => HRow.out (fun e => by
              apply h
              rw [e]
              rfl))
            clear hla2
            obtain ⟨b0, b1, b2, b3⟩ := HP6.out.facts
            obtain ⟨A5, c5, hu, hl5, hc5, _⟩ := HO6.out.rd
            subst hu
            have hba := (Below.refl w6.heap.size w6).alloc (Nat.le_refl _) (.cells #[.int .i64 (la2 : Nat)] 3)
            have hrd : Rd encI (w6.alloc (.cells #[.int .i64 (la2 : Nat)] 3)) (some ⟨w6.heap.size, 0, none⟩) 1 [(la2 : Int)] := Rd.new w6 _ _ _ 1 (0, 0) rfl rfl (by decide)
            obtain ⟨v1, w8, r1, o1, g1, at1⟩ := run_append_rd (P := Try.prog) (c := 1) (g12 + 1) 30 30 3 (.int .i64 0) 8 Try.underlying30 infoI rfl (by decide) encI_one (HO6.out.below hba) hrd (by have := HXl.out; omega) (by have := HP6.out.lt; simp; omega)
            obtain ⟨hp8, hL8⟩ := RkL.put HS6.out (Nat.lt_of_lt_of_le HZz.out HSz6.out) HRow6.out HP6.out (by simp) HO6.out HGg.out g1 o1 at1
            have o2 : w8.ownsRow (g12 + 1) 3 1 v1 (xs.length + 1) ((xs ++ [(la2 : Int)]).map encI) := by
              have := o1
              unfold OwnL at this
              simpa using this
            obtain ⟨gv, cap, hv1⟩ := ownsRow_succ o2
            subst hv1
            obtain ⟨d0, d1, d2, d3⟩ := hp8.facts
            have HL8 := Lib.hid hL8
            have HXs : Hid ((xs ++ [(la2 : Int)]).length = i + 1) := Lib.hid (by rw [List.length_append, HXl.out]; rfl)
            have HBy2 : Hid (Byt (takeR lk) ∧ (takeR lk).length ≤ 1000000000) := Lib.hid ⟨takeR_byt HBy.out.1, Nat.le_trans (takeR_len lk) HBy.out.2⟩
            have wla : IntKind.i64.wrap ((la2 : Nat) : Int) = (la2 : Int) := IntWalk.i64_in _ (by omega)
            have wd2 : IntKind.i64.wrap ((d : Nat) : Int) = (d : Int) := IntWalk.i64_in _ (by omega)
            obtain ⟨xl, hxl⟩ : ∃ xl, xl = xs.length := ⟨_, rfl⟩
            rw [← hxl] at r1 HL8 b1 d1 hl5
            clear hba hrd o1 g1 at1 hp8 hL8 o2 hxl z0 z1 z2 z3
            go_wp2_with (at_builtin; refine wpl_append_run rfl _ _ _ rfl rfl rfl r1 ?_)
            exact ⟨⟨i + 1, by omega, by go_num, la2, by first | rfl | go_num, hla3, Lib.hid ⟨_, _, _, HQ2.out, HXs.out, HBy2.out, HL8.out⟩⟩, by simp [intOf]; omega⟩
        · have HT : Hid (tkR b (k : Int) prev = ((0, []), 0, 150)) := Lib.hid (tkR_no HK.out (by
            rw [HP.out, HQ.out, HSp.out, takeN2_no (.inl (by rw [← HEd.out]; exact h6))]; rfl))
          have h6' : (ed == 0) = false := by simp [h6]
          have h6'' : (ed != 0) = true := by simp [h6]
          go_wp2
          exact bodyPost_ret (v := .tuple #[.agg #[.int .u32 0, .slice none 0 0], .int .i64 0, .int .i64 150]) (by simp [results, Try.results26, go_sem, z0, z1]) rfl (takeE_no HT.out (HS6.out.b2 _ _))
      · obtain rfl : i = cnt := by omega
        have HQ3 : Hid (takeN2 i 0 l2 = some (xs, lk)) := Lib.hid (by rw [HQ.out, Nat.sub_self]; simp [takeN2])
        obtain ⟨A5, c5, hu, hl5, hc5, hr5⟩ := HO.out.rd
        subst hu
        obtain ⟨b0, b1, b2, b3⟩ := HPp.out.facts
        have C := Lib.hid (refCheck_pv prev (doc, xs) (.agg #[.int .u32 (doc : Nat), .slice A5 xs.length c5]) wr ⟨_, rfl, ⟨A5, _, c5, rfl, hl5, hc5, hr5⟩, by show doc < _; omega⟩ (by omega))
        unfold ChkPE at C
        obtain ⟨xl, hxl⟩ : ∃ xl, xl = xs.length := ⟨_, rfl⟩
        rw [← hxl] at C b1 HPp HO hl5
        clear hr5 hxl HXl HQ HLp HRow
        go_wp2_with fail
        refine C.out.mono ?_
        rintro e w9 ⟨rfl, hb⟩
        have HS9 := Lib.hid (HS.out.below hb)
        have HP9 := Lib.hid (HPp.out.below hb)
        have HO9 := Lib.hid (HO.out.below hb)
        clear hb C b0 b1 b2 b3
        by_cases hok : okP prev (doc, xs)
        · have HCh := Lib.hid (chkP_yes hok)
          have HT : Hid (tkR b (k : Int) prev = ((doc, xs), (n : Int) - (lk.length : Nat), 0)) := Lib.hid (by
            rw [tkR_yes HK.out (by rw [HP.out, HQ3.out]; exact finP_yes hok), HLn.out])
          rw [HCh.out]
          obtain ⟨A6, rl, c6, k60, _, _, k63, _⟩ := HS9.out.r.b
          have hrl : rl = lk.length := k63.len.symm
          rw [← hrl] at HT
          have hrl2 : rl ≤ 1000000000 := by rw [hrl]; exact HBy.out.2
          have K60 := Lib.hid k60
          have wsb : IntKind.i64.wrap ((n : Int) - (rl : Nat)) = (n : Int) - (rl : Nat) := IntWalk.i64_in _ (by omega)
          obtain ⟨u, hu⟩ : ∃ u, u = Value.slice A5 xl c5 := ⟨_, rfl⟩
          clear hok hrl k60 k63
          rw [← hu]
          have HP9' : Hid (Box2 w9 g12 32 (.int .u32 (doc : Nat)) u) := Lib.hid (by rw [hu]; exact HP9.out)
          have HO9' : Hid (OwnL encI 3 w9 (g12 + 1) u xs) := Lib.hid (by rw [hu]; exact HO9.out)
          go_wp2_with fail
          rename_i K1 hK1
          refine wp_region_flowJ (by kernel_rfl) (RtF w A n c g g12 doc u rl A6 c6) (fun _ _ => True) (RtJ w g g12 doc rl c6 A6 u xs) (RtF.keep w A n c g g12 doc u rl A6 c6) ?_ (by kernel_rfl) (by kernel_rfl) ?_ ?_
          case refine_1 =>
            have hbd := Below.drewN w9 1
            exact ⟨cell_keep hbd K60.out, HP9'.out.below hbd, HO9'.out.below hbd, ⟨HS9.out.lt, HGg.out⟩, Below.thn HS9.out.b hbd, fun h => h.elim, fun _ => HS9.out.z.below hbd⟩
          case refine_2 =>
            intro i o ho ρ y w2 S hJ hnS hneeds hcl hreg hn hf hyb hyn
            have hi := (Array.getElem?_eq_some_iff.1 ho).1
            rcases Nat.lt_or_ge i 12 with hi2 | hi2
            case inr => simp at hi; omega
            obtain rfl | rfl | rfl | rfl | rfl | rfl | rfl | rfl | rfl | rfl | rfl | rfl : i = 0 ∨ i = 1 ∨ i = 2 ∨ i = 3 ∨ i = 4 ∨ i = 5 ∨ i = 6 ∨ i = 7 ∨ i = 8 ∨ i = 9 ∨ i = 10 ∨ i = 11 := by omega
            · cases ho
              rw [if_pos (show Region.wanted _ y = true from rfl)]
              have f12 : ρ (.tmp 12) = .pointer (some ⟨g12, 0, none⟩) := hf 12 (by kernel_rfl)
              obtain ⟨b1, b2, _, _⟩ := hJ.p.facts
              exact does_ok (v := .agg #[.int .u32 (doc : Nat), u]) (w' := w2) (by simp [go_sem, hreg.const, f12, b1, b2]) ⟨rfl, trivial, hJ.next (by decide)⟩
            · cases ho
              rw [if_pos (show Region.wanted _ y = true from rfl)]
              have f0 : ρ (.tmp 0) = .slice A n c := hf 0 (by kernel_rfl)
              exact ⟨f0, trivial, hJ.next (by decide)⟩
            · cases ho
              rw [if_pos (show Region.wanted _ y = true from rfl)]
              have f90 : ρ (.tmp 90) = .slice A n c := hn 1 _ 90 rfl (by kernel_rfl) rfl
              exact does_ok (v := .int .i64 (n : Nat)) (w' := w2) (by simp [go_sem, hreg.const, f90]) ⟨rfl, trivial, hJ.next (by decide)⟩
            · cases ho
              rw [if_pos (show Region.wanted _ y = true from rfl)]
              have f9 : ρ (.tmp 9) = .pointer (some ⟨g, 0, none⟩) := hf 9 (by kernel_rfl)
              exact ⟨f9, trivial, hJ.next (by decide)⟩
            · cases ho
              rw [if_pos (show Region.wanted _ y = true from rfl)]
              have f92 : ρ (.tmp 92) = .pointer (some ⟨g, 0, none⟩) := hn 3 _ 92 rfl (by kernel_rfl) rfl
              exact does_ok (v := .pointer (some ⟨g, 0, none⟩)) (w' := w2) (by simp [go_sem, hreg.const, f92]) ⟨rfl, trivial, hJ.next (by decide)⟩
            · cases ho
              rw [if_pos (show Region.wanted _ y = true from rfl)]
              have f93 : ρ (.tmp 93) = .pointer (some ⟨g, 0, none⟩) := hn 4 _ 93 rfl (by kernel_rfl) rfl
              exact does_ok (v := .pointer (some ⟨g, 0, none⟩)) (w' := w2) (by simp [go_sem, hreg.const, f93]) ⟨rfl, trivial, hJ.next (by decide)⟩
            · cases ho
              rw [if_pos (show Region.wanted _ y = true from rfl)]
              have f94 : ρ (.tmp 94) = .pointer (some ⟨g, 0, none⟩) := hn 5 _ 94 rfl (by kernel_rfl) rfl
              have b1 := hJ.r
              exact does_ok (v := .slice A6 rl c6) (w' := w2) (by simp [go_sem, hreg.const, f94, b1]) ⟨rfl, trivial, hJ.next (by decide)⟩
            · cases ho
              rw [if_pos (show Region.wanted _ y = true from rfl)]
              have f95 : ρ (.tmp 95) = .slice A6 rl c6 := hn 6 _ 95 rfl (by kernel_rfl) rfl
              exact does_ok (v := .int .i64 (rl : Nat)) (w' := w2) (by simp [go_sem, hreg.const, f95]) ⟨rfl, trivial, hJ.next (by decide)⟩
            · cases ho
              rw [if_pos (show Region.wanted _ y = true from rfl)]
              have f91 : ρ (.tmp 91) = .int .i64 (n : Nat) := hn 2 _ 91 rfl (by kernel_rfl) rfl
              have f96 : ρ (.tmp 96) = .int .i64 (rl : Nat) := hn 7 _ 96 rfl (by kernel_rfl) rfl
              exact does_ok (v := .int .i64 ((n : Int) - (rl : Nat))) (w' := w2) (by simp [go_sem, hreg.const, f91, f96, wsb]) ⟨rfl, trivial, hJ.next (by decide)⟩
            · cases ho
              rw [if_pos (show Region.wanted _ y = true from rfl)]
              have f6 : ρ (.tmp 6) = .pointer (some ⟨w.heap.size, 0, none⟩) := hf 6 (by kernel_rfl)
              have f89 : ρ (.tmp 89) = .agg #[.int .u32 (doc : Nat), u] := hn 0 _ 89 rfl (by kernel_rfl) rfl
              obtain ⟨b1, b2, b3, b4⟩ := (hJ.n hnS).facts
              exact does_skip (w' := (w2.setCell ⟨w.heap.size, 0, none⟩ (.int .u32 (doc : Nat))).setCell ⟨w.heap.size, 1, none⟩ u) (by subst hu; simp [go_sem, f6, f89, b1, b2, b3, b4]) ⟨rfl, trivial, hJ.store hnS⟩
            · cases ho
              rw [if_pos (show Region.wanted _ y = true from rfl)]
              have f97 : ρ (.tmp 97) = .int .i64 ((n : Int) - (rl : Nat)) := hn 8 _ 97 rfl (by kernel_rfl) rfl
              exact ⟨f97, trivial, hJ.next (by decide)⟩
            · cases ho
              rw [if_pos (show Region.wanted _ y = true from rfl)]
              exact does_ok (v := .int .i64 0) (w' := w2) (by simp [go_sem, hreg.const]) ⟨rfl, trivial, hJ.next (by decide)⟩
          case refine_3 =>
            intro a w2 S hJ hall hd hs hfacts hrest
            have q7 : a.tmps.getD 7 undef = .int .i64 ((n : Int) - (rl : Nat)) := hfacts 10 _ 7 rfl rfl
            have q8 : a.tmps.getD 8 undef = .int .i64 0 := hfacts 11 _ 8 rfl rfl
            have ha := frame_of hd hs hrest [7, 8, 89, 90, 91, 92, 93, 94, 95, 96, 97] (by kernel_rfl)
            simp only [q7, q8, List.foldl, List.setIfInBounds_toArray, List.set_cons_succ, List.set_cons_zero] at ha
            clear q7 q8 hd hs hfacts hrest
            generalize a.tmps.getD = gg at ha
            subst ha
            have hy := hJ.y (hall 9 (by decide))
            have HE : Hid (TakeE b (k : Int) prev w (.returned (.tuple #[.agg #[.int .u32 (doc : Nat), u], .int .i64 ((n : Int) - (rl : Nat)), .int .i64 0])) w2) := Lib.hid (by
              unfold TakeE
              rw [HT.out]
              exact ⟨u, rfl, hJ.o.mono (by have := hJ.lt; omega), hJ.b⟩)
            obtain ⟨z0, z1, z2, z3⟩ := hy.facts
            clear hy hJ hall
            refine hK1 _ _ ?_
            go_wp2
            exact bodyPost_ret (v := .tuple #[.agg #[.int .u32 (doc : Nat), u], .int .i64 ((n : Int) - (rl : Nat)), .int .i64 0]) (by simp [results, Try.results26, go_sem, z0, z1]) rfl HE.out
        · have HCh := Lib.hid (chkP_no hok)
          have HT : Hid (tkR b (k : Int) prev = ((0, []), 0, 150)) := Lib.hid (tkR_no HK.out (by
            rw [HP.out, HQ3.out]; exact finP_no hok))
          obtain ⟨z0, z1, z2, z3⟩ := HS9.out.z.facts
          rw [HCh.out]
          clear hok
          go_wp2
          exact bodyPost_ret (v := .tuple #[.agg #[.int .u32 0, .slice none 0 0], .int .i64 0, .int .i64 150]) (by simp [results, Try.results26, go_sem, z0, z1]) rfl (takeE_no HT.out (HS9.out.b2 _ _))
  · have HT : Hid (tkR b (k : Int) prev = ((0, []), 0, 150)) := Lib.hid (tkR_no HK.out (by
      rw [← HL0.out]; unfold takeP; rw [if_pos]
      by_cases he1 : e1 = 0
      · right; left
        have := HE2.out
        unfold vrE at this
        rw [if_pos he1, HL1.out] at this
        rw [← this]; exact h3
      · left; rw [← HE1.out]; exact he1))
    have h3' : (e2 == 0) = false := by simp [h3]
    have h3'' : (e2 != 0) = true := by simp [h3]
    go_wp2
    exact bodyPost_ret (v := .tuple #[.agg #[.int .u32 0, .slice none 0 0], .int .i64 0, .int .i64 150]) (by simp [results, Try.results26, go_sem, z0, z1]) rfl (takeE_no HT.out (HT4.out.b2 _ _))
end Go.Proofs.Ytmonlookmnlgnaa
