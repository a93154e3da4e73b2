/- A posting taken: the program's. -/
import Derived.Test.YtmonlookmnlgnaaTakeMath
import Derived.Test.YtmonlookmnlgnaaRegT
import Derived.Laws.Tables
namespace Go.Proofs.Ytmonlookmnlgnaa
open Go.RowKit
set_option linter.unusedVariables false
set_option linter.unusedSimpArgs false

/-- As the answer is laid. -/
structure TkJ (w : World) (g g12 doc : Nat) (lk : List Nat) (u : Value) (xs : List Int) (S : Nat → Prop) (wr : World) : Prop where
  r : Rdr wr g lk 0 (w.heap.size + 1) g
  p : Box2 wr g12 32 (.int .u32 (doc : Nat)) u
  o : OwnL encI 3 wr (g12 + 1) u xs
  lt : w.heap.size + 1 < g ∧ g < g12
  b : Below w.heap.size w wr
  y : S 6 → Box2 wr w.heap.size 32 (.int .u32 (doc : Nat)) u
  n : ¬ S 6 → Box2 wr w.heap.size 32 (.int .u32 0) (.slice none 0 0)
theorem TkJ.next {w wr : World} {g g12 doc : Nat} {lk : List Nat} {u : Value} {xs : List Int} {S : Nat → Prop} (h : TkJ w g g12 doc lk u xs S wr) {i : Nat} (hi : i ≠ 6) : TkJ w g g12 doc lk u xs (fun k => k = i ∨ S k) wr :=
  ⟨h.r, h.p, h.o, h.lt, h.b, fun hs => h.y (hs.resolve_left (Ne.symm hi)), fun hs => h.n fun h6 => hs (.inr h6)⟩
theorem TkJ.grown {w wr w' : World} {g g12 doc : Nat} {lk : List Nat} {u : Value} {xs : List Int} {S : Nat → Prop} (h : TkJ w g g12 doc lk u xs S wr) (hg : wr.grownBy w' (some w.heap.size)) :
    Rdr w' g lk 0 (w.heap.size + 1) g ∧ Box2 w' g12 32 (.int .u32 (doc : Nat)) u ∧ OwnL encI 3 w' (g12 + 1) u xs ∧ Below w.heap.size w w' := by
  have h0 := h.lt
  refine ⟨h.r.kept hg ?_ ?_, h.p.kept hg ?_, h.o.kept hg ?_, h.b.grown hg h.b.size (fun k hk => by cases hk; exact Nat.le_refl _)⟩
  · intro e; have e' : g = w.heap.size := (by injection e); omega
  · intro k hk _ e; have e' : k = w.heap.size := (by injection e); omega
  · intro e; have e' : g12 = w.heap.size := (by injection e); omega
  · cases ho : u.ownBlock with
    | none => exact .inl rfl
    | some k => right; intro e; have e' : k = w.heap.size := (by injection e); have := (h.o.base k ho).1; omega
theorem TkJ.store {w wr : World} {g g12 doc : Nat} {lk : List Nat} {u : Value} {xs : List Int} {S : Nat → Prop} (h : TkJ w g g12 doc lk u xs S wr) (hn : ¬ S 6) :
    TkJ w g g12 doc lk u xs (fun k => k = 6 ∨ S k) ((wr.setCell ⟨w.heap.size, 0, none⟩ (.int .u32 (doc : Nat))).setCell ⟨w.heap.size, 1, none⟩ u) := by
  have g1 := grown_setCell wr ⟨w.heap.size, 0, none⟩ (.int .u32 (doc : Nat))
  have g2 := grown_setCell (wr.setCell ⟨w.heap.size, 0, none⟩ (.int .u32 (doc : Nat))) ⟨w.heap.size, 1, none⟩ u
  obtain ⟨a1, a2, a3, a4⟩ := h.grown (g1.trans g2)
  exact ⟨a1, a2, a3, h.lt, a4, fun _ => ((h.n hn).set0 _).set1 _, fun hs => absurd (.inl rfl) hs⟩
theorem takeE_no {b : List Nat} {at_ : Int} {prev : Nat} {w w' : World} {e : Int} (h : tkR b at_ prev = ((0, []), 0, e)) (hb : Below w.heap.size w w') :
    TakeE b at_ prev w (.returned (.tuple #[.agg #[.int .u32 0, .slice none 0 0], .int .i64 0, .int .i64 e])) w' := by
  unfold TakeE
  rw [h]
  exact ⟨_, rfl, OwnL.nil _ _ _ _, hb⟩
theorem tkR_no {b : List Nat} {k prev : Nat} (hk : k ≤ b.length) (h : takeP (b.drop k) prev = none) : tkR b (k : Int) prev = ((0, []), 0, 150) := by
  unfold tkR
  rw [if_neg (by omega), Int.toNat_natCast, h]
theorem tkR_yes {b : List Nat} {k prev : Nat} {x : Po × List Nat} (hk : k ≤ b.length) (h : takeP (b.drop k) prev = some x) : tkR b (k : Int) prev = (x.1, (b.length : Int) - (x.2.length : Nat), 0) := by
  unfold tkR
  rw [if_neg (by omega), Int.toNat_natCast, h]
/-- As one takes: the reader, the room for what is answered. -/
structure TkS (w wr : World) (g : Nat) (l : List Nat) (e : Int) : Prop where
  r : Rdr wr g l e (w.heap.size + 1) g
  z : Box2 wr w.heap.size 32 (.int .u32 0) (.slice none 0 0)
  lt : w.heap.size + 1 < g
  b : Below w.heap.size w wr
theorem TkS.var {w wr w' : World} {g : Nat} {l l' : List Nat} {e e' : Int} (h : TkS w wr g l e) (hr : Rdr w' g l' e' (w.heap.size + 1) g) (hg : wr.grownBy w' (some g)) : TkS w w' g l' e' :=
  ⟨hr, h.z.kept hg (by have := h.lt; intro e; injection e; omega), h.lt, h.b.grown hg h.b.size (fun k hk => by have := h.lt; injection hk; omega)⟩
theorem TkS.grown {w wr w' : World} {g : Nat} {l : List Nat} {e : Int} {row : Option Nat} (h : TkS w wr g l e) (hg : wr.grownBy w' row) (hrow : ∀ k, row = some k → g < k) : TkS w w' g l e := by
  have h0 := h.lt
  refine ⟨h.r.kept hg ?_ ?_, h.z.kept hg ?_, h.lt, h.b.grown hg h.b.size (fun k hk => by have := hrow k hk; omega)⟩
  · intro e; have := hrow g e.symm; omega
  · intro k _ hk e; have := hrow k e.symm; omega
  · intro e; have := hrow _ e.symm; omega
theorem TkS.below {w wr w' : World} {g : Nat} {l : List Nat} {e : Int} (h : TkS w wr g l e) (hb : Below wr.heap.size wr w') : TkS w w' g l e := h.grown (grown_below hb none) (fun k e => by cases e)
theorem TkS.b2 {w wr : World} {g : Nat} {l : List Nat} {e : Int} (h : TkS w wr g l e) (x y : Value) : Below w.heap.size w ((wr.setCell ⟨w.heap.size, 0, none⟩ x).setCell ⟨w.heap.size, 1, none⟩ y) :=
  (h.b.setCell (p := ⟨w.heap.size, 0, none⟩) (Nat.le_refl _) _).setCell (p := ⟨w.heap.size, 1, none⟩) (Nat.le_refl _) _
structure TkL (w wr : World) (g g12 doc : Nat) (lk : List Nat) (u : Value) (xs : List Int) : Prop where
  s : TkS w wr g lk 0
  p : Box2 wr g12 32 (.int .u32 (doc : Nat)) u
  o : OwnL encI 3 wr (g12 + 1) u xs
  lt : g < g12
theorem TkL.below {w wr w' : World} {g g12 doc : Nat} {lk : List Nat} {u : Value} {xs : List Int} (h : TkL w wr g g12 doc lk u xs) (hb : Below wr.heap.size wr w') : TkL w w' g g12 doc lk u xs :=
  ⟨h.s.below hb, h.p.below hb, h.o.below hb, h.lt⟩
theorem TkL.var {w wr w' : World} {g g12 doc : Nat} {lk lk' : List Nat} {u : Value} {xs : List Int} (h : TkL w wr g g12 doc lk u xs) {e' : Int} (hr : Rdr w' g lk' e' (w.heap.size + 1) g) (hg : wr.grownBy w' (some g)) :
    TkS w w' g lk' e' ∧ Box2 w' g12 32 (.int .u32 (doc : Nat)) u ∧ OwnL encI 3 w' (g12 + 1) u xs :=
  ⟨h.s.var hr hg, h.p.kept hg (by have := h.lt; intro e; injection e; omega), h.o.kept hg (by
    cases ho : u.ownBlock with
    | none => exact .inl rfl
    | some k => right; intro e; injection e with e; have := (h.o.base k ho).1; have := h.lt; omega)⟩
/-- A position is put into the posting's box. -/
theorem TkL.put {w w3 w5 : World} {g g12 doc : Nat} {lk : List Nat} {u v1 : Value} {xs ys : List Int} {C : Obj} (hs : TkS w w3 g lk 0) (hp : Box2 w3 g12 32 (.int .u32 (doc : Nat)) u) (ho : OwnL encI 3 w3 (g12 + 1) u xs) (hlt : g < g12)
    (hg : (w3.alloc C).grownBy w5 u.ownBlock) (o1 : OwnL encI 3 w5 (g12 + 1) v1 ys) :
    Box2 w5 g12 32 (.int .u32 (doc : Nat)) u ∧ TkL w (w5.setCell ⟨g12, 1, none⟩ v1) g g12 doc lk v1 ys := by
  have hba := (Below.refl w3.heap.size w3).alloc (Nat.le_refl _) C
  have hrow : ∀ k, u.ownBlock = some k → g12 < k := fun k hk => by have := (ho.base k hk).1; omega
  have hp5 := (hp.below hba).kept hg (by intro e; have := hrow _ e.symm; omega)
  have hg2 := grown_setCell w5 ⟨g12, 1, none⟩ v1
  refine ⟨hp5, (((hs.below hba).grown hg fun k hk => by have := hrow k hk; omega).grown hg2 fun k hk => by cases hk; exact hlt), hp5.set1 v1, o1.kept hg2 ?_, hlt⟩
  cases hv : v1.ownBlock with
  | none => exact .inl rfl
  | some k => right; intro e; have e' : k = g12 := (by injection e); have := (o1.base k hv).1; omega
def TakeF (w : World) (A : Option Addr) (n c g g12 doc : Nat) (u : Value) (rl : Nat) : Nat → Value → World → Prop
  | 0 => fun v w => v = .agg #[.int .u32 (doc : Nat), u]
  | 1 => fun v w => v = .slice A n c
  | 2 => fun v w => v = .int .i64 (n : Nat)
  | 3 => fun v w => v = .pointer (some ⟨g, 0, none⟩)
  | 4 => fun v w => v = .int .i64 (rl : Nat)
  | 5 => fun v w => v = .int .i64 ((n : Int) - (rl : Nat))
  | 6 => fun v w => v = undef
  | 7 => fun v w => v = .int .i64 ((n : Int) - (rl : Nat))
  | 8 => fun v w => v = .int .i64 0
  | _ => fun _ _ => True
theorem TakeF.below (w : World) (A : Option Addr) (n c g g12 doc : Nat) (u : Value) (rl : Nat) : ∀ i v w w', Below w.heap.size w w' → TakeF w A n c g g12 doc u rl i v w → TakeF w A n c g g12 doc u rl i v w'
  | 0, _, _, _, _, h => h
  | 1, _, _, _, _, h => h
  | 2, _, _, _, _, h => h
  | 3, _, _, _, _, h => h
  | 4, _, _, _, _, h => h
  | 5, _, _, _, _, h => h
  | 6, _, _, _, _, h => h
  | 7, _, _, _, _, h => h
  | 8, _, _, _, _, h => h
  | _ + 9, _, _, _, _, _ => trivial
theorem TakeF.keep (w₀ : World) (A : Option Addr) (n c g g12 doc : Nat) (u : Value) (rl : Nat) : ∀ i v w w', True → TakeF w₀ A n c g g12 doc u rl i v w → TakeF w₀ A n c g g12 doc u rl i v w'
  | 0, _, _, _, _, h => h
  | 1, _, _, _, _, h => h
  | 2, _, _, _, _, h => h
  | 3, _, _, _, _, h => h
  | 4, _, _, _, _, h => h
  | 5, _, _, _, _, h => h
  | 6, _, _, _, _, h => h
  | 7, _, _, _, _, h => h
  | 8, _, _, _, _, h => h
  | _ + 9, _, _, _, _, _ => trivial

set_option maxRecDepth 100000 in
set_option maxHeartbeats 8000000 in
theorem Take_bs (vb : Value) (b : List Nat) (at_ : Int) (prev : Nat) (w : World) (hB : BS w vb b) (hp : prev < 4294967296) (hb : b.length ≤ 1000000000) :
    Calls Try.prog 25 #[vb, .int .i64 at_, .int .u32 prev] w (TakeE b at_ prev w) := by
  obtain ⟨A, n, c, rfl, hnc, hc, hr⟩ := hB
  have HR := Lib.hid hr
  have HLn := Lib.hid hr.len
  have hn : n ≤ 1000000000 := by rw [← hr.len]; exact hb
  have hp' : prev ≤ 4294967295 := by omega
  have hz : ∀ (W : World), (Instr.build 32 #[]).run Try.prog W = .ok (.agg #[.int .u32 0, .slice none 0 0]) W := fun W => run_build W 32 _ _ (by kernel_rfl)
  have hz2 : ∀ (W : World) (d : Int), (Instr.build 32 #[(0, .int .u32 d)]).run Try.prog W = .ok (.agg #[.int .u32 d, .slice none 0 0]) W := fun W d => run_build W 32 _ _ (by kernel_rfl)
  clear hr hp hb
  by_cases h1 : at_ < 0
  · have HT : Hid (tkR b at_ prev = ((0, []), 0, 1)) := Lib.hid (by unfold tkR; rw [if_pos (.inl h1)])
    go_enter Try.func25, Try.ntmps25
    go_wp2
    exact bodyPost_ret (v := .tuple #[.agg #[.int .u32 0, .slice none 0 0], .int .i64 0, .int .i64 1]) (by simp [results, Try.results25, go_sem]) rfl (takeE_no HT.out ((Below.refl _ _).alloc (Nat.le_refl _) _))
  by_cases h2 : (n : Int) < at_
  · have HT : Hid (tkR b at_ prev = ((0, []), 0, 1)) := Lib.hid (by unfold tkR; rw [if_pos (.inr (by rw [HLn.out]; exact h2))])
    go_enter Try.func25, Try.ntmps25
    go_wp2
    exact bodyPost_ret (v := .tuple #[.agg #[.int .u32 0, .slice none 0 0], .int .i64 0, .int .i64 1]) (by simp [results, Try.results25, go_sem]) rfl (takeE_no HT.out ((Below.refl _ _).alloc (Nat.le_refl _) _))
  obtain ⟨k, rfl⟩ : ∃ k : Nat, at_ = k := ⟨at_.toNat, by omega⟩
  have hkn : k ≤ n := by omega
  have HK : Hid (k ≤ b.length) := Lib.hid (by rw [HLn.out]; exact hkn)
  have hcut := run_cut_l A n c k hkn hnc
  have HB0 := Lib.hid ((Below.refl w.heap.size w).alloc (Nat.le_refl _) (.cells #[.int .u32 0, .slice none 0 0] 32))
  have HS0 : Hid (BS (w.alloc (.cells #[.int .u32 0, .slice none 0 0] 32)) (.slice (cutAt A c k) (n - k) (c - k)) (b.drop k)) := Lib.hid (((HR.out.below HB0.out).cut hkn hnc).bs (by omega) (by omega))
  have HByt : Hid (Byt (b.drop k)) := Lib.hid (HR.out.byt.drop k)
  obtain ⟨l0, hl0⟩ : ∃ l0, l0 = b.drop k := ⟨_, rfl⟩
  rw [← hl0] at HS0 HByt
  have HL0 := Lib.hid hl0
  have hl0n : l0.length ≤ 70368744177600 := by rw [hl0, List.length_drop, HLn.out]; omega
  clear hl0 h1 h2
  go_enter Try.func25, Try.ntmps25
  go_wp2_with fail
  refine (Read_bs _ HS0.out hl0n).mono ?_
  rintro e w2 ⟨g, rfl, hlt, hrd, hb⟩
  have HT2 : Hid (TkS w w2 g l0 0) := Lib.hid ⟨by simpa using hrd, (Box2.new w _ _ _).below hb, by simpa using hlt, Below.thn HB0.out hb⟩
  clear hb hlt hrd hcut hl0n
  go_wp2_with fail
  refine (RVar_any HT2.out.r).mono ?_
  rintro e w3 ⟨rfl, hrd, hg⟩
  have HT3 := Lib.hid (HT2.out.var hrd hg)
  have hm : (takeV l0).1 ≤ 4294967295 := by have := takeV_lt HByt.out; omega
  obtain ⟨m, hmq⟩ : ∃ m, m = (takeV l0).1 := ⟨_, rfl⟩
  obtain ⟨e1, he1⟩ : ∃ e1, e1 = (takeV l0).2 := ⟨_, rfl⟩
  obtain ⟨l1, hl1⟩ : ∃ l1, l1 = takeR l0 := ⟨_, rfl⟩
  rw [← he1, ← hl1] at HT3
  rw [← hmq] at hm ⊢
  have HM := Lib.hid hmq
  have HE1 := Lib.hid he1
  have HL1 := Lib.hid hl1
  have HB1 : Hid (Byt l1) := Lib.hid (by rw [hl1]; exact takeR_byt HByt.out)
  clear hrd hg hmq he1 hl1
  go_wp2_with fail
  refine (RVar_g2 HT3.out.r).mono ?_
  rintro e w4 ⟨rfl, hrd, hg⟩
  have HT4 := Lib.hid (HT3.out.var hrd hg)
  have hc2 : vrV l1 e1 ≤ 4294967295 := by
    unfold vrV
    split
    · have := takeV_lt HB1.out; omega
    · omega
  obtain ⟨cnt, hcnt⟩ : ∃ cnt, cnt = vrV l1 e1 := ⟨_, rfl⟩
  obtain ⟨e2, he2⟩ : ∃ e2, e2 = vrE l1 e1 := ⟨_, rfl⟩
  obtain ⟨l2, hl2⟩ : ∃ l2, l2 = vrL l1 e1 := ⟨_, rfl⟩
  rw [← he2, ← hl2] at HT4
  rw [← hcnt] at hc2 ⊢
  have HCnt := Lib.hid hcnt
  have HE2 := Lib.hid he2
  have HL2 := Lib.hid hl2
  have HB2 : Hid (Byt l2) := Lib.hid (by rw [hl2]; exact vrL_byt HB1.out)
  clear hrd hg hcnt he2 hl2
  go_wp2_with fail
  refine (Err_any HT4.out.r).mono ?_
  rintro e w5 ⟨rfl, rfl⟩
  obtain ⟨z0, z1, z2, z3⟩ := HT4.out.z.facts
  by_cases h3 : e2 = 0
  · subst h3
    have he1 : e1 = 0 := by
      have := HE2.out
      unfold vrE at this
      split at this
      · assumption
      · exact this.symm
    have HE1' : Hid ((takeV l0).2 = 0) := Lib.hid (by rw [← HE1.out]; exact he1)
    have HE2' : Hid ((takeV (takeR l0)).2 = 0) := Lib.hid (by have := HE2.out; unfold vrE at this; rw [if_pos he1, HL1.out] at this; exact this.symm)
    have HCn' : Hid (cnt = (takeV (takeR l0)).1) := Lib.hid (by have := HCnt.out; unfold vrV at this; rw [if_pos he1, HL1.out] at this; exact this)
    have HL2' : Hid (l2 = takeR (takeR l0)) := Lib.hid (by have := HL2.out; unfold vrL at this; rw [if_pos he1, HL1.out] at this; exact this)
    clear he1
    by_cases h4 : 2147483647 < (prev : Int) + (m : Int)
    · have HT : Hid (tkR b (k : Int) prev = ((0, []), 0, 150)) := Lib.hid (tkR_no HK.out (by
        rw [← HL0.out]; unfold takeP; rw [if_pos (.inr (.inr (.inl (by rw [← HM.out]; omega))))]))
      go_wp2
      exact bodyPost_ret (v := .tuple #[.agg #[.int .u32 0, .slice none 0 0], .int .i64 0, .int .i64 150]) (by simp [results, Try.results25, go_sem, z0, z1]) rfl (takeE_no HT.out (HT4.out.b2 _ _))
    by_cases h5 : 2000 < (cnt : Int)
    · have HT : Hid (tkR b (k : Int) prev = ((0, []), 0, 150)) := Lib.hid (tkR_no HK.out (by
        rw [← HL0.out]; unfold takeP; rw [if_pos (.inr (.inr (.inr (by rw [← HCn'.out]; omega))))]))
      go_wp2
      exact bodyPost_ret (v := .tuple #[.agg #[.int .u32 0, .slice none 0 0], .int .i64 0, .int .i64 150]) (by simp [results, Try.results25, go_sem, z0, z1]) rfl (takeE_no HT.out (HT4.out.b2 _ _))
    have HP : Hid (takeP (b.drop k) prev = finP prev (prev + m) (takeN cnt 0 l2)) := Lib.hid (by
      rw [← HL0.out]; unfold takeP
      rw [if_neg (by
        rintro (h | h | h | h)
        · exact h HE1'.out
        · exact h HE2'.out
        · rw [← HM.out] at h; omega
        · rw [← HCn'.out] at h; omega), ← HM.out, ← HCn'.out, ← HL2'.out])
    obtain ⟨doc, hdoc⟩ : ∃ doc, doc = prev + m := ⟨_, rfl⟩
    have ed : (prev : Int) + (m : Int) = ((doc : Nat) : Int) := by omega
    have hdoc2 : doc ≤ 2147483647 := by omega
    rw [← hdoc] at HP
    have wd : IntKind.u32.wrap ((doc : Nat) : Int) = (doc : Int) := by rw [IntKind.wrap_u32]; omega
    have hcnt2 : cnt ≤ 2000 := by omega
    clear hdoc h4 h5
    clear z0 z1 z2 z3
    go_wp2_with fail
    obtain ⟨g12, hg12⟩ : ∃ g12, g12 = w4.heap.size := ⟨_, rfl⟩
    have HLp : Hid (TkL w (w4.alloc (.cells #[.int .u32 (doc : Nat), .slice none 0 0] 32)) g g12 doc l2 (.slice none 0 0) []) := Lib.hid ⟨HT4.out.below ((Below.refl _ _).alloc (Nat.le_refl _) _), by rw [hg12]; exact Box2.new _ _ _ _, OwnL.nil _ _ _ _, by have := HT4.out.r.lt; omega⟩
    have HL2n : Hid (l2.length ≤ 1000000000) := Lib.hid (by
      rw [HL2'.out]
      refine Nat.le_trans (takeR_len _) (Nat.le_trans (takeR_len _) ?_)
      rw [HL0.out, List.length_drop, HLn.out]
      omega)
    rw [← hg12]
    clear hg12 ed wd
    go_loopw [13, 51] (fun x13 x51 wr => ∃ i : Nat, i ≤ cnt ∧ x51 = .int .u32 i ∧ ∃ la : Nat, x13 = .int .u64 la ∧ la ≤ 1048576 ∧ Hid (∃ (xs : List Int) (lk : List Nat) (u : Value), takeN cnt 0 l2 = (takeN (cnt - i) la lk).map (fun x => (xs ++ x.1, x.2)) ∧ xs.length = i ∧ (Byt lk ∧ lk.length ≤ 1000000000) ∧ TkL w wr g g12 doc lk u xs)) (fun _ x51 _ => cnt - (intOf x51).toNat)
    case atStart => exact ⟨0, by omega, rfl, 0, rfl, by omega, Lib.hid ⟨[], l2, _, by simp, rfl, ⟨HB2.out, HL2n.out⟩, HLp.out⟩⟩
    case round =>
      obtain ⟨i, hi, rfl, la, rfl, hla, HI⟩ := hrel
      obtain ⟨xs, lk, u, hq, hxl, hby, hL⟩ := HI.out
      have HQ := Lib.hid hq
      have HXl := Lib.hid hxl
      have HBy := Lib.hid hby
      have HLk := Lib.hid hL
      clear hq hxl hby hL HI
      by_cases hlt : (i : Int) < (cnt : Int)
      · go_wp2_with fail
        refine (RVar_any HLk.out.s.r).mono ?_
        rintro e w6 ⟨rfl, hrd, hg⟩
        obtain ⟨hS6, hP6, hO6⟩ := HLk.out.var hrd hg
        have HS6 := Lib.hid hS6
        have HP6 := Lib.hid hP6
        have HO6 := Lib.hid hO6
        have hd : (takeV lk).1 ≤ 4294967295 := by have := takeV_lt HBy.out.1; omega
        have hsplit : cnt - i = (cnt - (i + 1)) + 1 := by omega
        have HSp := Lib.hid hsplit
        obtain ⟨d, hdq⟩ : ∃ d, d = (takeV lk).1 := ⟨_, rfl⟩
        obtain ⟨ed, hed⟩ : ∃ ed, ed = (takeV lk).2 := ⟨_, rfl⟩
        rw [← hed] at HS6
        rw [← hdq] at hd ⊢
        have HD := Lib.hid hdq
        have HEd := Lib.hid hed
        clear hrd hg hS6 hP6 hO6 hdq hed hsplit
        go_wp2_with fail
        refine (Err_any HS6.out.r).mono ?_
        rintro e w7 ⟨rfl, rfl⟩
        obtain ⟨z0, z1, z2, z3⟩ := HS6.out.z.facts
        by_cases h6 : ed = 0
        · subst h6
          by_cases h7 : 1048576 < (la : Int) + (d : Int)
          · have HT : Hid (tkR b (k : Int) prev = ((0, []), 0, 150)) := Lib.hid (tkR_no HK.out (by
              rw [HP.out, HQ.out, HSp.out, takeN_no (.inr (by rw [← HD.out]; omega))]; rfl))
            go_wp2
            exact bodyPost_ret (v := .tuple #[.agg #[.int .u32 0, .slice none 0 0], .int .i64 0, .int .i64 150]) (by simp [results, Try.results25, go_sem, z0, z1]) rfl (takeE_no HT.out (HS6.out.b2 _ _))
          · obtain ⟨la2, hla2⟩ : ∃ la2, la2 = la + d := ⟨_, rfl⟩
            have ela : (la : Int) + (d : Int) = ((la2 : Nat) : Int) := by omega
            have hla3 : la2 ≤ 1048576 := by omega
            have HQ2 : Hid (takeN cnt 0 l2 = (takeN (cnt - (i + 1)) la2 (takeR lk)).map (fun x => ((xs ++ [(la2 : Int)]) ++ x.1, x.2))) := Lib.hid (by
              rw [HQ.out, HSp.out, takeN_step (by rw [← HEd.out]) (by rw [← HD.out]; omega), ← HD.out, ← hla2, Option.map_map]
              congr 1
              funext x
              simp)
            clear hla2 h7
            obtain ⟨b0, b1, b2, b3⟩ := HP6.out.facts
            obtain ⟨A5, c5, hu, hl5, hc5, _⟩ := HO6.out.rd
            subst hu
            have hba := (Below.refl w6.heap.size w6).alloc (Nat.le_refl _) (.cells #[.int .i64 (la2 : Nat)] 3)
            have hrd : Rd encI (w6.alloc (.cells #[.int .i64 (la2 : Nat)] 3)) (some ⟨w6.heap.size, 0, none⟩) 1 [(la2 : Int)] := Rd.new w6 _ _ _ 1 (0, 0) rfl rfl (by decide)
            obtain ⟨v1, w8, r1, o1, g1, at1⟩ := run_append_rd (P := Try.prog) (c := 1) (g12 + 1) 30 30 3 (.int .i64 0) 8 Try.underlying30 infoI rfl (by decide) encI_one (HO6.out.below hba) hrd (by have := HXl.out; omega) (by have := HP6.out.lt; simp; omega)
            obtain ⟨hp8, hL8⟩ := TkL.put HS6.out HP6.out HO6.out HLk.out.lt g1 o1
            have o2 : w8.ownsRow (g12 + 1) 3 1 v1 (xs.length + 1) ((xs ++ [(la2 : Int)]).map encI) := by
              have := o1
              unfold OwnL at this
              simpa using this
            obtain ⟨gv, cap, hv1⟩ := ownsRow_succ o2
            subst hv1
            obtain ⟨d0, d1, d2, d3⟩ := hp8.facts
            have HL8 := Lib.hid hL8
            have HXs : Hid ((xs ++ [(la2 : Int)]).length = i + 1) := Lib.hid (by rw [List.length_append, HXl.out]; rfl)
            have HBy2 : Hid (Byt (takeR lk) ∧ (takeR lk).length ≤ 1000000000) := Lib.hid ⟨takeR_byt HBy.out.1, Nat.le_trans (takeR_len lk) HBy.out.2⟩
            have wla : IntKind.i64.wrap ((la2 : Nat) : Int) = (la2 : Int) := IntWalk.i64_in _ (by omega)
            obtain ⟨xl, hxl⟩ : ∃ xl, xl = xs.length := ⟨_, rfl⟩
            rw [← hxl] at r1 HL8 b1 d1 hl5
            clear hba hrd o1 g1 at1 hp8 hL8 o2 hxl z0 z1 z2 z3
            go_wp2_with (at_builtin; refine wpl_append_run rfl _ _ _ rfl rfl rfl r1 ?_)
            exact ⟨⟨i + 1, by omega, by go_num, la2, by first | rfl | go_num, hla3, Lib.hid ⟨_, _, _, HQ2.out, HXs.out, HBy2.out, HL8.out⟩⟩, by simp [intOf]; omega⟩
        · have HT : Hid (tkR b (k : Int) prev = ((0, []), 0, 150)) := Lib.hid (tkR_no HK.out (by
            rw [HP.out, HQ.out, HSp.out, takeN_no (.inl (by rw [← HEd.out]; exact h6))]; rfl))
          have h6' : (ed == 0) = false := by simp [h6]
          have h6'' : (ed != 0) = true := by simp [h6]
          go_wp2
          exact bodyPost_ret (v := .tuple #[.agg #[.int .u32 0, .slice none 0 0], .int .i64 0, .int .i64 150]) (by simp [results, Try.results25, go_sem, z0, z1]) rfl (takeE_no HT.out (HS6.out.b2 _ _))
      · obtain rfl : i = cnt := by omega
        have HQ3 : Hid (takeN i 0 l2 = some (xs, lk)) := Lib.hid (by rw [HQ.out, Nat.sub_self]; simp [takeN])
        obtain ⟨A5, c5, hu, hl5, hc5, hr5⟩ := HLk.out.o.rd
        subst hu
        obtain ⟨b0, b1, b2, b3⟩ := HLk.out.p.facts
        have C := Lib.hid (Check_pv prev (doc, xs) (.agg #[.int .u32 (doc : Nat), .slice A5 xs.length c5]) wr ⟨_, rfl, ⟨A5, _, c5, rfl, hl5, hc5, hr5⟩, by show doc < _; omega⟩ (by omega))
        unfold ChkPE at C
        obtain ⟨xl, hxl⟩ : ∃ xl, xl = xs.length := ⟨_, rfl⟩
        rw [← hxl] at C b1 HLk hl5
        clear hr5 hxl HXl HQ HLp
        go_wp2_with fail
        refine C.out.mono ?_
        rintro e w9 ⟨rfl, hb⟩
        have HL9 := Lib.hid (HLk.out.below hb)
        clear hb C b0 b1 b2 b3
        by_cases hok : okP prev (doc, xs)
        · have HCh := Lib.hid (chkP_yes hok)
          have HT : Hid (tkR b (k : Int) prev = ((doc, xs), (n : Int) - (lk.length : Nat), 0)) := Lib.hid (by
            rw [tkR_yes HK.out (by rw [HP.out, HQ3.out]; exact finP_yes hok), HLn.out])
          rw [HCh.out]
          obtain ⟨rl, hrl⟩ : ∃ rl, rl = lk.length := ⟨_, rfl⟩
          have HRl := Lib.hid hrl
          rw [← hrl] at HT
          have hrl2 : rl ≤ 1000000000 := by rw [hrl]; exact HBy.out.2
          have wsb : IntKind.i64.wrap ((n : Int) - (rl : Nat)) = (n : Int) - (rl : Nat) := IntWalk.i64_in _ (by omega)
          obtain ⟨u, hu⟩ : ∃ u, u = Value.slice A5 xl c5 := ⟨_, rfl⟩
          clear hok hrl
          rw [← hu]
          have HLj : Hid (TkL w w9 g g12 doc lk u xs) := Lib.hid (by rw [hu]; exact HL9.out)
          go_wp2_with fail
          rename_i K1 hK1
          refine wp_region_flowJ (by kernel_rfl) (TakeF w A n c g g12 doc u rl) (fun _ _ => True) (TkJ w g g12 doc lk u xs) (TakeF.keep w A n c g g12 doc u rl) ?_ (by kernel_rfl) (by kernel_rfl) ?_ ?_
          case refine_1 =>
            have h := HLj.out.below (Below.drewN w9 1)
            exact ⟨h.s.r, h.p, h.o, ⟨h.s.lt, h.lt⟩, h.s.b, fun h => h.elim, fun _ => h.s.z⟩
          case refine_2 =>
            intro i o ho ρ y w2 S hJ hnS hneeds hcl hreg hn hf hyb hyn
            have hi := (Array.getElem?_eq_some_iff.1 ho).1
            rcases Nat.lt_or_ge i 9 with hi2 | hi2
            case inr => simp at hi; omega
            obtain rfl | rfl | rfl | rfl | rfl | rfl | rfl | rfl | rfl : i = 0 ∨ i = 1 ∨ i = 2 ∨ i = 3 ∨ i = 4 ∨ i = 5 ∨ i = 6 ∨ i = 7 ∨ i = 8 := by omega
            · cases ho
              rw [if_pos (show Region.wanted _ y = true from rfl)]
              have f12 : ρ (.tmp 12) = .pointer (some ⟨g12, 0, none⟩) := hf 12 (by kernel_rfl)
              obtain ⟨b1, b2, _, _⟩ := hJ.p.facts
              exact does_ok (v := .agg #[.int .u32 (doc : Nat), u]) (w' := w2) (by simp [go_sem, hreg.const, f12, b1, b2]) ⟨rfl, trivial, hJ.next (by decide)⟩
            · cases ho
              rw [if_pos (show Region.wanted _ y = true from rfl)]
              have f0 : ρ (.tmp 0) = .slice A n c := hf 0 (by kernel_rfl)
              exact ⟨f0, trivial, hJ.next (by decide)⟩
            · cases ho
              rw [if_pos (show Region.wanted _ y = true from rfl)]
              have f80 : ρ (.tmp 80) = .slice A n c := hn 1 _ 80 rfl (by kernel_rfl) rfl
              exact does_ok (v := .int .i64 (n : Nat)) (w' := w2) (by simp [go_sem, hreg.const, f80]) ⟨rfl, trivial, hJ.next (by decide)⟩
            · cases ho
              rw [if_pos (show Region.wanted _ y = true from rfl)]
              have f9 : ρ (.tmp 9) = .pointer (some ⟨g, 0, none⟩) := hf 9 (by kernel_rfl)
              exact ⟨f9, trivial, hJ.next (by decide)⟩
            · cases ho
              rw [if_pos (show Region.wanted _ y = true from rfl)]
              have f82 : ρ (.tmp 82) = .pointer (some ⟨g, 0, none⟩) := hn 3 _ 82 rfl (by kernel_rfl) rfl
              refine does_enter (f := 40) (args := #[.pointer (some ⟨g, 0, none⟩)]) (w' := w2) (by simp [go_sem, hreg.func, hreg.const, f82]) ?_
              refine (RLeft_any hJ.r).mono ?_
              rintro e w' ⟨rfl, rfl⟩
              rw [← HRl.out]
              exact ⟨_, rfl, rfl, trivial, hJ.next (by decide)⟩
            · cases ho
              rw [if_pos (show Region.wanted _ y = true from rfl)]
              have f81 : ρ (.tmp 81) = .int .i64 (n : Nat) := hn 2 _ 81 rfl (by kernel_rfl) rfl
              have f83 : ρ (.tmp 83) = .int .i64 (rl : Nat) := hn 4 _ 83 rfl (by kernel_rfl) rfl
              exact does_ok (v := .int .i64 ((n : Int) - (rl : Nat))) (w' := w2) (by simp [go_sem, hreg.const, f81, f83, wsb]) ⟨rfl, trivial, hJ.next (by decide)⟩
            · cases ho
              rw [if_pos (show Region.wanted _ y = true from rfl)]
              have f6 : ρ (.tmp 6) = .pointer (some ⟨w.heap.size, 0, none⟩) := hf 6 (by kernel_rfl)
              have f79 : ρ (.tmp 79) = .agg #[.int .u32 (doc : Nat), u] := hn 0 _ 79 rfl (by kernel_rfl) rfl
              obtain ⟨b1, b2, b3, b4⟩ := (hJ.n hnS).facts
              exact does_skip (w' := (w2.setCell ⟨w.heap.size, 0, none⟩ (.int .u32 (doc : Nat))).setCell ⟨w.heap.size, 1, none⟩ u) (by subst hu; simp [go_sem, f6, f79, b1, b2, b3, b4]) ⟨rfl, trivial, hJ.store hnS⟩
            · cases ho
              rw [if_pos (show Region.wanted _ y = true from rfl)]
              have f84 : ρ (.tmp 84) = .int .i64 ((n : Int) - (rl : Nat)) := hn 5 _ 84 rfl (by kernel_rfl) rfl
              exact ⟨f84, trivial, hJ.next (by decide)⟩
            · cases ho
              rw [if_pos (show Region.wanted _ y = true from rfl)]
              exact does_ok (v := .int .i64 0) (w' := w2) (by simp [go_sem, hreg.const]) ⟨rfl, trivial, hJ.next (by decide)⟩
          case refine_3 =>
            intro a w2 S hJ hall hd hs hfacts hrest
            have q7 : a.tmps.getD 7 undef = .int .i64 ((n : Int) - (rl : Nat)) := hfacts 7 _ 7 rfl rfl
            have q8 : a.tmps.getD 8 undef = .int .i64 0 := hfacts 8 _ 8 rfl rfl
            have ha := frame_of hd hs hrest [7, 8, 79, 80, 81, 82, 83, 84] (by kernel_rfl)
            simp only [q7, q8, List.foldl, List.setIfInBounds_toArray, List.set_cons_succ, List.set_cons_zero] at ha
            clear q7 q8 hd hs hfacts hrest
            generalize a.tmps.getD = gg at ha
            subst ha
            have hy := hJ.y (hall 6 (by decide))
            have HE : Hid (TakeE b (k : Int) prev w (.returned (.tuple #[.agg #[.int .u32 (doc : Nat), u], .int .i64 ((n : Int) - (rl : Nat)), .int .i64 0])) w2) := Lib.hid (by
              unfold TakeE
              rw [HT.out]
              exact ⟨u, rfl, hJ.o.mono (by have := hJ.lt; omega), hJ.b⟩)
            obtain ⟨z0, z1, z2, z3⟩ := hy.facts
            clear hy hJ hall
            refine hK1 _ _ ?_
            go_wp2
            exact bodyPost_ret (v := .tuple #[.agg #[.int .u32 (doc : Nat), u], .int .i64 ((n : Int) - (rl : Nat)), .int .i64 0]) (by simp [results, Try.results25, go_sem, z0, z1]) rfl HE.out
        · have HCh := Lib.hid (chkP_no hok)
          have HT : Hid (tkR b (k : Int) prev = ((0, []), 0, 150)) := Lib.hid (tkR_no HK.out (by
            rw [HP.out, HQ3.out]; exact finP_no hok))
          obtain ⟨z0, z1, z2, z3⟩ := HL9.out.s.z.facts
          rw [HCh.out]
          clear hok
          go_wp2
          exact bodyPost_ret (v := .tuple #[.agg #[.int .u32 0, .slice none 0 0], .int .i64 0, .int .i64 150]) (by simp [results, Try.results25, go_sem, z0, z1]) rfl (takeE_no HT.out (HL9.out.s.b2 _ _))
  · have HT : Hid (tkR b (k : Int) prev = ((0, []), 0, 150)) := Lib.hid (tkR_no HK.out (by
      rw [← HL0.out]; unfold takeP; rw [if_pos]
      by_cases he1 : e1 = 0
      · right; left
        have := HE2.out
        unfold vrE at this
        rw [if_pos he1, HL1.out] at this
        rw [← this]; exact h3
      · left; rw [← HE1.out]; exact he1))
    have h3' : (e2 == 0) = false := by simp [h3]
    have h3'' : (e2 != 0) = true := by simp [h3]
    go_wp2
    exact bodyPost_ret (v := .tuple #[.agg #[.int .u32 0, .slice none 0 0], .int .i64 0, .int .i64 150]) (by simp [results, Try.results25, go_sem, z0, z1]) rfl (takeE_no HT.out (HT4.out.b2 _ _))
end Go.Proofs.Ytmonlookmnlgnaa
