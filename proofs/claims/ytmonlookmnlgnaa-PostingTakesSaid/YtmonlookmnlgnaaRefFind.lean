/- A document's posting: the document's. -/
import Derived.Test.YtmonlookmnlgnaaRefParse
import Derived.Test.YtmonlookmnlgnaaRisesMath
namespace Go.Proofs.Ytmonlookmnlgnaa
open Go.RowKit
set_option linter.unusedVariables false
set_option linter.unusedSimpArgs false

theorem Rd.keptc {w w' : World} {A : Option Addr} {n : Nat} {l : List Int} {k : Nat} (h : Rd encI w A n l) (hg : w.grownBy w' (some k)) (hk : ∀ off x, w.cell? ⟨k, off, none⟩ ≠ some (.int .i64 x)) : Rd encI w' A n l :=
  ⟨h.len, h.max, fun h0 => by
    obtain ⟨ad, e, hc⟩ := h.cell h0
    refine ⟨ad, e, fun j hj => ?_⟩
    have hcj := hc j hj
    have hne : some (ad.add j).block ≠ some k := by
      intro e1
      have e2 : (ad.add j).block = k := by injection e1
      have hsp : (ad.add j).spot = none := by
        cases hs : (ad.add j).spot with
        | none => rfl
        | some s =>
          unfold World.cell? at hcj
          split at hcj
          · simp [hs] at hcj
          · cases hcj
      refine hk (ad.add j).off l[j] ?_
      have e3 : (⟨k, (ad.add j).off, none⟩ : Addr) = ad.add j := by rw [← e2, ← hsp]
      rw [e3]
      exact hcj
    rw [grown_cell hg (cell_lt' hcj) hne]
    exact hcj⟩
theorem Box2.no_i64 {w : World} {g : Nat} {t : TypeId} {x y : Value} (h : Box2 w g t x y) (hx : ∀ z, x ≠ .int .i64 z) (hy : ∀ z, y ≠ .int .i64 z) : ∀ off z, w.cell? ⟨g, off, none⟩ ≠ some (.int .i64 z) := by
  intro off z e
  unfold World.cell? at e
  rw [show w.heap[g]? = _ from h] at e
  match off with
  | 0 => simp at e; exact hx z e
  | 1 => simp at e; exact hy z e
  | off + 2 => simp at e
/-- What the document's Find answers. -/
def FindR (R : Po × Bool) (w : World) (e : Ending) (w' : World) : Prop := ∃ v, e = .returned (.tuple #[.agg #[.int .u32 (R.1.1 : Nat), v], .bool R.2]) ∧ IS w' v R.1.2 ∧ Below w.heap.size w w'
theorem chn_none : ∀ (l : List (Nat × Po)) (at_ prev d : Nat), chn at_ prev l → (∀ x ∈ l, x.2.1 ≠ d) → fndP l d = ((0, []), false)
  | [], _, _, _, _, _ => rfl
  | x :: r, at_, prev, d, h, hne => by
    unfold fndP
    have h1 := hne x List.mem_cons_self
    by_cases h2 : d ≤ x.2.1
    · rw [if_pos h2, if_neg h1]
    · rw [if_neg h2]
      exact chn_none r _ _ d h.2.2.2 fun y hy => hne y (List.mem_cons_of_mem _ hy)
set_option maxRecDepth 100000 in
set_option maxHeartbeats 2000000 in
theorem refFind_any (A : Option Addr) (n c : Nat) (b : List Nat) (doc : Nat) (w : World) (hl : RdB w A n b) (hc : n ≤ c) (hc2 : c ≤ 9223372036854775807) (hm : n ≤ 1000000) (hdoc : doc ≤ 4294967295) :
    Calls Try.prog 28 #[.slice A n c, .int .u32 (doc : Nat)] w (FindR (fndP (allL b 0) doc) w) := by
  have hbx := Box2.new w 32 (.int .u32 0) (.slice none 0 0)
  obtain ⟨wB, hwB⟩ : ∃ wB, wB = w.alloc (.cells #[.int .u32 0, .slice none 0 0] 32) := ⟨_, rfl⟩
  have hbw : Below w.heap.size w wB := by rw [hwB]; exact (Below.refl _ _).alloc (Nat.le_refl _) _
  rw [← hwB] at hbx
  have C := Lib.hid (refAll_any A n c b 0 wB (hl.below hbw) hc hc2 hm (by decide))
  unfold ToldE at C
  have HX := Lib.hid hbx
  have HB0 := Lib.hid hbw
  have HW := Lib.hid hwB
  have HCh : Hid (chn 0 0 (allL b 0)) := Lib.hid (chn_all b _ 0 0)
  clear hl hbx hbw hwB
  go_enter Try.func28, Try.ntmps28
  go_wp2_with fail
  rw [← HW.out]
  refine C.out.mono ?_
  rintro e w1 ⟨v, u, rfl, hv, hu, hb⟩
  obtain ⟨A5, n5, c5, rfl, h51, h52, h53⟩ := hv
  have HN5 : Hid ((allL b 0).length = n5) := Lib.hid (by rw [← h53.len]; simp)
  have HR := Lib.hid h53
  have hn5 := h53.max
  have HX1 := Lib.hid (HX.out.below hb)
  have HB1 := Lib.hid (Below.thn HB0.out hb)
  clear hb h53 hu C
  go_wp2_with fail
  go_loopw [8] (fun x8 wr => ∃ k : Nat, k ≤ n5 ∧ x8 = .int .i64 k ∧ Hid ((∀ i (h : i < (allL b 0).length), i < k → (allL b 0)[i].2.1 ≠ doc) ∧ Below w1.heap.size w1 wr)) (fun x8 _ => n5 - (intOf x8).toNat)
  case atStart => exact ⟨0, by omega, rfl, Lib.hid ⟨fun i _ h => absurd h (Nat.not_lt_zero _), Below.refl _ _⟩⟩
  case round =>
    obtain ⟨k, hk, rfl, HI⟩ := hrel
    obtain ⟨z0, z1, z2, z3⟩ := (HX1.out.below HI.out.2).facts
    by_cases hlt : (k : Int) < (n5 : Int)
    · obtain ⟨ad, B, mm, c', d, xs, rfl, HP, e0, e1, hm1, hm2, HPo, hd⟩ := (HR.out.below HI.out.2).at (k := k) (by omega)
      have hkl : k < (allL b 0).length := by rw [HN5.out]; omega
      have hXk : (allL b 0)[k].2 = (d, xs) := by obtain ⟨_, e⟩ := HP.out; simpa using e
      by_cases hq : d = doc
      · subst hq
        have HF : Hid (fndP (allL b 0) d = ((d, xs), true)) := Lib.hid (by have := chn_find _ 0 0 HCh.out k hkl; rw [hXk] at this; exact this)
        have hx := HX1.out.below HI.out.2
        have gA := grown_setCell wr ⟨w.heap.size, 0, none⟩ (.int .u32 (d : Nat))
        have gB := grown_setCell (wr.setCell ⟨w.heap.size, 0, none⟩ (.int .u32 (d : Nat))) ⟨w.heap.size, 1, none⟩ (.slice B mm c')
        have hg := gA.trans gB
        have hy := (hx.set0 (.int .u32 (d : Nat))).set1 (.slice B mm c')
        obtain ⟨y0, y1, _, _⟩ := hy.facts
        have HRes : Hid (FindR ((d, xs), true) w (.returned (.tuple #[.agg #[.int .u32 (d : Nat), .slice B mm c'], .bool true])) ((wr.setCell ⟨w.heap.size, 0, none⟩ (.int .u32 (d : Nat))).setCell ⟨w.heap.size, 1, none⟩ (.slice B mm c'))) := Lib.hid
          ⟨_, rfl, ⟨B, mm, c', rfl, hm1, hm2, HPo.out.keptc hg (hx.no_i64 (by simp) (by simp))⟩, (Below.thn HB1.out HI.out.2).grown hg (Below.thn HB1.out HI.out.2).size (fun k hk => by have e' : w.heap.size = k := (by injection hk); omega)⟩
        clear hkl hXk hx gA gB hg hy
        go_wp2
        refine bodyPost_ret (v := .tuple #[.agg #[.int .u32 (d : Nat), .slice B mm c'], .bool true]) (by simp [results, Try.results28, go_sem, y0, y1]) rfl ?_
        rw [HF.out]
        exact HRes.out
      · have q1 : ((d : Int) == (doc : Int)) = false := by simp; omega
        have HN : Hid (∀ i (h : i < (allL b 0).length), i < k + 1 → (allL b 0)[i].2.1 ≠ doc) := Lib.hid fun i h hi => by
          rcases Nat.lt_succ_iff_lt_or_eq.1 hi with h1 | rfl
          · exact HI.out.1 i h h1
          · rw [hXk]; exact hq
        clear hkl hXk hq
        go_wp2
        exact ⟨⟨k + 1, by omega, by go_num, Lib.hid ⟨HN.out, HI.out.2⟩⟩, by simp [intOf]; omega⟩
    · have HF : Hid (fndP (allL b 0) doc = ((0, []), false)) := Lib.hid (chn_none _ 0 0 doc HCh.out fun x hx => by
        obtain ⟨i, hi, rfl⟩ := List.mem_iff_getElem.1 hx
        exact HI.out.1 i hi (by rw [HN5.out] at hi; omega))
      have hz : ∀ (W : World), (Instr.build 32 #[]).run Try.prog W = .ok (.agg #[.int .u32 0, .slice none 0 0]) W := fun W => run_build W 32 _ _ (by kernel_rfl)
      have hx := HX1.out.below HI.out.2
      have gA := grown_setCell wr ⟨w.heap.size, 0, none⟩ (.int .u32 0)
      have gB := grown_setCell (wr.setCell ⟨w.heap.size, 0, none⟩ (.int .u32 0)) ⟨w.heap.size, 1, none⟩ (.slice none 0 0)
      have hg := gA.trans gB
      have hy := (hx.set0 (.int .u32 0)).set1 (.slice none 0 0)
      obtain ⟨y0, y1, _, _⟩ := hy.facts
      have HRes : Hid (FindR ((0, []), false) w (.returned (.tuple #[.agg #[.int .u32 0, .slice none 0 0], .bool false])) ((wr.setCell ⟨w.heap.size, 0, none⟩ (.int .u32 0)).setCell ⟨w.heap.size, 1, none⟩ (.slice none 0 0))) := Lib.hid
        ⟨_, rfl, IS.nil _, (Below.thn HB1.out HI.out.2).grown hg (Below.thn HB1.out HI.out.2).size (fun k hk => by have e' : w.heap.size = k := (by injection hk); omega)⟩
      clear hx gA gB hg hy
      go_wp2
      refine bodyPost_ret (v := .tuple #[.agg #[.int .u32 0, .slice none 0 0], .bool false]) (by simp [results, Try.results28, go_sem, y0, y1, z0, z1]) rfl ?_
      rw [HF.out]
      first | exact HRes.out | exact ⟨_, rfl, IS.nil _, Below.thn HB1.out HI.out.2⟩
end Go.Proofs.Ytmonlookmnlgnaa
