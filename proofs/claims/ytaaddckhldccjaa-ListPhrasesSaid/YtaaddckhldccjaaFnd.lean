/- A document's posting, looked for. -/
import Derived.Test.YtaaddckhldccjaaOffs
import Derived.Laws.Tables
import Derived.RangeFuncBox
namespace Go.Proofs.Ytaaddckhldccjaa
open Go.RowKit
set_option linter.unusedVariables false
set_option linter.unusedSimpArgs false

/-- All documents ahead of a place are less. -/
def DocLt (ls : List Po) (k d : Nat) : Prop := ∀ j (h : j < ls.length), j < k → ls[j].1 < d
/-- What is told of a document: its posting. -/
def FdR (ls : List Po) (d : Nat) (v : Value) (b : Bool) (W : World) : Prop := (b = true → ∃ p ∈ ls, p.1 = d ∧ PV W v p) ∧ (b = false → ∀ p ∈ ls, p.1 ≠ d)
theorem cell_set {W : World} {p : Addr} {u v : Value} (h : W.cell? p = some u) : (W.setCell p v).cell? p = some v := World.cell?_setCell_same' W p v (by rw [h]; rfl)
theorem grownBy_new {w w1 w2 : World} {r : Option Nat} {g : Nat} (h : w.grownBy w1 r) (h2 : w1.grownBy w2 (some g)) (hg : w.heap.size ≤ g) : w.grownBy w2 r := by
  obtain ⟨a1, a2, a3, a4, a5⟩ := h
  obtain ⟨b1, b2, b3, b4, b5⟩ := h2
  exact ⟨b1.trans a1, b2.trans a2, b3.trans a3, Nat.le_trans a4 b4, fun j hj hne => (b5 j (Nat.lt_of_lt_of_le hj a4) (fun e => by cases e; omega)).trans (a5 j hj hne)⟩
theorem Below.set_new {w0 w : World} {g : Nat} (h : Below w0.heap.size w0 w) (p : Addr) (v : Value) (hg : w0.heap.size ≤ p.block) : Below w0.heap.size w0 (w.setCell p v) := h.setCell hg v
theorem cell_far {W : World} {p a : Addr} (v : Value) (h : p.block ≠ a.block) : (W.setCell p v).cell? a = W.cell? a := by
  unfold World.cell?
  have : (W.setCell p v).heap[a.block]? = W.heap[a.block]? := by
    show (W.heap.modify _ _)[a.block]? = _
    rw [Array.getElem?_modify, if_neg h]
  rw [this]
abbrev OwnI (w : World) (base : Nat) (v : Value) (l : List Int) : Prop := OwnL encI 3 w base v l
/-- What a look leaves: what it found, and its place moved on. -/
def FdEnd (w0 : World) (ls : List Po) (n d G M cm : Nat) (ks : List Int) (i : Nat) (w : World) (e : Ending) (w' : World) : Prop := ∃ (q : Nat) (B : Option Addr) (mB cB : Nat) (b : Bool) (k' : Nat), e = .returned (.tuple #[.agg #[.int .u32 (q : Nat), .slice B mB cB], .bool b]) ∧ FdR ls d (.agg #[.int .u32 (q : Nat), .slice B mB cB]) b w0 ∧ k' ≤ n ∧ DocLt ls k' d ∧ OwnI w' w0.heap.size (.slice (some ⟨G, 0, none⟩) M cm) (ks.set i k') ∧ w.grownBy w' (some G)
theorem OwnI.cell {w : World} {b G cm : Nat} {ks : List Int} {i : Nat} {k : Int} (h : OwnI w b (.slice (some ⟨G, 0, none⟩) ks.length cm) (ks.set i k)) (hi : i < ks.length) : w.cell? ⟨G, i, none⟩ = some (.int .i64 k) ∧ w.frozen? ⟨G, i, none⟩ = false := by
  rw [show ks.length = (ks.set i k).length by simp] at h
  have := OwnL.cellAt h i (by simpa using hi)
  simpa using this
theorem OwnI.put {w : World} {b G cm : Nat} {ks : List Int} {i : Nat} {k : Int} (h : OwnI w b (.slice (some ⟨G, 0, none⟩) ks.length cm) (ks.set i k)) (k' : Int) : OwnI (w.setCell ⟨G, i, none⟩ (.int .i64 k')) b (.slice (some ⟨G, 0, none⟩) ks.length cm) (ks.set i k') := by
  rw [show ks.length = (ks.set i k).length by simp] at h
  have := (OwnL.set h i k').1
  simpa using this
theorem grownBy_set (W : World) (p : Addr) (v : Value) : W.grownBy (W.setCell p v) (some p.block) :=
  ⟨rfl, rfl, rfl, by show _ ≤ (W.heap.modify _ _).size; rw [Array.size_modify]; exact Nat.le_refl _, fun j _ hj => by
    show (W.heap.modify _ _)[j]? = _
    rw [Array.getElem?_modify, if_neg (fun e => hj (by rw [e]))]⟩
theorem frozen_set {W : World} {p q : Addr} (v : Value) : (W.setCell p v).frozen? q = W.frozen? q := World.frozen?_setCell ..
theorem rt_lt {ls : List Po} (h : Rt ls) : ∀ j i (hij : i < j) (hj : j < ls.length), ls[i].1 < ls[j].1
  | 0, i, hij, hj => by omega
  | j + 1, i, hij, hj => by
    have h1 := (h (j + 1) hj).1
    rw [prevOf_succ, getD_of ⟨show j < ls.length by omega, rfl⟩, getD_of ⟨hj, rfl⟩] at h1
    rcases Nat.lt_or_ge i j with h2 | h2
    · have := rt_lt h j i h2 (by omega)
      omega
    · obtain rfl : i = j := by omega
      exact h1
theorem doc_not {ls : List Po} (hr : Rt ls) {k d : Nat} {p : Po} (h : DocLt ls k d) (hp : ∃ hl : k < ls.length, ls[k] = p) (hd : d < p.1) : ∀ q ∈ ls, q.1 ≠ d := fun q hq e => by
  obtain ⟨hl, rfl⟩ := hp
  obtain ⟨i, hi, rfl⟩ := List.getElem_of_mem hq
  rcases Nat.lt_trichotomy i k with h1 | h1 | h1
  · have := h i hi h1; omega
  · subst h1; omega
  · have := rt_lt hr i k h1 hi; omega
set_option maxRecDepth 100000 in
set_option maxHeartbeats 8000000 in
theorem find_any (w0 : World) (A : Option Addr) (n c : Nat) (ls : List Po) (G cm : Nat) (ks : List Int) (i k d : Nat) (w : World) (h : RdPo w0 A n ls) (hr : Rt ls) (hb : Below w0.heap.size w0 w) (ho : OwnI w w0.heap.size (.slice (some ⟨G, 0, none⟩) ks.length cm) ks) (hi : i < ks.length) (hki : ks[i] = (k : Nat)) (hk : k ≤ n) (hd : DocLt ls k d) :
    Calls Try.prog 38 #[.slice A n c, .pointer (some ⟨G, i, none⟩), .int .u32 (d : Nat)] w (FdEnd w0 ls n d G ks.length cm ks i w) := by
  have ho2 : OwnI w w0.heap.size (.slice (some ⟨G, 0, none⟩) ks.length cm) (ks.set i (k : Nat)) := by rw [← hki, List.set_getElem_self]; exact ho
  obtain ⟨hc, hf⟩ := ho2.cell hi
  have hG : w0.heap.size ≤ G := (OwnL.base ho G rfl).1
  have hz : ∀ (W : World), (Instr.build 32 #[]).run Try.prog W = .ok (.agg #[.int .u32 0, .slice none 0 0]) W := fun W => run_build W 32 _ _ (by kernel_rfl)
  have HR := Lib.hid h
  have HRt := Lib.hid hr
  have hn := h.max
  have HLn := Lib.hid h.len
  have hGw : G < w.heap.size := World.block_lt_of_cell? w _ hc
  obtain ⟨gr, hgr⟩ : ∃ gr, gr = w.heap.size := ⟨_, rfl⟩
  obtain ⟨w1, hw1⟩ : ∃ w1, w1 = w.alloc (.cells #[.int .u32 0, .slice none 0 0] 32) := ⟨_, rfl⟩
  have hb1 : Below w.heap.size w w1 := by rw [hw1]; exact (Below.refl _ _).alloc (Nat.le_refl _) _
  have hbx : Box2 w1 gr 32 (.int .u32 0) (.slice none 0 0) := by rw [hw1, hgr]; exact Box2.new _ _ _ _
  have ho1 := OwnL.below ho2 hb1
  have HI1 : Hid (OwnI w1 w0.heap.size (.slice (some ⟨G, 0, none⟩) ks.length cm) (ks.set i (k : Nat)) ∧ DocLt ls k d ∧ Below w0.heap.size w0 w1 ∧ w.grownBy w1 (some G) ∧ Box2 w1 gr 32 (.int .u32 0) (.slice none 0 0)) := Lib.hid ⟨ho1, hd, hb.trans (hb1.mono hb.size), grown_below hb1 _, hbx⟩
  have hc1 := cell_keep hb1 hc
  have HGN : Hid (G < gr ∧ w0.heap.size ≤ G) := Lib.hid ⟨by omega, hG⟩
  have HW1 := Lib.hid hw1
  have HGR := Lib.hid hgr
  have HKI := Lib.hid hi
  clear h hr hb hG hc hf hd hgr hw1 hb1 hbx ho1 hGw ho ho2 hki hi
  go_enter Try.func38, Try.ntmps38
  go_wp2_with fail
  rw [← HW1.out, ← HGR.out]
  go_loopw [] (fun wr => ∃ k : Nat, k ≤ n ∧ wr.cell? ⟨G, i, none⟩ = some (.int .i64 (k : Nat)) ∧ Hid (OwnI wr w0.heap.size (.slice (some ⟨G, 0, none⟩) ks.length cm) (ks.set i (k : Nat)) ∧ DocLt ls k d ∧ Below w0.heap.size w0 wr ∧ w.grownBy wr (some G) ∧ Box2 wr gr 32 (.int .u32 0) (.slice none 0 0))) (fun wr => n - (match wr.cell? ⟨G, i, none⟩ with
    | some v => (intOf v).toNat
    | none => 0))
  case atStart => exact ⟨k, hk, hc1, HI1⟩
  case round =>
    obtain ⟨k, hk, hck, HI⟩ := hrel
    by_cases hlt : (k : Int) < (n : Int)
    · obtain ⟨ad, B, m, c1, q, l, rfl, HX, x0, x1, hm1, hm2, HRI, hq⟩ := HR.out.at (k := k) (by omega)
      replace x0 := cell_keep HI.out.2.2.1 x0
      replace x1 := cell_keep HI.out.2.2.1 x1
      by_cases hqd : (q : Int) < (d : Int)
      · have HN : Hid (DocLt ls (k + 1) d) := Lib.hid (fun j hj hjk => by
          obtain ⟨hl, he⟩ := HX.out
          rcases Nat.lt_succ_iff_lt_or_eq.1 hjk with h1 | rfl
          · exact HI.out.2.1 j hj h1
          · rw [he]; show q < d; omega)
        have hfr := (OwnI.cell HI.out.1 HKI.out).2
        go_wp2
        have hn1 : (wr.setCell ⟨G, i, none⟩ (.int .i64 ((k : Int) + 1))).cell? ⟨G, i, none⟩ = some (.int .i64 ((k : Int) + 1)) := cell_set hck
        refine ⟨⟨k + 1, by omega, by rw [hn1]; simp, Lib.hid ⟨by simpa using HI.out.1.put ((k : Int) + 1), HN.out, HI.out.2.2.1.setCell HGN.out.2 _, HI.out.2.2.2.1.trans (grownBy_set _ _ _), HI.out.2.2.2.2.kept (grownBy_set _ _ _) (by have := HGN.out.1; intro e; have e' := congrArg (·.getD 0) e; simp at e'; omega)⟩⟩, ?_⟩
        rw [hn1, hck]
        simp [intOf]; omega
      · have hkn : ((k : Int) == (n : Int)) = false := by simp; omega
        obtain ⟨z0, z1, z2, z3⟩ := HI.out.2.2.2.2.facts
        by_cases hqe : q = d
        · have hqn : ((q : Int) != (d : Int)) = false := by simp; omega
          replace hqe := Lib.hid hqe
          go_wp2_with fail
          have hne : gr ≠ G := by have := HGN.out.1; omega
          have hE : ∃ wE, wE = (wr.setCell ⟨gr, 0, none⟩ (.int .u32 (q : Nat))).setCell ⟨gr, 1, none⟩ (.slice B m c1) := ⟨_, rfl⟩
          obtain ⟨wE, hwE⟩ := hE
          have hbE : Box2 wE gr 32 (.int .u32 (q : Nat)) (.slice B m c1) := by rw [hwE]; exact (HI.out.2.2.2.2.set0 _).set1 _
          have hoE : OwnI wE w0.heap.size (.slice (some ⟨G, 0, none⟩) ks.length cm) (ks.set i (k : Nat)) := by
            have hn1 : (Value.slice (some ⟨G, 0, none⟩) ks.length cm).ownBlock = none ∨ (Value.slice (some ⟨G, 0, none⟩) ks.length cm).ownBlock ≠ some gr := .inr (fun e => hne (by injection e with e; exact e.symm))
            rw [hwE]
            exact (HI.out.1.kept (grownBy_set _ _ _) hn1).kept (grownBy_set _ _ _) hn1
          have hgE : w.grownBy wE (some G) := by
            have h0 : w.heap.size ≤ gr := by rw [HGR.out]; exact Nat.le_refl _
            rw [hwE]
            exact grownBy_new (grownBy_new HI.out.2.2.2.1 (grownBy_set _ _ _) h0) (grownBy_set _ _ _) h0
          have hBE : Below w0.heap.size w0 wE := by
            have h0 : w0.heap.size ≤ gr := by have := HGN.out; omega
            rw [hwE]
            exact (HI.out.2.2.1.setCell h0 _).setCell h0 _
          rw [← hwE]
          obtain ⟨r0, r1, _, _⟩ := hbE.facts
          refine bodyPost_ret (v := .tuple #[.agg #[.int .u32 (q : Nat), .slice B m c1], .bool true]) (by simp [results, Try.results38, go_sem, r0, r1]) rfl ⟨q, B, m, c1, _, k, rfl, ⟨fun _ => ⟨(q, l), by obtain ⟨hl, he⟩ := HX.out; rw [← he]; exact List.getElem_mem hl, hqe.out, RdPo.pv HRI.out hm1 hm2 hq⟩, fun h => (by cases h)⟩, hk, HI.out.2.1, hoE, hgE⟩
        · have hqn : ((q : Int) != (d : Int)) = true := by simp; omega
          have HNo : Hid (∀ p ∈ ls, p.1 ≠ d) := Lib.hid (doc_not HRt.out HI.out.2.1 HX.out (by show d < q; omega))
          go_wp2_with fail
          have hne : gr ≠ G := by have := HGN.out.1; omega
          have hE : ∃ wE, wE = (wr.setCell ⟨gr, 0, none⟩ (.int .u32 0)).setCell ⟨gr, 1, none⟩ (.slice none 0 0) := ⟨_, rfl⟩
          obtain ⟨wE, hwE⟩ := hE
          have hbE : Box2 wE gr 32 (.int .u32 0) (.slice none 0 0) := by rw [hwE]; exact (HI.out.2.2.2.2.set0 _).set1 _
          have hoE : OwnI wE w0.heap.size (.slice (some ⟨G, 0, none⟩) ks.length cm) (ks.set i (k : Nat)) := by
            have hn1 : (Value.slice (some ⟨G, 0, none⟩) ks.length cm).ownBlock = none ∨ (Value.slice (some ⟨G, 0, none⟩) ks.length cm).ownBlock ≠ some gr := .inr (fun e => hne (by injection e with e; exact e.symm))
            rw [hwE]
            exact (HI.out.1.kept (grownBy_set _ _ _) hn1).kept (grownBy_set _ _ _) hn1
          have hgE : w.grownBy wE (some G) := by
            have h0 : w.heap.size ≤ gr := by rw [HGR.out]; exact Nat.le_refl _
            rw [hwE]
            exact grownBy_new (grownBy_new HI.out.2.2.2.1 (grownBy_set _ _ _) h0) (grownBy_set _ _ _) h0
          have hBE : Below w0.heap.size w0 wE := by
            have h0 : w0.heap.size ≤ gr := by have := HGN.out; omega
            rw [hwE]
            exact (HI.out.2.2.1.setCell h0 _).setCell h0 _
          rw [← hwE]
          obtain ⟨r0, r1, _, _⟩ := hbE.facts
          refine bodyPost_ret (v := .tuple #[.agg #[.int .u32 0, .slice none 0 0], .bool false]) (by simp [results, Try.results38, go_sem, r0, r1]) rfl ⟨0, none, 0, 0, _, k, rfl, ⟨fun h => (by cases h), fun _ => HNo.out⟩, hk, HI.out.2.1, hoE, hgE⟩
    · have hkn : ((k : Int) == (n : Int)) = true := by simp; omega
      obtain ⟨z0, z1, z2, z3⟩ := HI.out.2.2.2.2.facts
      have HNo : Hid (∀ p ∈ ls, p.1 ≠ d) := Lib.hid (fun p hp => by
        obtain ⟨j, hj, rfl⟩ := List.getElem_of_mem hp
        have := HI.out.2.1 j hj (by have := HLn.out; omega)
        omega)
      go_wp2_with fail
      have hne : gr ≠ G := by have := HGN.out.1; omega
      have hE : ∃ wE, wE = (wr.setCell ⟨gr, 0, none⟩ (.int .u32 0)).setCell ⟨gr, 1, none⟩ (.slice none 0 0) := ⟨_, rfl⟩
      obtain ⟨wE, hwE⟩ := hE
      have hbE : Box2 wE gr 32 (.int .u32 0) (.slice none 0 0) := by rw [hwE]; exact (HI.out.2.2.2.2.set0 _).set1 _
      have hoE : OwnI wE w0.heap.size (.slice (some ⟨G, 0, none⟩) ks.length cm) (ks.set i (k : Nat)) := by
        have hn1 : (Value.slice (some ⟨G, 0, none⟩) ks.length cm).ownBlock = none ∨ (Value.slice (some ⟨G, 0, none⟩) ks.length cm).ownBlock ≠ some gr := .inr (fun e => hne (by injection e with e; exact e.symm))
        rw [hwE]
        exact (HI.out.1.kept (grownBy_set _ _ _) hn1).kept (grownBy_set _ _ _) hn1
      have hgE : w.grownBy wE (some G) := by
        have h0 : w.heap.size ≤ gr := by rw [HGR.out]; exact Nat.le_refl _
        rw [hwE]
        exact grownBy_new (grownBy_new HI.out.2.2.2.1 (grownBy_set _ _ _) h0) (grownBy_set _ _ _) h0
      have hBE : Below w0.heap.size w0 wE := by
        have h0 : w0.heap.size ≤ gr := by have := HGN.out; omega
        rw [hwE]
        exact (HI.out.2.2.1.setCell h0 _).setCell h0 _
      rw [← hwE]
      obtain ⟨r0, r1, _, _⟩ := hbE.facts
      refine bodyPost_ret (v := .tuple #[.agg #[.int .u32 0, .slice none 0 0], .bool false]) (by simp [results, Try.results38, go_sem, r0, r1]) rfl ⟨0, none, 0, 0, _, k, rfl, ⟨fun h => (by cases h), fun _ => HNo.out⟩, hk, HI.out.2.1, hoE, hgE⟩
theorem find_m (w0 : World) (A : Option Addr) (n c : Nat) (ls : List Po) (G M cm : Nat) (ks : List Int) (i k d : Nat) (w : World) (h : RdPo w0 A n ls) (hr : Rt ls) (hb : Below w0.heap.size w0 w) (ho : OwnI w w0.heap.size (.slice (some ⟨G, 0, none⟩) M cm) ks) (hM : ks.length = M) (hi : i < M) (hki : ∃ h : i < ks.length, ks[i] = (k : Nat)) (hk : k ≤ n) (hd : DocLt ls k d) :
    Calls Try.prog 38 #[.slice A n c, .pointer (some ⟨G, i, none⟩), .int .u32 (d : Nat)] w (FdEnd w0 ls n d G M cm ks i w) := by
  subst hM
  exact find_any w0 A n c ls G cm ks i k d w h hr hb ho hi hki.2 hk hd
end Go.Proofs.Ytaaddckhldccjaa
