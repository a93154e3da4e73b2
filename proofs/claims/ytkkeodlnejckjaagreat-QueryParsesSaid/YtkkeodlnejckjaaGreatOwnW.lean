/- Whether a text is its own term. -/
import Derived.Test.YtkkeodlnejckjaaGreatFol
import Derived.Test.YtkkeodlnejckjaaGreatWoMath
import Derived.BigQuiet
namespace Go.Proofs.YtkkeodlnejckjaaGreat
open Go.RowKit Go.Shelf Go.Maps
set_option linter.unusedVariables false
set_option linter.unusedSimpArgs false

/-- A step that turns blocks from B on, and M's. -/
structure But (B M : Nat) (w w' : World) : Prop where
  os : w'.os = w.os
  tape : w'.tape = w.tape
  output : w'.output = w.output
  size : w.heap.size ≤ w'.heap.size
  block : ∀ k, k < B → k ≠ M → w'.heap[k]? = w.heap[k]?
theorem But.refl (B M : Nat) (w : World) : But B M w w := ⟨rfl, rfl, rfl, Nat.le_refl _, fun _ _ _ => rfl⟩
theorem But.trans {B M : Nat} {a b c : World} (h : But B M a b) (k : But B M b c) : But B M a c :=
  ⟨k.os.trans h.os, k.tape.trans h.tape, k.output.trans h.output, Nat.le_trans h.size k.size, fun i hi hr => (k.block i hi hr).trans (h.block i hi hr)⟩
theorem But.mono {B B' M : Nat} {a b : World} (h : But B M a b) (hB : B' ≤ B) : But B' M a b := ⟨h.os, h.tape, h.output, h.size, fun i hi hr => h.block i (by omega) hr⟩
theorem But.grown {B M : Nat} {a b : World} {row : Option Nat} (h : a.grownBy b row) (hB : B ≤ a.heap.size) (hr : ∀ k, row = some k → B ≤ k ∨ k = M) : But B M a b :=
  ⟨h.os, h.tape, h.output, h.size, fun i hi hm => h.block i (by omega) fun e => by
    rcases hr i e.symm with h1 | h1
    · omega
    · exact hm h1⟩
theorem But.below {B M : Nat} {a b : World} (h : Below B a b) : But B M a b := ⟨h.os, h.tape, h.output, h.size, fun i hi _ => h.block i hi⟩
theorem But.cells {B M : Nat} {a b : World} (h : But B M a b) (hM : ∃ es c, a.heap[M]? = some (.map es c)) {p : Addr} {v : Value} (hp : p.block < B) (hc : a.cell? p = some v) : b.cell? p = some v := by
  obtain ⟨es, c, hm⟩ := hM
  rw [World.cell?_of_block (h.block _ hp ?_)]
  · exact hc
  · intro e
    rw [← e] at hm
    simp [World.cell?, hm] at hc
theorem Fol.map {w : World} {base f M : Nat} {l : List Fo} {k : Nat} (h : Fol w base f M l k) : ∃ es c, w.heap[M]? = some (.map es c) := by
  obtain ⟨A, n, c, D, h1, h2, h3, h4⟩ := h.ex
  exact mapBlock h3
/-- A folder stays where another block is written that is no cells and no map. -/
theorem Fol.iter {w w' : World} {base f M R : Nat} {l : List Fo} {k : Nat} (h : Fol w base f M l k) {s : ByteArray} {p : Nat} (hR : w.heap[R]? = some (.stringIter s p)) (hg : w.grownBy w' (some R)) (hbR : base ≤ R) : Fol w' base f M l k := by
  obtain ⟨A, n, c, D, h1, h2, h3, h4⟩ := h.ex
  refine ⟨⟨A, n, c, D, (hg.block f (Array.getElem?_eq_some_iff.1 h1).1 ?_).trans h1, h2.low (Below.grown (Below.refl _ _) hg (Nat.le_trans hbR (Nat.le_of_lt (Array.getElem?_eq_some_iff.1 hR).1)) (fun j hj => by cases hj; exact hbR)), h3.kept hg ?_, h4⟩, h.small, h.hf, h.hM⟩
  · intro e
    cases e
    rw [hR] at h1
    cases h1
  · intro e
    cases e
    obtain ⟨es, cc, hm⟩ := mapBlock h3
    rw [hR] at hm
    cases hm
theorem Fol.le {w : World} {base f M : Nat} {l : List Fo} {k : Nat} (h : Fol w base f M l k) {k' : Nat} (hk : k ≤ k') (h2 : k' ≤ 1000000000) : Fol w base f M l k' := by
  obtain ⟨A, n, c, D, h1, h3, h4, h5⟩ := h.ex
  exact ⟨⟨A, n, c, D, h1, h3, h4.mono hk, h5⟩, h2, h.hf, h.hM⟩
theorem own_yes {c : Cf} {s : ByteArray} {n : Nat} (h : ∀ r ∈ rnsL (bsL s), okR c.fo r) (hn : n = (rnsL (bsL s)).length) (h0 : 0 < n) (h1 : (n : Int) ≤ c.cap) : ownS c s := ⟨h, by omega, by omega⟩
abbrev confV (A : Option Addr) (n c : Nat) (B : Option Addr) (m d : Nat) (cap : Int) : Value := .agg #[.slice A n c, .slice B m d, .int .i64 cap]
/-- The answer tells whether p. -/
def TellB (p : Prop) (e : Ending) : Prop := ∃ b, e = .returned (.bool b) ∧ (b = true ↔ p)
theorem tell_t {p : Prop} (h : p) : TellB p (.returned (.bool true)) := ⟨true, rfl, by simp [h]⟩
theorem tell_f {p : Prop} (h : ¬ p) : TellB p (.returned (.bool false)) := ⟨false, rfl, by simp [h]⟩
set_option maxRecDepth 100000 in
set_option maxHeartbeats 4000000 in
theorem own_any (A : Option Addr) (n c : Nat) (B : Option Addr) (m d : Nat) (cf : Cf) (base f M k : Nat) (s : ByteArray) (w : World) (h : Fol w base f M cf.fo k) (hs : k + s.size < 1000000000) :
    Calls Tryz.prog 74 #[confV A n c B m d cf.cap, .pointer (some ⟨f, 0, none⟩), .string s] w fun e w' => TellB (ownS cf s) e ∧ But w.heap.size M w w' ∧ Fol w' base f M cf.fo (k + s.size) := by
  obtain ⟨l, hl⟩ : ∃ l, l = bsL s := ⟨_, rfl⟩
  obtain ⟨cp, hcp⟩ : ∃ cp, cp = cf.cap := ⟨_, rfl⟩
  have hdec := fun pos => decode_strL l (by rw [hl]; exact bsL_byt s) pos
  have hsl : strL l = s := by rw [hl]; exact bsL_str s
  rw [hsl] at hdec
  have hsz : l.length = s.size := by rw [hl]; exact bsL_len s
  have hbyt : Byt l := by rw [hl]; exact bsL_byt s
  have hbx := (Below.refl w.heap.size w).alloc (Nat.le_refl _) (.cells #[.slice A n c, .slice B m d, .int .i64 cf.cap] 25)
  have hF1 := Fol.below h hbx
  have hb2 : (w.alloc (.cells #[.slice A n c, .slice B m d, .int .i64 cf.cap] 25)).heap[w.heap.size]? = some (.cells #[.slice A n c, .slice B m d, .int .i64 cf.cap] 25 (0, 0)) := World.alloc_heap_new w _
  obtain ⟨w1, hw1⟩ : ∃ w1, w1 = w.alloc (.cells #[.slice A n c, .slice B m d, .int .i64 cf.cap] 25) := ⟨_, rfl⟩
  rw [← hw1] at hbx hF1 hb2
  have hsz1 : w1.heap.size = w.heap.size + 1 := by rw [hw1]; simp
  obtain ⟨g, hg⟩ : ∃ g, g = w.heap.size := ⟨_, rfl⟩
  rw [← hg] at hb2
  obtain ⟨R, hR⟩ : ∃ R, R = w1.heap.size := ⟨_, rfl⟩
  have hW0 : (w1.iter s 0).heap[R]? = some (.stringIter s 0) := by rw [hR]; exact World.iter_heap w1 s 0
  have hbi : Below w1.heap.size w1 (w1.iter s 0) := (Below.refl _ _).alloc (Nat.le_refl _) _
  obtain ⟨w2, hw2⟩ : ∃ w2, w2 = w1.iter s 0 := ⟨_, rfl⟩
  rw [← hw2] at hW0 hbi
  have HF2 := Lib.hid (Fol.below hF1 hbi)
  have hcell2 : w2.heap[g]? = some (.cells #[.slice A n c, .slice B m d, .int .i64 cf.cap] 25 (0, 0)) := (hbi.block g (by omega)).trans hb2
  have HC2 := Lib.hid hcell2
  have HB2 : Hid (But w.heap.size M w w2) := Lib.hid ((But.below hbx).trans ((But.below hbi).mono (by omega)))
  have HW1 := Lib.hid hw1
  have HW2 := Lib.hid hw2
  have HG := Lib.hid hg
  have HR : Hid (R = g + 1) := Lib.hid (by omega)
  have HD := Lib.hid hdec
  have HL := Lib.hid hl
  have HSZ := Lib.hid hsz
  have HS := Lib.hid hs
  have HGR : Hid (g < R) := Lib.hid (by omega)
  have HGB : Hid (g = w.heap.size) := Lib.hid hg
  have HCP := Lib.hid hcp
  have HBY := Lib.hid hbyt
  have HBF : Hid (base ≤ w.heap.size) := Lib.hid (by
    obtain ⟨A', n', c', D', h1, _⟩ := h.ex
    have := (Array.getElem?_eq_some_iff.1 h1).1
    have := h.hf
    omega)
  clear hbyt
  clear h hw1 hw2 hg hR hdec hl hsz hs hbx hF1 hb2 hbi hcell2 hsl hsz1
  rw [← HCP.out]
  clear hcp
  go_enter Tryz.func74, Tryz.ntmps74
  rw [HCP.out]
  go_wp2_with fail
  rw [← HW1.out, ← HG.out]
  rw [← HW2.out, ← HR.out]
  clear HW1 HW2
  go_loopw [7] (fun x wr => ∃ (pre : List Nat) (pos : Nat), x = .int .i64 (pre.length : Nat) ∧ Hid (rnsL l = pre ++ rnsL (l.drop pos) ∧ pre.length ≤ pos ∧ pos ≤ l.length ∧ ∀ r ∈ pre, okR cf.fo r) ∧ wr.heap[R]? = some (.stringIter s pos) ∧ Hid (wr.heap[g]? = some (.cells #[.slice A n c, .slice B m d, .int .i64 cf.cap] 25 (0, 0))) ∧ Hid (But w.heap.size M w wr ∧ Fol wr base f M cf.fo (k + pre.length))) (fun _ wr => s.size - wr.iterPos R)
  case atStart => exact ⟨[], 0, rfl, Lib.hid ⟨rfl, Nat.le_refl _, Nat.zero_le _, fun r h => by cases h⟩, hW0, HC2, Lib.hid ⟨HB2.out, HF2.out⟩⟩
  case round =>
    obtain ⟨pre, pos, rfl, HM, hk, HC, HI⟩ := hrel
    have hip : wr.iterPos R = pos := by simp [World.iterPos, hk]
    have HIP := Lib.hid hip
    clear hip
    have hlen := HSZ.out
    by_cases hp : pos < s.size
    · have hne : l.drop pos ≠ [] := by
        intro h
        have := congrArg List.length h
        simp at this
        omega
      have hnx := fun ty => Lib.run_next_any_at (P := Tryz.prog) wr R s pos ty hk hp
      rw [HD.out pos] at hnx
      have hM2 := HM.out.1
      rw [rns_step _ hne, List.drop_drop] at hM2
      have hw := dec_w (l.drop pos)
      have hrv := dec_r (l.drop pos) (HBY.out.drop pos)
      have hle := dec_le (l.drop pos) hne
      obtain ⟨dd, hd⟩ : ∃ dd, dd = dec (l.drop pos) := ⟨_, rfl⟩
      rw [← hd] at hnx hM2 hw hrv hle
      obtain ⟨r, v⟩ := dd
      simp only [List.length_drop] at hnx hM2 hw hrv hle
      have hk2 := Lib.iterAt_heap wr R s pos (pos + v) hk
      have hgi : wr.grownBy (wr.iterAt R s (pos + v)) (some R) := grownBy_putObj' wr R _
      have hF2 := Fol.iter HI.out.2 hk hgi (by have := HGR.out; have := HGB.out; have := HBF.out; omega)
      have hC2 : (wr.iterAt R s (pos + v)).heap[g]? = some (.cells #[.slice A n c, .slice B m d, .int .i64 cf.cap] 25 (0, 0)) := (hgi.block g (Array.getElem?_eq_some_iff.1 HC.out).1 (fun e => by have := HGR.out; cases e; omega)).trans HC.out
      have hB2 : But w.heap.size M w (wr.iterAt R s (pos + v)) := HI.out.1.trans (But.grown hgi HI.out.1.size (fun j e => by cases e; exact .inl (by have := HGR.out; have := HGB.out; omega)))
      obtain ⟨W2, hW2⟩ : ∃ W2, W2 = wr.iterAt R s (pos + v) := ⟨_, rfl⟩
      rw [← hW2] at hnx hk2 hF2 hC2 hB2
      have hpl : pre.length + 1 ≤ 9223372036854775807 := by
        have := HM.out.2.1
        have := HS.out
        omega
      have hkk : k + pre.length < 1000000000 := by
        have := HM.out.2.1
        have := HS.out
        omega
      have CF := Lib.hid (folderRune_any base f M cf.fo (k + pre.length) (r : Int) W2 hF2 (by omega) (by omega) hkk)
      have HM2 := Lib.hid hM2
      have HK2 := Lib.hid hk2
      have HCC := Lib.hid hC2
      have HBB := Lib.hid hB2
      have HFF := Lib.hid hF2
      have HNL := Lib.hid (show pre.length + 1 ≤ pos + v by have := HM.out.2.1; omega)
      have HLE := Lib.hid (show pos + v ≤ l.length by omega)
      have HV := Lib.hid hw
      have HKK := Lib.hid hkk
      clear hM2 hW2 hd hne hk2 hF2 hC2 hB2 hgi hrv hw hle hkk hlen
      by_cases hlt : letB (r : Int) = true
      · go_wp2_with fail
        refine (Letter_any (r : Int) W2).mono ?_
        rintro e W3 ⟨rfl, rfl⟩
        rw [hlt]
        go_wp2_with fail
        refine CF.out.mono ?_
        rintro e W3 ⟨rfl, hg3, hF3⟩
        have HF3 := Lib.hid hF3
        have HG3 := Lib.hid hg3
        clear hg3 hF3 CF
        obtain ⟨q, hq⟩ : ∃ q, q = oneR (eff cf.fo) (r : Int) := ⟨_, rfl⟩
        rw [← hq]
        have HQ := Lib.hid hq
        clear hq
        have hMb : some g ≠ some M := by
          intro e
          cases e
          obtain ⟨es, cc, hm⟩ := HFF.out.map
          have := HCC.out
          rw [hm] at this
          cases this
        have HMg := Lib.hid hMb
        clear hMb
        by_cases hqr : q = (r : Int)
        · have hq2 : (q != (r : Int)) = false := by simp [hqr]
          have hq3 : (q == (r : Int)) = true := by simp [hqr]
          have HQR := Lib.hid hqr
          have HLT := Lib.hid hlt
          clear hqr hlt
          go_wp2
          refine ⟨⟨pre ++ [r], pos + v, by simp; try go_num, Lib.hid ⟨by rw [HM2.out]; simp, by simp; exact HNL.out, HLE.out, ?_⟩, ?_, Lib.hid ?_, Lib.hid ⟨?_, ?_⟩⟩, ?_⟩
          · intro x hx
            rcases List.mem_append.1 hx with hx | hx
            · exact HM.out.2.2.2 x hx
            · simp at hx
              subst hx
              exact ⟨HLT.out, by rw [← HQ.out, HQR.out]⟩
          · exact (HG3.out.block R (Array.getElem?_eq_some_iff.1 HK2.out).1 (fun e => by
              cases e
              obtain ⟨es, cc, hm⟩ := HFF.out.map
              have := HK2.out
              rw [hm] at this
              cases this)).trans HK2.out
          · exact (HG3.out.block g (Array.getElem?_eq_some_iff.1 HCC.out).1 HMg.out).trans HCC.out
          · exact HBB.out.trans (But.grown HG3.out HBB.out.size (fun j e => by cases e; exact .inr rfl))
          · rw [List.length_append, List.length_singleton, ← Nat.add_assoc]; exact HF3.out
          · have e3 : W3.heap[R]? = some (.stringIter s (pos + v)) := (HG3.out.block R (Array.getElem?_eq_some_iff.1 HK2.out).1 (fun e => by
              cases e
              obtain ⟨es, cc, hm⟩ := HFF.out.map
              have := HK2.out
              rw [hm] at this
              cases this)).trans HK2.out
            have e2 : W3.iterPos R = pos + v := by simp [World.iterPos, e3]
            rw [e2, HIP.out]
            have := HV.out
            omega
        · have hq2 : (q != (r : Int)) = true := by simp [hqr]
          have hq3 : (q == (r : Int)) = false := by simp [hqr]
          have HQR := Lib.hid hqr
          clear hqr
          go_wp2
          go_ret
          refine ⟨tell_f fun ho => HQR.out (by rw [HQ.out]; exact (ho.1 r (by rw [← HL.out, HM2.out]; simp)).2), HBB.out.trans (But.grown HG3.out HBB.out.size (fun j e => by cases e; exact .inr rfl)), HF3.out.le (by have := HNL.out; have := HLE.out; have := HSZ.out; omega) (by have := HS.out; omega)⟩
      · have hlt : letB (r : Int) = false := by simpa using hlt
        go_wp2_with fail
        refine (Letter_any (r : Int) W2).mono ?_
        rintro e W3 ⟨rfl, rfl⟩
        rw [hlt]
        have HLT := Lib.hid hlt
        clear hlt CF
        go_wp2
        go_ret
        refine ⟨tell_f fun ho => (by have := (ho.1 r (by rw [← HL.out, HM2.out]; simp)).1; rw [HLT.out] at this; cases this), HBB.out, HFF.out.le (by have := HNL.out; have := HLE.out; have := HSZ.out; omega) (by have := HS.out; omega)⟩
    · have hnx := fun ty => Lib.run_next_end_at (P := Tryz.prog) wr R s pos ty hk hp
      have hM : rnsL l = pre := by
        have := HM.out.1
        rw [List.drop_of_length_le (by omega)] at this
        simpa [rnsL_nil] using this
      have HM3 := Lib.hid hM
      clear hM
      have hcl : wr.cell? ⟨g, 2, none⟩ = some (.int .i64 cf.cap) := by
        have := HC.out
        simp [World.cell?, this]
      obtain ⟨N, hN⟩ : ∃ N, N = pre.length := ⟨_, rfl⟩
      have HN := Lib.hid hN
      rw [← hN]
      clear hN
      have hNb : N ≤ 1000000000 := by have := HN.out; have := HM.out.2.1; have := HS.out; have := HM.out.2.2.1; have := HSZ.out; omega
      have hkF : k + pre.length ≤ k + s.size := by have := HM.out.2.1; have := HM.out.2.2.1; have := HSZ.out; omega
      have HkF := Lib.hid hkF
      clear hkF hlen
      by_cases h0 : 0 < N
      · by_cases h1 : (N : Int) ≤ cf.cap
        · have g1 : decide ((N : Int) ≤ cf.cap) = true := decide_eq_true h1
          go_wp2
          go_ret
          refine ⟨tell_t (own_yes (by rw [← HL.out, HM3.out]; exact HM.out.2.2.2) (by rw [← HL.out, HM3.out]; exact HN.out) h0 h1), HI.out.1, HI.out.2.le HkF.out (by have := HS.out; omega)⟩
        · have g1 : decide ((N : Int) ≤ cf.cap) = false := decide_eq_false h1
          go_wp2
          go_ret
          refine ⟨tell_f fun ho => (by have := ho.2.2; rw [← HL.out, HM3.out, ← HN.out] at this; omega), HI.out.1, HI.out.2.le HkF.out (by have := HS.out; omega)⟩
      · obtain rfl : N = 0 := by omega
        go_wp2
        go_ret
        refine ⟨tell_f fun ho => (by have := ho.2.1; rw [← HL.out, HM3.out, ← HN.out] at this; omega), HI.out.1, HI.out.2.le HkF.out (by have := HS.out; omega)⟩
end Go.Proofs.YtkkeodlnejckjaaGreat
