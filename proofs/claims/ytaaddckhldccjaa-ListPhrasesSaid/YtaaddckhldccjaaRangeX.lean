/- A range over a function whose iterator counts on one old cell besides. No condition. -/
import Derived.Test.YtaaddckhldccjaaRangeS
namespace Go.Proofs.Ytaaddckhldccjaa
open Go.RowKit
set_option linter.unusedVariables false
variable {F : Fence} {n : Nat} {P : Program}

/-- What lies below stays, but one block. -/
structure BX (q : Nat) (W W' : World) : Prop where
  os : W'.os = W.os
  tape : W'.tape = W.tape
  output : W'.output = W.output
  size : W.heap.size ≤ W'.heap.size
  block : ∀ k, k < W.heap.size → k ≠ q → W'.heap[k]? = W.heap[k]?
theorem BX.refl (q : Nat) (W : World) : BX q W W := ⟨rfl, rfl, rfl, Nat.le_refl _, fun _ _ _ => rfl⟩
theorem BX.of {q : Nat} {W W' : World} (h : Below W.heap.size W W') : BX q W W' := ⟨h.os, h.tape, h.output, h.size, fun k hk _ => h.block k hk⟩
theorem BX.trans {q : Nat} {X Y Z : World} (h : BX q X Y) (k : BX q Y Z) : BX q X Z :=
  ⟨k.os.trans h.os, k.tape.trans h.tape, k.output.trans h.output, Nat.le_trans h.size k.size, fun i hi hq => (k.block i (Nat.lt_of_lt_of_le hi h.size) hq).trans (h.block i hi hq)⟩
theorem BX.below {q B : Nat} {W W' : World} (h : BX q W W') (hB : B ≤ W.heap.size) (hq : B ≤ q) : Below B W W' := ⟨h.os, h.tape, h.output, h.size, fun k hk => h.block k (by omega) (by omega)⟩
/-- What an iterator leaves: what lies below B, but one block, and cells of the types of S. -/
structure StepX (q B : Nat) (S : Nat → TypeId → Bool) (W W' : World) : Prop where
  os : W'.os = W.os
  tape : W'.tape = W.tape
  output : W'.output = W.output
  size : W.heap.size ≤ W'.heap.size
  low : ∀ (k : Nat) (o : Obj), k < B → k ≠ q → W.heap[k]? = some o → W'.heap[k]? = some o
  own : ∀ (k : Nat) (C : Array Value) (t : TypeId) (fr : Nat × Nat), S k t = true → W.heap[k]? = some (.cells C t fr) → W'.heap[k]? = some (.cells C t fr)
theorem StepX.of {q B : Nat} {S : Nat → TypeId → Bool} {W W' : World} (h : Step B S W W') : StepX q B S W W' := ⟨h.os, h.tape, h.output, h.size, fun k o hk _ ho => h.low k o hk ho, h.own⟩
theorem StepX.mono {q B B' : Nat} {S : Nat → TypeId → Bool} {X Y : World} (h : StepX q B S X Y) (hB : B' ≤ B) : StepX q B' S X Y :=
  ⟨h.os, h.tape, h.output, h.size, fun i o hi hq ho => h.low i o (by omega) hq ho, h.own⟩
theorem StepX.bx {q B : Nat} {S : Nat → TypeId → Bool} {w W W' : World} (h : StepX q B S W W') (hB : w.heap.size ≤ B) (hb : BX q w W) : BX q w W' :=
  ⟨h.os.trans hb.os, h.tape.trans hb.tape, h.output.trans hb.output, Nat.le_trans hb.size h.size, fun k hk hq => by
    have hlt : k < W.heap.size := Nat.lt_of_lt_of_le hk hb.size
    rw [← hb.block k hk hq, h.low k _ (by omega) hq (Array.getElem?_eq_getElem hlt), Array.getElem?_eq_getElem hlt]⟩
/-- Does not hang on what an iterator writes. -/
def FirmX {β : Type} (q B : Nat) (S : Nat → TypeId → Bool) (J : β → World → Prop) : Prop := ∀ s A A', J s A → StepX q B S A A' → J s A'
theorem FirmX.firm {β : Type} {q B : Nat} {S : Nat → TypeId → Bool} {J : β → World → Prop} (h : FirmX q B S J) : Firm B S J := fun s A A' hj hst => h s A A' hj (StepX.of hst)
/-- A sequence that says in one old cell how far it has come. -/
def SeqX {α : Type} (F : Fence) (n : Nat) (P : Program) (g : Nat) (lb : Array Value) (encs : α → Array Value) (b : Nat) (S : Nat → TypeId → Bool) (q : Nat) (qv : List α → Value) (L : List α) (w : World) : Prop :=
  ∀ (l : Nat) (J Jx : List α → World → Prop) (W : World), Below w.heap.size w W → FirmX q W.heap.size S J → FirmX q W.heap.size S Jx →
    (∀ pre x W1, pre ++ [x] <+: L → J pre W1 → YieldAt F (n - 1) P l (encs x) W1 fun e W' =>
      (e = .returned (.bool true) ∧ J (pre ++ [x]) W' ∧ Keep b W.heap.size S W1 W') ∨ (e = .returned (.bool false) ∧ Jx (pre ++ [x]) W' ∧ Keep b W.heap.size S W1 W')) →
    J [] W → W.cell? ⟨q, 0, none⟩ = some (qv []) →
    CallsIn F n P g (#[.func (.yield l) #[] #[]] ++ lb) W fun e W' => (∃ v, e = .returned v) ∧ ((J L W' ∧ W'.cell? ⟨q, 0, none⟩ = some (qv L)) ∨ ∃ pre, pre <+: L ∧ Jx pre W' ∧ W'.cell? ⟨q, 0, none⟩ = some (qv pre))
theorem cell_low {W W' : World} {q : Nat} {v : Value} (hc : W.cell? ⟨q, 0, none⟩ = some v) (h : ∀ o, W.heap[q]? = some o → W'.heap[q]? = some o) : W'.cell? ⟨q, 0, none⟩ = some v := by
  cases hh : W.heap[q]? with
  | none => simp [World.cell?, hh] at hc
  | some o =>
    have := h o hh
    unfold World.cell? at hc ⊢
    rw [hh] at hc
    rw [this]
    exact hc
theorem cell_lt {W : World} {q : Nat} {v : Value} (hc : W.cell? ⟨q, 0, none⟩ = some v) : q < W.heap.size := by
  cases hh : W.heap[q]? with
  | none => simp [World.cell?, hh] at hc
  | some o => exact (Array.getElem?_eq_some_iff.1 hh).1
/-- One that does not count. -/
theorem SeqQ.x {α : Type} {g : Nat} {lb : Array Value} {encs : α → Array Value} {b : Nat} {S : Nat → TypeId → Bool} {q : Nat} {u : Value} {L : List α} {w : World} (h : SeqQ F n P g lb encs b S L w) (hq : q < b) (hbw : b ≤ w.heap.size) : SeqX F n P g lb encs b S q (fun _ => u) L w := by
  intro l J Jx W hW hJ hJx hY h0 hc
  have hq' : q < W.heap.size := by have := hW.size; omega
  refine (h l (fun pre W => J pre W ∧ W.cell? ⟨q, 0, none⟩ = some u) (fun pre W => Jx pre W ∧ W.cell? ⟨q, 0, none⟩ = some u) W hW ?_ ?_ ?_ ⟨h0, hc⟩).mono ?_
  · rintro s A A' ⟨h1, h2⟩ hst
    exact ⟨hJ s A A' h1 (StepX.of hst), cell_low h2 fun o ho => hst.low _ _ hq' ho⟩
  · rintro s A A' ⟨h1, h2⟩ hst
    exact ⟨hJx s A A' h1 (StepX.of hst), cell_low h2 fun o ho => hst.low _ _ hq' ho⟩
  · rintro pre x W1 hpx ⟨h1, h2⟩
    obtain ⟨fn, tmps, assign, body, hy, hr⟩ := hY pre x W1 hpx h1
    refine ⟨fn, tmps, assign, body, hy, hr.mono ?_⟩
    rintro e W' (⟨e1, h3, h4⟩ | ⟨e1, h3, h4⟩)
    · exact .inl ⟨e1, ⟨h3, cell_low h2 fun o ho => h4.low _ _ hq ho⟩, h4⟩
    · exact .inr ⟨e1, ⟨h3, cell_low h2 fun o ho => h4.low _ _ hq ho⟩, h4⟩
  · rintro e W' ⟨hv, (h1 | ⟨pre, hp, h1⟩)⟩
    · exact ⟨hv, .inl h1⟩
    · exact ⟨hv, .inr ⟨pre, hp, h1⟩⟩
/-- THE LOOP, in no round. -/
theorem wpIn_range_X {α : Type} {g : Operand} {ps : Array Tmp} {assign body : Code} {Q : Exit → Act → World → Prop} {a : Act} {w : World}
    (hro : F.round = none) (h1 : 1 ≤ n) {gf : Nat} {lb : Array Value} (hg : a.eval g = .func (.func gf) #[] lb) (hFg : F.fn gf) (eg : ∀ args w, (callFunc gf args).run P w = .ok (.enter gf args) w)
    {encs : α → Array Value} {b : Nat} {S : Nat → TypeId → Bool} {q : Nat} {qv : List α → Value} {L : List α} {w0 : World} (hseq : SeqX F (n - 1) P gf lb encs b S q qv L w0) (hbw : b ≤ w0.heap.size) (hqv : w0.cell? ⟨q, 0, none⟩ = some (qv []))
    (hb0 : Below w0.heap.size w0 w) (hps : ∀ x, (encs x).size = ps.size)
    (I : List α → World → Prop) (Ix : Code → List α → World → Prop) (hI : FirmX q w.heap.size S I) (hIx : ∀ c, FirmX q w.heap.size S (Ix c)) (h0 : I [] w)
    (Ax : List α → α → Act → World → Prop) (hAx : ∀ pre x a', Firm w.heap.size S (fun (_ : Unit) W => Ax pre x a' W))
    (hassign : ∀ (l : Nat) (pre : List α) (x : α) (W : World) (K : Act → World → Prop), pre ++ [x] <+: L → I pre W → (∀ a' W', Keep b w.heap.size S W W' → I pre W' → Ax pre x a' W' → K a' W') →
      assign.wpIn (F.inRound l) (n - 1 - 1) P (Exit.then K (fun _ _ _ => False)) { tmps := (ps.zip (encs x)).foldl (fun t (p, v) => t.setIfInBounds p v) a.tmps, defers := [] } W)
    (hbody : ∀ (l : Nat) (pre : List α) (x : α) (a' : Act) (W : World), pre ++ [x] <+: L → I pre W → Ax pre x a' W → body.wpIn (F.inRound l) (n - 1 - 1) P (postQ w.heap.size b S I Ix (pre ++ [x]) W) a' W)
    (hdone : ∀ (D : Nat) (W : World), w.heap.size ≤ D → I L W → W.cell? ⟨q, 0, none⟩ = some (qv L) → W.heap[D]? = some (.deferred (some [])) → Q .normal { a with defers := { target := .collected D, args := #[] } :: a.defers } W)
    (hstop : ∀ (D : Nat) (c : Code) (pre : List α) (W : World), w.heap.size ≤ D → pre <+: L → Ix c pre W → W.cell? ⟨q, 0, none⟩ = some (qv pre) → W.heap[D]? = some (.deferred (some [])) → c.wpIn F n P Q { a with defers := { target := .collected D, args := #[] } :: a.defers } W) :
    (Code.rangeFunc g ps assign body).wpIn F n P Q a w := by
  refine wpIn_rangeFunc fun fn hfn => ?_
  rw [hro]
  have hqw : q < w.heap.size := by have := cell_lt hqv; have := hb0.size; omega
  have hqw' : w.cell? ⟨q, 0, none⟩ = some (qv []) := cell_low hqv fun o ho => (hb0.block _ (cell_lt hqv)).trans ho
  obtain ⟨D, hD⟩ : ∃ D, D = w.heap.size := ⟨_, rfl⟩
  obtain ⟨W1, hW1⟩ : ∃ W1, (w.alloc (.deferred (some []))).alloc (.loop (recOf fn a ps assign body D .ready none)) = W1 := ⟨_, rfl⟩
  have hsz : W1.heap.size = D + 2 := by rw [← hW1, hD]; simp
  have hR1 : Ready fn a ps assign body D W1 := by
    rw [← hW1, hD]
    refine ⟨?_, (Below.heap_alloc _ _ _ (by simp)).trans (World.alloc_heap_new w _)⟩
    have := World.alloc_heap_new (w.alloc (.deferred (some []))) (.loop (recOf fn a ps assign body w.heap.size .ready none))
    rwa [World.size_alloc] at this
  have hbw1 : Below w.heap.size w W1 := by
    rw [← hW1]
    exact ((Below.refl _ _).alloc (Nat.le_refl _) _).alloc (by simp) _
  have hb1 : Below w0.heap.size w0 W1 := hb0.trans (hbw1.mono hb0.size)
  have hI1 : I [] W1 := by rw [← hW1]; exact hI.firm _ _ _ (hI.firm _ _ _ h0 (Step.alloc _ _)) (Step.alloc _ _)
  have hq1 : W1.cell? ⟨q, 0, none⟩ = some (qv []) := cell_low hqw' fun o ho => (hbw1.block _ hqw).trans ho
  have hbD : b ≤ D := by have := hb0.size; omega
  rw [← hD] at hI hIx hAx hassign hbody hqw
  have hput : ∀ {W : World} {o : Obj} {v : Value}, W.cell? ⟨q, 0, none⟩ = some v → (W.putObj (D + 1) o).cell? ⟨q, 0, none⟩ = some v := fun {W o v} h =>
    cell_low h fun o' ho => (World.putObj_heap_other (by omega)).trans ho
  refine ⟨D + 1, [{ target := .collected D, args := #[] }], W1, { target := .fn (.func gf) lb, args := #[.func (.yield (D + 1)) #[] #[]] }, W1, gf, #[.func (.yield (D + 1)) #[] #[]] ++ lb, W1, ?_, ?_, ?_, ?_, fun _ => h1, ?_⟩
  · rw [← hW1, hD]; exact run_enterLoop_outer _ _ _ _ _
  · simp only [resolve, hg]
    simp [go_sem]
  · intro f' hf'; simp [Target.leads] at hf'; subst hf'; exact hFg
  · simp [invoke, go_sem, eg]
  refine (hseq (D + 1) (fun pre W => I pre W ∧ Ready fn a ps assign body D W)
    (fun pre W => ∃ c, Ix c pre W ∧ W.heap[D + 1]? = some (.loop (recOf fn a ps assign body D .done (some c))) ∧ W.heap[D]? = some (.deferred (some []))) W1 hb1 ?_ ?_ ?_ ⟨hI1, hR1⟩ hq1).mono ?_
  · intro s A B hs hst
    exact ⟨hI s A B hs.1 (hst.mono (by omega)), hst.low _ _ (by omega) (by omega) hs.2.1, hst.low _ _ (by omega) (by omega) hs.2.2⟩
  · rintro s A B ⟨c, hc, hl, hd⟩ hst
    exact ⟨c, hIx c s A B hc (hst.mono (by omega)), hst.low _ _ (by omega) (by omega) hl, hst.low _ _ (by omega) (by omega) hd⟩
  · rintro pre x W hpx ⟨hi, hrd⟩
    rw [hsz]
    exact yield_round (b := b) hfn hps hbD hI.firm (fun c => (hIx c).firm) (hAx pre x) hrd (fun K hK => hassign _ pre x W K hpx hi hK) (fun a' W' h2 h3 => hbody _ pre x a' W' hpx h2 h3)
  · rintro e W2 ⟨⟨v, rfl⟩, (⟨⟨hi, hl, hd⟩, hc⟩ | ⟨pre, hSp, ⟨c, hi, hl, hd⟩, hcq⟩)⟩
    · exact ⟨none, _, run_endLoop (P := P) hl (by simp [recOf]), hdone _ _ (by omega) (hI.firm _ _ _ hi (Step.put hl rfl (by omega))) (hput hc) ((World.putObj_heap_other (by omega)).trans hd)⟩
    · exact ⟨some c, _, run_endLoop (P := P) hl (by simp [recOf]), hstop _ c pre _ (by omega) hSp ((hIx c).firm _ _ _ hi (Step.put hl rfl (by omega))) (hput hcq) ((World.putObj_heap_other (by omega)).trans hd)⟩
end Go.Proofs.Ytaaddckhldccjaa
