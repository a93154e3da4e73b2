import Derived.RangeFuncNested
import Derived.RangeFuncWrites
import Derived.RangeFuncBound
import Derived.RangeFuncLeaves
import Derived.RangeFuncBox
import Derived.Test.YtkkeodlnejckjaaGreatOwnK

/- A range over a function: an iterator that writes cells of its own, a body that writes cells of its own: of which type a block is tells whose it is. No condition. -/
namespace Go.Proofs.YtkkeodlnejckjaaGreat
open Go.RowKit
set_option linter.unusedVariables false
variable {F : Fence} {n : Nat} {P : Program}

/-- What an iterator leaves: what lies below B, and cells of the types of S. -/
structure Step (B : Nat) (S : TypeId → Bool) (W W' : World) : Prop where
  os : W'.os = W.os
  tape : W'.tape = W.tape
  output : W'.output = W.output
  size : W.heap.size ≤ W'.heap.size
  low : ∀ (k : Nat) (o : Obj), k < B → W.heap[k]? = some o → W'.heap[k]? = some o
  own : ∀ (k : Nat) (C : Array Value) (t : TypeId) (fr : Nat × Nat), S t = true → W.heap[k]? = some (.cells C t fr) → W'.heap[k]? = some (.cells C t fr)
/-- What a body leaves: what lies below b, cells of other types than S's, and whatever is no cells from E on. -/
structure Keep (b E : Nat) (S : TypeId → Bool) (W W' : World) : Prop where
  os : W'.os = W.os
  tape : W'.tape = W.tape
  output : W'.output = W.output
  size : W.heap.size ≤ W'.heap.size
  low : ∀ (k : Nat) (o : Obj), k < b → W.heap[k]? = some o → W'.heap[k]? = some o
  own : ∀ (k : Nat) (C : Array Value) (t : TypeId) (fr : Nat × Nat), S t = false → W.heap[k]? = some (.cells C t fr) → W'.heap[k]? = some (.cells C t fr)
  walk : ∀ (k : Nat) (o : Obj), E ≤ k → o.isCells = false → W.heap[k]? = some o → W'.heap[k]? = some o
theorem Step.refl (B : Nat) (S : TypeId → Bool) (W : World) : Step B S W W := ⟨rfl, rfl, rfl, Nat.le_refl _, fun _ _ _ h => h, fun _ _ _ _ _ h => h⟩
theorem Step.trans {B : Nat} {S : TypeId → Bool} {X Y Z : World} (h : Step B S X Y) (k : Step B S Y Z) : Step B S X Z :=
  ⟨k.os.trans h.os, k.tape.trans h.tape, k.output.trans h.output, Nat.le_trans h.size k.size, fun i o hi ho => k.low i o hi (h.low i o hi ho), fun i C t fr ht ho => k.own i C t fr ht (h.own i C t fr ht ho)⟩
theorem Step.mono {B B' : Nat} {S : TypeId → Bool} {X Y : World} (h : Step B S X Y) (hB : B' ≤ B) : Step B' S X Y :=
  ⟨h.os, h.tape, h.output, h.size, fun i o hi ho => h.low i o (by omega) ho, h.own⟩
theorem Step.grown {B : Nat} {S : TypeId → Bool} {W W' : World} {row : Option Nat} (hg : W.grownBy W' row) (hr : ∀ k, row = some k → B ≤ k ∧ ∀ C t fr, W.heap[k]? = some (.cells C t fr) → S t = false) : Step B S W W' := by
  refine ⟨hg.os, hg.tape, hg.output, hg.size, fun i o hi ho => (hg.block i (Array.getElem?_eq_some_iff.1 ho).1 ?_).trans ho, fun i C t fr ht ho => (hg.block i (Array.getElem?_eq_some_iff.1 ho).1 ?_).trans ho⟩
  · intro e
    have := (hr i e.symm).1
    omega
  · intro e
    have := (hr i e.symm).2 C t fr ho
    rw [ht] at this
    cases this
theorem Step.below {B : Nat} {S : TypeId → Bool} {W W' : World} (h : Below W.heap.size W W') : Step B S W W' :=
  ⟨h.os, h.tape, h.output, h.size, fun i o _ ho => (h.block i (Array.getElem?_eq_some_iff.1 ho).1).trans ho, fun i C t fr _ ho => (h.block i (Array.getElem?_eq_some_iff.1 ho).1).trans ho⟩
theorem Step.put {B : Nat} {S : TypeId → Bool} {W : World} {l : Nat} {o o' : Obj} (h : W.heap[l]? = some o) (ho : o.isCells = false) (hB : B ≤ l) : Step B S W (W.putObj l o') :=
  Step.grown (grownBy_putObj' W l o') fun k e => by
    cases e
    refine ⟨hB, fun C t fr hc => ?_⟩
    rw [h] at hc
    cases hc
    cases ho
theorem Step.alloc {B : Nat} {S : TypeId → Bool} (W : World) (o : Obj) : Step B S W (W.alloc o) := Step.grown (World.grownBy_alloc W o none) fun k e => by cases e
theorem Step.belowB {B : Nat} {S : TypeId → Bool} {W W' : World} (h : Step B S W W') (hB : B ≤ W.heap.size) : Below B W W' :=
  ⟨h.os, h.tape, h.output, h.size, fun k hk => by
    have hlt : k < W.heap.size := by omega
    rw [h.low k _ hk (Array.getElem?_eq_getElem hlt), Array.getElem?_eq_getElem hlt]⟩
theorem Keep.refl (b E : Nat) (S : TypeId → Bool) (W : World) : Keep b E S W W := ⟨rfl, rfl, rfl, Nat.le_refl _, fun _ _ _ h => h, fun _ _ _ _ _ h => h, fun _ _ _ _ h => h⟩
theorem Keep.trans {b E : Nat} {S : TypeId → Bool} {X Y Z : World} (h : Keep b E S X Y) (k : Keep b E S Y Z) : Keep b E S X Z :=
  ⟨k.os.trans h.os, k.tape.trans h.tape, k.output.trans h.output, Nat.le_trans h.size k.size, fun i o hi ho => k.low i o hi (h.low i o hi ho), fun i C t fr ht ho => k.own i C t fr ht (h.own i C t fr ht ho), fun i o hi hw ho => k.walk i o hi hw (h.walk i o hi hw ho)⟩
theorem Keep.mono {b b' E E' : Nat} {S : TypeId → Bool} {X Y : World} (h : Keep b E S X Y) (hb : b' ≤ b) (hE : E ≤ E') : Keep b' E' S X Y :=
  ⟨h.os, h.tape, h.output, h.size, fun i o hi ho => h.low i o (by omega) ho, h.own, fun i o hi hw ho => h.walk i o (by omega) hw ho⟩
theorem Keep.below {b E : Nat} {S : TypeId → Bool} {W W' : World} (h : Below W.heap.size W W') : Keep b E S W W' :=
  ⟨h.os, h.tape, h.output, h.size, fun i o _ ho => (h.block i (Array.getElem?_eq_some_iff.1 ho).1).trans ho, fun i C t fr _ ho => (h.block i (Array.getElem?_eq_some_iff.1 ho).1).trans ho, fun i o _ _ ho => (h.block i (Array.getElem?_eq_some_iff.1 ho).1).trans ho⟩
theorem Keep.grown {b E : Nat} {S : TypeId → Bool} {W W' : World} {row : Option Nat} (hg : W.grownBy W' row) (hr : ∀ k, row = some k → b ≤ k ∧ ∃ C t fr, W.heap[k]? = some (.cells C t fr) ∧ S t = true) : Keep b E S W W' := by
  refine ⟨hg.os, hg.tape, hg.output, hg.size, fun i o hi ho => (hg.block i (Array.getElem?_eq_some_iff.1 ho).1 ?_).trans ho, fun i C t fr ht ho => (hg.block i (Array.getElem?_eq_some_iff.1 ho).1 ?_).trans ho, fun i o hi hw ho => (hg.block i (Array.getElem?_eq_some_iff.1 ho).1 ?_).trans ho⟩
  · intro e
    have := (hr i e.symm).1
    omega
  · intro e
    obtain ⟨C', t', fr', h1, h2⟩ := (hr i e.symm).2
    rw [ho] at h1
    cases h1
    rw [ht] at h2
    cases h2
  · intro e
    obtain ⟨C', t', fr', h1, h2⟩ := (hr i e.symm).2
    rw [ho] at h1
    cases h1
    cases hw
theorem Keep.put {b E : Nat} {S : TypeId → Bool} {W : World} {l : Nat} {o o' : Obj} (h : W.heap[l]? = some o) (ho : o.isCells = false) (hb : b ≤ l) (hE : l < E) : Keep b E S W (W.putObj l o') := by
  have hg := grownBy_putObj' W l o'
  refine ⟨hg.os, hg.tape, hg.output, hg.size, fun i o2 hi h2 => (hg.block i (Array.getElem?_eq_some_iff.1 h2).1 ?_).trans h2, fun i C t fr ht h2 => (hg.block i (Array.getElem?_eq_some_iff.1 h2).1 ?_).trans h2, fun i o2 hi hw h2 => (hg.block i (Array.getElem?_eq_some_iff.1 h2).1 ?_).trans h2⟩
  · intro e; cases e; omega
  · intro e; cases e; rw [h] at h2; cases h2; cases ho
  · intro e; cases e; omega
theorem Keep.belowb {b E : Nat} {S : TypeId → Bool} {W W' : World} (h : Keep b E S W W') (hB : b ≤ W.heap.size) : Below b W W' :=
  ⟨h.os, h.tape, h.output, h.size, fun k hk => by
    have hlt : k < W.heap.size := by omega
    rw [h.low k _ hk (Array.getElem?_eq_getElem hlt), Array.getElem?_eq_getElem hlt]⟩
/-- What does not hang on what an iterator writes. -/
def Firm {β : Type} (B : Nat) (S : TypeId → Bool) (J : β → World → Prop) : Prop := ∀ s A A', J s A → Step B S A A' → J s A'
/-- A sequence: L, one by one, as far as it is asked for. -/
def SeqQ {α : Type} (F : Fence) (n : Nat) (P : Program) (g : Nat) (lb : Array Value) (encs : α → Array Value) (b : Nat) (S : TypeId → Bool) (L : List α) (w : World) : Prop :=
  ∀ (l : Nat) (J Jx : List α → World → Prop) (W : World), Below w.heap.size w W → Firm W.heap.size S J → Firm W.heap.size S Jx →
    (∀ pre x W1, pre ++ [x] <+: L → J pre W1 → YieldAt F (n - 1) P l (encs x) W1 fun e W' =>
      (e = .returned (.bool true) ∧ J (pre ++ [x]) W' ∧ Keep b W.heap.size S W1 W') ∨ (e = .returned (.bool false) ∧ Jx (pre ++ [x]) W' ∧ Keep b W.heap.size S W1 W')) →
    J [] W →
    CallsIn F n P g (#[.func (.yield l) #[] #[]] ++ lb) W fun e W' => (∃ v, e = .returned v) ∧ (J L W' ∨ ∃ pre, pre <+: L ∧ Jx pre W')
/-- How a body may be left. -/
def postQ {α : Type} (D b : Nat) (S : TypeId → Bool) (I : List α → World → Prop) (Ix : Code → List α → World → Prop) (xs : List α) (W : World) : Exit → Act → World → Prop
  | .normal, _, W' => Keep b D S W W' ∧ I xs W'
  | .ret, _, W' => Keep b D S W W' ∧ Ix .ret xs W'
  | .exit id, _, W' => Keep b D S W W' ∧ Ix (.exit id) xs W'
  | .goto t, _, W' => Keep b D S W W' ∧ Ix (.goto t) xs W'
  | .panic _, _, _ => False
  | .outgrown, _, _ => False

/-- The record of a loop that is under way. -/
def recOf (fn : FuncId) (a : Act) (ps : Array Tmp) (assign body : Code) (D : Nat) (st : LoopState) (pe : Option Code) : Loop :=
  { state := st, pending := pe, fn, tmps := a.tmps, params := ps, assign, body, defers := D }
/-- The two blocks of a loop: its record at D + 1, the rounds' deferred calls at D. -/
def Ready (fn : FuncId) (a : Act) (ps : Array Tmp) (assign body : Code) (D : Nat) (W : World) : Prop :=
  W.heap[D + 1]? = some (.loop (recOf fn a ps assign body D .ready none)) ∧ W.heap[D]? = some (.deferred (some []))
/-- The record, busy; as it is left. -/
theorem ready_busy {fn : FuncId} {a : Act} {ps : Array Tmp} {assign body : Code} {D b : Nat} {S : TypeId → Bool} {W W3 : World} (hR : Ready fn a ps assign body D W)
    (hk : Keep b D S (W.putObj (D + 1) (.loop (recOf fn a ps assign body D .busy none))) W3) (jump : Option Code) :
    (Instr.endRound (D + 1) jump).run P W3 = .ok (.bool jump.isNone) (W3.putObj (D + 1) (.loop (recOf fn a ps assign body D (if jump.isNone then .ready else .done) jump))) ∧
      W3.heap[D + 1]? = some (.loop (recOf fn a ps assign body D .busy none)) ∧
      (W3.putObj (D + 1) (.loop (recOf fn a ps assign body D (if jump.isNone then .ready else .done) jump))).heap[D + 1]? = some (.loop (recOf fn a ps assign body D (if jump.isNone then .ready else .done) jump)) ∧
      (W3.putObj (D + 1) (.loop (recOf fn a ps assign body D (if jump.isNone then .ready else .done) jump))).heap[D]? = some (.deferred (some [])) := by
  have hlt : D + 1 < W.heap.size := (Array.getElem?_eq_some_iff.1 hR.1).1
  have hb : (W.putObj (D + 1) (.loop (recOf fn a ps assign body D .busy none))).heap[D + 1]? = some (.loop (recOf fn a ps assign body D .busy none)) := World.putObj_heap_same hlt
  have hd : (W.putObj (D + 1) (.loop (recOf fn a ps assign body D .busy none))).heap[D]? = some (.deferred (some [])) := (World.putObj_heap_other (by omega)).trans hR.2
  have hb3 := hk.walk (D + 1) _ (by omega) rfl hb
  have hd3 := hk.walk D _ (Nat.le_refl _) rfl hd
  exact ⟨run_endRound (P := P) jump hb3, hb3, World.putObj_heap_same (Array.getElem?_eq_some_iff.1 hb3).1, (World.putObj_heap_other (by omega)).trans hd3⟩
/-- One round: what is assigned, then the body; how it may be left. -/
theorem yield_round {α : Type} {fn : FuncId} {a : Act} {ps : Array Tmp} {assign body : Code} {D b : Nat} {S : TypeId → Bool} {encs : α → Array Value} (hfn : F.fn fn) (hps : ∀ x, (encs x).size = ps.size) (hbD : b ≤ D)
    {I : List α → World → Prop} {Ix : Code → List α → World → Prop} (hI : Firm D S I) (hIx : ∀ c, Firm D S (Ix c)) {Ax : Act → World → Prop} (hAx : ∀ a', Firm D S (fun (_ : Unit) W => Ax a' W)) {pre : List α} {x : α} {W : World}
    (hR : Ready fn a ps assign body D W)
    (hassign : ∀ K : Act → World → Prop, (∀ a' W', Keep b D S W W' → I pre W' → Ax a' W' → K a' W') →
      assign.wpIn (F.inRound (D + 1)) n P (Exit.then K (fun _ _ _ => False)) { tmps := (ps.zip (encs x)).foldl (fun t (p, v) => t.setIfInBounds p v) a.tmps, defers := [] } W)
    (hbody : ∀ a' W', I pre W' → Ax a' W' → body.wpIn (F.inRound (D + 1)) n P (postQ D b S I Ix (pre ++ [x]) W') a' W') :
    YieldAt F n P (D + 1) (encs x) W fun e W' => (e = .returned (.bool true) ∧ (I (pre ++ [x]) W' ∧ Ready fn a ps assign body D W') ∧ Keep b (D + 2) S W W') ∨
      (e = .returned (.bool false) ∧ (∃ c, Ix c (pre ++ [x]) W' ∧ W'.heap[D + 1]? = some (.loop (recOf fn a ps assign body D .done (some c))) ∧ W'.heap[D]? = some (.deferred (some []))) ∧ Keep b (D + 2) S W W') := by
  refine ⟨fn, _, assign, body, run_yield (P := P) hR.1 (hps x), roundIn_of_wpIn hfn (hassign _ ?_)⟩
  intro a1 W1 hk1 hi1 hax1
  have hR1 : Ready fn a ps assign body D W1 := ⟨hk1.walk (D + 1) _ (by omega) rfl hR.1, hk1.walk D _ (Nat.le_refl _) rfl hR.2⟩
  refine ⟨_, run_beginRound hR1.1 rfl, ?_⟩
  refine wpIn_mono (hbody a1 _ (hI _ _ _ hi1 (Step.put hR1.1 rfl (by omega))) (hAx a1 () _ _ hax1 (Step.put hR1.1 rfl (by omega)))) ?_
  have hp2 : Keep b (D + 2) S W (W1.putObj (D + 1) (.loop (recOf fn a ps assign body D .busy none))) := (hk1.mono (Nat.le_refl _) (by omega)).trans (Keep.put hR1.1 rfl (by omega) (by omega))
  rintro e a3 W3 hp
  cases e with
  | normal =>
    obtain ⟨hk3, hi3⟩ := hp
    obtain ⟨hr, hb3, hl4, hd4⟩ := ready_busy (P := P) hR1 hk3 none
    exact ⟨_, _, hr, .inl ⟨rfl, ⟨hI _ _ _ hi3 (Step.put hb3 rfl (by omega)), hl4, hd4⟩, (hp2.trans (hk3.mono (Nat.le_refl _) (by omega))).trans (Keep.put hb3 rfl (by omega) (by omega))⟩⟩
  | ret =>
    obtain ⟨hk3, hi3⟩ := hp
    obtain ⟨hr, hb3, hl4, hd4⟩ := ready_busy (P := P) hR1 hk3 (some .ret)
    exact ⟨_, _, hr, .inr ⟨rfl, ⟨.ret, hIx _ _ _ _ hi3 (Step.put hb3 rfl (by omega)), hl4, hd4⟩, (hp2.trans (hk3.mono (Nat.le_refl _) (by omega))).trans (Keep.put hb3 rfl (by omega) (by omega))⟩⟩
  | exit id =>
    obtain ⟨hk3, hi3⟩ := hp
    obtain ⟨hr, hb3, hl4, hd4⟩ := ready_busy (P := P) hR1 hk3 (some (.exit id))
    exact ⟨_, _, hr, .inr ⟨rfl, ⟨.exit id, hIx _ _ _ _ hi3 (Step.put hb3 rfl (by omega)), hl4, hd4⟩, (hp2.trans (hk3.mono (Nat.le_refl _) (by omega))).trans (Keep.put hb3 rfl (by omega) (by omega))⟩⟩
  | goto t =>
    obtain ⟨hk3, hi3⟩ := hp
    obtain ⟨hr, hb3, hl4, hd4⟩ := ready_busy (P := P) hR1 hk3 (some (.goto t))
    exact ⟨_, _, hr, .inr ⟨rfl, ⟨.goto t, hIx _ _ _ _ hi3 (Step.put hb3 rfl (by omega)), hl4, hd4⟩, (hp2.trans (hk3.mono (Nat.le_refl _) (by omega))).trans (Keep.put hb3 rfl (by omega) (by omega))⟩⟩
  | panic ch => exact hp.elim
  | outgrown => exact hp.elim
/-- THE LOOP, in no round. -/
theorem wpIn_range_Q {α : Type} {g : Operand} {ps : Array Tmp} {assign body : Code} {Q : Exit → Act → World → Prop} {a : Act} {w : World}
    (hro : F.round = none) (h1 : 1 ≤ n) {gf : Nat} {lb : Array Value} (hg : a.eval g = .func (.func gf) #[] lb) (hFg : F.fn gf) (eg : ∀ args w, (callFunc gf args).run P w = .ok (.enter gf args) w)
    {encs : α → Array Value} {b : Nat} {S : TypeId → Bool} {L : List α} {w0 : World} (hseq : SeqQ F (n - 1) P gf lb encs b S L w0) (hbw : b ≤ w0.heap.size)
    (hb0 : Below w0.heap.size w0 w) (hps : ∀ x, (encs x).size = ps.size)
    (I : List α → World → Prop) (Ix : Code → List α → World → Prop) (hI : Firm w.heap.size S I) (hIx : ∀ c, Firm w.heap.size S (Ix c)) (h0 : I [] w)
    (Ax : List α → α → Act → World → Prop) (hAx : ∀ pre x a', Firm w.heap.size S (fun (_ : Unit) W => Ax pre x a' W))
    (hassign : ∀ (l : Nat) (pre : List α) (x : α) (W : World) (K : Act → World → Prop), pre ++ [x] <+: L → I pre W → (∀ a' W', Keep b w.heap.size S W W' → I pre W' → Ax pre x a' W' → K a' W') →
      assign.wpIn (F.inRound l) (n - 1 - 1) P (Exit.then K (fun _ _ _ => False)) { tmps := (ps.zip (encs x)).foldl (fun t (p, v) => t.setIfInBounds p v) a.tmps, defers := [] } W)
    (hbody : ∀ (l : Nat) (pre : List α) (x : α) (a' : Act) (W : World), pre ++ [x] <+: L → I pre W → Ax pre x a' W → body.wpIn (F.inRound l) (n - 1 - 1) P (postQ w.heap.size b S I Ix (pre ++ [x]) W) a' W)
    (hdone : ∀ (D : Nat) (W : World), w.heap.size ≤ D → I L W → W.heap[D]? = some (.deferred (some [])) → Q .normal { a with defers := { target := .collected D, args := #[] } :: a.defers } W)
    (hstop : ∀ (D : Nat) (c : Code) (pre : List α) (W : World), w.heap.size ≤ D → pre <+: L → Ix c pre W → W.heap[D]? = some (.deferred (some [])) → c.wpIn F n P Q { a with defers := { target := .collected D, args := #[] } :: a.defers } W) :
    (Code.rangeFunc g ps assign body).wpIn F n P Q a w := by
  refine wpIn_rangeFunc fun fn hfn => ?_
  rw [hro]
  obtain ⟨D, hD⟩ : ∃ D, D = w.heap.size := ⟨_, rfl⟩
  obtain ⟨W1, hW1⟩ : ∃ W1, (w.alloc (.deferred (some []))).alloc (.loop (recOf fn a ps assign body D .ready none)) = W1 := ⟨_, rfl⟩
  have hsz : W1.heap.size = D + 2 := by rw [← hW1, hD]; simp
  have hR1 : Ready fn a ps assign body D W1 := by
    rw [← hW1, hD]
    refine ⟨?_, (Below.heap_alloc _ _ _ (by simp)).trans (World.alloc_heap_new w _)⟩
    have := World.alloc_heap_new (w.alloc (.deferred (some []))) (.loop (recOf fn a ps assign body w.heap.size .ready none))
    rwa [World.size_alloc] at this
  have hb1 : Below w0.heap.size w0 W1 := by
    rw [← hW1]
    exact (hb0.alloc hb0.size _).alloc (by have := hb0.size; simp; omega) _
  have hI1 : I [] W1 := by rw [← hW1]; exact hI _ _ _ (hI _ _ _ h0 (Step.alloc _ _)) (Step.alloc _ _)
  have hbD : b ≤ D := by have := hb0.size; omega
  rw [← hD] at hI hIx hAx hassign hbody
  refine ⟨D + 1, [{ target := .collected D, args := #[] }], W1, { target := .fn (.func gf) lb, args := #[.func (.yield (D + 1)) #[] #[]] }, W1, gf, #[.func (.yield (D + 1)) #[] #[]] ++ lb, W1, ?_, ?_, ?_, ?_, fun _ => h1, ?_⟩
  · rw [← hW1, hD]; exact run_enterLoop_outer _ _ _ _ _
  · simp only [resolve, hg]
    simp [go_sem]
  · intro f' hf'; simp [Target.leads] at hf'; subst hf'; exact hFg
  · simp [invoke, go_sem, eg]
  refine (hseq (D + 1) (fun pre W => I pre W ∧ Ready fn a ps assign body D W)
    (fun pre W => ∃ c, Ix c pre W ∧ W.heap[D + 1]? = some (.loop (recOf fn a ps assign body D .done (some c))) ∧ W.heap[D]? = some (.deferred (some []))) W1 hb1 ?_ ?_ ?_ ⟨hI1, hR1⟩).mono ?_
  · intro s A B hs hst
    exact ⟨hI s A B hs.1 (hst.mono (by omega)), hst.low _ _ (by omega) hs.2.1, hst.low _ _ (by omega) hs.2.2⟩
  · rintro s A B ⟨c, hc, hl, hd⟩ hst
    exact ⟨c, hIx c s A B hc (hst.mono (by omega)), hst.low _ _ (by omega) hl, hst.low _ _ (by omega) hd⟩
  · rintro pre x W hpx ⟨hi, hrd⟩
    rw [hsz]
    exact yield_round (b := b) hfn hps hbD hI hIx (hAx pre x) hrd (fun K hK => hassign _ pre x W K hpx hi hK) (fun a' W' h2 h3 => hbody _ pre x a' W' hpx h2 h3)
  · rintro e W2 ⟨⟨v, rfl⟩, (⟨hi, hl, hd⟩ | ⟨pre, hSp, c, hi, hl, hd⟩)⟩
    · exact ⟨none, _, run_endLoop (P := P) hl (by simp [recOf]), hdone _ _ (by omega) (hI _ _ _ hi (Step.put hl rfl (by omega))) ((World.putObj_heap_other (by omega)).trans hd)⟩
    · exact ⟨some c, _, run_endLoop (P := P) hl (by simp [recOf]), hstop _ c pre _ (by omega) hSp (hIx c _ _ _ hi (Step.put hl rfl (by omega))) ((World.putObj_heap_other (by omega)).trans hd)⟩
end Go.Proofs.YtkkeodlnejckjaaGreat

/- A slice in a variable's box, appended to: what stays. No condition. -/
namespace Go.Proofs.YtkkeodlnejckjaaGreat
open Go.RowKit
set_option linter.unusedVariables false
set_option linter.unusedSimpArgs false

section
variable {α : Type} {enc : α → List Value} {sz : Nat} {P : Program}
/-- What lies in cells of its own stays where a block that is no cells turns. -/
theorem ownsRow_from {W W' : World} {row : Option Nat} {b s k : Nat} {e : TypeId} {v : Value} {xs : List Value} (h : W.ownsRow b e s v k xs) (hg : W.grownBy W' row) (hr : ∀ r, row = some r → ∃ o : Obj, W.heap[r]? = some o ∧ o.isCells = false) : W'.ownsRow b e s v k xs := by
  refine h.kept hg ?_
  rcases h.2 with ⟨rfl, _⟩ | ⟨g, cap, cur, rfl, _, hgb, _⟩
  · exact .inl rfl
  · right
    intro e'
    obtain ⟨o, ho, hc⟩ := hr g (by simpa [Value.ownBlock] using e'.symm)
    rw [hgb] at ho
    cases ho
    cases hc
theorem Boxed.from' {W W' : World} {row : Option Nat} {B : Nat} {t : TypeId} {v : Value} (h : Boxed W B t v) (hg : W.grownBy W' row) (hr : ∀ r, row = some r → ∃ o : Obj, W.heap[r]? = some o ∧ o.isCells = false) : Boxed W' B t v :=
  h.kept hg fun e => by
    obtain ⟨o, ho, hc⟩ := hr B e.symm
    rw [show W.heap[B]? = _ from h] at ho
    cases ho
    cases hc
theorem Boxed.eq {W : World} {B : Nat} {t t' : TypeId} {v v' : Value} (h : Boxed W B t v) (h' : Boxed W B t' v') : v = v' := by
  have := (show W.heap[B]? = _ from h).symm.trans h'
  simp at this
  exact this.1
/-- What comes of 'v = append(v, x)', to one who goes through a sequence: W the world ahead of it, w1 behind the new row of one, w2 behind the append, the store last. -/
structure CollStep (W w2 : World) (n₀ B : Nat) (t e : TypeId) (sz : Nat) (v v1 : Value) (k : Nat) (ys : List Value) : Prop where
  box : Boxed w2 B t v
  out : Boxed (w2.setCell ⟨B, 0, none⟩ v1) B t v1
  row : (w2.setCell ⟨B, 0, none⟩ v1).ownsRow n₀ e sz v1 (k + 1) ys
  ks : KeepsOthers W (w2.setCell ⟨B, 0, none⟩ v1)
  bl : Below n₀ W (w2.setCell ⟨B, 0, none⟩ v1)
  sh : ∃ g c, v1 = .slice (some ⟨g, 0, none⟩) (k + 1) c
  keep : ∀ (j : Nat) (o : Obj), W.heap[j]? = some o → some j ≠ v.ownBlock → j ≠ B → (w2.setCell ⟨B, 0, none⟩ v1).heap[j]? = some o
  at_ : v1.ownBlock = v.ownBlock ∨ ∃ j, v1.ownBlock = some j ∧ W.heap.size < j
theorem collStep {W : World} {n₀ B : Nat} (t e : TypeId) (z : Value) (by_ : Nat) (ht : P.underlying t = some (.slice e)) (hinfo : (P.info? e).map (fun i => (i.zero, i.size, i.bytes)) = some (some z, sz, by_))
    (hz : z.cells.size = sz) (hs0 : 0 < sz) (hb0 : 0 < by_) (hsz : ∀ x, (enc x).length = sz) (h1 : ∀ x, ∀ u ∈ enc x, u.oneCell' = true) (hte : t ≠ e) {v : Value} {pre : List α} {x : α}
    (hv : Boxed W B t v) (hrow : W.ownsRow n₀ e sz v pre.length (pre.flatMap enc)) (hn : n₀ ≤ W.heap.size) (hB : n₀ ≤ B) (hl : (pre.length + 1) * by_ ≤ 140737488355328) (ty : TypeId) (C : Array Value) (hC : C = (enc x).toArray) :
    ∃ v1 w2, (Builtin.append_ #[t, t] ty #[v, .slice (some ⟨W.heap.size, 0, none⟩) 1 1]).run P (W.alloc (.cells C e)) = .ok v1 w2 ∧ CollStep W w2 n₀ B t e sz v v1 pre.length ((pre ++ [x]).flatMap enc) := by
  have hbl : (W.alloc (.cells C e)).ownsRow n₀ e sz v pre.length (pre.flatMap enc) := hrow.alloc _
  have hrd := RdK.one (enc := enc) (sz := sz) W e x C (0, 0) hC (hsz x)
  obtain ⟨v1, w2, r1, o1, g1, at1⟩ := run_append_rdK (P := P) (c := 1) n₀ t ty e z by_ ht hinfo hz hs0 hb0 hsz h1 (show OwnK enc sz e _ n₀ v pre from hbl) hrd hl (by simp; omega)
  have o2 : w2.ownsRow n₀ e sz v1 (pre.length + 1) ((pre ++ [x]).flatMap enc) := by
    have := o1
    unfold OwnK at this
    simpa using this
  obtain ⟨b1, b2, b3, b4, b5⟩ := Boxed.appended hv hte hrow hn hB o2 g1
  refine ⟨v1, w2, r1, b1, b2, b3, b4, b5, ownsRow_succ o2, fun j o hj h2 h3 => ?_, ?_⟩
  · have hlt := (Array.getElem?_eq_some_iff.1 hj).1
    have e1 := ((World.grownBy_alloc W (.cells C e) none).block j hlt (by simp)).trans hj
    have e2 := (g1.block j (by simp; omega) h2).trans e1
    exact ((grownBy_setCell' w2 B v1).block j (Array.getElem?_eq_some_iff.1 e2).1 (fun e => h3 (by injection e))).trans e2
  · rcases at1 with h | h
    · exact .inl h
    · right
      -- a new block lies behind the row of one
      exact ⟨_, h, by simp⟩
variable {W w2 : World} {n₀ B : Nat} {t e : TypeId} {v v1 : Value} {k : Nat} {ys : List Value}
theorem CollStep.boxed (h : CollStep W w2 n₀ B t e sz v v1 k ys) {b s k' : Nat} {xs : List Value} (hrow : W.ownsRow b e s v k' xs) {B' : Nat} {t' : TypeId} {u : Value} (hu : Boxed W B' t' u) (hne : B' ≠ B) (hte : t' ≠ e) : Boxed (w2.setCell ⟨B, 0, none⟩ v1) B' t' u :=
  h.keep _ _ hu (hu.not_row hte hrow) hne
theorem CollStep.rows (h : CollStep W w2 n₀ B t e sz v v1 k ys) (hv : Boxed W B t v) {b s k' : Nat} {xs : List Value} (hrow : W.ownsRow b e s v k' xs) {b' s' k2 : Nat} {e' : TypeId} {u : Value} {zs : List Value}
    (hu : W.ownsRow b' e' s' u k2 zs) (h1 : e' ≠ e) (h2 : t ≠ e') : (w2.setCell ⟨B, 0, none⟩ v1).ownsRow b' e' s' u k2 zs := by
  rcases hu.2 with ⟨rfl, h0⟩ | ⟨g, cap, cur, rfl, hb, hh, hn, hc, hs, ht⟩
  · exact ⟨hu.1, .inl ⟨rfl, h0⟩⟩
  · refine ⟨hu.1, .inr ⟨g, cap, cur, rfl, hb, h.keep g _ hh ?_ ?_, hn, hc, hs, ht⟩⟩
    · rcases rows_apart hu hrow h1 with h3 | h3
      · simp [Value.ownBlock] at h3
      · simpa [Value.ownBlock] using h3
    · have := hv.not_row h2 hu
      intro e1
      exact this (by simp [Value.ownBlock, e1])
/-- .. to one who goes through a sequence. -/
theorem CollStep.keepQ (h : CollStep W w2 n₀ B t e sz v v1 k ys) (hv : Boxed W B t v) {b' s' k' : Nat} {xs : List Value} (hrow : W.ownsRow b' e s' v k' xs) {b D : Nat} {S : TypeId → Bool} (hb : b ≤ b') (hB : b ≤ B) (hSt : S t = true) (hSe : S e = true) (hbn : b ≤ n₀) (hn : n₀ ≤ W.heap.size) :
    Keep b D S W (w2.setCell ⟨B, 0, none⟩ v1) := by
  have own : ∀ k, v.ownBlock = some k → b' ≤ k ∧ ∃ C fr, W.heap[k]? = some (.cells C e fr) := by
    intro k hk
    rcases hrow.2 with ⟨rfl, _⟩ | ⟨g, cap, cur, rfl, hg, hh, _⟩
    · simp [Value.ownBlock] at hk
    · simp only [Value.ownBlock, Option.some.injEq] at hk
      subst hk
      exact ⟨hg, _, _, hh⟩
  refine ⟨h.bl.os, h.bl.tape, h.bl.output, h.bl.size, fun k o hk ho => h.keep k o ho ?_ ?_, fun k C t' fr ht ho => h.keep k _ ho ?_ ?_, fun k o _ hw ho => h.ks.same k o ho hw⟩
  · intro e1
    have := (own k e1.symm).1
    omega
  · omega
  · intro e1
    obtain ⟨_, C', fr', hc⟩ := own k e1.symm
    rw [ho] at hc
    cases hc
    rw [hSe] at ht
    cases ht
  · intro e1
    subst e1
    rw [show W.heap[k]? = _ from hv] at ho
    cases ho
    rw [hSt] at ht
    cases ht
theorem ownsRow_step {D : Nat} {S : TypeId → Bool} {W W' : World} {b s k : Nat} {e : TypeId} {v : Value} {xs : List Value} (h : W.ownsRow b e s v k xs) (hst : Step D S W W') (hS : S e = true) : W'.ownsRow b e s v k xs := by
  rcases h.2 with ⟨rfl, h0⟩ | ⟨g, cap, cur, rfl, hb, hh, rest⟩
  · exact ⟨h.1, .inl ⟨rfl, h0⟩⟩
  · exact ⟨h.1, .inr ⟨g, cap, cur, rfl, hb, hst.own _ _ _ _ hS hh, rest⟩⟩
theorem Boxed.step {D : Nat} {S : TypeId → Bool} {W W' : World} {B : Nat} {t : TypeId} {v : Value} (h : Boxed W B t v) (hst : Step D S W W') (hS : S t = true) : Boxed W' B t v := hst.own _ _ _ _ hS h
theorem Boxed.low {D : Nat} {S : TypeId → Bool} {W W' : World} {B : Nat} {t : TypeId} {v : Value} (h : Boxed W B t v) (hst : Step D S W W') (hB : B < D) : Boxed W' B t v := hst.low _ _ hB h
end
end Go.Proofs.YtkkeodlnejckjaaGreat
