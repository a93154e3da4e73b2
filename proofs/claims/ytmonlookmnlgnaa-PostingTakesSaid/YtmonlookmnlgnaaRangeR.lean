/- A range over a function whose elements lie in memory: at each yield the iterator says what it knows of the element there. No condition. -/
import Derived.RangeFuncNested
import Derived.RangeFuncWrites
import Derived.RangeFuncBound
import Derived.RangeFuncLeaves
import Derived.RangeFuncBox
namespace Go.Proofs.Ytmonlookmnlgnaa
open Go.RowKit
set_option linter.unusedVariables false
variable {F : Fence} {n : Nat} {P : Program}

/-- Cells lie as they lay. -/
def Later (W0 W : World) : Prop := W0.heap.size ≤ W.heap.size ∧ ∀ (k : Nat) (o : Obj), W0.heap[k]? = some o → o.isCells = true → W.heap[k]? = some o
theorem Later.refl (W : World) : Later W W := ⟨Nat.le_refl _, fun _ _ h _ => h⟩
theorem Later.trans {A B C : World} (h : Later A B) (k : Later B C) : Later A C := ⟨Nat.le_trans h.1 k.1, fun i o hi ho => k.2 i o (h.2 i o hi ho) ho⟩
theorem Later.below {A B : World} (h : Below A.heap.size A B) : Later A B := ⟨h.size, fun i o hi _ => (h.block i (Array.getElem?_eq_some_iff.1 hi).1).trans hi⟩
theorem Later.put {W : World} {l : Nat} {o o' : Obj} (h : W.heap[l]? = some o) (ho : o.isCells = false) : Later W (W.putObj l o') := by
  refine ⟨(grownBy_putObj' W l o').size, fun k q hk hq => ?_⟩
  refine ((grownBy_putObj' W l o').block k (Array.getElem?_eq_some_iff.1 hk).1 ?_).trans hk
  intro e
  cases e
  rw [hk] at h
  cases h
  rw [ho] at hq
  cases hq
/-- Cells from a block on lie as they lay. -/
def Mid (B : Nat) (W W' : World) : Prop := ∀ (k : Nat) (o : Obj), B ≤ k → W.heap[k]? = some o → o.isCells = true → W'.heap[k]? = some o
theorem Mid.refl (B : Nat) (W : World) : Mid B W W := fun _ _ _ h _ => h
theorem Mid.trans {B : Nat} {X Y Z : World} (h : Mid B X Y) (k : Mid B Y Z) : Mid B X Z := fun i o hb hi ho => k i o hb (h i o hb hi ho) ho
theorem Later.mid {W W' : World} (h : Later W W') (B : Nat) : Mid B W W' := fun i o _ hi ho => h.2 i o hi ho
theorem Mid.grown {B : Nat} {W W' : World} {row : Option Nat} (hg : W.grownBy W' row) (hrow : ∀ k, row = some k → k < B) : Mid B W W' := fun k o hb hk _ => by
  refine (hg.block k (Array.getElem?_eq_some_iff.1 hk).1 ?_).trans hk
  intro e
  have := hrow k e.symm
  omega
/-- What an iterator gives: R says of an element what is so when it is told; W0 is the world in which the round began: what the iterator has laid since then the body leaves. -/
def SeqR {α : Type} (F : Fence) (n : Nat) (P : Program) (g : Nat) (lb : Array Value) (encs : α → Array Value) (Kp : World → World → Prop) (R : Nat → List α → α → World → Prop) (S Sp : List α → Prop) (w : World) : Prop :=
  ∀ (l : Nat) (J Jx : List α → World → Prop) (W : World), Below w.heap.size w W → AbidesFrom W.heap.size J → AbidesFrom W.heap.size Jx →
    (∀ pre x W0 W1, J pre W0 → Later W0 W1 → J pre W1 → R W0.heap.size pre x W1 → YieldAt F (n - 1) P l (encs x) W1 fun e W' =>
      (e = .returned (.bool true) ∧ J (pre ++ [x]) W' ∧ Kp W1 W' ∧ Mid W0.heap.size W1 W') ∨ (e = .returned (.bool false) ∧ Jx (pre ++ [x]) W')) →
    J [] W →
    CallsIn F n P g (#[.func (.yield l) #[] #[]] ++ lb) W fun e W' => (∃ v, e = .returned v) ∧ ((∃ xs, S xs ∧ J xs W') ∨ (∃ pre, Sp pre ∧ Jx pre W'))
/-- How a body may be left. -/
def postR {α : Type} (D B : Nat) (Kp : World → World → Prop) (I : List α → World → Prop) (Ix : Code → List α → World → Prop) (xs : List α) (W : World) : Exit → Act → World → Prop
  | .normal, _, W' => KeepsFrom D W W' ∧ Kp W W' ∧ Mid B W W' ∧ I xs W'
  | .ret, _, W' => KeepsFrom D W W' ∧ Ix .ret xs W'
  | .exit id, _, W' => KeepsFrom D W W' ∧ Ix (.exit id) xs W'
  | .goto t, _, W' => KeepsFrom D W W' ∧ Ix (.goto t) xs W'
  | .panic _, _, _ => False
  | .outgrown, _, _ => False

/-- The record of a loop that is under way. -/
def recOf (fn : FuncId) (a : Act) (ps : Array Tmp) (assign body : Code) (D : Nat) (st : LoopState) (pe : Option Code) : Loop :=
  { state := st, pending := pe, fn, tmps := a.tmps, params := ps, assign, body, defers := D }
/-- The two blocks of a loop: its record at D + 1, the rounds' deferred calls at D. -/
def Ready (fn : FuncId) (a : Act) (ps : Array Tmp) (assign body : Code) (D : Nat) (W : World) : Prop :=
  W.heap[D + 1]? = some (.loop (recOf fn a ps assign body D .ready none)) ∧ W.heap[D]? = some (.deferred (some []))
theorem keeps_block {A B : World} {row : Option Nat} (hg : A.grownBy B row) (hr : ∀ r, row = some r → ∃ o : Obj, A.heap[r]? = some o ∧ o.isWalk = true) {k : Nat} {o : Obj} (h : A.heap[k]? = some o) (ho : o.isWalk = false) : B.heap[k]? = some o := by
  refine (hg.block k (Array.getElem?_eq_some_iff.1 h).1 ?_).trans h
  intro e
  obtain ⟨o', h', hw⟩ := hr k e.symm
  rw [h] at h'
  cases h'
  rw [ho] at hw
  cases hw
/-- The record, busy; as it is left. -/
theorem ready_busy {fn : FuncId} {a : Act} {ps : Array Tmp} {assign body : Code} {D : Nat} {W W3 : World} (hR : Ready fn a ps assign body D W)
    (hk : KeepsFrom D (W.putObj (D + 1) (.loop (recOf fn a ps assign body D .busy none))) W3) (jump : Option Code) :
    (Instr.endRound (D + 1) jump).run P W3 = .ok (.bool jump.isNone) (W3.putObj (D + 1) (.loop (recOf fn a ps assign body D (if jump.isNone then .ready else .done) jump))) ∧
      W3.heap[D + 1]? = some (.loop (recOf fn a ps assign body D .busy none)) ∧
      (W3.putObj (D + 1) (.loop (recOf fn a ps assign body D (if jump.isNone then .ready else .done) jump))).heap[D + 1]? = some (.loop (recOf fn a ps assign body D (if jump.isNone then .ready else .done) jump)) ∧
      (W3.putObj (D + 1) (.loop (recOf fn a ps assign body D (if jump.isNone then .ready else .done) jump))).heap[D]? = some (.deferred (some [])) := by
  have hlt : D + 1 < W.heap.size := (Array.getElem?_eq_some_iff.1 hR.1).1
  have hb : (W.putObj (D + 1) (.loop (recOf fn a ps assign body D .busy none))).heap[D + 1]? = some (.loop (recOf fn a ps assign body D .busy none)) := World.putObj_heap_same hlt
  have hd : (W.putObj (D + 1) (.loop (recOf fn a ps assign body D .busy none))).heap[D]? = some (.deferred (some [])) := (World.putObj_heap_other (by omega)).trans hR.2
  have hb3 := hk.same (D + 1) _ (by omega) hb rfl
  have hd3 := hk.same D _ (Nat.le_refl _) hd rfl
  exact ⟨run_endRound (P := P) jump hb3, hb3, World.putObj_heap_same (Array.getElem?_eq_some_iff.1 hb3).1, (World.putObj_heap_other (by omega)).trans hd3⟩
/-- One round: what is assigned, then the body; how it may be left. -/
theorem yield_round {α : Type} {fn : FuncId} {a : Act} {ps : Array Tmp} {assign body : Code} {D : Nat} {encs : α → Array Value} (hfn : F.fn fn) (hps : ∀ x, (encs x).size = ps.size) {Kp : World → World → Prop}
    (hKt : ∀ {A B C : World}, Kp A B → Kp B C → Kp A C) (hKb : ∀ (W : World) (l : Nat) (o o' : Obj), D ≤ l → W.heap[l]? = some o → o.isCells = false → o.isWalk = false → Kp W (W.putObj l o'))
    {I : List α → World → Prop} {Ix : Code → List α → World → Prop} (hI : OwnFrom D I) (hIx : ∀ c, OwnFrom D (Ix c)) {Ax : Act → World → Prop} (hAx : ∀ a', OwnFrom D (fun (_ : Unit) W => Ax a' W)) {pre : List α} {x : α} {W : World}
    (hR : Ready fn a ps assign body D W) {B : Nat} {Mut : World → Prop} (hM : Mut W) (hML : ∀ W W', Mut W → Later W W' → Mut W')
    (hassign : ∀ K : Act → World → Prop, (∀ a' W', KeepsFrom D W W' → Kp W W' → Later W W' → I pre W' → Ax a' W' → K a' W') →
      assign.wpIn (F.inRound (D + 1)) n P (Exit.then K (fun _ _ _ => False)) { tmps := (ps.zip (encs x)).foldl (fun t (p, v) => t.setIfInBounds p v) a.tmps, defers := [] } W)
    (hbody : ∀ a' W', I pre W' → Ax a' W' → Mut W' → body.wpIn (F.inRound (D + 1)) n P (postR D B Kp I Ix (pre ++ [x]) W') a' W') :
    YieldAt F n P (D + 1) (encs x) W fun e W' => (e = .returned (.bool true) ∧ (I (pre ++ [x]) W' ∧ Ready fn a ps assign body D W') ∧ Kp W W' ∧ Mid B W W') ∨
      (e = .returned (.bool false) ∧ ∃ c, Ix c (pre ++ [x]) W' ∧ W'.heap[D + 1]? = some (.loop (recOf fn a ps assign body D .done (some c))) ∧ W'.heap[D]? = some (.deferred (some []))) := by
  refine ⟨fn, _, assign, body, run_yield (P := P) hR.1 (hps x), roundIn_of_wpIn hfn (hassign _ ?_)⟩
  intro a1 W1 hk1 hp1 hlt1 hi1 hax1
  have hR1 : Ready fn a ps assign body D W1 := ⟨hk1.same (D + 1) _ (by omega) hR.1 rfl, hk1.same D _ (Nat.le_refl _) hR.2 rfl⟩
  refine ⟨_, run_beginRound hR1.1 rfl, ?_⟩
  refine wpIn_mono (hbody a1 _ (hI.putObj _ hi1 (by omega) hR1.1 rfl) ((hAx a1).putObj (s := ()) _ hax1 (by omega) hR1.1 rfl) (hML _ _ hM (hlt1.trans (Later.put hR1.1 rfl)))) ?_
  have hp2 : Kp W (W1.putObj (D + 1) (.loop (recOf fn a ps assign body D .busy none))) := hKt hp1 (hKb _ _ _ _ (by omega) hR1.1 rfl rfl)
  rintro e a3 W3 hp
  cases e with
  | normal =>
    obtain ⟨hk3, hp3, hm3, hi3⟩ := hp
    obtain ⟨hr, hb3, hl4, hd4⟩ := ready_busy (P := P) hR1 hk3 none
    exact ⟨_, _, hr, .inl ⟨rfl, ⟨hI.putObj _ hi3 (by omega) hb3 rfl, hl4, hd4⟩, hKt (hKt hp2 hp3) (hKb _ _ _ _ (by omega) hb3 rfl rfl), (((hlt1.trans (Later.put hR1.1 rfl)).mid B).trans hm3).trans ((Later.put hb3 rfl).mid B)⟩⟩
  | ret =>
    obtain ⟨hk3, hi3⟩ := hp
    obtain ⟨hr, hb3, hl4, hd4⟩ := ready_busy (P := P) hR1 hk3 (some .ret)
    exact ⟨_, _, hr, .inr ⟨rfl, .ret, (hIx _).putObj _ hi3 (by omega) hb3 rfl, hl4, hd4⟩⟩
  | exit id =>
    obtain ⟨hk3, hi3⟩ := hp
    obtain ⟨hr, hb3, hl4, hd4⟩ := ready_busy (P := P) hR1 hk3 (some (.exit id))
    exact ⟨_, _, hr, .inr ⟨rfl, .exit id, (hIx _).putObj _ hi3 (by omega) hb3 rfl, hl4, hd4⟩⟩
  | goto t =>
    obtain ⟨hk3, hi3⟩ := hp
    obtain ⟨hr, hb3, hl4, hd4⟩ := ready_busy (P := P) hR1 hk3 (some (.goto t))
    exact ⟨_, _, hr, .inr ⟨rfl, .goto t, (hIx _).putObj _ hi3 (by omega) hb3 rfl, hl4, hd4⟩⟩
  | panic ch => exact hp.elim
  | outgrown => exact hp.elim
/-- THE LOOP, in no round. -/
theorem wpIn_range_R {α : Type} {g : Operand} {ps : Array Tmp} {assign body : Code} {Q : Exit → Act → World → Prop} {a : Act} {w : World}
    (hro : F.round = none) (h1 : 1 ≤ n) {gf : Nat} {lb : Array Value} (hg : a.eval g = .func (.func gf) #[] lb) (hFg : F.fn gf) (eg : ∀ args w, (callFunc gf args).run P w = .ok (.enter gf args) w)
    {encs : α → Array Value} {Kp : World → World → Prop} {R : Nat → List α → α → World → Prop} {S Sp : List α → Prop} {w0 : World} (hseq : SeqR F (n - 1) P gf lb encs Kp R S Sp w0)
    (hKt : ∀ {A B C : World}, Kp A B → Kp B C → Kp A C) (hKb : ∀ (W : World) (l : Nat) (o o' : Obj), w.heap.size ≤ l → W.heap[l]? = some o → o.isCells = false → o.isWalk = false → Kp W (W.putObj l o')) (hb0 : Below w0.heap.size w0 w) (hps : ∀ x, (encs x).size = ps.size)
    (I : List α → World → Prop) (Ix : Code → List α → World → Prop) (hI : OwnFrom w.heap.size I) (hIx : ∀ c, OwnFrom w.heap.size (Ix c)) (h0 : I [] w)
    (Mut : List α → Nat → World → Prop) (hM0 : ∀ pre W, I pre W → Mut pre W.heap.size W) (hML : ∀ pre B W W', Mut pre B W → Later W W' → Mut pre B W')
    (Ax : Nat → List α → α → Act → World → Prop) (hAx : ∀ B pre x a', OwnFrom w.heap.size (fun (_ : Unit) W => Ax B pre x a' W))
    (hassign : ∀ (l B : Nat) (pre : List α) (x : α) (W : World) (K : Act → World → Prop), I pre W → R B pre x W → (∀ a' W', KeepsFrom w.heap.size W W' → Kp W W' → Later W W' → I pre W' → Ax B pre x a' W' → K a' W') →
      assign.wpIn (F.inRound l) (n - 1 - 1) P (Exit.then K (fun _ _ _ => False)) { tmps := (ps.zip (encs x)).foldl (fun t (p, v) => t.setIfInBounds p v) a.tmps, defers := [] } W)
    (hbody : ∀ (l : Nat) (pre : List α) (x : α) (a' : Act) (W : World) (B : Nat), I pre W → Ax B pre x a' W → Mut pre B W → body.wpIn (F.inRound l) (n - 1 - 1) P (postR w.heap.size B Kp I Ix (pre ++ [x]) W) a' W)
    (hdone : ∀ (D : Nat) (xs : List α) (W : World), w.heap.size ≤ D → S xs → I xs W → W.heap[D]? = some (.deferred (some [])) → Q .normal { a with defers := { target := .collected D, args := #[] } :: a.defers } W)
    (hstop : ∀ (D : Nat) (c : Code) (pre : List α) (W : World), w.heap.size ≤ D → Sp pre → Ix c pre W → W.heap[D]? = some (.deferred (some [])) → c.wpIn F n P Q { a with defers := { target := .collected D, args := #[] } :: a.defers } W) :
    (Code.rangeFunc g ps assign body).wpIn F n P Q a w := by
  refine wpIn_rangeFunc fun fn hfn => ?_
  rw [hro]
  obtain ⟨D, hD⟩ : ∃ D, D = w.heap.size := ⟨_, rfl⟩
  obtain ⟨W1, hW1⟩ : ∃ W1, (w.alloc (.deferred (some []))).alloc (.loop (recOf fn a ps assign body D .ready none)) = W1 := ⟨_, rfl⟩
  have hsz : W1.heap.size = D + 2 := by rw [← hW1, hD]; simp
  have hR1 : Ready fn a ps assign body D W1 := by
    rw [← hW1, hD]
    refine ⟨?_, (Below.heap_alloc _ _ _ (by simp)).trans (World.alloc_heap_new w _)⟩
    have := World.alloc_heap_new (w.alloc (.deferred (some []))) (.loop (recOf fn a ps assign body w.heap.size .ready none))
    rwa [World.size_alloc] at this
  have hb1 : Below w0.heap.size w0 W1 := by
    rw [← hW1]
    exact (hb0.alloc hb0.size _).alloc (by have := hb0.size; simp; omega) _
  have hI1 : I [] W1 := by rw [← hW1]; exact hI.alloc _ (hI.alloc _ h0)
  rw [← hD] at hKb hI hIx hAx hassign hbody
  have hrow : ∀ {A : World} {row : Option Nat}, (∀ r, row = some r → W1.heap.size ≤ r ∧ ∃ o : Obj, A.heap[r]? = some o ∧ o.isWalk = true) → ∀ r, row = some r → D ≤ r ∧ ∃ o : Obj, A.heap[r]? = some o ∧ o.isCells = false :=
    fun hr r e => by obtain ⟨h2, o, ho, hw⟩ := hr r e; exact ⟨by omega, o, ho, Obj.not_cells_of_walk hw⟩
  refine ⟨D + 1, [{ target := .collected D, args := #[] }], W1, { target := .fn (.func gf) lb, args := #[.func (.yield (D + 1)) #[] #[]] }, W1, gf, #[.func (.yield (D + 1)) #[] #[]] ++ lb, W1, ?_, ?_, ?_, ?_, fun _ => h1, ?_⟩
  · rw [← hW1, hD]; exact run_enterLoop_outer _ _ _ _ _
  · simp only [resolve, hg]
    simp [go_sem]
  · intro f' hf'; simp [Target.leads] at hf'; subst hf'; exact hFg
  · simp [invoke, go_sem, eg]
  refine (hseq (D + 1) (fun pre W => I pre W ∧ Ready fn a ps assign body D W)
    (fun pre W => ∃ c, Ix c pre W ∧ W.heap[D + 1]? = some (.loop (recOf fn a ps assign body D .done (some c))) ∧ W.heap[D]? = some (.deferred (some []))) W1 hb1 ?_ ?_ ?_ ⟨hI1, hR1⟩).mono ?_
  · intro s A B row hs hg' hr
    exact ⟨hI s A B row hs.1 hg' (hrow hr), keeps_block hg' (fun r e => (hr r e).2) hs.2.1 rfl, keeps_block hg' (fun r e => (hr r e).2) hs.2.2 rfl⟩
  · rintro s A B row ⟨c, hc, hl, hd⟩ hg' hr
    exact ⟨c, hIx c s A B row hc hg' (hrow hr), keeps_block hg' (fun r e => (hr r e).2) hl rfl, keeps_block hg' (fun r e => (hr r e).2) hd rfl⟩
  · rintro pre x W0 W ⟨hi0, _⟩ hlt ⟨hi, hrd⟩ hr
    exact yield_round (Kp := Kp) (B := W0.heap.size) hfn hps (fun h k => hKt h k) hKb hI hIx (hAx W0.heap.size pre x) hrd (hML pre _ _ _ (hM0 pre W0 hi0) hlt) (fun X Y => hML pre _ X Y) (fun K hK => hassign _ _ pre x W K hi hr hK) (fun a' W' h2 h3 h4 => hbody _ pre x a' W' _ h2 h3 h4)
  · rintro e W2 ⟨⟨v, rfl⟩, (⟨xs, hS, hi, hl, hd⟩ | ⟨pre, hSp, c, hi, hl, hd⟩)⟩
    · exact ⟨none, _, run_endLoop (P := P) hl (by simp [recOf]), hdone _ xs _ (by omega) hS (hI.putObj _ hi (by omega) hl rfl) ((World.putObj_heap_other (by omega)).trans hd)⟩
    · exact ⟨some c, _, run_endLoop (P := P) hl (by simp [recOf]), hstop _ c pre _ (by omega) hSp ((hIx c).putObj _ hi (by omega) hl rfl) ((World.putObj_heap_other (by omega)).trans hd)⟩
end Go.Proofs.Ytmonlookmnlgnaa
