import Derived.Orders
import Derived.Below
import Derived.OrdersIn
import Derived.RangeFuncCalls
import Derived.TacticsIn

/- A region that leaves its order open, taken by what each operation leaves: whatever order its edges allow, each operation finds what it needs. No condition. -/
namespace Go.Proofs.YtkkeodlnejckjaaGreat
open Go.RowKit
variable {P : Program}

/-- What an operation does, said of what it yields. -/
def Does (P : Program) (o : Oper) (ρ : Operand → Value) (w : World) (R : Value → World → Prop) : Prop :=
  match (execOp ρ o).run P w with
  | .ok (.value v) w' => R v w'
  | .ok .skip w' => R undef w'
  | .ok (.enter f args) w' => Calls P f args w' fun e w'' => ∃ v, e = .returned v ∧ R v w''
  | _ => False

theorem Does.wp {o : Oper} {a : Act} {w : World} {R : Value → World → Prop} {K : Act → World → Prop} {Q : Exit → Act → World → Prop}
    (h : Does P o a.eval w R) (k : ∀ v w', R v w' → K (a.put o.dst v) w') : o.wp P a w K Q := by
  unfold Does at h
  unfold Oper.wp
  generalize (execOp a.eval o).run P w = r at *
  cases r with
  | halt x w' => exact h.elim
  | ok n w' =>
    cases n with
    | value v => exact k _ _ h
    | skip => exact k _ _ h
    | enter f args =>
      refine Calls.mono h ?_
      rintro e w'' ⟨v, rfl, hR⟩
      exact k _ _ hR
    | _ => exact h.elim

/-- Does an operation wait for another one? -/
def needsB (o : Oper) (j : Nat) : Bool := o.after.any fun e => Region.binds .any e && e.on == j
/-- Edges go back alone. -/
def backB (ops : Array Oper) : Bool := (List.range ops.size).all fun i => match ops[i]? with
  | some o => o.after.all fun e => !Region.binds .any e || decide (e.on < i)
  | none => true
/-- Each slot is written once, and lies in the frame. -/
def onceB (ops : Array Oper) (size : Nat) : Bool := (List.range ops.size).all fun i => match ops[i]? with
  | some o => (match o.dst with
    | some d => decide (d < size) && (List.range ops.size).all fun j => j == i || (match ops[j]? with
      | some o' => o'.dst != some d
      | none => true)
    | none => true)
  | none => true
/-- Whatever writes the slot waits for the operation. -/
def freeB (ops : Array Oper) (i t : Nat) : Bool := (List.range ops.size).all fun k => match ops[k]? with
  | some o => o.dst != some t || k == i || needsB o i
  | none => true

/-- Does a region write a slot? -/
def writesB (ops : Array Oper) (t : Tmp) : Bool := ops.any fun o => o.dst == some t
theorem writes_not {ops : Array Oper} {t : Tmp} (h : writesB ops t = false) (i : Nat) (o : Oper) (ho : ops[i]? = some o) : o.dst ≠ some t := by
  intro hd
  have hi := (Array.getElem?_eq_some_iff.1 ho)
  have : writesB ops t = true := by
    unfold writesB
    rw [Array.any_eq_true]
    exact ⟨i, hi.1, by rw [hi.2, hd]; simp⟩
  rw [h] at this
  cases this
/-- A frame, slot by slot. -/
theorem frame_lit {tm : Array Value} {L : List Value} (hs : tm.size = L.length) (h : ∀ t, t < L.length → tm.getD t undef = L.getD t undef) : tm = L.toArray := by
  apply Array.ext
  · simpa using hs
  · intro i h1 h2
    have e := h i (by simpa using h2)
    have e1 : tm.getD i undef = tm[i] := by simp [Array.getD, h1]
    have h3 : i < L.length := by simpa using h2
    rw [e1] at e
    rw [e, List.getD_eq_getElem?_getD, List.getElem?_eq_getElem h3]
    simp

/-- A frame behind a region: what it wrote is laid over what was. -/
theorem getD_at (x : Array Value) (t : Nat) (h : t < x.size) : x.getD t undef = x[t] := by simp [Array.getD, h]
theorem foldl_set_getD (f : Nat → Value) : ∀ (L : List Nat) (x : Array Value) (t : Nat), t < x.size → (L.foldl (fun x d => x.setIfInBounds d (f d)) x).size = x.size ∧ (L.foldl (fun x d => x.setIfInBounds d (f d)) x).getD t undef = if t ∈ L then f t else x.getD t undef
  | [], x, t, _ => ⟨rfl, by simp⟩
  | d :: L, x, t, ht => by
    obtain ⟨h1, h2⟩ := foldl_set_getD f L (x.setIfInBounds d (f d)) t (by simpa using ht)
    refine ⟨by simpa using h1, ?_⟩
    show (L.foldl (fun x d => x.setIfInBounds d (f d)) (x.setIfInBounds d (f d))).getD t undef = _
    rw [h2]
    by_cases hL : t ∈ L
    · simp [hL]
    · by_cases hd : t = d
      · subst hd; simp [hL, Array.getD, ht]
      · simp [hL, hd, Array.getD_eq_getD_getElem?, Array.getElem?_setIfInBounds_ne (Ne.symm hd)]
theorem frame_of {ops : Array Oper} {a a0 : Act} (hd : a.defers = a0.defers) (hs : a.tmps.size = a0.tmps.size) (hrest : ∀ t, writesB ops t = false → a.tmps.getD t undef = a0.tmps.getD t undef)
    (L : List Nat) (hL : ((List.range a0.tmps.size).all fun t => writesB ops t == L.contains t) = true) : a = ⟨L.foldl (fun x d => x.setIfInBounds d (a.tmps.getD d undef)) a0.tmps, a0.defers⟩ := by
  obtain ⟨tm, df⟩ := a
  simp only at hd hs hrest ⊢
  subst hd
  congr 1
  have hall := List.all_eq_true.1 hL
  apply Array.ext
  · by_cases h0 : a0.tmps.size = 0
    · rw [hs]
      have : ∀ (L : List Nat) (x : Array Value), (L.foldl (fun x d => x.setIfInBounds d (tm.getD d undef)) x).size = x.size := by
        intro L
        induction L with
        | nil => intro x; rfl
        | cons d L ih => intro x; rw [List.foldl_cons, ih]; simp
      exact (this L a0.tmps).symm
    · rw [(foldl_set_getD (fun d => tm.getD d undef) L a0.tmps 0 (by omega)).1, hs]
  · intro t h1 h2
    have ht : t < a0.tmps.size := by omega
    have h3 := (foldl_set_getD (fun d => tm.getD d undef) L a0.tmps t ht).2
    have hw := hall t (List.mem_range.2 ht)
    rw [beq_iff_eq] at hw
    refine ((getD_at tm t h1).symm.trans (Eq.trans ?_ h3.symm)).trans (getD_at _ t h2)
    by_cases hm : t ∈ L
    · rw [if_pos hm]
    · rw [if_neg hm]
      exact hrest t (by rw [hw]; simpa using hm)

section
variable {ops : Array Oper} {Q : Exit → Act → World → Prop} {F : Nat → Value → World → Prop} {a0 : Act} {w0 : World}

structure FlowInv (ops : Array Oper) (F : Nat → Value → World → Prop) (a0 : Act) (w0 : World) (l : Array Bool) (a : Act) (w : World) : Prop where
  size : l.size = ops.size
  below : Below w0.heap.size w0 w
  defers : a.defers = a0.defers
  tmps : a.tmps.size = a0.tmps.size
  closed : ∀ k o, ops[k]? = some o → l.getD k false = true → ∀ j, needsB o j = true → l.getD j false = true
  facts : ∀ i o d, ops[i]? = some o → l.getD i false = true → o.dst = some d → F i (a.tmps.getD d undef) w
  rest : ∀ t, (∀ i o, ops[i]? = some o → l.getD i false = true → o.dst ≠ some t) → a.tmps.getD t undef = a0.tmps.getD t undef

theorem needs_of_all {o : Oper} {l : Array Bool} (h : (o.after.all fun e => !Region.binds .any e || l.getD e.on false) = true) (j : Nat) (hj : needsB o j = true) : l.getD j false = true := by
  unfold needsB at hj
  rw [Array.any_eq_true] at hj
  obtain ⟨k, hk, h1⟩ := hj
  rw [Array.all_eq_true] at h
  have h2 := h k hk
  rw [Bool.and_eq_true, beq_iff_eq] at h1
  rw [h1.1] at h2
  rw [← h1.2]
  simpa using h2

theorem ready_spec {l : Array Bool} {i : Nat} (h : i ∈ Region.ready .any ops l) : ∃ o, ops[i]? = some o ∧ i < ops.size ∧ l.getD i true = false ∧ ∀ j, needsB o j = true → l.getD j false = true := by
  unfold Region.ready at h
  rw [List.mem_filter, List.mem_range, Bool.and_eq_true] at h
  obtain ⟨hi, h1, h2⟩ := h
  obtain ⟨o, ho⟩ : ∃ o, ops[i]? = some o := ⟨ops[i], by simp [hi]⟩
  rw [ho] at h2
  exact ⟨o, ho, hi, by simpa using h1, needs_of_all h2⟩

/-- If nothing can come up any more all have come. -/
theorem ready_nil {l : Array Bool} (hs : l.size = ops.size) (hb : backB ops = true) (h : Region.ready .any ops l = []) : ∀ i, i < ops.size → l.getD i false = true := by
  intro i
  induction i using Nat.strongRecOn with
  | ind i ih =>
    intro hi
    cases hl : l.getD i false with
    | true => rfl
    | false =>
      exfalso
      have hmem : i ∈ Region.ready .any ops l := by
        unfold Region.ready
        rw [List.mem_filter, List.mem_range, Bool.and_eq_true]
        obtain ⟨o, ho⟩ : ∃ o, ops[i]? = some o := ⟨ops[i], by simp [hi]⟩
        refine ⟨hi, ?_, ?_⟩
        · have : l.getD i true = l.getD i false := by simp [Array.getD, hs, hi]
          rw [this, hl]
          rfl
        · rw [ho]
          simp only [Option.map_some, Option.getD_some]
          unfold backB at hb
          rw [List.all_eq_true] at hb
          have h1 := hb i (List.mem_range.2 hi)
          rw [ho] at h1
          simp only at h1
          rw [Array.all_eq_true] at h1 ⊢
          intro k hk
          have h2 := h1 k hk
          cases hbd : Region.binds .any o.after[k] with
          | false => simp
          | true =>
            rw [hbd] at h2
            simp only [Bool.not_true, Bool.false_or, decide_eq_true_eq] at h2
            rw [ih _ h2 (by omega)]
            simp
      rw [h] at hmem
      simp at hmem

def leftOf (n : Nat) (l : Array Bool) : Nat := ((List.range n).filter fun i => !l.getD i true).length
theorem filter_lt {p q : Nat → Bool} : ∀ {r : List Nat} {i : Nat}, (∀ x, q x = true → p x = true) → i ∈ r → p i = true → q i = false → (r.filter q).length < (r.filter p).length
  | [], i, _, h, _, _ => by simp at h
  | x :: r, i, hpq, hi, hp, hq => by
    have hle : (r.filter q).length ≤ (r.filter p).length := by
      clear hi
      induction r with
      | nil => simp
      | cons y r ih =>
        rw [List.filter_cons, List.filter_cons]
        cases hy : q y with
        | true => rw [hpq y hy]; simp; exact ih
        | false => cases p y <;> simp <;> omega
    rw [List.filter_cons, List.filter_cons]
    rcases List.mem_cons.1 hi with rfl | hi
    · rw [hp, hq]; simp; omega
    · have ih := filter_lt (r := r) hpq hi hp hq
      cases hx : q x with
      | true => rw [hpq x hx]; simp; exact ih
      | false => cases p x <;> simp <;> omega
theorem left_set {n i : Nat} {l : Array Bool} (hs : l.size = n) (hi : i < n) (hl : l.getD i true = false) : leftOf n (l.setIfInBounds i true) < leftOf n l := by
  unfold leftOf
  refine filter_lt (i := i) (fun x hx => ?_) (List.mem_range.2 hi) (by rw [hl]; rfl) (by simp [Array.getD, hs, hi])
  by_cases hxi : x = i
  · subst hxi; rw [hl]; rfl
  · simpa [Array.getD_eq_getD_getElem?, Array.getElem?_setIfInBounds_ne (Ne.symm hxi)] using hx
theorem getD_set {l : Array Bool} {i k : Nat} (hi : i < l.size) : (l.setIfInBounds i true).getD k false = true ↔ k = i ∨ l.getD k false = true := by
  by_cases h : k = i
  · subst h; simp [Array.getD, hi]
  · simp [Array.getD_eq_getD_getElem?, Array.getElem?_setIfInBounds_ne (Ne.symm h), h]
theorem put_getD {a : Act} {d t : Nat} {v : Value} (hd : d < a.tmps.size) : (a.put (some d) v).tmps.getD t undef = if t = d then v else a.tmps.getD t undef := by
  unfold Act.put
  by_cases h : t = d
  · subst h; simp [Array.getD, hd]
  · simp [Array.getD_eq_getD_getElem?, Array.getElem?_setIfInBounds_ne (Ne.symm h), h]

/-- What operands that are no slots are. -/
structure Plain (ρ : Operand → Value) : Prop where
  const : ∀ v, ρ (.const v) = v
  global : ∀ g, ρ (.global g) = .pointer (some ⟨g, 0, none⟩)
  func : ∀ f, ρ (.func f) = .func (.func f) #[] #[]

/-- THE REGION: F i says what operation i yields; it lasts while nothing old is written. -/
theorem wp_region_flow {id : Nat} (hm : P.follows .mixedOrders = true) (F : Nat → Value → World → Prop)
    (hF : ∀ i v w w', Below w.heap.size w w' → F i v w → F i v w') (hback : backB ops = true) (honce : onceB ops a0.tmps.size = true)
    (step : ∀ (i : Nat) (o : Oper), ops[i]? = some o → ∀ (ρ : Operand → Value) (y : Nat → Option Bool) (w : World), Below w0.heap.size w0 w → Plain ρ →
      (∀ (j : Nat) (o' : Oper) (d : Tmp), ops[j]? = some o' → needsB o j = true → o'.dst = some d → F j (ρ (.tmp d)) w) →
      (∀ (t : Tmp), freeB ops i t = true → ρ (.tmp t) = a0.tmps.getD t undef) →
      (∀ (j : Nat) (o' : Oper) (d : Tmp) (b : Bool), ops[j]? = some o' → o'.dst = some d → ρ (.tmp d) = .bool b → y j = some b) →
      (∀ (j : Nat) (o' : Oper) (d : Tmp), ops[j]? = some o' → o'.dst = some d → ρ (.tmp d) = undef → y j = none) →
      if Region.wanted o y = true then Does P o ρ w (fun v w' => F i v w' ∧ Below w.heap.size w w') else F i undef w)
    (fin : ∀ (a : Act) (w : World), Below w0.heap.size w0 w → a.defers = a0.defers → a.tmps.size = a0.tmps.size → (∀ (i : Nat) (o : Oper) (d : Tmp), ops[i]? = some o → o.dst = some d → F i (a.tmps.getD d undef) w) →
      (∀ (t : Tmp), writesB ops t = false → a.tmps.getD t undef = a0.tmps.getD t undef) → Q .normal a w) :
    (Code.region id ops true).wp P Q a0 w0 := by
  refine wp_region_any hm ?_
  have key : ∀ (fuel : Nat) (l : Array Bool) (a : Act) (w : World), leftOf ops.size l ≤ fuel → FlowInv ops F a0 w0 l a w → wpAny P .any ops Q fuel l a w := by
    have done : ∀ (l : Array Bool) (a : Act) (w : World), FlowInv ops F a0 w0 l a w → Region.ready .any ops l = [] → Q .normal a w := by
      intro l a w hI hr
      have hall := ready_nil hI.size hback hr
      refine fin a w hI.below hI.defers hI.tmps (fun i o d ho hd => hI.facts i o d ho (hall i (Array.getElem?_eq_some_iff.1 ho).1) hd) (fun t ht => hI.rest t fun i o ho _ => writes_not ht i o ho)
    intro fuel
    induction fuel with
    | zero =>
      intro l a w hl hI
      have hr : Region.ready .any ops l = [] := by
        rw [List.eq_nil_iff_forall_not_mem]
        intro i hi
        obtain ⟨o, ho, hlt, hn, _⟩ := ready_spec hi
        have := left_set (n := ops.size) (l := l) hI.size hlt hn
        omega
      exact ⟨hr, done l a w hI hr⟩
    | succ fuel ih =>
      intro l a w hl hI
      refine ⟨done l a w hI, fun i hi => ?_⟩
      obtain ⟨o, ho, hlt, hn, hneeds⟩ := ready_spec hi
      have hlt' : i < l.size := by rw [hI.size]; exact hlt
      have hnf : l.getD i false = false := by
        have : l.getD i true = l.getD i false := by simp [Array.getD, hlt']
        rw [← this]; exact hn
      have hdl : ∀ (j : Nat) (o' : Oper) (d : Tmp), ops[j]? = some o' → o'.dst = some d → d < a.tmps.size := by
        intro j o' d hj hd
        have hon := List.all_eq_true.1 honce j (List.mem_range.2 (Array.getElem?_eq_some_iff.1 hj).1)
        rw [hj] at hon
        simp only [hd, Bool.and_eq_true, decide_eq_true_eq] at hon
        rw [hI.tmps]
        exact hon.1
      have hyv : ∀ (j : Nat) (o' : Oper) (d : Tmp), ops[j]? = some o' → o'.dst = some d → yielded ops a.tmps j = (match a.tmps.getD d undef with
          | .bool b => some b
          | _ => none) := by
        intro j o' d hj hd
        have hlt2 := hdl j o' d hj hd
        unfold yielded
        rw [hj]
        simp only [Option.bind_some, hd]
        have e : a.tmps.getD d undef = a.tmps[d] := by simp [Array.getD, hlt2]
        rw [Array.getElem?_eq_getElem hlt2, e]
        generalize a.tmps[d] = v
        cases v <;> rfl
      have hst := step i o ho a.eval (yielded ops a.tmps) w hI.below ⟨fun _ => rfl, fun _ => rfl, fun _ => rfl⟩ (fun j o' d hj hnj hd => hI.facts j o' d hj (hneeds j hnj) hd)
        (fun t hfree => hI.rest t fun k ok hk hlk hdk => by
          unfold freeB at hfree
          rw [List.all_eq_true] at hfree
          have h1 := hfree k (List.mem_range.2 (Array.getElem?_eq_some_iff.1 hk).1)
          rw [hk] at h1
          simp only [Bool.or_eq_true] at h1
          rcases h1 with (h1 | h1) | h1
          · simp [hdk] at h1
          · rw [beq_iff_eq] at h1
            subst h1
            rw [hnf] at hlk; cases hlk
          · rw [hI.closed k ok hk hlk i h1] at hnf; cases hnf)
        (fun j o' d b hj hd hb => by
          rw [hyv j o' d hj hd]
          have hb' : a.tmps.getD d undef = .bool b := hb
          rw [hb'])
        (fun j o' d hj hd hb => by
          rw [hyv j o' d hj hd]
          have hb' : a.tmps.getD d undef = undef := hb
          rw [hb']
          rfl)
      have next : ∀ v w', F i v w' → Below w.heap.size w w' → wpAny P .any ops Q fuel (l.setIfInBounds i true) (a.put o.dst v) w' := by
        intro v w' hv hb
        refine ih _ _ _ (by have := left_set (n := ops.size) (l := l) hI.size hlt hn; omega) ?_
        refine ⟨by simpa using hI.size, hI.below.trans (hb.mono hI.below.size), ?_, ?_, ?_, ?_, ?_⟩
        · rw [← hI.defers]; cases o.dst <;> rfl
        · rw [← hI.tmps]; cases o.dst <;> simp [Act.put]
        · intro k ok hk hlk j hj
          rw [getD_set hlt'] at hlk ⊢
          rcases hlk with rfl | hlk
          · rw [ho] at hk
            obtain rfl := Option.some.inj hk
            exact .inr (hneeds j hj)
          · exact .inr (hI.closed k ok hk hlk j hj)
        · intro k ok d hk hlk hd
          have hon := List.all_eq_true.1 honce k (List.mem_range.2 (Array.getElem?_eq_some_iff.1 hk).1)
          rw [hk] at hon
          simp only [hd, Bool.and_eq_true, decide_eq_true_eq] at hon
          obtain ⟨hdl, hon⟩ := hon
          rw [List.all_eq_true] at hon
          rw [getD_set hlt'] at hlk
          rcases hlk with rfl | hlk
          · rw [ho] at hk
            obtain rfl := Option.some.inj hk
            rw [hd, put_getD (by rw [hI.tmps]; exact hdl), if_pos rfl]
            exact hv
          · have hne : o.dst ≠ some d := by
              have h1 := hon i (List.mem_range.2 hlt)
              rw [ho] at h1
              simp only [Bool.or_eq_true, beq_iff_eq] at h1
              rcases h1 with rfl | h1
              · rw [hnf] at hlk; cases hlk
              · simpa using h1
            have he : (a.put o.dst v).tmps.getD d undef = a.tmps.getD d undef := by
              cases hod : o.dst with
              | none => rfl
              | some d' =>
                have hi2 := List.all_eq_true.1 honce i (List.mem_range.2 hlt)
                rw [ho] at hi2
                simp only [hod, Bool.and_eq_true, decide_eq_true_eq] at hi2
                rw [put_getD (by rw [hI.tmps]; exact hi2.1), if_neg]
                rintro rfl
                exact hne hod
            rw [he]
            exact hF _ _ _ _ hb (hI.facts k ok d hk hlk hd)
        · intro t ht
          have hne : o.dst ≠ some t := ht i o ho (by rw [getD_set hlt']; exact .inl rfl)
          have he : (a.put o.dst v).tmps.getD t undef = a.tmps.getD t undef := by
            cases hod : o.dst with
            | none => rfl
            | some d' =>
              have hi2 := List.all_eq_true.1 honce i (List.mem_range.2 hlt)
              rw [ho] at hi2
              simp only [hod, Bool.and_eq_true, decide_eq_true_eq] at hi2
              rw [put_getD (by rw [hI.tmps]; exact hi2.1), if_neg]
              rintro rfl
              exact hne hod
          rw [he]
          exact hI.rest t fun k ok hk hlk => ht k ok hk (by rw [getD_set hlt']; exact .inr hlk)
      unfold wpOp
      rw [ho]
      simp only
      split at hst
      · rename_i hw
        rw [if_pos hw]
        exact .inl (Does.wp hst fun v w' ⟨h1, h2⟩ => next v w' h1 h2)
      · rename_i hw
        rw [if_neg hw]
        exact next _ _ hst (Below.refl _ _)
  refine key ops.size _ _ _ ?_ ?_
  · unfold leftOf
    refine Nat.le_trans (List.length_filter_le _ _) (by simp)
  · have hz : ∀ k, (Array.replicate ops.size false).getD k false = false := by
      intro k
      by_cases hk : k < ops.size
      · simp [Array.getD, hk]
      · simp [Array.getD, hk]
    refine ⟨by simp, (Below.refl _ _).drew, rfl, rfl, fun k o _ h => ?_, fun i o d _ h => ?_, fun t _ => rfl⟩
    · rw [hz] at h; cases h
    · rw [hz] at h; cases h

structure FlowInvJ (ops : Array Oper) (F : Nat → Value → World → Prop) (a0 : Act) (J : (Nat → Prop) → World → Prop) (l : Array Bool) (a : Act) (w : World) : Prop where
  size : l.size = ops.size
  inv : J (fun k => l.getD k false = true) w
  defers : a.defers = a0.defers
  tmps : a.tmps.size = a0.tmps.size
  closed : ∀ k o, ops[k]? = some o → l.getD k false = true → ∀ j, needsB o j = true → l.getD j false = true
  facts : ∀ i o d, ops[i]? = some o → l.getD i false = true → o.dst = some d → F i (a.tmps.getD d undef) w
  rest : ∀ t, (∀ i o, ops[i]? = some o → l.getD i false = true → o.dst ≠ some t) → a.tmps.getD t undef = a0.tmps.getD t undef

/-- The region, where operations may write: J says what holds when these have come up; K is what facts last through. -/
theorem wp_region_flowJ {id : Nat} (hm : P.follows .mixedOrders = true) (F : Nat → Value → World → Prop) (K : World → World → Prop) (J : (Nat → Prop) → World → Prop)
    (hF : ∀ i v w w', K w w' → F i v w → F i v w') (hJ0 : J (fun _ => False) w0.drew) (hback : backB ops = true) (honce : onceB ops a0.tmps.size = true)
    (step : ∀ (i : Nat) (o : Oper), ops[i]? = some o → ∀ (ρ : Operand → Value) (y : Nat → Option Bool) (w : World) (S : Nat → Prop), J S w → ¬ S i → (∀ j, needsB o j = true → S j) → (∀ k ok, ops[k]? = some ok → S k → ∀ j, needsB ok j = true → S j) → Plain ρ →
      (∀ (j : Nat) (o' : Oper) (d : Tmp), ops[j]? = some o' → needsB o j = true → o'.dst = some d → F j (ρ (.tmp d)) w) →
      (∀ (t : Tmp), freeB ops i t = true → ρ (.tmp t) = a0.tmps.getD t undef) →
      (∀ (j : Nat) (o' : Oper) (d : Tmp) (b : Bool), ops[j]? = some o' → o'.dst = some d → ρ (.tmp d) = .bool b → y j = some b) →
      (∀ (j : Nat) (o' : Oper) (d : Tmp), ops[j]? = some o' → o'.dst = some d → ρ (.tmp d) = undef → y j = none) →
      if Region.wanted o y = true then Does P o ρ w (fun v w' => F i v w' ∧ K w w' ∧ J (fun k => k = i ∨ S k) w') else F i undef w ∧ J (fun k => k = i ∨ S k) w)
    (fin : ∀ (a : Act) (w : World) (S : Nat → Prop), J S w → (∀ i, i < ops.size → S i) → a.defers = a0.defers → a.tmps.size = a0.tmps.size → (∀ (i : Nat) (o : Oper) (d : Tmp), ops[i]? = some o → o.dst = some d → F i (a.tmps.getD d undef) w) →
      (∀ (t : Tmp), writesB ops t = false → a.tmps.getD t undef = a0.tmps.getD t undef) → Q .normal a w) :
    (Code.region id ops true).wp P Q a0 w0 := by
  refine wp_region_any hm ?_
  have key : ∀ (fuel : Nat) (l : Array Bool) (a : Act) (w : World), leftOf ops.size l ≤ fuel → FlowInvJ ops F a0 J l a w → wpAny P .any ops Q fuel l a w := by
    have done : ∀ (l : Array Bool) (a : Act) (w : World), FlowInvJ ops F a0 J l a w → Region.ready .any ops l = [] → Q .normal a w := by
      intro l a w hI hr
      have hall := ready_nil hI.size hback hr
      refine fin a w _ hI.inv hall hI.defers hI.tmps (fun i o d ho hd => hI.facts i o d ho (hall i (Array.getElem?_eq_some_iff.1 ho).1) hd) (fun t ht => hI.rest t fun i o ho _ => writes_not ht i o ho)
    intro fuel
    induction fuel with
    | zero =>
      intro l a w hl hI
      have hr : Region.ready .any ops l = [] := by
        rw [List.eq_nil_iff_forall_not_mem]
        intro i hi
        obtain ⟨o, ho, hlt, hn, _⟩ := ready_spec hi
        have := left_set (n := ops.size) (l := l) hI.size hlt hn
        omega
      exact ⟨hr, done l a w hI hr⟩
    | succ fuel ih =>
      intro l a w hl hI
      refine ⟨done l a w hI, fun i hi => ?_⟩
      obtain ⟨o, ho, hlt, hn, hneeds⟩ := ready_spec hi
      have hlt' : i < l.size := by rw [hI.size]; exact hlt
      have hnf : l.getD i false = false := by
        have : l.getD i true = l.getD i false := by simp [Array.getD, hlt']
        rw [← this]; exact hn
      have hdl : ∀ (j : Nat) (o' : Oper) (d : Tmp), ops[j]? = some o' → o'.dst = some d → d < a.tmps.size := by
        intro j o' d hj hd
        have hon := List.all_eq_true.1 honce j (List.mem_range.2 (Array.getElem?_eq_some_iff.1 hj).1)
        rw [hj] at hon
        simp only [hd, Bool.and_eq_true, decide_eq_true_eq] at hon
        rw [hI.tmps]
        exact hon.1
      have hyv : ∀ (j : Nat) (o' : Oper) (d : Tmp), ops[j]? = some o' → o'.dst = some d → yielded ops a.tmps j = (match a.tmps.getD d undef with
          | .bool b => some b
          | _ => none) := by
        intro j o' d hj hd
        have hlt2 := hdl j o' d hj hd
        unfold yielded
        rw [hj]
        simp only [Option.bind_some, hd]
        have e : a.tmps.getD d undef = a.tmps[d] := by simp [Array.getD, hlt2]
        rw [Array.getElem?_eq_getElem hlt2, e]
        generalize a.tmps[d] = v
        cases v <;> rfl
      have hst := step i o ho a.eval (yielded ops a.tmps) w (fun k => l.getD k false = true) hI.inv (by rw [hnf]; exact Bool.false_ne_true) hneeds hI.closed ⟨fun _ => rfl, fun _ => rfl, fun _ => rfl⟩ (fun j o' d hj hnj hd => hI.facts j o' d hj (hneeds j hnj) hd)
        (fun t hfree => hI.rest t fun k ok hk hlk hdk => by
          unfold freeB at hfree
          rw [List.all_eq_true] at hfree
          have h1 := hfree k (List.mem_range.2 (Array.getElem?_eq_some_iff.1 hk).1)
          rw [hk] at h1
          simp only [Bool.or_eq_true] at h1
          rcases h1 with (h1 | h1) | h1
          · simp [hdk] at h1
          · rw [beq_iff_eq] at h1
            subst h1
            rw [hnf] at hlk; cases hlk
          · rw [hI.closed k ok hk hlk i h1] at hnf; cases hnf)
        (fun j o' d b hj hd hb => by
          rw [hyv j o' d hj hd]
          have hb' : a.tmps.getD d undef = .bool b := hb
          rw [hb'])
        (fun j o' d hj hd hb => by
          rw [hyv j o' d hj hd]
          have hb' : a.tmps.getD d undef = undef := hb
          rw [hb']
          rfl)
      have next : ∀ v w', F i v w' → (K w w' ∨ w' = w) → J (fun k => k = i ∨ l.getD k false = true) w' → wpAny P .any ops Q fuel (l.setIfInBounds i true) (a.put o.dst v) w' := by
        intro v w' hv hb hj'
        refine ih _ _ _ (by have := left_set (n := ops.size) (l := l) hI.size hlt hn; omega) ?_
        refine ⟨by simpa using hI.size, (by have e : (fun k => (l.setIfInBounds i true).getD k false = true) = (fun k => k = i ∨ l.getD k false = true) := funext fun k => propext (getD_set hlt'); rw [e]; exact hj'), ?_, ?_, ?_, ?_, ?_⟩
        · rw [← hI.defers]; cases o.dst <;> rfl
        · rw [← hI.tmps]; cases o.dst <;> simp [Act.put]
        · intro k ok hk hlk j hj
          rw [getD_set hlt'] at hlk ⊢
          rcases hlk with rfl | hlk
          · rw [ho] at hk
            obtain rfl := Option.some.inj hk
            exact .inr (hneeds j hj)
          · exact .inr (hI.closed k ok hk hlk j hj)
        · intro k ok d hk hlk hd
          have hon := List.all_eq_true.1 honce k (List.mem_range.2 (Array.getElem?_eq_some_iff.1 hk).1)
          rw [hk] at hon
          simp only [hd, Bool.and_eq_true, decide_eq_true_eq] at hon
          obtain ⟨hdl, hon⟩ := hon
          rw [List.all_eq_true] at hon
          rw [getD_set hlt'] at hlk
          rcases hlk with rfl | hlk
          · rw [ho] at hk
            obtain rfl := Option.some.inj hk
            rw [hd, put_getD (by rw [hI.tmps]; exact hdl), if_pos rfl]
            exact hv
          · have hne : o.dst ≠ some d := by
              have h1 := hon i (List.mem_range.2 hlt)
              rw [ho] at h1
              simp only [Bool.or_eq_true, beq_iff_eq] at h1
              rcases h1 with rfl | h1
              · rw [hnf] at hlk; cases hlk
              · simpa using h1
            have he : (a.put o.dst v).tmps.getD d undef = a.tmps.getD d undef := by
              cases hod : o.dst with
              | none => rfl
              | some d' =>
                have hi2 := List.all_eq_true.1 honce i (List.mem_range.2 hlt)
                rw [ho] at hi2
                simp only [hod, Bool.and_eq_true, decide_eq_true_eq] at hi2
                rw [put_getD (by rw [hI.tmps]; exact hi2.1), if_neg]
                rintro rfl
                exact hne hod
            rw [he]
            rcases hb with hb | rfl
            · exact hF _ _ _ _ hb (hI.facts k ok d hk hlk hd)
            · exact hI.facts k ok d hk hlk hd
        · intro t ht
          have hne : o.dst ≠ some t := ht i o ho (by rw [getD_set hlt']; exact .inl rfl)
          have he : (a.put o.dst v).tmps.getD t undef = a.tmps.getD t undef := by
            cases hod : o.dst with
            | none => rfl
            | some d' =>
              have hi2 := List.all_eq_true.1 honce i (List.mem_range.2 hlt)
              rw [ho] at hi2
              simp only [hod, Bool.and_eq_true, decide_eq_true_eq] at hi2
              rw [put_getD (by rw [hI.tmps]; exact hi2.1), if_neg]
              rintro rfl
              exact hne hod
          rw [he]
          exact hI.rest t fun k ok hk hlk => ht k ok hk (by rw [getD_set hlt']; exact .inr hlk)
      unfold wpOp
      rw [ho]
      simp only
      split at hst
      · rename_i hw
        rw [if_pos hw]
        exact .inl (Does.wp hst fun v w' ⟨h1, h2, h3⟩ => next v w' h1 (.inl h2) h3)
      · rename_i hw
        rw [if_neg hw]
        exact next _ _ hst.1 (.inr rfl) hst.2
  refine key ops.size _ _ _ ?_ ?_
  · unfold leftOf
    refine Nat.le_trans (List.length_filter_le _ _) (by simp)
  · have hz : ∀ k, (Array.replicate ops.size false).getD k false = false := by
      intro k
      by_cases hk : k < ops.size
      · simp [Array.getD, hk]
      · simp [Array.getD, hk]
    refine ⟨by simp, (by have e : (fun k => (Array.replicate ops.size false).getD k false = true) = (fun _ => False) := funext fun k => propext (Iff.intro (fun h => by rw [hz] at h; cases h) (fun h => False.elim h)); rw [e]; exact hJ0), rfl, rfl, fun k o _ h => ?_, fun i o d _ h => ?_, fun t _ => rfl⟩
    · rw [hz] at h; cases h
    · rw [hz] at h; cases h
end

/-! ### What single operations do -/
section
variable {ρ : Operand → Value} {w : World} {R : Value → World → Prop} {d : Option Tmp} {ty : TypeId} {pos : String} {af : Array Edge} {g : Option (Nat × Bool)}
theorem does_move {x : Operand} (h : R (ρ x) w) : Does P ⟨d, .move x, ty, pos, af, g⟩ ρ w R := h
theorem does_assign {x : Operand} (h : R (ρ x) w) : Does P ⟨d, .assign x, ty, pos, af, g⟩ ρ w R := h
/-- Whatever runs to a value. -/
theorem does_ok {o : Oper} {v : Value} {w' : World} (he : (execOp ρ o).run P w = .ok (.value v) w') (h : R v w') : Does P o ρ w R := by
  unfold Does; rw [he]; exact h
/-- Whatever runs to a call. -/
theorem does_enter {o : Oper} {f : FuncId} {args : Array Value} {w' : World} (he : (execOp ρ o).run P w = .ok (.enter f args) w') (h : Calls P f args w' fun e w'' => ∃ v, e = .returned v ∧ R v w'') : Does P o ρ w R := by
  unfold Does; rw [he]; exact h
end
end Go.Proofs.YtkkeodlnejckjaaGreat

/- Regions that leave their order open, taken by an invariant on what has come up, on the frame and on the world: plain, and in the round of a range over a function. -/
namespace Go.Proofs.YtkkeodlnejckjaaGreat
open Go.RowKit
variable {P : Program}

/-- No operation is deferred. -/
def ndB (ops : Array Oper) : Bool := ops.all fun o => match o.op with
  | .defer _ => false
  | _ => true
theorem ndB_spec {ops : Array Oper} (h : ndB ops = true) {i : Nat} {o : Oper} (ho : ops[i]? = some o) : ∀ c, o.op ≠ .defer c := by
  intro c hc
  unfold ndB at h
  rw [Array.all_eq_true] at h
  obtain ⟨hi, rfl⟩ := Array.getElem?_eq_some_iff.1 ho
  have := h i hi
  rw [hc] at this
  cases this
theorem Does.wpIn {L n : Nat} {o : Oper} {a : Act} {w : World} {R : Value → World → Prop} {K : Act → World → Prop} {Q : Exit → Act → World → Prop}
    (h : Does P o a.eval w R) (hnd : ∀ c, o.op ≠ .defer c) (k : ∀ v w', R v w' → K (a.put o.dst v) w') : o.wpIn (Fence.wide.inRound L) n P a w K Q := by
  unfold Does at h
  unfold Oper.wpIn
  refine ⟨fun _ _ => trivial, ?_⟩
  rw [show (Fence.wide.inRound L).round = some L from rfl, Oper.semAt_some L _ _ hnd]
  generalize (execOp a.eval o).run P w = r at *
  cases r with
  | halt x w' => exact h.elim
  | ok n w' =>
    cases n with
    | value v => exact k _ _ h
    | skip => exact k _ _ h
    | enter f args =>
      refine ⟨fun h => (by cases h), CallsIn.inRound L (callsIn_wide.2 (Calls.mono h ?_))⟩
      rintro e w'' ⟨v, rfl, hR⟩
      exact k _ _ hR
    | _ => exact h.elim
theorem does_skip {ρ : Operand → Value} {w w' : World} {R : Value → World → Prop} {o : Oper} (he : (execOp ρ o).run P w = .ok .skip w') (h : R undef w') : Does P o ρ w R := by
  unfold Does; rw [he]; exact h
section
variable {ops : Array Oper} {Q : Exit → Act → World → Prop} {a0 : Act} {w0 : World}

/-- The region, by an invariant. -/
theorem wp_region_J {id : Nat} (hm : P.follows .mixedOrders = true) (J : (Nat → Prop) → Act → World → Prop) (hback : backB ops = true) (hJ0 : J (fun _ => False) a0 w0.drew)
    (step : ∀ (i : Nat) (o : Oper), ops[i]? = some o → ∀ (S : Nat → Prop) (a : Act) (w : World), J S a w → ¬ S i → (∀ j, needsB o j = true → S j) → (∀ k ok, ops[k]? = some ok → S k → ∀ j, needsB ok j = true → S j) →
      if Region.wanted o (yielded ops a.tmps) = true then Does P o a.eval w (fun v w' => J (fun k => k = i ∨ S k) (a.put o.dst v) w') else J (fun k => k = i ∨ S k) (a.put o.dst undef) w)
    (fin : ∀ (a : Act) (w : World) (S : Nat → Prop), J S a w → (∀ i, i < ops.size → S i) → Q .normal a w) :
    (Code.region id ops true).wp P Q a0 w0 := by
  refine wp_region_any hm ?_
  have key : ∀ (fuel : Nat) (l : Array Bool) (a : Act) (w : World), leftOf ops.size l ≤ fuel → l.size = ops.size → J (fun k => l.getD k false = true) a w →
      (∀ k ok, ops[k]? = some ok → l.getD k false = true → ∀ j, needsB ok j = true → l.getD j false = true) → wpAny P .any ops Q fuel l a w := by
    have done : ∀ (l : Array Bool) (a : Act) (w : World), l.size = ops.size → J (fun k => l.getD k false = true) a w → Region.ready .any ops l = [] → Q .normal a w := by
      intro l a w hs hI hr
      exact fin a w _ hI (ready_nil hs hback hr)
    intro fuel
    induction fuel with
    | zero =>
      intro l a w hl hs hI hcl
      have hr : Region.ready .any ops l = [] := by
        rw [List.eq_nil_iff_forall_not_mem]
        intro i hi
        obtain ⟨o, ho, hlt, hn, _⟩ := ready_spec hi
        have := left_set (n := ops.size) (l := l) hs hlt hn
        omega
      exact ⟨hr, done l a w hs hI hr⟩
    | succ fuel ih =>
      intro l a w hl hs hI hcl
      refine ⟨done l a w hs hI, fun i hi => ?_⟩
      obtain ⟨o, ho, hlt, hn, hneeds⟩ := ready_spec hi
      have hlt' : i < l.size := by rw [hs]; exact hlt
      have hnf : ¬ l.getD i false = true := by
        have : l.getD i true = l.getD i false := by simp [Array.getD, hlt']
        rw [← this, hn]
        decide
      have hst := step i o ho _ a w hI hnf hneeds hcl
      have hS : (fun k => (l.setIfInBounds i true).getD k false = true) = (fun k => k = i ∨ l.getD k false = true) := funext fun k => propext (getD_set hlt')
      have next : ∀ v w', J (fun k => k = i ∨ l.getD k false = true) (a.put o.dst v) w' → wpAny P .any ops Q fuel (l.setIfInBounds i true) (a.put o.dst v) w' := by
        intro v w' hj
        refine ih _ _ _ (by have := left_set (n := ops.size) (l := l) hs hlt hn; omega) (by simpa using hs) (by rw [hS]; exact hj) ?_
        intro k ok hk hlk j hj
        rw [getD_set hlt'] at hlk ⊢
        rcases hlk with rfl | hlk
        · rw [ho] at hk
          obtain rfl := Option.some.inj hk
          exact .inr (hneeds j hj)
        · exact .inr (hcl k ok hk hlk j hj)
      unfold wpOp
      rw [ho]
      simp only
      split at hst
      · rename_i hw
        rw [if_pos hw]
        exact .inl (Does.wp hst next)
      · rename_i hw
        rw [if_neg hw]
        exact next _ _ hst
  have hz : ∀ k, (Array.replicate ops.size false).getD k false = false := by
    intro k
    by_cases hk : k < ops.size
    · simp [Array.getD, hk]
    · simp [Array.getD, hk]
  refine key ops.size _ _ _ ?_ (by simp) ?_ (fun k o _ h => by rw [hz] at h; cases h)
  · unfold leftOf
    refine Nat.le_trans (List.length_filter_le _ _) (by simp)
  · have e : (fun k => (Array.replicate ops.size false).getD k false = true) = (fun _ => False) := funext fun k => propext (Iff.intro (fun h => by rw [hz] at h; cases h) (fun h => False.elim h))
    rw [e]
    exact hJ0

/-- The region in a round. -/
theorem wpIn_region_J {id L n : Nat} (hnd : ndB ops = true) (hm : P.follows .mixedOrders = true) (J : (Nat → Prop) → Act → World → Prop) (hback : backB ops = true) (hJ0 : J (fun _ => False) a0 w0.drew)
    (step : ∀ (i : Nat) (o : Oper), ops[i]? = some o → ∀ (S : Nat → Prop) (a : Act) (w : World), J S a w → ¬ S i → (∀ j, needsB o j = true → S j) → (∀ k ok, ops[k]? = some ok → S k → ∀ j, needsB ok j = true → S j) →
      if Region.wanted o (yielded ops a.tmps) = true then Does P o a.eval w (fun v w' => J (fun k => k = i ∨ S k) (a.put o.dst v) w') else J (fun k => k = i ∨ S k) (a.put o.dst undef) w)
    (fin : ∀ (a : Act) (w : World) (S : Nat → Prop), J S a w → (∀ i, i < ops.size → S i) → Q .normal a w) :
    (Code.region id ops true).wpIn (Fence.wide.inRound L) n P Q a0 w0 := by
  refine wpIn_region_any hm ?_
  have key : ∀ (fuel : Nat) (l : Array Bool) (a : Act) (w : World), leftOf ops.size l ≤ fuel → l.size = ops.size → J (fun k => l.getD k false = true) a w →
      (∀ k ok, ops[k]? = some ok → l.getD k false = true → ∀ j, needsB ok j = true → l.getD j false = true) → wpAnyIn (Fence.wide.inRound L) n P .any ops Q fuel l a w := by
    have done : ∀ (l : Array Bool) (a : Act) (w : World), l.size = ops.size → J (fun k => l.getD k false = true) a w → Region.ready .any ops l = [] → Q .normal a w := by
      intro l a w hs hI hr
      exact fin a w _ hI (ready_nil hs hback hr)
    intro fuel
    induction fuel with
    | zero =>
      intro l a w hl hs hI hcl
      have hr : Region.ready .any ops l = [] := by
        rw [List.eq_nil_iff_forall_not_mem]
        intro i hi
        obtain ⟨o, ho, hlt, hn, _⟩ := ready_spec hi
        have := left_set (n := ops.size) (l := l) hs hlt hn
        omega
      exact ⟨hr, done l a w hs hI hr⟩
    | succ fuel ih =>
      intro l a w hl hs hI hcl
      refine ⟨done l a w hs hI, fun i hi => ?_⟩
      obtain ⟨o, ho, hlt, hn, hneeds⟩ := ready_spec hi
      have hlt' : i < l.size := by rw [hs]; exact hlt
      have hnf : ¬ l.getD i false = true := by
        have : l.getD i true = l.getD i false := by simp [Array.getD, hlt']
        rw [← this, hn]
        decide
      have hst := step i o ho _ a w hI hnf hneeds hcl
      have hS : (fun k => (l.setIfInBounds i true).getD k false = true) = (fun k => k = i ∨ l.getD k false = true) := funext fun k => propext (getD_set hlt')
      have next : ∀ v w', J (fun k => k = i ∨ l.getD k false = true) (a.put o.dst v) w' → wpAnyIn (Fence.wide.inRound L) n P .any ops Q fuel (l.setIfInBounds i true) (a.put o.dst v) w' := by
        intro v w' hj
        refine ih _ _ _ (by have := left_set (n := ops.size) (l := l) hs hlt hn; omega) (by simpa using hs) (by rw [hS]; exact hj) ?_
        intro k ok hk hlk j hj
        rw [getD_set hlt'] at hlk ⊢
        rcases hlk with rfl | hlk
        · rw [ho] at hk
          obtain rfl := Option.some.inj hk
          exact .inr (hneeds j hj)
        · exact .inr (hcl k ok hk hlk j hj)
      unfold wpOpIn
      rw [ho]
      simp only
      split at hst
      · rename_i hw
        rw [if_pos hw]
        exact Does.wpIn hst (ndB_spec hnd ho) next
      · rename_i hw
        rw [if_neg hw]
        exact ⟨fun _ _ => trivial, next _ _ hst⟩
  have hz : ∀ k, (Array.replicate ops.size false).getD k false = false := by
    intro k
    by_cases hk : k < ops.size
    · simp [Array.getD, hk]
    · simp [Array.getD, hk]
  refine key ops.size _ _ _ ?_ (by simp) ?_ (fun k o _ h => by rw [hz] at h; cases h)
  · unfold leftOf
    refine Nat.le_trans (List.length_filter_le _ _) (by simp)
  · have e : (fun k => (Array.replicate ops.size false).getD k false = true) = (fun _ => False) := funext fun k => propext (Iff.intro (fun h => by rw [hz] at h; cases h) (fun h => False.elim h))
    rw [e]
    exact hJ0

end
end Go.Proofs.YtkkeodlnejckjaaGreat

/- A region whose last operations stand in a forced order: the others in whatever order (each leaves old memory), then these one by one. No condition. -/
namespace Go.Proofs.YtkkeodlnejckjaaGreat
open Go.RowKit
variable {P : Program}

/-- All ahead of an operation lead to it. -/
def coverB (ops : Array Oper) (i : Nat) : Bool := (List.range i).all fun j => (List.range (i + 1)).any fun k => decide (j < k) && (match ops[k]? with
  | some o => needsB o j
  | none => false)
def tailB (ops : Array Oper) (t : Nat) : Bool := decide (t ≤ ops.size) && (List.range ops.size).all fun i => decide (i < t) || coverB ops i
theorem cover_spec {ops : Array Oper} {i : Nat} (h : coverB ops i = true) {l : Array Bool} (hcl : ∀ k o, ops[k]? = some o → l.getD k false = true → ∀ j, needsB o j = true → l.getD j false = true)
    {o : Oper} (ho : ops[i]? = some o) (hn : ∀ j, needsB o j = true → l.getD j false = true) : ∀ j, j < i → l.getD j false = true := by
  have key : ∀ d j, i - j = d → j < i → l.getD j false = true := by
    intro d
    induction d using Nat.strongRecOn with
    | ind d ih =>
      intro j hd hj
      unfold coverB at h
      rw [List.all_eq_true] at h
      have h1 := h j (List.mem_range.2 hj)
      rw [List.any_eq_true] at h1
      obtain ⟨k, hk, h2⟩ := h1
      rw [Bool.and_eq_true, decide_eq_true_eq] at h2
      obtain ⟨hjk, h2⟩ := h2
      have hk1 := List.mem_range.1 hk
      cases hok : ops[k]? with
      | none => rw [hok] at h2; cases h2
      | some ok =>
        rw [hok] at h2
        simp only at h2
        by_cases hki : k = i
        · subst hki
          rw [ho] at hok
          cases hok
          exact hn j h2
        · exact hcl k ok hok (ih (i - k) (by omega) k rfl (by omega)) j h2
  exact fun j hj => key _ j rfl hj
theorem tail_cover {ops : Array Oper} {t : Nat} (h : tailB ops t = true) {i : Nat} (hi : i < ops.size) (ht : t ≤ i) : coverB ops i = true := by
  unfold tailB at h
  rw [Bool.and_eq_true, List.all_eq_true] at h
  have := h.2 i (List.mem_range.2 hi)
  rw [Bool.or_eq_true, decide_eq_true_eq] at this
  rcases this with h1 | h1
  · omega
  · exact h1
section
variable {ops : Array Oper} {Q : Exit → Act → World → Prop} {F : Nat → Value → World → Prop} {a0 : Act} {w0 : World}
/-- A frame behind the operations ahead of the tail. -/
theorem frame_ofP {p : Tmp → Bool} {a a0 : Act} (hd : a.defers = a0.defers) (hs : a.tmps.size = a0.tmps.size) (hrest : ∀ t, p t = false → a.tmps.getD t undef = a0.tmps.getD t undef)
    (L : List Nat) (hL : ((List.range a0.tmps.size).all fun t => p t == L.contains t) = true) : a = ⟨L.foldl (fun x d => x.setIfInBounds d (a.tmps.getD d undef)) a0.tmps, a0.defers⟩ := by
  obtain ⟨tm, df⟩ := a
  simp only at hd hs hrest ⊢
  subst hd
  congr 1
  have hall := List.all_eq_true.1 hL
  apply Array.ext
  · by_cases h0 : a0.tmps.size = 0
    · rw [hs]
      have : ∀ (L : List Nat) (x : Array Value), (L.foldl (fun x d => x.setIfInBounds d (tm.getD d undef)) x).size = x.size := by
        intro L
        induction L with
        | nil => intro x; rfl
        | cons d L ih => intro x; rw [List.foldl_cons, ih]; simp
      exact (this L a0.tmps).symm
    · rw [(foldl_set_getD (fun d => tm.getD d undef) L a0.tmps 0 (by omega)).1, hs]
  · intro t h1 h2
    have ht : t < a0.tmps.size := by omega
    have h3 := (foldl_set_getD (fun d => tm.getD d undef) L a0.tmps t ht).2
    have hw := hall t (List.mem_range.2 ht)
    rw [beq_iff_eq] at hw
    refine ((getD_at tm t h1).symm.trans (Eq.trans ?_ h3.symm)).trans (getD_at _ t h2)
    by_cases hm : t ∈ L
    · rw [if_pos hm]
    · rw [if_neg hm]
      exact hrest t (by rw [hw]; simpa using hm)
/-- Does a region write a slot, ahead of the tail? -/
def writesT (ops : Array Oper) (t : Nat) (x : Tmp) : Bool := (List.range t).any fun i => match ops[i]? with
  | some o => o.dst == some x
  | none => false
theorem writesT_not {ops : Array Oper} {t : Nat} {x : Tmp} (h : writesT ops t x = false) (i : Nat) (o : Oper) (ho : ops[i]? = some o) (hi : i < t) : o.dst ≠ some x := by
  intro hd
  have : writesT ops t x = true := by
    unfold writesT
    rw [List.any_eq_true]
    exact ⟨i, List.mem_range.2 hi, by rw [ho]; simp [hd]⟩
  rw [h] at this
  cases this

theorem seq_tail {t : Nat} (hback : backB ops = true) (ht : tailB ops t = true) : ∀ (d s : Nat) (l : Array Bool) (a : Act) (w : World) (fuel : Nat), ops.size - s = d → leftOf ops.size l ≤ fuel → l.size = ops.size → t ≤ s → s ≤ ops.size → (∀ k, l.getD k false = true ↔ k < s) →
    wpList P ops Q (ops.toList.drop s) a w → wpAny P .any ops Q fuel l a w := by
  intro d
  induction d with
  | zero =>
    intro s l a w fuel hd hl hs h1 h2 hk h
    obtain rfl : s = ops.size := by omega
    rw [List.drop_of_length_le (by simp)] at h
    have hr : Region.ready .any ops l = [] := by
      rw [List.eq_nil_iff_forall_not_mem]
      intro i hi
      obtain ⟨o, ho, hlt, hn, _⟩ := ready_spec hi
      have : l.getD i true = l.getD i false := by simp [Array.getD, hs, hlt]
      rw [this] at hn
      rw [(hk i).2 hlt] at hn
      cases hn
    cases fuel with
    | zero => exact ⟨hr, h⟩
    | succ fuel => exact ⟨fun _ => h, fun i hi => by rw [hr] at hi; cases hi⟩
  | succ d ih =>
    intro s l a w fuel hd hl hs h1 h2 hk h
    have hlt : s < ops.size := by omega
    have hns : l.getD s false = false := by
      cases hb : l.getD s false with
      | false => rfl
      | true => have := (hk s).1 hb; omega
    have hnr : ¬ Region.ready .any ops l = [] := by
      intro hr
      have := ready_nil hs hback hr s hlt
      rw [hns] at this; cases this
    have hsl : l.getD s true = false := by
      have : l.getD s true = l.getD s false := by simp [Array.getD, hs, hlt]
      rw [this, hns]
    cases fuel with
    | zero =>
      exfalso
      have := left_set (n := ops.size) (l := l) hs hlt hsl
      omega
    | succ fuel =>
      refine ⟨fun hr => absurd hr hnr, fun i hi => ?_⟩
      obtain ⟨o, ho, hilt, hn, hneeds⟩ := ready_spec hi
      have hni : l.getD i false = false := by
        have : l.getD i true = l.getD i false := by simp [Array.getD, hs, hilt]
        rw [← this]; exact hn
      have his : i = s := by
        rcases Nat.lt_trichotomy i s with h3 | h3 | h3
        · rw [(hk i).2 h3] at hni; cases hni
        · exact h3
        · have hc : ∀ k o, ops[k]? = some o → l.getD k false = true → ∀ j, needsB o j = true → l.getD j false = true := by
            intro k ok hok hkl j hj
            refine (hk j).2 ?_
            have hkl' := (hk k).1 hkl
            unfold backB at hback
            rw [List.all_eq_true] at hback
            have h4 := hback k (List.mem_range.2 (Array.getElem?_eq_some_iff.1 hok).1)
            rw [hok] at h4
            simp only at h4
            unfold needsB at hj
            rw [Array.any_eq_true] at hj
            obtain ⟨q, hq, h5⟩ := hj
            rw [Array.all_eq_true] at h4
            have h6 := h4 q hq
            rw [Bool.and_eq_true, beq_iff_eq] at h5
            rw [h5.1] at h6
            simp at h6
            omega
          have := cover_spec (tail_cover ht hilt (by omega)) hc ho hneeds s h3
          rw [hns] at this; cases this
      subst his
      have hdrop : ops.toList.drop i = o :: ops.toList.drop (i + 1) := by
        have hl' : i < ops.toList.length := by simpa using hilt
        rw [List.drop_eq_getElem_cons hl']
        congr 1
        have := (Array.getElem?_eq_some_iff.1 ho).2
        simpa using this
      rw [hdrop] at h
      have next : ∀ a' w', wpList P ops Q (ops.toList.drop (i + 1)) a' w' → wpAny P .any ops Q fuel (l.setIfInBounds i true) a' w' := by
        intro a' w' h'
        refine ih (i + 1) _ a' w' fuel (by omega) (by have := left_set (n := ops.size) (l := l) hs hlt hsl; omega) (by simpa using hs) (by omega) (by omega) ?_ h'
        intro k
        rw [getD_set (by rw [hs]; exact hlt), hk k]
        omega
      unfold wpOp
      rw [ho]
      simp only
      simp only [wpList] at h
      split at h
      · rename_i hw
        rw [if_pos hw]
        rcases h with h | h
        · exact .inl (Oper.wp_mono next h)
        · exact .inr h
      · rename_i hw
        rw [if_neg hw]
        exact next _ _ h

/-- THE REGION: F i says what operation i yields; it lasts while nothing old is written. -/
theorem wp_region_flowT {id : Nat} (t : Nat) (ht : tailB ops t = true) (hm : P.follows .mixedOrders = true) (F : Nat → Value → World → Prop)
    (hF : ∀ i v w w', Below w.heap.size w w' → F i v w → F i v w') (hback : backB ops = true) (honce : onceB ops a0.tmps.size = true)
    (step : ∀ (i : Nat) (o : Oper), i < t → ops[i]? = some o → ∀ (ρ : Operand → Value) (y : Nat → Option Bool) (w : World), Below w0.heap.size w0 w → Plain ρ →
      (∀ (j : Nat) (o' : Oper) (d : Tmp), ops[j]? = some o' → needsB o j = true → o'.dst = some d → F j (ρ (.tmp d)) w) →
      (∀ (t : Tmp), freeB ops i t = true → ρ (.tmp t) = a0.tmps.getD t undef) →
      (∀ (j : Nat) (o' : Oper) (d : Tmp) (b : Bool), ops[j]? = some o' → o'.dst = some d → ρ (.tmp d) = .bool b → y j = some b) →
      (∀ (j : Nat) (o' : Oper) (d : Tmp), ops[j]? = some o' → o'.dst = some d → ρ (.tmp d) = undef → y j = none) →
      if Region.wanted o y = true then Does P o ρ w (fun v w' => F i v w' ∧ Below w.heap.size w w') else F i undef w)
    (fin : ∀ (a : Act) (w : World), Below w0.heap.size w0 w → a.defers = a0.defers → a.tmps.size = a0.tmps.size → (∀ (i : Nat) (o : Oper) (d : Tmp), i < t → ops[i]? = some o → o.dst = some d → F i (a.tmps.getD d undef) w) →
      (∀ (x : Tmp), writesT ops t x = false → a.tmps.getD x undef = a0.tmps.getD x undef) → wpList P ops Q (ops.toList.drop t) a w) :
    (Code.region id ops true).wp P Q a0 w0 := by
  refine wp_region_any hm ?_
  have key : ∀ (fuel : Nat) (l : Array Bool) (a : Act) (w : World), leftOf ops.size l ≤ fuel → FlowInv ops F a0 w0 l a w → (∀ k, l.getD k false = true → k < t) → wpAny P .any ops Q fuel l a w := by
    have hts : t ≤ ops.size := by
      unfold tailB at ht
      rw [Bool.and_eq_true, decide_eq_true_eq] at ht
      exact ht.1
    have full : ∀ (l : Array Bool) (a : Act) (w : World) (fuel : Nat), leftOf ops.size l ≤ fuel → FlowInv ops F a0 w0 l a w → (∀ k, l.getD k false = true → k < t) → (∀ k, k < t → l.getD k false = true) → wpAny P .any ops Q fuel l a w := by
      intro l a w fuel hl hI hlt hall
      refine seq_tail hback ht _ t l a w fuel rfl hl hI.size (Nat.le_refl _) hts (fun k => ⟨hlt k, hall k⟩) ?_
      refine fin a w hI.below hI.defers hI.tmps (fun i o d hit ho hd => hI.facts i o d ho (hall i hit) hd) (fun x hx => hI.rest x fun i o ho hl' hd => ?_)
      have := writesT_not hx i o ho (hlt i hl')
      exact this hd
    intro fuel
    induction fuel with
    | zero =>
      intro l a w hl hI hbt
      refine full l a w 0 hl hI hbt fun k hk => ?_
      cases hlk : l.getD k false with
      | true => rfl
      | false =>
        exfalso
        have := left_set (n := ops.size) (l := l) (i := k) hI.size (by omega) (by
          have e : l.getD k true = l.getD k false := by simp [Array.getD, hI.size, show k < ops.size by omega]
          rw [e, hlk])
        omega
    | succ fuel ih =>
      intro l a w hl hI hbt
      by_cases hall : ∀ k, k < t → l.getD k false = true
      · exact full l a w _ hl hI hbt hall
      have hnr : ¬ Region.ready .any ops l = [] := fun hr => hall fun k hk => ready_nil hI.size hback hr k (by omega)
      refine ⟨fun hr => absurd hr hnr, fun i hi => ?_⟩
      obtain ⟨o, ho, hlt, hn, hneeds⟩ := ready_spec hi
      have hlt' : i < l.size := by rw [hI.size]; exact hlt
      have hnf : l.getD i false = false := by
        have : l.getD i true = l.getD i false := by simp [Array.getD, hlt']
        rw [← this]; exact hn
      have hit : i < t := by
        rcases Nat.lt_or_ge i t with h1 | h1
        · exact h1
        · exfalso
          exact hall fun k hk => cover_spec (tail_cover ht hlt h1) hI.closed ho hneeds k (by omega)
      have hdl : ∀ (j : Nat) (o' : Oper) (d : Tmp), ops[j]? = some o' → o'.dst = some d → d < a.tmps.size := by
        intro j o' d hj hd
        have hon := List.all_eq_true.1 honce j (List.mem_range.2 (Array.getElem?_eq_some_iff.1 hj).1)
        rw [hj] at hon
        simp only [hd, Bool.and_eq_true, decide_eq_true_eq] at hon
        rw [hI.tmps]
        exact hon.1
      have hyv : ∀ (j : Nat) (o' : Oper) (d : Tmp), ops[j]? = some o' → o'.dst = some d → yielded ops a.tmps j = (match a.tmps.getD d undef with
          | .bool b => some b
          | _ => none) := by
        intro j o' d hj hd
        have hlt2 := hdl j o' d hj hd
        unfold yielded
        rw [hj]
        simp only [Option.bind_some, hd]
        have e : a.tmps.getD d undef = a.tmps[d] := by simp [Array.getD, hlt2]
        rw [Array.getElem?_eq_getElem hlt2, e]
        generalize a.tmps[d] = v
        cases v <;> rfl
      have hst := step i o hit ho a.eval (yielded ops a.tmps) w hI.below ⟨fun _ => rfl, fun _ => rfl, fun _ => rfl⟩ (fun j o' d hj hnj hd => hI.facts j o' d hj (hneeds j hnj) hd)
        (fun t hfree => hI.rest t fun k ok hk hlk hdk => by
          unfold freeB at hfree
          rw [List.all_eq_true] at hfree
          have h1 := hfree k (List.mem_range.2 (Array.getElem?_eq_some_iff.1 hk).1)
          rw [hk] at h1
          simp only [Bool.or_eq_true] at h1
          rcases h1 with (h1 | h1) | h1
          · simp [hdk] at h1
          · rw [beq_iff_eq] at h1
            subst h1
            rw [hnf] at hlk; cases hlk
          · rw [hI.closed k ok hk hlk i h1] at hnf; cases hnf)
        (fun j o' d b hj hd hb => by
          rw [hyv j o' d hj hd]
          have hb' : a.tmps.getD d undef = .bool b := hb
          rw [hb'])
        (fun j o' d hj hd hb => by
          rw [hyv j o' d hj hd]
          have hb' : a.tmps.getD d undef = undef := hb
          rw [hb']
          rfl)
      have next : ∀ v w', F i v w' → Below w.heap.size w w' → wpAny P .any ops Q fuel (l.setIfInBounds i true) (a.put o.dst v) w' := by
        intro v w' hv hb
        refine ih _ _ _ (by have := left_set (n := ops.size) (l := l) hI.size hlt hn; omega) ?_ (fun k hk => by
          rw [getD_set hlt'] at hk
          rcases hk with rfl | hk
          · exact hit
          · exact hbt k hk)
        refine ⟨by simpa using hI.size, hI.below.trans (hb.mono hI.below.size), ?_, ?_, ?_, ?_, ?_⟩
        · rw [← hI.defers]; cases o.dst <;> rfl
        · rw [← hI.tmps]; cases o.dst <;> simp [Act.put]
        · intro k ok hk hlk j hj
          rw [getD_set hlt'] at hlk ⊢
          rcases hlk with rfl | hlk
          · rw [ho] at hk
            obtain rfl := Option.some.inj hk
            exact .inr (hneeds j hj)
          · exact .inr (hI.closed k ok hk hlk j hj)
        · intro k ok d hk hlk hd
          have hon := List.all_eq_true.1 honce k (List.mem_range.2 (Array.getElem?_eq_some_iff.1 hk).1)
          rw [hk] at hon
          simp only [hd, Bool.and_eq_true, decide_eq_true_eq] at hon
          obtain ⟨hdl, hon⟩ := hon
          rw [List.all_eq_true] at hon
          rw [getD_set hlt'] at hlk
          rcases hlk with rfl | hlk
          · rw [ho] at hk
            obtain rfl := Option.some.inj hk
            rw [hd, put_getD (by rw [hI.tmps]; exact hdl), if_pos rfl]
            exact hv
          · have hne : o.dst ≠ some d := by
              have h1 := hon i (List.mem_range.2 hlt)
              rw [ho] at h1
              simp only [Bool.or_eq_true, beq_iff_eq] at h1
              rcases h1 with rfl | h1
              · rw [hnf] at hlk; cases hlk
              · simpa using h1
            have he : (a.put o.dst v).tmps.getD d undef = a.tmps.getD d undef := by
              cases hod : o.dst with
              | none => rfl
              | some d' =>
                have hi2 := List.all_eq_true.1 honce i (List.mem_range.2 hlt)
                rw [ho] at hi2
                simp only [hod, Bool.and_eq_true, decide_eq_true_eq] at hi2
                rw [put_getD (by rw [hI.tmps]; exact hi2.1), if_neg]
                rintro rfl
                exact hne hod
            rw [he]
            exact hF _ _ _ _ hb (hI.facts k ok d hk hlk hd)
        · intro t ht
          have hne : o.dst ≠ some t := ht i o ho (by rw [getD_set hlt']; exact .inl rfl)
          have he : (a.put o.dst v).tmps.getD t undef = a.tmps.getD t undef := by
            cases hod : o.dst with
            | none => rfl
            | some d' =>
              have hi2 := List.all_eq_true.1 honce i (List.mem_range.2 hlt)
              rw [ho] at hi2
              simp only [hod, Bool.and_eq_true, decide_eq_true_eq] at hi2
              rw [put_getD (by rw [hI.tmps]; exact hi2.1), if_neg]
              rintro rfl
              exact hne hod
          rw [he]
          exact hI.rest t fun k ok hk hlk => ht k ok hk (by rw [getD_set hlt']; exact .inr hlk)
      unfold wpOp
      rw [ho]
      simp only
      split at hst
      · rename_i hw
        rw [if_pos hw]
        exact .inl (Does.wp hst fun v w' ⟨h1, h2⟩ => next v w' h1 h2)
      · rename_i hw
        rw [if_neg hw]
        exact next _ _ hst (Below.refl _ _)
  have hz0 : ∀ k, (Array.replicate ops.size false).getD k false = false := by
    intro k
    by_cases hk : k < ops.size
    · simp [Array.getD, hk]
    · simp [Array.getD, hk]
  refine key ops.size _ _ _ ?_ ?_ (fun k h => by rw [hz0] at h; cases h)
  · unfold leftOf
    refine Nat.le_trans (List.length_filter_le _ _) (by simp)
  · have hz : ∀ k, (Array.replicate ops.size false).getD k false = false := by
      intro k
      by_cases hk : k < ops.size
      · simp [Array.getD, hk]
      · simp [Array.getD, hk]
    refine ⟨by simp, (Below.refl _ _).drew, rfl, rfl, fun k o _ h => ?_, fun i o d _ h => ?_, fun t _ => rfl⟩
    · rw [hz] at h; cases h
    · rw [hz] at h; cases h



theorem seq_tailIn {L n : Nat} {t : Nat} (hback : backB ops = true) (ht : tailB ops t = true) : ∀ (d s : Nat) (l : Array Bool) (a : Act) (w : World) (fuel : Nat), ops.size - s = d → leftOf ops.size l ≤ fuel → l.size = ops.size → t ≤ s → s ≤ ops.size → (∀ k, l.getD k false = true ↔ k < s) →
    wpListIn (Fence.wide.inRound L) n P ops Q (ops.toList.drop s) a w → wpAnyIn (Fence.wide.inRound L) n P .any ops Q fuel l a w := by
  intro d
  induction d with
  | zero =>
    intro s l a w fuel hd hl hs h1 h2 hk h
    obtain rfl : s = ops.size := by omega
    rw [List.drop_of_length_le (by simp)] at h
    have hr : Region.ready .any ops l = [] := by
      rw [List.eq_nil_iff_forall_not_mem]
      intro i hi
      obtain ⟨o, ho, hlt, hn, _⟩ := ready_spec hi
      have : l.getD i true = l.getD i false := by simp [Array.getD, hs, hlt]
      rw [this] at hn
      rw [(hk i).2 hlt] at hn
      cases hn
    cases fuel with
    | zero => exact ⟨hr, h⟩
    | succ fuel => exact ⟨fun _ => h, fun i hi => by rw [hr] at hi; cases hi⟩
  | succ d ih =>
    intro s l a w fuel hd hl hs h1 h2 hk h
    have hlt : s < ops.size := by omega
    have hns : l.getD s false = false := by
      cases hb : l.getD s false with
      | false => rfl
      | true => have := (hk s).1 hb; omega
    have hnr : ¬ Region.ready .any ops l = [] := by
      intro hr
      have := ready_nil hs hback hr s hlt
      rw [hns] at this; cases this
    have hsl : l.getD s true = false := by
      have : l.getD s true = l.getD s false := by simp [Array.getD, hs, hlt]
      rw [this, hns]
    cases fuel with
    | zero =>
      exfalso
      have := left_set (n := ops.size) (l := l) hs hlt hsl
      omega
    | succ fuel =>
      refine ⟨fun hr => absurd hr hnr, fun i hi => ?_⟩
      obtain ⟨o, ho, hilt, hn, hneeds⟩ := ready_spec hi
      have hni : l.getD i false = false := by
        have : l.getD i true = l.getD i false := by simp [Array.getD, hs, hilt]
        rw [← this]; exact hn
      have his : i = s := by
        rcases Nat.lt_trichotomy i s with h3 | h3 | h3
        · rw [(hk i).2 h3] at hni; cases hni
        · exact h3
        · have hc : ∀ k o, ops[k]? = some o → l.getD k false = true → ∀ j, needsB o j = true → l.getD j false = true := by
            intro k ok hok hkl j hj
            refine (hk j).2 ?_
            have hkl' := (hk k).1 hkl
            unfold backB at hback
            rw [List.all_eq_true] at hback
            have h4 := hback k (List.mem_range.2 (Array.getElem?_eq_some_iff.1 hok).1)
            rw [hok] at h4
            simp only at h4
            unfold needsB at hj
            rw [Array.any_eq_true] at hj
            obtain ⟨q, hq, h5⟩ := hj
            rw [Array.all_eq_true] at h4
            have h6 := h4 q hq
            rw [Bool.and_eq_true, beq_iff_eq] at h5
            rw [h5.1] at h6
            simp at h6
            omega
          have := cover_spec (tail_cover ht hilt (by omega)) hc ho hneeds s h3
          rw [hns] at this; cases this
      subst his
      have hdrop : ops.toList.drop i = o :: ops.toList.drop (i + 1) := by
        have hl' : i < ops.toList.length := by simpa using hilt
        rw [List.drop_eq_getElem_cons hl']
        congr 1
        have := (Array.getElem?_eq_some_iff.1 ho).2
        simpa using this
      rw [hdrop] at h
      have next : ∀ a' w', wpListIn (Fence.wide.inRound L) n P ops Q (ops.toList.drop (i + 1)) a' w' → wpAnyIn (Fence.wide.inRound L) n P .any ops Q fuel (l.setIfInBounds i true) a' w' := by
        intro a' w' h'
        refine ih (i + 1) _ a' w' fuel (by omega) (by have := left_set (n := ops.size) (l := l) hs hlt hsl; omega) (by simpa using hs) (by omega) (by omega) ?_ h'
        intro k
        rw [getD_set (by rw [hs]; exact hlt), hk k]
        omega
      unfold wpOpIn
      rw [ho]
      simp only
      simp only [wpListIn] at h
      split at h
      · rename_i hw
        rw [if_pos hw]
        exact Oper.wpIn_mono next h
      · rename_i hw
        rw [if_neg hw]
        exact ⟨h.1, next _ _ h.2⟩

/-- THE REGION: F i says what operation i yields; it lasts while nothing old is written. -/
theorem wpIn_region_flowT {id L n : Nat} (hnd : ndB ops = true) (t : Nat) (ht : tailB ops t = true) (hm : P.follows .mixedOrders = true) (F : Nat → Value → World → Prop)
    (hF : ∀ i v w w', Below w.heap.size w w' → F i v w → F i v w') (hback : backB ops = true) (honce : onceB ops a0.tmps.size = true)
    (step : ∀ (i : Nat) (o : Oper), i < t → ops[i]? = some o → ∀ (ρ : Operand → Value) (y : Nat → Option Bool) (w : World), Below w0.heap.size w0 w → Plain ρ →
      (∀ (j : Nat) (o' : Oper) (d : Tmp), ops[j]? = some o' → needsB o j = true → o'.dst = some d → F j (ρ (.tmp d)) w) →
      (∀ (t : Tmp), freeB ops i t = true → ρ (.tmp t) = a0.tmps.getD t undef) →
      (∀ (j : Nat) (o' : Oper) (d : Tmp) (b : Bool), ops[j]? = some o' → o'.dst = some d → ρ (.tmp d) = .bool b → y j = some b) →
      (∀ (j : Nat) (o' : Oper) (d : Tmp), ops[j]? = some o' → o'.dst = some d → ρ (.tmp d) = undef → y j = none) →
      if Region.wanted o y = true then Does P o ρ w (fun v w' => F i v w' ∧ Below w.heap.size w w') else F i undef w)
    (fin : ∀ (a : Act) (w : World), Below w0.heap.size w0 w → a.defers = a0.defers → a.tmps.size = a0.tmps.size → (∀ (i : Nat) (o : Oper) (d : Tmp), i < t → ops[i]? = some o → o.dst = some d → F i (a.tmps.getD d undef) w) →
      (∀ (x : Tmp), writesT ops t x = false → a.tmps.getD x undef = a0.tmps.getD x undef) → wpListIn (Fence.wide.inRound L) n P ops Q (ops.toList.drop t) a w) :
    (Code.region id ops true).wpIn (Fence.wide.inRound L) n P Q a0 w0 := by
  refine wpIn_region_any hm ?_
  have key : ∀ (fuel : Nat) (l : Array Bool) (a : Act) (w : World), leftOf ops.size l ≤ fuel → FlowInv ops F a0 w0 l a w → (∀ k, l.getD k false = true → k < t) → wpAnyIn (Fence.wide.inRound L) n P .any ops Q fuel l a w := by
    have hts : t ≤ ops.size := by
      unfold tailB at ht
      rw [Bool.and_eq_true, decide_eq_true_eq] at ht
      exact ht.1
    have full : ∀ (l : Array Bool) (a : Act) (w : World) (fuel : Nat), leftOf ops.size l ≤ fuel → FlowInv ops F a0 w0 l a w → (∀ k, l.getD k false = true → k < t) → (∀ k, k < t → l.getD k false = true) → wpAnyIn (Fence.wide.inRound L) n P .any ops Q fuel l a w := by
      intro l a w fuel hl hI hlt hall
      refine seq_tailIn hback ht _ t l a w fuel rfl hl hI.size (Nat.le_refl _) hts (fun k => ⟨hlt k, hall k⟩) ?_
      refine fin a w hI.below hI.defers hI.tmps (fun i o d hit ho hd => hI.facts i o d ho (hall i hit) hd) (fun x hx => hI.rest x fun i o ho hl' hd => ?_)
      have := writesT_not hx i o ho (hlt i hl')
      exact this hd
    intro fuel
    induction fuel with
    | zero =>
      intro l a w hl hI hbt
      refine full l a w 0 hl hI hbt fun k hk => ?_
      cases hlk : l.getD k false with
      | true => rfl
      | false =>
        exfalso
        have := left_set (n := ops.size) (l := l) (i := k) hI.size (by omega) (by
          have e : l.getD k true = l.getD k false := by simp [Array.getD, hI.size, show k < ops.size by omega]
          rw [e, hlk])
        omega
    | succ fuel ih =>
      intro l a w hl hI hbt
      by_cases hall : ∀ k, k < t → l.getD k false = true
      · exact full l a w _ hl hI hbt hall
      have hnr : ¬ Region.ready .any ops l = [] := fun hr => hall fun k hk => ready_nil hI.size hback hr k (by omega)
      refine ⟨fun hr => absurd hr hnr, fun i hi => ?_⟩
      obtain ⟨o, ho, hlt, hn, hneeds⟩ := ready_spec hi
      have hlt' : i < l.size := by rw [hI.size]; exact hlt
      have hnf : l.getD i false = false := by
        have : l.getD i true = l.getD i false := by simp [Array.getD, hlt']
        rw [← this]; exact hn
      have hit : i < t := by
        rcases Nat.lt_or_ge i t with h1 | h1
        · exact h1
        · exfalso
          exact hall fun k hk => cover_spec (tail_cover ht hlt h1) hI.closed ho hneeds k (by omega)
      have hdl : ∀ (j : Nat) (o' : Oper) (d : Tmp), ops[j]? = some o' → o'.dst = some d → d < a.tmps.size := by
        intro j o' d hj hd
        have hon := List.all_eq_true.1 honce j (List.mem_range.2 (Array.getElem?_eq_some_iff.1 hj).1)
        rw [hj] at hon
        simp only [hd, Bool.and_eq_true, decide_eq_true_eq] at hon
        rw [hI.tmps]
        exact hon.1
      have hyv : ∀ (j : Nat) (o' : Oper) (d : Tmp), ops[j]? = some o' → o'.dst = some d → yielded ops a.tmps j = (match a.tmps.getD d undef with
          | .bool b => some b
          | _ => none) := by
        intro j o' d hj hd
        have hlt2 := hdl j o' d hj hd
        unfold yielded
        rw [hj]
        simp only [Option.bind_some, hd]
        have e : a.tmps.getD d undef = a.tmps[d] := by simp [Array.getD, hlt2]
        rw [Array.getElem?_eq_getElem hlt2, e]
        generalize a.tmps[d] = v
        cases v <;> rfl
      have hst := step i o hit ho a.eval (yielded ops a.tmps) w hI.below ⟨fun _ => rfl, fun _ => rfl, fun _ => rfl⟩ (fun j o' d hj hnj hd => hI.facts j o' d hj (hneeds j hnj) hd)
        (fun t hfree => hI.rest t fun k ok hk hlk hdk => by
          unfold freeB at hfree
          rw [List.all_eq_true] at hfree
          have h1 := hfree k (List.mem_range.2 (Array.getElem?_eq_some_iff.1 hk).1)
          rw [hk] at h1
          simp only [Bool.or_eq_true] at h1
          rcases h1 with (h1 | h1) | h1
          · simp [hdk] at h1
          · rw [beq_iff_eq] at h1
            subst h1
            rw [hnf] at hlk; cases hlk
          · rw [hI.closed k ok hk hlk i h1] at hnf; cases hnf)
        (fun j o' d b hj hd hb => by
          rw [hyv j o' d hj hd]
          have hb' : a.tmps.getD d undef = .bool b := hb
          rw [hb'])
        (fun j o' d hj hd hb => by
          rw [hyv j o' d hj hd]
          have hb' : a.tmps.getD d undef = undef := hb
          rw [hb']
          rfl)
      have next : ∀ v w', F i v w' → Below w.heap.size w w' → wpAnyIn (Fence.wide.inRound L) n P .any ops Q fuel (l.setIfInBounds i true) (a.put o.dst v) w' := by
        intro v w' hv hb
        refine ih _ _ _ (by have := left_set (n := ops.size) (l := l) hI.size hlt hn; omega) ?_ (fun k hk => by
          rw [getD_set hlt'] at hk
          rcases hk with rfl | hk
          · exact hit
          · exact hbt k hk)
        refine ⟨by simpa using hI.size, hI.below.trans (hb.mono hI.below.size), ?_, ?_, ?_, ?_, ?_⟩
        · rw [← hI.defers]; cases o.dst <;> rfl
        · rw [← hI.tmps]; cases o.dst <;> simp [Act.put]
        · intro k ok hk hlk j hj
          rw [getD_set hlt'] at hlk ⊢
          rcases hlk with rfl | hlk
          · rw [ho] at hk
            obtain rfl := Option.some.inj hk
            exact .inr (hneeds j hj)
          · exact .inr (hI.closed k ok hk hlk j hj)
        · intro k ok d hk hlk hd
          have hon := List.all_eq_true.1 honce k (List.mem_range.2 (Array.getElem?_eq_some_iff.1 hk).1)
          rw [hk] at hon
          simp only [hd, Bool.and_eq_true, decide_eq_true_eq] at hon
          obtain ⟨hdl, hon⟩ := hon
          rw [List.all_eq_true] at hon
          rw [getD_set hlt'] at hlk
          rcases hlk with rfl | hlk
          · rw [ho] at hk
            obtain rfl := Option.some.inj hk
            rw [hd, put_getD (by rw [hI.tmps]; exact hdl), if_pos rfl]
            exact hv
          · have hne : o.dst ≠ some d := by
              have h1 := hon i (List.mem_range.2 hlt)
              rw [ho] at h1
              simp only [Bool.or_eq_true, beq_iff_eq] at h1
              rcases h1 with rfl | h1
              · rw [hnf] at hlk; cases hlk
              · simpa using h1
            have he : (a.put o.dst v).tmps.getD d undef = a.tmps.getD d undef := by
              cases hod : o.dst with
              | none => rfl
              | some d' =>
                have hi2 := List.all_eq_true.1 honce i (List.mem_range.2 hlt)
                rw [ho] at hi2
                simp only [hod, Bool.and_eq_true, decide_eq_true_eq] at hi2
                rw [put_getD (by rw [hI.tmps]; exact hi2.1), if_neg]
                rintro rfl
                exact hne hod
            rw [he]
            exact hF _ _ _ _ hb (hI.facts k ok d hk hlk hd)
        · intro t ht
          have hne : o.dst ≠ some t := ht i o ho (by rw [getD_set hlt']; exact .inl rfl)
          have he : (a.put o.dst v).tmps.getD t undef = a.tmps.getD t undef := by
            cases hod : o.dst with
            | none => rfl
            | some d' =>
              have hi2 := List.all_eq_true.1 honce i (List.mem_range.2 hlt)
              rw [ho] at hi2
              simp only [hod, Bool.and_eq_true, decide_eq_true_eq] at hi2
              rw [put_getD (by rw [hI.tmps]; exact hi2.1), if_neg]
              rintro rfl
              exact hne hod
          rw [he]
          exact hI.rest t fun k ok hk hlk => ht k ok hk (by rw [getD_set hlt']; exact .inr hlk)
      unfold wpOpIn
      rw [ho]
      simp only
      split at hst
      · rename_i hw
        rw [if_pos hw]
        exact Does.wpIn hst (ndB_spec hnd ho) fun v w' ⟨h1, h2⟩ => next v w' h1 h2
      · rename_i hw
        rw [if_neg hw]
        exact ⟨fun _ _ => trivial, next _ _ hst (Below.refl _ _)⟩
  have hz0 : ∀ k, (Array.replicate ops.size false).getD k false = false := by
    intro k
    by_cases hk : k < ops.size
    · simp [Array.getD, hk]
    · simp [Array.getD, hk]
  refine key ops.size _ _ _ ?_ ?_ (fun k h => by rw [hz0] at h; cases h)
  · unfold leftOf
    refine Nat.le_trans (List.length_filter_le _ _) (by simp)
  · have hz : ∀ k, (Array.replicate ops.size false).getD k false = false := by
      intro k
      by_cases hk : k < ops.size
      · simp [Array.getD, hk]
      · simp [Array.getD, hk]
    refine ⟨by simp, (Below.refl _ _).drew, rfl, rfl, fun k o _ h => ?_, fun i o d _ h => ?_, fun t _ => rfl⟩
    · rw [hz] at h; cases h
    · rw [hz] at h; cases h


end
end Go.Proofs.YtkkeodlnejckjaaGreat

/- A region that draws its order, by an invariant on what has come up, on the values and on the world. -/
namespace Go.Proofs.YtkkeodlnejckjaaGreat
open Go.RowKit
set_option linter.unusedVariables false
variable {P : Program}
section
variable {ops : Array Oper} {Q : Exit → Act → World → Prop} {a0 : Act} {w0 : World}
def upd (r : Nat → Value) (i : Nat) (v : Value) : Nat → Value := fun k => if k = i then v else r k
structure FlowInvG (ops : Array Oper) (a0 : Act) (J : (Nat → Prop) → (Nat → Value) → World → Prop) (l : Array Bool) (r : Nat → Value) (a : Act) (w : World) : Prop where
  size : l.size = ops.size
  inv : J (fun k => l.getD k false = true) r w
  defers : a.defers = a0.defers
  tmps : a.tmps.size = a0.tmps.size
  closed : ∀ k o, ops[k]? = some o → l.getD k false = true → ∀ j, needsB o j = true → l.getD j false = true
  facts : ∀ i o d, ops[i]? = some o → l.getD i false = true → o.dst = some d → a.tmps.getD d undef = r i
  rest : ∀ t, (∀ i o, ops[i]? = some o → l.getD i false = true → o.dst ≠ some t) → a.tmps.getD t undef = a0.tmps.getD t undef
theorem wp_region_flowG {id : Nat} (hm : P.follows .mixedOrders = true) (J : (Nat → Prop) → (Nat → Value) → World → Prop)
    (hJ0 : ∀ r, J (fun _ => False) r w0.drew) (hback : backB ops = true) (honce : onceB ops a0.tmps.size = true)
    (step : ∀ (i : Nat) (o : Oper), ops[i]? = some o → ∀ (ρ : Operand → Value) (y : Nat → Option Bool) (w : World) (S : Nat → Prop) (r : Nat → Value), J S r w → ¬ S i → (∀ j, needsB o j = true → S j) → (∀ k ok, ops[k]? = some ok → S k → ∀ j, needsB ok j = true → S j) → Plain ρ →
      (∀ (j : Nat) (o' : Oper) (d : Tmp), ops[j]? = some o' → needsB o j = true → o'.dst = some d → ρ (.tmp d) = r j) →
      (∀ (t : Tmp), freeB ops i t = true → ρ (.tmp t) = a0.tmps.getD t undef) →
      (∀ (j : Nat) (o' : Oper) (d : Tmp) (b : Bool), ops[j]? = some o' → o'.dst = some d → ρ (.tmp d) = .bool b → y j = some b) →
      (∀ (j : Nat) (o' : Oper) (d : Tmp), ops[j]? = some o' → o'.dst = some d → ρ (.tmp d) = undef → y j = none) →
      if Region.wanted o y = true then Does P o ρ w (fun v w' => J (fun k => k = i ∨ S k) (upd r i v) w') else J (fun k => k = i ∨ S k) (upd r i undef) w)
    (fin : ∀ (a : Act) (w : World) (S : Nat → Prop) (r : Nat → Value), J S r w → (∀ i, i < ops.size → S i) → a.defers = a0.defers → a.tmps.size = a0.tmps.size → (∀ (i : Nat) (o : Oper) (d : Tmp), ops[i]? = some o → o.dst = some d → a.tmps.getD d undef = r i) →
      (∀ (t : Tmp), writesB ops t = false → a.tmps.getD t undef = a0.tmps.getD t undef) → Q .normal a w) :
    (Code.region id ops true).wp P Q a0 w0 := by
  refine wp_region_any hm ?_
  have key : ∀ (fuel : Nat) (l : Array Bool) (r : Nat → Value) (a : Act) (w : World), leftOf ops.size l ≤ fuel → FlowInvG ops a0 J l r a w → wpAny P .any ops Q fuel l a w := by
    have done : ∀ (l : Array Bool) (r : Nat → Value) (a : Act) (w : World), FlowInvG ops a0 J l r a w → Region.ready .any ops l = [] → Q .normal a w := by
      intro l r a w hI hr'
      have hall := ready_nil hI.size hback hr'
      refine fin a w _ r hI.inv hall hI.defers hI.tmps (fun i o d ho hd => hI.facts i o d ho (hall i (Array.getElem?_eq_some_iff.1 ho).1) hd) (fun t ht => hI.rest t fun i o ho _ => writes_not ht i o ho)
    intro fuel
    induction fuel with
    | zero =>
      intro l r a w hl hI
      have hr : Region.ready .any ops l = [] := by
        rw [List.eq_nil_iff_forall_not_mem]
        intro i hi
        obtain ⟨o, ho, hlt, hn, _⟩ := ready_spec hi
        have := left_set (n := ops.size) (l := l) hI.size hlt hn
        omega
      exact ⟨hr, done l r a w hI hr⟩
    | succ fuel ih =>
      intro l r a w hl hI
      refine ⟨done l r a w hI, fun i hi => ?_⟩
      obtain ⟨o, ho, hlt, hn, hneeds⟩ := ready_spec hi
      have hlt' : i < l.size := by rw [hI.size]; exact hlt
      have hnf : l.getD i false = false := by
        have : l.getD i true = l.getD i false := by simp [Array.getD, hlt']
        rw [← this]; exact hn
      have hdl : ∀ (j : Nat) (o' : Oper) (d : Tmp), ops[j]? = some o' → o'.dst = some d → d < a.tmps.size := by
        intro j o' d hj hd
        have hon := List.all_eq_true.1 honce j (List.mem_range.2 (Array.getElem?_eq_some_iff.1 hj).1)
        rw [hj] at hon
        simp only [hd, Bool.and_eq_true, decide_eq_true_eq] at hon
        rw [hI.tmps]
        exact hon.1
      have hyv : ∀ (j : Nat) (o' : Oper) (d : Tmp), ops[j]? = some o' → o'.dst = some d → yielded ops a.tmps j = (match a.tmps.getD d undef with
          | .bool b => some b
          | _ => none) := by
        intro j o' d hj hd
        have hlt2 := hdl j o' d hj hd
        unfold yielded
        rw [hj]
        simp only [Option.bind_some, hd]
        have e : a.tmps.getD d undef = a.tmps[d] := by simp [Array.getD, hlt2]
        rw [Array.getElem?_eq_getElem hlt2, e]
        generalize a.tmps[d] = v
        cases v <;> rfl
      have hst := step i o ho a.eval (yielded ops a.tmps) w (fun k => l.getD k false = true) r hI.inv (by rw [hnf]; exact Bool.false_ne_true) hneeds hI.closed ⟨fun _ => rfl, fun _ => rfl, fun _ => rfl⟩ (fun j o' d hj hnj hd => hI.facts j o' d hj (hneeds j hnj) hd)
        (fun t hfree => hI.rest t fun k ok hk hlk hdk => by
          unfold freeB at hfree
          rw [List.all_eq_true] at hfree
          have h1 := hfree k (List.mem_range.2 (Array.getElem?_eq_some_iff.1 hk).1)
          rw [hk] at h1
          simp only [Bool.or_eq_true] at h1
          rcases h1 with (h1 | h1) | h1
          · simp [hdk] at h1
          · rw [beq_iff_eq] at h1
            subst h1
            rw [hnf] at hlk; cases hlk
          · rw [hI.closed k ok hk hlk i h1] at hnf; cases hnf)
        (fun j o' d b hj hd hb => by
          rw [hyv j o' d hj hd]
          have hb' : a.tmps.getD d undef = .bool b := hb
          rw [hb'])
        (fun j o' d hj hd hb => by
          rw [hyv j o' d hj hd]
          have hb' : a.tmps.getD d undef = undef := hb
          rw [hb']
          rfl)
      have next : ∀ v w', J (fun k => k = i ∨ l.getD k false = true) (upd r i v) w' → wpAny P .any ops Q fuel (l.setIfInBounds i true) (a.put o.dst v) w' := by
        intro v w' hj'
        refine ih _ (upd r i v) _ _ (by have := left_set (n := ops.size) (l := l) hI.size hlt hn; omega) ?_
        refine ⟨by simpa using hI.size, (by have e : (fun k => (l.setIfInBounds i true).getD k false = true) = (fun k => k = i ∨ l.getD k false = true) := funext fun k => propext (getD_set hlt'); rw [e]; exact hj'), ?_, ?_, ?_, ?_, ?_⟩
        · rw [← hI.defers]; cases o.dst <;> rfl
        · rw [← hI.tmps]; cases o.dst <;> simp [Act.put]
        · intro k ok hk hlk j hj
          rw [getD_set hlt'] at hlk ⊢
          rcases hlk with rfl | hlk
          · rw [ho] at hk
            obtain rfl := Option.some.inj hk
            exact .inr (hneeds j hj)
          · exact .inr (hI.closed k ok hk hlk j hj)
        · intro k ok d hk hlk hd
          have hon := List.all_eq_true.1 honce k (List.mem_range.2 (Array.getElem?_eq_some_iff.1 hk).1)
          rw [hk] at hon
          simp only [hd, Bool.and_eq_true, decide_eq_true_eq] at hon
          obtain ⟨hdl, hon⟩ := hon
          rw [List.all_eq_true] at hon
          rw [getD_set hlt'] at hlk
          rcases hlk with rfl | hlk
          · rw [ho] at hk
            obtain rfl := Option.some.inj hk
            rw [hd, put_getD (by rw [hI.tmps]; exact hdl), if_pos rfl]
            simp [upd]
          · have hne : o.dst ≠ some d := by
              have h1 := hon i (List.mem_range.2 hlt)
              rw [ho] at h1
              simp only [Bool.or_eq_true, beq_iff_eq] at h1
              rcases h1 with rfl | h1
              · rw [hnf] at hlk; cases hlk
              · simpa using h1
            have he : (a.put o.dst v).tmps.getD d undef = a.tmps.getD d undef := by
              cases hod : o.dst with
              | none => rfl
              | some d' =>
                have hi2 := List.all_eq_true.1 honce i (List.mem_range.2 hlt)
                rw [ho] at hi2
                simp only [hod, Bool.and_eq_true, decide_eq_true_eq] at hi2
                rw [put_getD (by rw [hI.tmps]; exact hi2.1), if_neg]
                rintro rfl
                exact hne hod
            rw [he]
            have hki : k ≠ i := fun e => by subst e; rw [hnf] at hlk; cases hlk
            simp only [upd, if_neg hki]
            exact hI.facts k ok d hk hlk hd
        · intro t ht
          have hne : o.dst ≠ some t := ht i o ho (by rw [getD_set hlt']; exact .inl rfl)
          have he : (a.put o.dst v).tmps.getD t undef = a.tmps.getD t undef := by
            cases hod : o.dst with
            | none => rfl
            | some d' =>
              have hi2 := List.all_eq_true.1 honce i (List.mem_range.2 hlt)
              rw [ho] at hi2
              simp only [hod, Bool.and_eq_true, decide_eq_true_eq] at hi2
              rw [put_getD (by rw [hI.tmps]; exact hi2.1), if_neg]
              rintro rfl
              exact hne hod
          rw [he]
          exact hI.rest t fun k ok hk hlk => ht k ok hk (by rw [getD_set hlt']; exact .inr hlk)
      unfold wpOp
      rw [ho]
      simp only
      split at hst
      · rename_i hw
        rw [if_pos hw]
        exact .inl (Does.wp hst fun v w' h3 => next v w' h3)
      · rename_i hw
        rw [if_neg hw]
        exact next _ _ hst
  refine key ops.size _ (fun _ => undef) _ _ ?_ ?_
  · unfold leftOf
    refine Nat.le_trans (List.length_filter_le _ _) (by simp)
  · have hz : ∀ k, (Array.replicate ops.size false).getD k false = false := by
      intro k
      by_cases hk : k < ops.size
      · simp [Array.getD, hk]
      · simp [Array.getD, hk]
    refine ⟨by simp, (by have e : (fun k => (Array.replicate ops.size false).getD k false = true) = (fun _ => False) := funext fun k => propext (Iff.intro (fun h => by rw [hz] at h; cases h) (fun h => False.elim h)); rw [e]; exact hJ0 _), rfl, rfl, fun k o _ h => ?_, fun i o d _ h => ?_, fun t _ => rfl⟩
    · rw [hz] at h; cases h
    · rw [hz] at h; cases h
end
end Go.Proofs.YtkkeodlnejckjaaGreat
