/- A region that leaves its order open, taken by what each operation leaves: whatever order its edges allow, each operation finds what it needs. No condition. -/
import Derived.Orders
import Derived.Below
namespace Go.Proofs.Ytaaddckhldccjaa
open Go.RowKit
variable {P : Program}

/-- What an operation does, said of what it yields. -/
def Does (P : Program) (o : Oper) (ρ : Operand → Value) (w : World) (R : Value → World → Prop) : Prop :=
  match (execOp ρ o).run P w with
  | .ok (.value v) w' => R v w'
  | .ok .skip w' => R undef w'
  | .ok (.enter f args) w' => Calls P f args w' fun e w'' => ∃ v, e = .returned v ∧ R v w''
  | _ => False

theorem Does.wp {o : Oper} {a : Act} {w : World} {R : Value → World → Prop} {K : Act → World → Prop} {Q : Exit → Act → World → Prop}
    (h : Does P o a.eval w R) (k : ∀ v w', R v w' → K (a.put o.dst v) w') : o.wp P a w K Q := by
  unfold Does at h
  unfold Oper.wp
  generalize (execOp a.eval o).run P w = r at *
  cases r with
  | halt x w' => exact h.elim
  | ok n w' =>
    cases n with
    | value v => exact k _ _ h
    | skip => exact k _ _ h
    | enter f args =>
      refine Calls.mono h ?_
      rintro e w'' ⟨v, rfl, hR⟩
      exact k _ _ hR
    | _ => exact h.elim

/-- Does an operation wait for another one? -/
def needsB (o : Oper) (j : Nat) : Bool := o.after.any fun e => Region.binds .any e && e.on == j
/-- Edges go back alone. -/
def backB (ops : Array Oper) : Bool := (List.range ops.size).all fun i => match ops[i]? with
  | some o => o.after.all fun e => !Region.binds .any e || decide (e.on < i)
  | none => true
/-- Each slot is written once, and lies in the frame. -/
def onceB (ops : Array Oper) (size : Nat) : Bool := (List.range ops.size).all fun i => match ops[i]? with
  | some o => (match o.dst with
    | some d => decide (d < size) && (List.range ops.size).all fun j => j == i || (match ops[j]? with
      | some o' => o'.dst != some d
      | none => true)
    | none => true)
  | none => true
/-- Whatever writes the slot waits for the operation. -/
def freeB (ops : Array Oper) (i t : Nat) : Bool := (List.range ops.size).all fun k => match ops[k]? with
  | some o => o.dst != some t || k == i || needsB o i
  | none => true

/-- Does a region write a slot? -/
def writesB (ops : Array Oper) (t : Tmp) : Bool := ops.any fun o => o.dst == some t
theorem writes_not {ops : Array Oper} {t : Tmp} (h : writesB ops t = false) (i : Nat) (o : Oper) (ho : ops[i]? = some o) : o.dst ≠ some t := by
  intro hd
  have hi := (Array.getElem?_eq_some_iff.1 ho)
  have : writesB ops t = true := by
    unfold writesB
    rw [Array.any_eq_true]
    exact ⟨i, hi.1, by rw [hi.2, hd]; simp⟩
  rw [h] at this
  cases this
/-- A frame, slot by slot. -/
theorem frame_lit {tm : Array Value} {L : List Value} (hs : tm.size = L.length) (h : ∀ t, t < L.length → tm.getD t undef = L.getD t undef) : tm = L.toArray := by
  apply Array.ext
  · simpa using hs
  · intro i h1 h2
    have e := h i (by simpa using h2)
    have e1 : tm.getD i undef = tm[i] := by simp [Array.getD, h1]
    have h3 : i < L.length := by simpa using h2
    rw [e1] at e
    rw [e, List.getD_eq_getElem?_getD, List.getElem?_eq_getElem h3]
    simp

/-- A frame behind a region: what it wrote is laid over what was. -/
theorem getD_at (x : Array Value) (t : Nat) (h : t < x.size) : x.getD t undef = x[t] := by simp [Array.getD, h]
theorem foldl_set_getD (f : Nat → Value) : ∀ (L : List Nat) (x : Array Value) (t : Nat), t < x.size → (L.foldl (fun x d => x.setIfInBounds d (f d)) x).size = x.size ∧ (L.foldl (fun x d => x.setIfInBounds d (f d)) x).getD t undef = if t ∈ L then f t else x.getD t undef
  | [], x, t, _ => ⟨rfl, by simp⟩
  | d :: L, x, t, ht => by
    obtain ⟨h1, h2⟩ := foldl_set_getD f L (x.setIfInBounds d (f d)) t (by simpa using ht)
    refine ⟨by simpa using h1, ?_⟩
    show (L.foldl (fun x d => x.setIfInBounds d (f d)) (x.setIfInBounds d (f d))).getD t undef = _
    rw [h2]
    by_cases hL : t ∈ L
    · simp [hL]
    · by_cases hd : t = d
      · subst hd; simp [hL, Array.getD, ht]
      · simp [hL, hd, Array.getD_eq_getD_getElem?, Array.getElem?_setIfInBounds_ne (Ne.symm hd)]
theorem frame_of {ops : Array Oper} {a a0 : Act} (hd : a.defers = a0.defers) (hs : a.tmps.size = a0.tmps.size) (hrest : ∀ t, writesB ops t = false → a.tmps.getD t undef = a0.tmps.getD t undef)
    (L : List Nat) (hL : ((List.range a0.tmps.size).all fun t => writesB ops t == L.contains t) = true) : a = ⟨L.foldl (fun x d => x.setIfInBounds d (a.tmps.getD d undef)) a0.tmps, a0.defers⟩ := by
  obtain ⟨tm, df⟩ := a
  simp only at hd hs hrest ⊢
  subst hd
  congr 1
  have hall := List.all_eq_true.1 hL
  apply Array.ext
  · by_cases h0 : a0.tmps.size = 0
    · rw [hs]
      have : ∀ (L : List Nat) (x : Array Value), (L.foldl (fun x d => x.setIfInBounds d (tm.getD d undef)) x).size = x.size := by
        intro L
        induction L with
        | nil => intro x; rfl
        | cons d L ih => intro x; rw [List.foldl_cons, ih]; simp
      exact (this L a0.tmps).symm
    · rw [(foldl_set_getD (fun d => tm.getD d undef) L a0.tmps 0 (by omega)).1, hs]
  · intro t h1 h2
    have ht : t < a0.tmps.size := by omega
    have h3 := (foldl_set_getD (fun d => tm.getD d undef) L a0.tmps t ht).2
    have hw := hall t (List.mem_range.2 ht)
    rw [beq_iff_eq] at hw
    refine ((getD_at tm t h1).symm.trans (Eq.trans ?_ h3.symm)).trans (getD_at _ t h2)
    by_cases hm : t ∈ L
    · rw [if_pos hm]
    · rw [if_neg hm]
      exact hrest t (by rw [hw]; simpa using hm)

section
variable {ops : Array Oper} {Q : Exit → Act → World → Prop} {F : Nat → Value → World → Prop} {a0 : Act} {w0 : World}

structure FlowInv (ops : Array Oper) (F : Nat → Value → World → Prop) (a0 : Act) (w0 : World) (l : Array Bool) (a : Act) (w : World) : Prop where
  size : l.size = ops.size
  below : Below w0.heap.size w0 w
  defers : a.defers = a0.defers
  tmps : a.tmps.size = a0.tmps.size
  closed : ∀ k o, ops[k]? = some o → l.getD k false = true → ∀ j, needsB o j = true → l.getD j false = true
  facts : ∀ i o d, ops[i]? = some o → l.getD i false = true → o.dst = some d → F i (a.tmps.getD d undef) w
  rest : ∀ t, (∀ i o, ops[i]? = some o → l.getD i false = true → o.dst ≠ some t) → a.tmps.getD t undef = a0.tmps.getD t undef

theorem needs_of_all {o : Oper} {l : Array Bool} (h : (o.after.all fun e => !Region.binds .any e || l.getD e.on false) = true) (j : Nat) (hj : needsB o j = true) : l.getD j false = true := by
  unfold needsB at hj
  rw [Array.any_eq_true] at hj
  obtain ⟨k, hk, h1⟩ := hj
  rw [Array.all_eq_true] at h
  have h2 := h k hk
  rw [Bool.and_eq_true, beq_iff_eq] at h1
  rw [h1.1] at h2
  rw [← h1.2]
  simpa using h2

theorem ready_spec {l : Array Bool} {i : Nat} (h : i ∈ Region.ready .any ops l) : ∃ o, ops[i]? = some o ∧ i < ops.size ∧ l.getD i true = false ∧ ∀ j, needsB o j = true → l.getD j false = true := by
  unfold Region.ready at h
  rw [List.mem_filter, List.mem_range, Bool.and_eq_true] at h
  obtain ⟨hi, h1, h2⟩ := h
  obtain ⟨o, ho⟩ : ∃ o, ops[i]? = some o := ⟨ops[i], by simp [hi]⟩
  rw [ho] at h2
  exact ⟨o, ho, hi, by simpa using h1, needs_of_all h2⟩

/-- If nothing can come up any more all have come. -/
theorem ready_nil {l : Array Bool} (hs : l.size = ops.size) (hb : backB ops = true) (h : Region.ready .any ops l = []) : ∀ i, i < ops.size → l.getD i false = true := by
  intro i
  induction i using Nat.strongRecOn with
  | ind i ih =>
    intro hi
    cases hl : l.getD i false with
    | true => rfl
    | false =>
      exfalso
      have hmem : i ∈ Region.ready .any ops l := by
        unfold Region.ready
        rw [List.mem_filter, List.mem_range, Bool.and_eq_true]
        obtain ⟨o, ho⟩ : ∃ o, ops[i]? = some o := ⟨ops[i], by simp [hi]⟩
        refine ⟨hi, ?_, ?_⟩
        · have : l.getD i true = l.getD i false := by simp [Array.getD, hs, hi]
          rw [this, hl]
          rfl
        · rw [ho]
          simp only [Option.map_some, Option.getD_some]
          unfold backB at hb
          rw [List.all_eq_true] at hb
          have h1 := hb i (List.mem_range.2 hi)
          rw [ho] at h1
          simp only at h1
          rw [Array.all_eq_true] at h1 ⊢
          intro k hk
          have h2 := h1 k hk
          cases hbd : Region.binds .any o.after[k] with
          | false => simp
          | true =>
            rw [hbd] at h2
            simp only [Bool.not_true, Bool.false_or, decide_eq_true_eq] at h2
            rw [ih _ h2 (by omega)]
            simp
      rw [h] at hmem
      simp at hmem

def leftOf (n : Nat) (l : Array Bool) : Nat := ((List.range n).filter fun i => !l.getD i true).length
theorem filter_lt {p q : Nat → Bool} : ∀ {r : List Nat} {i : Nat}, (∀ x, q x = true → p x = true) → i ∈ r → p i = true → q i = false → (r.filter q).length < (r.filter p).length
  | [], i, _, h, _, _ => by simp at h
  | x :: r, i, hpq, hi, hp, hq => by
    have hle : (r.filter q).length ≤ (r.filter p).length := by
      clear hi
      induction r with
      | nil => simp
      | cons y r ih =>
        rw [List.filter_cons, List.filter_cons]
        cases hy : q y with
        | true => rw [hpq y hy]; simp; exact ih
        | false => cases p y <;> simp <;> omega
    rw [List.filter_cons, List.filter_cons]
    rcases List.mem_cons.1 hi with rfl | hi
    · rw [hp, hq]; simp; omega
    · have ih := filter_lt (r := r) hpq hi hp hq
      cases hx : q x with
      | true => rw [hpq x hx]; simp; exact ih
      | false => cases p x <;> simp <;> omega
theorem left_set {n i : Nat} {l : Array Bool} (hs : l.size = n) (hi : i < n) (hl : l.getD i true = false) : leftOf n (l.setIfInBounds i true) < leftOf n l := by
  unfold leftOf
  refine filter_lt (i := i) (fun x hx => ?_) (List.mem_range.2 hi) (by rw [hl]; rfl) (by simp [Array.getD, hs, hi])
  by_cases hxi : x = i
  · subst hxi; rw [hl]; rfl
  · simpa [Array.getD_eq_getD_getElem?, Array.getElem?_setIfInBounds_ne (Ne.symm hxi)] using hx
theorem getD_set {l : Array Bool} {i k : Nat} (hi : i < l.size) : (l.setIfInBounds i true).getD k false = true ↔ k = i ∨ l.getD k false = true := by
  by_cases h : k = i
  · subst h; simp [Array.getD, hi]
  · simp [Array.getD_eq_getD_getElem?, Array.getElem?_setIfInBounds_ne (Ne.symm h), h]
theorem put_getD {a : Act} {d t : Nat} {v : Value} (hd : d < a.tmps.size) : (a.put (some d) v).tmps.getD t undef = if t = d then v else a.tmps.getD t undef := by
  unfold Act.put
  by_cases h : t = d
  · subst h; simp [Array.getD, hd]
  · simp [Array.getD_eq_getD_getElem?, Array.getElem?_setIfInBounds_ne (Ne.symm h), h]

/-- What operands that are no slots are. -/
structure Plain (ρ : Operand → Value) : Prop where
  const : ∀ v, ρ (.const v) = v
  global : ∀ g, ρ (.global g) = .pointer (some ⟨g, 0, none⟩)
  func : ∀ f, ρ (.func f) = .func (.func f) #[] #[]

/-- THE REGION: F i says what operation i yields; it lasts while nothing old is written. -/
theorem wp_region_flow {id : Nat} (hm : P.follows .mixedOrders = true) (F : Nat → Value → World → Prop)
    (hF : ∀ i v w w', Below w.heap.size w w' → F i v w → F i v w') (hback : backB ops = true) (honce : onceB ops a0.tmps.size = true)
    (step : ∀ (i : Nat) (o : Oper), ops[i]? = some o → ∀ (ρ : Operand → Value) (y : Nat → Option Bool) (w : World), Below w0.heap.size w0 w → Plain ρ →
      (∀ (j : Nat) (o' : Oper) (d : Tmp), ops[j]? = some o' → needsB o j = true → o'.dst = some d → F j (ρ (.tmp d)) w) →
      (∀ (t : Tmp), freeB ops i t = true → ρ (.tmp t) = a0.tmps.getD t undef) →
      (∀ (j : Nat) (o' : Oper) (d : Tmp) (b : Bool), ops[j]? = some o' → o'.dst = some d → ρ (.tmp d) = .bool b → y j = some b) →
      (∀ (j : Nat) (o' : Oper) (d : Tmp), ops[j]? = some o' → o'.dst = some d → ρ (.tmp d) = undef → y j = none) →
      if Region.wanted o y = true then Does P o ρ w (fun v w' => F i v w' ∧ Below w.heap.size w w') else F i undef w)
    (fin : ∀ (a : Act) (w : World), Below w0.heap.size w0 w → a.defers = a0.defers → a.tmps.size = a0.tmps.size → (∀ (i : Nat) (o : Oper) (d : Tmp), ops[i]? = some o → o.dst = some d → F i (a.tmps.getD d undef) w) →
      (∀ (t : Tmp), writesB ops t = false → a.tmps.getD t undef = a0.tmps.getD t undef) → Q .normal a w) :
    (Code.region id ops true).wp P Q a0 w0 := by
  refine wp_region_any hm ?_
  have key : ∀ (fuel : Nat) (l : Array Bool) (a : Act) (w : World), leftOf ops.size l ≤ fuel → FlowInv ops F a0 w0 l a w → wpAny P .any ops Q fuel l a w := by
    have done : ∀ (l : Array Bool) (a : Act) (w : World), FlowInv ops F a0 w0 l a w → Region.ready .any ops l = [] → Q .normal a w := by
      intro l a w hI hr
      have hall := ready_nil hI.size hback hr
      refine fin a w hI.below hI.defers hI.tmps (fun i o d ho hd => hI.facts i o d ho (hall i (Array.getElem?_eq_some_iff.1 ho).1) hd) (fun t ht => hI.rest t fun i o ho _ => writes_not ht i o ho)
    intro fuel
    induction fuel with
    | zero =>
      intro l a w hl hI
      have hr : Region.ready .any ops l = [] := by
        rw [List.eq_nil_iff_forall_not_mem]
        intro i hi
        obtain ⟨o, ho, hlt, hn, _⟩ := ready_spec hi
        have := left_set (n := ops.size) (l := l) hI.size hlt hn
        omega
      exact ⟨hr, done l a w hI hr⟩
    | succ fuel ih =>
      intro l a w hl hI
      refine ⟨done l a w hI, fun i hi => ?_⟩
      obtain ⟨o, ho, hlt, hn, hneeds⟩ := ready_spec hi
      have hlt' : i < l.size := by rw [hI.size]; exact hlt
      have hnf : l.getD i false = false := by
        have : l.getD i true = l.getD i false := by simp [Array.getD, hlt']
        rw [← this]; exact hn
      have hdl : ∀ (j : Nat) (o' : Oper) (d : Tmp), ops[j]? = some o' → o'.dst = some d → d < a.tmps.size := by
        intro j o' d hj hd
        have hon := List.all_eq_true.1 honce j (List.mem_range.2 (Array.getElem?_eq_some_iff.1 hj).1)
        rw [hj] at hon
        simp only [hd, Bool.and_eq_true, decide_eq_true_eq] at hon
        rw [hI.tmps]
        exact hon.1
      have hyv : ∀ (j : Nat) (o' : Oper) (d : Tmp), ops[j]? = some o' → o'.dst = some d → yielded ops a.tmps j = (match a.tmps.getD d undef with
          | .bool b => some b
          | _ => none) := by
        intro j o' d hj hd
        have hlt2 := hdl j o' d hj hd
        unfold yielded
        rw [hj]
        simp only [Option.bind_some, hd]
        have e : a.tmps.getD d undef = a.tmps[d] := by simp [Array.getD, hlt2]
        rw [Array.getElem?_eq_getElem hlt2, e]
        generalize a.tmps[d] = v
        cases v <;> rfl
      have hst := step i o ho a.eval (yielded ops a.tmps) w hI.below ⟨fun _ => rfl, fun _ => rfl, fun _ => rfl⟩ (fun j o' d hj hnj hd => hI.facts j o' d hj (hneeds j hnj) hd)
        (fun t hfree => hI.rest t fun k ok hk hlk hdk => by
          unfold freeB at hfree
          rw [List.all_eq_true] at hfree
          have h1 := hfree k (List.mem_range.2 (Array.getElem?_eq_some_iff.1 hk).1)
          rw [hk] at h1
          simp only [Bool.or_eq_true] at h1
          rcases h1 with (h1 | h1) | h1
          · simp [hdk] at h1
          · rw [beq_iff_eq] at h1
            subst h1
            rw [hnf] at hlk; cases hlk
          · rw [hI.closed k ok hk hlk i h1] at hnf; cases hnf)
        (fun j o' d b hj hd hb => by
          rw [hyv j o' d hj hd]
          have hb' : a.tmps.getD d undef = .bool b := hb
          rw [hb'])
        (fun j o' d hj hd hb => by
          rw [hyv j o' d hj hd]
          have hb' : a.tmps.getD d undef = undef := hb
          rw [hb']
          rfl)
      have next : ∀ v w', F i v w' → Below w.heap.size w w' → wpAny P .any ops Q fuel (l.setIfInBounds i true) (a.put o.dst v) w' := by
        intro v w' hv hb
        refine ih _ _ _ (by have := left_set (n := ops.size) (l := l) hI.size hlt hn; omega) ?_
        refine ⟨by simpa using hI.size, hI.below.trans (hb.mono hI.below.size), ?_, ?_, ?_, ?_, ?_⟩
        · rw [← hI.defers]; cases o.dst <;> rfl
        · rw [← hI.tmps]; cases o.dst <;> simp [Act.put]
        · intro k ok hk hlk j hj
          rw [getD_set hlt'] at hlk ⊢
          rcases hlk with rfl | hlk
          · rw [ho] at hk
            obtain rfl := Option.some.inj hk
            exact .inr (hneeds j hj)
          · exact .inr (hI.closed k ok hk hlk j hj)
        · intro k ok d hk hlk hd
          have hon := List.all_eq_true.1 honce k (List.mem_range.2 (Array.getElem?_eq_some_iff.1 hk).1)
          rw [hk] at hon
          simp only [hd, Bool.and_eq_true, decide_eq_true_eq] at hon
          obtain ⟨hdl, hon⟩ := hon
          rw [List.all_eq_true] at hon
          rw [getD_set hlt'] at hlk
          rcases hlk with rfl | hlk
          · rw [ho] at hk
            obtain rfl := Option.some.inj hk
            rw [hd, put_getD (by rw [hI.tmps]; exact hdl), if_pos rfl]
            exact hv
          · have hne : o.dst ≠ some d := by
              have h1 := hon i (List.mem_range.2 hlt)
              rw [ho] at h1
              simp only [Bool.or_eq_true, beq_iff_eq] at h1
              rcases h1 with rfl | h1
              · rw [hnf] at hlk; cases hlk
              · simpa using h1
            have he : (a.put o.dst v).tmps.getD d undef = a.tmps.getD d undef := by
              cases hod : o.dst with
              | none => rfl
              | some d' =>
                have hi2 := List.all_eq_true.1 honce i (List.mem_range.2 hlt)
                rw [ho] at hi2
                simp only [hod, Bool.and_eq_true, decide_eq_true_eq] at hi2
                rw [put_getD (by rw [hI.tmps]; exact hi2.1), if_neg]
                rintro rfl
                exact hne hod
            rw [he]
            exact hF _ _ _ _ hb (hI.facts k ok d hk hlk hd)
        · intro t ht
          have hne : o.dst ≠ some t := ht i o ho (by rw [getD_set hlt']; exact .inl rfl)
          have he : (a.put o.dst v).tmps.getD t undef = a.tmps.getD t undef := by
            cases hod : o.dst with
            | none => rfl
            | some d' =>
              have hi2 := List.all_eq_true.1 honce i (List.mem_range.2 hlt)
              rw [ho] at hi2
              simp only [hod, Bool.and_eq_true, decide_eq_true_eq] at hi2
              rw [put_getD (by rw [hI.tmps]; exact hi2.1), if_neg]
              rintro rfl
              exact hne hod
          rw [he]
          exact hI.rest t fun k ok hk hlk => ht k ok hk (by rw [getD_set hlt']; exact .inr hlk)
      unfold wpOp
      rw [ho]
      simp only
      split at hst
      · rename_i hw
        rw [if_pos hw]
        exact .inl (Does.wp hst fun v w' ⟨h1, h2⟩ => next v w' h1 h2)
      · rename_i hw
        rw [if_neg hw]
        exact next _ _ hst (Below.refl _ _)
  refine key ops.size _ _ _ ?_ ?_
  · unfold leftOf
    refine Nat.le_trans (List.length_filter_le _ _) (by simp)
  · have hz : ∀ k, (Array.replicate ops.size false).getD k false = false := by
      intro k
      by_cases hk : k < ops.size
      · simp [Array.getD, hk]
      · simp [Array.getD, hk]
    refine ⟨by simp, (Below.refl _ _).drew, rfl, rfl, fun k o _ h => ?_, fun i o d _ h => ?_, fun t _ => rfl⟩
    · rw [hz] at h; cases h
    · rw [hz] at h; cases h

structure FlowInvJ (ops : Array Oper) (F : Nat → Value → World → Prop) (a0 : Act) (J : (Nat → Prop) → World → Prop) (l : Array Bool) (a : Act) (w : World) : Prop where
  size : l.size = ops.size
  inv : J (fun k => l.getD k false = true) w
  defers : a.defers = a0.defers
  tmps : a.tmps.size = a0.tmps.size
  closed : ∀ k o, ops[k]? = some o → l.getD k false = true → ∀ j, needsB o j = true → l.getD j false = true
  facts : ∀ i o d, ops[i]? = some o → l.getD i false = true → o.dst = some d → F i (a.tmps.getD d undef) w
  rest : ∀ t, (∀ i o, ops[i]? = some o → l.getD i false = true → o.dst ≠ some t) → a.tmps.getD t undef = a0.tmps.getD t undef

/-- The region, where operations may write: J says what holds when these have come up; K is what facts last through. -/
theorem wp_region_flowJ {id : Nat} (hm : P.follows .mixedOrders = true) (F : Nat → Value → World → Prop) (K : World → World → Prop) (J : (Nat → Prop) → World → Prop)
    (hF : ∀ i v w w', K w w' → F i v w → F i v w') (hJ0 : J (fun _ => False) w0.drew) (hback : backB ops = true) (honce : onceB ops a0.tmps.size = true)
    (step : ∀ (i : Nat) (o : Oper), ops[i]? = some o → ∀ (ρ : Operand → Value) (y : Nat → Option Bool) (w : World) (S : Nat → Prop), J S w → ¬ S i → (∀ j, needsB o j = true → S j) → (∀ k ok, ops[k]? = some ok → S k → ∀ j, needsB ok j = true → S j) → Plain ρ →
      (∀ (j : Nat) (o' : Oper) (d : Tmp), ops[j]? = some o' → needsB o j = true → o'.dst = some d → F j (ρ (.tmp d)) w) →
      (∀ (t : Tmp), freeB ops i t = true → ρ (.tmp t) = a0.tmps.getD t undef) →
      (∀ (j : Nat) (o' : Oper) (d : Tmp) (b : Bool), ops[j]? = some o' → o'.dst = some d → ρ (.tmp d) = .bool b → y j = some b) →
      (∀ (j : Nat) (o' : Oper) (d : Tmp), ops[j]? = some o' → o'.dst = some d → ρ (.tmp d) = undef → y j = none) →
      if Region.wanted o y = true then Does P o ρ w (fun v w' => F i v w' ∧ K w w' ∧ J (fun k => k = i ∨ S k) w') else F i undef w ∧ J (fun k => k = i ∨ S k) w)
    (fin : ∀ (a : Act) (w : World) (S : Nat → Prop), J S w → (∀ i, i < ops.size → S i) → a.defers = a0.defers → a.tmps.size = a0.tmps.size → (∀ (i : Nat) (o : Oper) (d : Tmp), ops[i]? = some o → o.dst = some d → F i (a.tmps.getD d undef) w) →
      (∀ (t : Tmp), writesB ops t = false → a.tmps.getD t undef = a0.tmps.getD t undef) → Q .normal a w) :
    (Code.region id ops true).wp P Q a0 w0 := by
  refine wp_region_any hm ?_
  have key : ∀ (fuel : Nat) (l : Array Bool) (a : Act) (w : World), leftOf ops.size l ≤ fuel → FlowInvJ ops F a0 J l a w → wpAny P .any ops Q fuel l a w := by
    have done : ∀ (l : Array Bool) (a : Act) (w : World), FlowInvJ ops F a0 J l a w → Region.ready .any ops l = [] → Q .normal a w := by
      intro l a w hI hr
      have hall := ready_nil hI.size hback hr
      refine fin a w _ hI.inv hall hI.defers hI.tmps (fun i o d ho hd => hI.facts i o d ho (hall i (Array.getElem?_eq_some_iff.1 ho).1) hd) (fun t ht => hI.rest t fun i o ho _ => writes_not ht i o ho)
    intro fuel
    induction fuel with
    | zero =>
      intro l a w hl hI
      have hr : Region.ready .any ops l = [] := by
        rw [List.eq_nil_iff_forall_not_mem]
        intro i hi
        obtain ⟨o, ho, hlt, hn, _⟩ := ready_spec hi
        have := left_set (n := ops.size) (l := l) hI.size hlt hn
        omega
      exact ⟨hr, done l a w hI hr⟩
    | succ fuel ih =>
      intro l a w hl hI
      refine ⟨done l a w hI, fun i hi => ?_⟩
      obtain ⟨o, ho, hlt, hn, hneeds⟩ := ready_spec hi
      have hlt' : i < l.size := by rw [hI.size]; exact hlt
      have hnf : l.getD i false = false := by
        have : l.getD i true = l.getD i false := by simp [Array.getD, hlt']
        rw [← this]; exact hn
      have hdl : ∀ (j : Nat) (o' : Oper) (d : Tmp), ops[j]? = some o' → o'.dst = some d → d < a.tmps.size := by
        intro j o' d hj hd
        have hon := List.all_eq_true.1 honce j (List.mem_range.2 (Array.getElem?_eq_some_iff.1 hj).1)
        rw [hj] at hon
        simp only [hd, Bool.and_eq_true, decide_eq_true_eq] at hon
        rw [hI.tmps]
        exact hon.1
      have hyv : ∀ (j : Nat) (o' : Oper) (d : Tmp), ops[j]? = some o' → o'.dst = some d → yielded ops a.tmps j = (match a.tmps.getD d undef with
          | .bool b => some b
          | _ => none) := by
        intro j o' d hj hd
        have hlt2 := hdl j o' d hj hd
        unfold yielded
        rw [hj]
        simp only [Option.bind_some, hd]
        have e : a.tmps.getD d undef = a.tmps[d] := by simp [Array.getD, hlt2]
        rw [Array.getElem?_eq_getElem hlt2, e]
        generalize a.tmps[d] = v
        cases v <;> rfl
      have hst := step i o ho a.eval (yielded ops a.tmps) w (fun k => l.getD k false = true) hI.inv (by rw [hnf]; exact Bool.false_ne_true) hneeds hI.closed ⟨fun _ => rfl, fun _ => rfl, fun _ => rfl⟩ (fun j o' d hj hnj hd => hI.facts j o' d hj (hneeds j hnj) hd)
        (fun t hfree => hI.rest t fun k ok hk hlk hdk => by
          unfold freeB at hfree
          rw [List.all_eq_true] at hfree
          have h1 := hfree k (List.mem_range.2 (Array.getElem?_eq_some_iff.1 hk).1)
          rw [hk] at h1
          simp only [Bool.or_eq_true] at h1
          rcases h1 with (h1 | h1) | h1
          · simp [hdk] at h1
          · rw [beq_iff_eq] at h1
            subst h1
            rw [hnf] at hlk; cases hlk
          · rw [hI.closed k ok hk hlk i h1] at hnf; cases hnf)
        (fun j o' d b hj hd hb => by
          rw [hyv j o' d hj hd]
          have hb' : a.tmps.getD d undef = .bool b := hb
          rw [hb'])
        (fun j o' d hj hd hb => by
          rw [hyv j o' d hj hd]
          have hb' : a.tmps.getD d undef = undef := hb
          rw [hb']
          rfl)
      have next : ∀ v w', F i v w' → (K w w' ∨ w' = w) → J (fun k => k = i ∨ l.getD k false = true) w' → wpAny P .any ops Q fuel (l.setIfInBounds i true) (a.put o.dst v) w' := by
        intro v w' hv hb hj'
        refine ih _ _ _ (by have := left_set (n := ops.size) (l := l) hI.size hlt hn; omega) ?_
        refine ⟨by simpa using hI.size, (by have e : (fun k => (l.setIfInBounds i true).getD k false = true) = (fun k => k = i ∨ l.getD k false = true) := funext fun k => propext (getD_set hlt'); rw [e]; exact hj'), ?_, ?_, ?_, ?_, ?_⟩
        · rw [← hI.defers]; cases o.dst <;> rfl
        · rw [← hI.tmps]; cases o.dst <;> simp [Act.put]
        · intro k ok hk hlk j hj
          rw [getD_set hlt'] at hlk ⊢
          rcases hlk with rfl | hlk
          · rw [ho] at hk
            obtain rfl := Option.some.inj hk
            exact .inr (hneeds j hj)
          · exact .inr (hI.closed k ok hk hlk j hj)
        · intro k ok d hk hlk hd
          have hon := List.all_eq_true.1 honce k (List.mem_range.2 (Array.getElem?_eq_some_iff.1 hk).1)
          rw [hk] at hon
          simp only [hd, Bool.and_eq_true, decide_eq_true_eq] at hon
          obtain ⟨hdl, hon⟩ := hon
          rw [List.all_eq_true] at hon
          rw [getD_set hlt'] at hlk
          rcases hlk with rfl | hlk
          · rw [ho] at hk
            obtain rfl := Option.some.inj hk
            rw [hd, put_getD (by rw [hI.tmps]; exact hdl), if_pos rfl]
            exact hv
          · have hne : o.dst ≠ some d := by
              have h1 := hon i (List.mem_range.2 hlt)
              rw [ho] at h1
              simp only [Bool.or_eq_true, beq_iff_eq] at h1
              rcases h1 with rfl | h1
              · rw [hnf] at hlk; cases hlk
              · simpa using h1
            have he : (a.put o.dst v).tmps.getD d undef = a.tmps.getD d undef := by
              cases hod : o.dst with
              | none => rfl
              | some d' =>
                have hi2 := List.all_eq_true.1 honce i (List.mem_range.2 hlt)
                rw [ho] at hi2
                simp only [hod, Bool.and_eq_true, decide_eq_true_eq] at hi2
                rw [put_getD (by rw [hI.tmps]; exact hi2.1), if_neg]
                rintro rfl
                exact hne hod
            rw [he]
            rcases hb with hb | rfl
            · exact hF _ _ _ _ hb (hI.facts k ok d hk hlk hd)
            · exact hI.facts k ok d hk hlk hd
        · intro t ht
          have hne : o.dst ≠ some t := ht i o ho (by rw [getD_set hlt']; exact .inl rfl)
          have he : (a.put o.dst v).tmps.getD t undef = a.tmps.getD t undef := by
            cases hod : o.dst with
            | none => rfl
            | some d' =>
              have hi2 := List.all_eq_true.1 honce i (List.mem_range.2 hlt)
              rw [ho] at hi2
              simp only [hod, Bool.and_eq_true, decide_eq_true_eq] at hi2
              rw [put_getD (by rw [hI.tmps]; exact hi2.1), if_neg]
              rintro rfl
              exact hne hod
          rw [he]
          exact hI.rest t fun k ok hk hlk => ht k ok hk (by rw [getD_set hlt']; exact .inr hlk)
      unfold wpOp
      rw [ho]
      simp only
      split at hst
      · rename_i hw
        rw [if_pos hw]
        exact .inl (Does.wp hst fun v w' ⟨h1, h2, h3⟩ => next v w' h1 (.inl h2) h3)
      · rename_i hw
        rw [if_neg hw]
        exact next _ _ hst.1 (.inr rfl) hst.2
  refine key ops.size _ _ _ ?_ ?_
  · unfold leftOf
    refine Nat.le_trans (List.length_filter_le _ _) (by simp)
  · have hz : ∀ k, (Array.replicate ops.size false).getD k false = false := by
      intro k
      by_cases hk : k < ops.size
      · simp [Array.getD, hk]
      · simp [Array.getD, hk]
    refine ⟨by simp, (by have e : (fun k => (Array.replicate ops.size false).getD k false = true) = (fun _ => False) := funext fun k => propext (Iff.intro (fun h => by rw [hz] at h; cases h) (fun h => False.elim h)); rw [e]; exact hJ0), rfl, rfl, fun k o _ h => ?_, fun i o d _ h => ?_, fun t _ => rfl⟩
    · rw [hz] at h; cases h
    · rw [hz] at h; cases h
end

/-! ### What single operations do -/
section
variable {ρ : Operand → Value} {w : World} {R : Value → World → Prop} {d : Option Tmp} {ty : TypeId} {pos : String} {af : Array Edge} {g : Option (Nat × Bool)}
theorem does_move {x : Operand} (h : R (ρ x) w) : Does P ⟨d, .move x, ty, pos, af, g⟩ ρ w R := h
theorem does_assign {x : Operand} (h : R (ρ x) w) : Does P ⟨d, .assign x, ty, pos, af, g⟩ ρ w R := h
/-- Whatever runs to a value. -/
theorem does_ok {o : Oper} {v : Value} {w' : World} (he : (execOp ρ o).run P w = .ok (.value v) w') (h : R v w') : Does P o ρ w R := by
  unfold Does; rw [he]; exact h
/-- Whatever runs to a call. -/
theorem does_enter {o : Oper} {f : FuncId} {args : Array Value} {w' : World} (he : (execOp ρ o).run P w = .ok (.enter f args) w') (h : Calls P f args w' fun e w'' => ∃ v, e = .returned v ∧ R v w'') : Does P o ρ w R := by
  unfold Does; rw [he]; exact h
end
end Go.Proofs.Ytaaddckhldccjaa
