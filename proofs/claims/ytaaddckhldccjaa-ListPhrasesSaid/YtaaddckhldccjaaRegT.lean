/- A region whose last operations stand in a forced order: the others in whatever order (each leaves old memory), then these one by one. No condition. -/
import Derived.Test.YtaaddckhldccjaaRegJ
namespace Go.Proofs.Ytaaddckhldccjaa
open Go.RowKit
variable {P : Program}

/-- All ahead of an operation lead to it. -/
def coverB (ops : Array Oper) (i : Nat) : Bool := (List.range i).all fun j => (List.range (i + 1)).any fun k => decide (j < k) && (match ops[k]? with
  | some o => needsB o j
  | none => false)
def tailB (ops : Array Oper) (t : Nat) : Bool := decide (t ≤ ops.size) && (List.range ops.size).all fun i => decide (i < t) || coverB ops i
theorem cover_spec {ops : Array Oper} {i : Nat} (h : coverB ops i = true) {l : Array Bool} (hcl : ∀ k o, ops[k]? = some o → l.getD k false = true → ∀ j, needsB o j = true → l.getD j false = true)
    {o : Oper} (ho : ops[i]? = some o) (hn : ∀ j, needsB o j = true → l.getD j false = true) : ∀ j, j < i → l.getD j false = true := by
  have key : ∀ d j, i - j = d → j < i → l.getD j false = true := by
    intro d
    induction d using Nat.strongRecOn with
    | ind d ih =>
      intro j hd hj
      unfold coverB at h
      rw [List.all_eq_true] at h
      have h1 := h j (List.mem_range.2 hj)
      rw [List.any_eq_true] at h1
      obtain ⟨k, hk, h2⟩ := h1
      rw [Bool.and_eq_true, decide_eq_true_eq] at h2
      obtain ⟨hjk, h2⟩ := h2
      have hk1 := List.mem_range.1 hk
      cases hok : ops[k]? with
      | none => rw [hok] at h2; cases h2
      | some ok =>
        rw [hok] at h2
        simp only at h2
        by_cases hki : k = i
        · subst hki
          rw [ho] at hok
          cases hok
          exact hn j h2
        · exact hcl k ok hok (ih (i - k) (by omega) k rfl (by omega)) j h2
  exact fun j hj => key _ j rfl hj
theorem tail_cover {ops : Array Oper} {t : Nat} (h : tailB ops t = true) {i : Nat} (hi : i < ops.size) (ht : t ≤ i) : coverB ops i = true := by
  unfold tailB at h
  rw [Bool.and_eq_true, List.all_eq_true] at h
  have := h.2 i (List.mem_range.2 hi)
  rw [Bool.or_eq_true, decide_eq_true_eq] at this
  rcases this with h1 | h1
  · omega
  · exact h1
section
variable {ops : Array Oper} {Q : Exit → Act → World → Prop} {F : Nat → Value → World → Prop} {a0 : Act} {w0 : World}
/-- A frame behind the operations ahead of the tail. -/
theorem frame_ofP {p : Tmp → Bool} {a a0 : Act} (hd : a.defers = a0.defers) (hs : a.tmps.size = a0.tmps.size) (hrest : ∀ t, p t = false → a.tmps.getD t undef = a0.tmps.getD t undef)
    (L : List Nat) (hL : ((List.range a0.tmps.size).all fun t => p t == L.contains t) = true) : a = ⟨L.foldl (fun x d => x.setIfInBounds d (a.tmps.getD d undef)) a0.tmps, a0.defers⟩ := by
  obtain ⟨tm, df⟩ := a
  simp only at hd hs hrest ⊢
  subst hd
  congr 1
  have hall := List.all_eq_true.1 hL
  apply Array.ext
  · by_cases h0 : a0.tmps.size = 0
    · rw [hs]
      have : ∀ (L : List Nat) (x : Array Value), (L.foldl (fun x d => x.setIfInBounds d (tm.getD d undef)) x).size = x.size := by
        intro L
        induction L with
        | nil => intro x; rfl
        | cons d L ih => intro x; rw [List.foldl_cons, ih]; simp
      exact (this L a0.tmps).symm
    · rw [(foldl_set_getD (fun d => tm.getD d undef) L a0.tmps 0 (by omega)).1, hs]
  · intro t h1 h2
    have ht : t < a0.tmps.size := by omega
    have h3 := (foldl_set_getD (fun d => tm.getD d undef) L a0.tmps t ht).2
    have hw := hall t (List.mem_range.2 ht)
    rw [beq_iff_eq] at hw
    refine ((getD_at tm t h1).symm.trans (Eq.trans ?_ h3.symm)).trans (getD_at _ t h2)
    by_cases hm : t ∈ L
    · rw [if_pos hm]
    · rw [if_neg hm]
      exact hrest t (by rw [hw]; simpa using hm)
/-- Does a region write a slot, ahead of the tail? -/
def writesT (ops : Array Oper) (t : Nat) (x : Tmp) : Bool := (List.range t).any fun i => match ops[i]? with
  | some o => o.dst == some x
  | none => false
theorem writesT_not {ops : Array Oper} {t : Nat} {x : Tmp} (h : writesT ops t x = false) (i : Nat) (o : Oper) (ho : ops[i]? = some o) (hi : i < t) : o.dst ≠ some x := by
  intro hd
  have : writesT ops t x = true := by
    unfold writesT
    rw [List.any_eq_true]
    exact ⟨i, List.mem_range.2 hi, by rw [ho]; simp [hd]⟩
  rw [h] at this
  cases this

theorem seq_tail {t : Nat} (hback : backB ops = true) (ht : tailB ops t = true) : ∀ (d s : Nat) (l : Array Bool) (a : Act) (w : World) (fuel : Nat), ops.size - s = d → leftOf ops.size l ≤ fuel → l.size = ops.size → t ≤ s → s ≤ ops.size → (∀ k, l.getD k false = true ↔ k < s) →
    wpList P ops Q (ops.toList.drop s) a w → wpAny P .any ops Q fuel l a w := by
  intro d
  induction d with
  | zero =>
    intro s l a w fuel hd hl hs h1 h2 hk h
    obtain rfl : s = ops.size := by omega
    rw [List.drop_of_length_le (by simp)] at h
    have hr : Region.ready .any ops l = [] := by
      rw [List.eq_nil_iff_forall_not_mem]
      intro i hi
      obtain ⟨o, ho, hlt, hn, _⟩ := ready_spec hi
      have : l.getD i true = l.getD i false := by simp [Array.getD, hs, hlt]
      rw [this] at hn
      rw [(hk i).2 hlt] at hn
      cases hn
    cases fuel with
    | zero => exact ⟨hr, h⟩
    | succ fuel => exact ⟨fun _ => h, fun i hi => by rw [hr] at hi; cases hi⟩
  | succ d ih =>
    intro s l a w fuel hd hl hs h1 h2 hk h
    have hlt : s < ops.size := by omega
    have hns : l.getD s false = false := by
      cases hb : l.getD s false with
      | false => rfl
      | true => have := (hk s).1 hb; omega
    have hnr : ¬ Region.ready .any ops l = [] := by
      intro hr
      have := ready_nil hs hback hr s hlt
      rw [hns] at this; cases this
    have hsl : l.getD s true = false := by
      have : l.getD s true = l.getD s false := by simp [Array.getD, hs, hlt]
      rw [this, hns]
    cases fuel with
    | zero =>
      exfalso
      have := left_set (n := ops.size) (l := l) hs hlt hsl
      omega
    | succ fuel =>
      refine ⟨fun hr => absurd hr hnr, fun i hi => ?_⟩
      obtain ⟨o, ho, hilt, hn, hneeds⟩ := ready_spec hi
      have hni : l.getD i false = false := by
        have : l.getD i true = l.getD i false := by simp [Array.getD, hs, hilt]
        rw [← this]; exact hn
      have his : i = s := by
        rcases Nat.lt_trichotomy i s with h3 | h3 | h3
        · rw [(hk i).2 h3] at hni; cases hni
        · exact h3
        · have hc : ∀ k o, ops[k]? = some o → l.getD k false = true → ∀ j, needsB o j = true → l.getD j false = true := by
            intro k ok hok hkl j hj
            refine (hk j).2 ?_
            have hkl' := (hk k).1 hkl
            unfold backB at hback
            rw [List.all_eq_true] at hback
            have h4 := hback k (List.mem_range.2 (Array.getElem?_eq_some_iff.1 hok).1)
            rw [hok] at h4
            simp only at h4
            unfold needsB at hj
            rw [Array.any_eq_true] at hj
            obtain ⟨q, hq, h5⟩ := hj
            rw [Array.all_eq_true] at h4
            have h6 := h4 q hq
            rw [Bool.and_eq_true, beq_iff_eq] at h5
            rw [h5.1] at h6
            simp at h6
            omega
          have := cover_spec (tail_cover ht hilt (by omega)) hc ho hneeds s h3
          rw [hns] at this; cases this
      subst his
      have hdrop : ops.toList.drop i = o :: ops.toList.drop (i + 1) := by
        have hl' : i < ops.toList.length := by simpa using hilt
        rw [List.drop_eq_getElem_cons hl']
        congr 1
        have := (Array.getElem?_eq_some_iff.1 ho).2
        simpa using this
      rw [hdrop] at h
      have next : ∀ a' w', wpList P ops Q (ops.toList.drop (i + 1)) a' w' → wpAny P .any ops Q fuel (l.setIfInBounds i true) a' w' := by
        intro a' w' h'
        refine ih (i + 1) _ a' w' fuel (by omega) (by have := left_set (n := ops.size) (l := l) hs hlt hsl; omega) (by simpa using hs) (by omega) (by omega) ?_ h'
        intro k
        rw [getD_set (by rw [hs]; exact hlt), hk k]
        omega
      unfold wpOp
      rw [ho]
      simp only
      simp only [wpList] at h
      split at h
      · rename_i hw
        rw [if_pos hw]
        rcases h with h | h
        · exact .inl (Oper.wp_mono next h)
        · exact .inr h
      · rename_i hw
        rw [if_neg hw]
        exact next _ _ h

/-- THE REGION: F i says what operation i yields; it lasts while nothing old is written. -/
theorem wp_region_flowT {id : Nat} (t : Nat) (ht : tailB ops t = true) (hm : P.follows .mixedOrders = true) (F : Nat → Value → World → Prop)
    (hF : ∀ i v w w', Below w.heap.size w w' → F i v w → F i v w') (hback : backB ops = true) (honce : onceB ops a0.tmps.size = true)
    (step : ∀ (i : Nat) (o : Oper), i < t → ops[i]? = some o → ∀ (ρ : Operand → Value) (y : Nat → Option Bool) (w : World), Below w0.heap.size w0 w → Plain ρ →
      (∀ (j : Nat) (o' : Oper) (d : Tmp), ops[j]? = some o' → needsB o j = true → o'.dst = some d → F j (ρ (.tmp d)) w) →
      (∀ (t : Tmp), freeB ops i t = true → ρ (.tmp t) = a0.tmps.getD t undef) →
      (∀ (j : Nat) (o' : Oper) (d : Tmp) (b : Bool), ops[j]? = some o' → o'.dst = some d → ρ (.tmp d) = .bool b → y j = some b) →
      (∀ (j : Nat) (o' : Oper) (d : Tmp), ops[j]? = some o' → o'.dst = some d → ρ (.tmp d) = undef → y j = none) →
      if Region.wanted o y = true then Does P o ρ w (fun v w' => F i v w' ∧ Below w.heap.size w w') else F i undef w)
    (fin : ∀ (a : Act) (w : World), Below w0.heap.size w0 w → a.defers = a0.defers → a.tmps.size = a0.tmps.size → (∀ (i : Nat) (o : Oper) (d : Tmp), i < t → ops[i]? = some o → o.dst = some d → F i (a.tmps.getD d undef) w) →
      (∀ (x : Tmp), writesT ops t x = false → a.tmps.getD x undef = a0.tmps.getD x undef) → wpList P ops Q (ops.toList.drop t) a w) :
    (Code.region id ops true).wp P Q a0 w0 := by
  refine wp_region_any hm ?_
  have key : ∀ (fuel : Nat) (l : Array Bool) (a : Act) (w : World), leftOf ops.size l ≤ fuel → FlowInv ops F a0 w0 l a w → (∀ k, l.getD k false = true → k < t) → wpAny P .any ops Q fuel l a w := by
    have hts : t ≤ ops.size := by
      unfold tailB at ht
      rw [Bool.and_eq_true, decide_eq_true_eq] at ht
      exact ht.1
    have full : ∀ (l : Array Bool) (a : Act) (w : World) (fuel : Nat), leftOf ops.size l ≤ fuel → FlowInv ops F a0 w0 l a w → (∀ k, l.getD k false = true → k < t) → (∀ k, k < t → l.getD k false = true) → wpAny P .any ops Q fuel l a w := by
      intro l a w fuel hl hI hlt hall
      refine seq_tail hback ht _ t l a w fuel rfl hl hI.size (Nat.le_refl _) hts (fun k => ⟨hlt k, hall k⟩) ?_
      refine fin a w hI.below hI.defers hI.tmps (fun i o d hit ho hd => hI.facts i o d ho (hall i hit) hd) (fun x hx => hI.rest x fun i o ho hl' hd => ?_)
      have := writesT_not hx i o ho (hlt i hl')
      exact this hd
    intro fuel
    induction fuel with
    | zero =>
      intro l a w hl hI hbt
      refine full l a w 0 hl hI hbt fun k hk => ?_
      cases hlk : l.getD k false with
      | true => rfl
      | false =>
        exfalso
        have := left_set (n := ops.size) (l := l) (i := k) hI.size (by omega) (by
          have e : l.getD k true = l.getD k false := by simp [Array.getD, hI.size, show k < ops.size by omega]
          rw [e, hlk])
        omega
    | succ fuel ih =>
      intro l a w hl hI hbt
      by_cases hall : ∀ k, k < t → l.getD k false = true
      · exact full l a w _ hl hI hbt hall
      have hnr : ¬ Region.ready .any ops l = [] := fun hr => hall fun k hk => ready_nil hI.size hback hr k (by omega)
      refine ⟨fun hr => absurd hr hnr, fun i hi => ?_⟩
      obtain ⟨o, ho, hlt, hn, hneeds⟩ := ready_spec hi
      have hlt' : i < l.size := by rw [hI.size]; exact hlt
      have hnf : l.getD i false = false := by
        have : l.getD i true = l.getD i false := by simp [Array.getD, hlt']
        rw [← this]; exact hn
      have hit : i < t := by
        rcases Nat.lt_or_ge i t with h1 | h1
        · exact h1
        · exfalso
          exact hall fun k hk => cover_spec (tail_cover ht hlt h1) hI.closed ho hneeds k (by omega)
      have hdl : ∀ (j : Nat) (o' : Oper) (d : Tmp), ops[j]? = some o' → o'.dst = some d → d < a.tmps.size := by
        intro j o' d hj hd
        have hon := List.all_eq_true.1 honce j (List.mem_range.2 (Array.getElem?_eq_some_iff.1 hj).1)
        rw [hj] at hon
        simp only [hd, Bool.and_eq_true, decide_eq_true_eq] at hon
        rw [hI.tmps]
        exact hon.1
      have hyv : ∀ (j : Nat) (o' : Oper) (d : Tmp), ops[j]? = some o' → o'.dst = some d → yielded ops a.tmps j = (match a.tmps.getD d undef with
          | .bool b => some b
          | _ => none) := by
        intro j o' d hj hd
        have hlt2 := hdl j o' d hj hd
        unfold yielded
        rw [hj]
        simp only [Option.bind_some, hd]
        have e : a.tmps.getD d undef = a.tmps[d] := by simp [Array.getD, hlt2]
        rw [Array.getElem?_eq_getElem hlt2, e]
        generalize a.tmps[d] = v
        cases v <;> rfl
      have hst := step i o hit ho a.eval (yielded ops a.tmps) w hI.below ⟨fun _ => rfl, fun _ => rfl, fun _ => rfl⟩ (fun j o' d hj hnj hd => hI.facts j o' d hj (hneeds j hnj) hd)
        (fun t hfree => hI.rest t fun k ok hk hlk hdk => by
          unfold freeB at hfree
          rw [List.all_eq_true] at hfree
          have h1 := hfree k (List.mem_range.2 (Array.getElem?_eq_some_iff.1 hk).1)
          rw [hk] at h1
          simp only [Bool.or_eq_true] at h1
          rcases h1 with (h1 | h1) | h1
          · simp [hdk] at h1
          · rw [beq_iff_eq] at h1
            subst h1
            rw [hnf] at hlk; cases hlk
          · rw [hI.closed k ok hk hlk i h1] at hnf; cases hnf)
        (fun j o' d b hj hd hb => by
          rw [hyv j o' d hj hd]
          have hb' : a.tmps.getD d undef = .bool b := hb
          rw [hb'])
        (fun j o' d hj hd hb => by
          rw [hyv j o' d hj hd]
          have hb' : a.tmps.getD d undef = undef := hb
          rw [hb']
          rfl)
      have next : ∀ v w', F i v w' → Below w.heap.size w w' → wpAny P .any ops Q fuel (l.setIfInBounds i true) (a.put o.dst v) w' := by
        intro v w' hv hb
        refine ih _ _ _ (by have := left_set (n := ops.size) (l := l) hI.size hlt hn; omega) ?_ (fun k hk => by
          rw [getD_set hlt'] at hk
          rcases hk with rfl | hk
          · exact hit
          · exact hbt k hk)
        refine ⟨by simpa using hI.size, hI.below.trans (hb.mono hI.below.size), ?_, ?_, ?_, ?_, ?_⟩
        · rw [← hI.defers]; cases o.dst <;> rfl
        · rw [← hI.tmps]; cases o.dst <;> simp [Act.put]
        · intro k ok hk hlk j hj
          rw [getD_set hlt'] at hlk ⊢
          rcases hlk with rfl | hlk
          · rw [ho] at hk
            obtain rfl := Option.some.inj hk
            exact .inr (hneeds j hj)
          · exact .inr (hI.closed k ok hk hlk j hj)
        · intro k ok d hk hlk hd
          have hon := List.all_eq_true.1 honce k (List.mem_range.2 (Array.getElem?_eq_some_iff.1 hk).1)
          rw [hk] at hon
          simp only [hd, Bool.and_eq_true, decide_eq_true_eq] at hon
          obtain ⟨hdl, hon⟩ := hon
          rw [List.all_eq_true] at hon
          rw [getD_set hlt'] at hlk
          rcases hlk with rfl | hlk
          · rw [ho] at hk
            obtain rfl := Option.some.inj hk
            rw [hd, put_getD (by rw [hI.tmps]; exact hdl), if_pos rfl]
            exact hv
          · have hne : o.dst ≠ some d := by
              have h1 := hon i (List.mem_range.2 hlt)
              rw [ho] at h1
              simp only [Bool.or_eq_true, beq_iff_eq] at h1
              rcases h1 with rfl | h1
              · rw [hnf] at hlk; cases hlk
              · simpa using h1
            have he : (a.put o.dst v).tmps.getD d undef = a.tmps.getD d undef := by
              cases hod : o.dst with
              | none => rfl
              | some d' =>
                have hi2 := List.all_eq_true.1 honce i (List.mem_range.2 hlt)
                rw [ho] at hi2
                simp only [hod, Bool.and_eq_true, decide_eq_true_eq] at hi2
                rw [put_getD (by rw [hI.tmps]; exact hi2.1), if_neg]
                rintro rfl
                exact hne hod
            rw [he]
            exact hF _ _ _ _ hb (hI.facts k ok d hk hlk hd)
        · intro t ht
          have hne : o.dst ≠ some t := ht i o ho (by rw [getD_set hlt']; exact .inl rfl)
          have he : (a.put o.dst v).tmps.getD t undef = a.tmps.getD t undef := by
            cases hod : o.dst with
            | none => rfl
            | some d' =>
              have hi2 := List.all_eq_true.1 honce i (List.mem_range.2 hlt)
              rw [ho] at hi2
              simp only [hod, Bool.and_eq_true, decide_eq_true_eq] at hi2
              rw [put_getD (by rw [hI.tmps]; exact hi2.1), if_neg]
              rintro rfl
              exact hne hod
          rw [he]
          exact hI.rest t fun k ok hk hlk => ht k ok hk (by rw [getD_set hlt']; exact .inr hlk)
      unfold wpOp
      rw [ho]
      simp only
      split at hst
      · rename_i hw
        rw [if_pos hw]
        exact .inl (Does.wp hst fun v w' ⟨h1, h2⟩ => next v w' h1 h2)
      · rename_i hw
        rw [if_neg hw]
        exact next _ _ hst (Below.refl _ _)
  have hz0 : ∀ k, (Array.replicate ops.size false).getD k false = false := by
    intro k
    by_cases hk : k < ops.size
    · simp [Array.getD, hk]
    · simp [Array.getD, hk]
  refine key ops.size _ _ _ ?_ ?_ (fun k h => by rw [hz0] at h; cases h)
  · unfold leftOf
    refine Nat.le_trans (List.length_filter_le _ _) (by simp)
  · have hz : ∀ k, (Array.replicate ops.size false).getD k false = false := by
      intro k
      by_cases hk : k < ops.size
      · simp [Array.getD, hk]
      · simp [Array.getD, hk]
    refine ⟨by simp, (Below.refl _ _).drew, rfl, rfl, fun k o _ h => ?_, fun i o d _ h => ?_, fun t _ => rfl⟩
    · rw [hz] at h; cases h
    · rw [hz] at h; cases h



theorem seq_tailIn {L n : Nat} {t : Nat} (hback : backB ops = true) (ht : tailB ops t = true) : ∀ (d s : Nat) (l : Array Bool) (a : Act) (w : World) (fuel : Nat), ops.size - s = d → leftOf ops.size l ≤ fuel → l.size = ops.size → t ≤ s → s ≤ ops.size → (∀ k, l.getD k false = true ↔ k < s) →
    wpListIn (Fence.wide.inRound L) n P ops Q (ops.toList.drop s) a w → wpAnyIn (Fence.wide.inRound L) n P .any ops Q fuel l a w := by
  intro d
  induction d with
  | zero =>
    intro s l a w fuel hd hl hs h1 h2 hk h
    obtain rfl : s = ops.size := by omega
    rw [List.drop_of_length_le (by simp)] at h
    have hr : Region.ready .any ops l = [] := by
      rw [List.eq_nil_iff_forall_not_mem]
      intro i hi
      obtain ⟨o, ho, hlt, hn, _⟩ := ready_spec hi
      have : l.getD i true = l.getD i false := by simp [Array.getD, hs, hlt]
      rw [this] at hn
      rw [(hk i).2 hlt] at hn
      cases hn
    cases fuel with
    | zero => exact ⟨hr, h⟩
    | succ fuel => exact ⟨fun _ => h, fun i hi => by rw [hr] at hi; cases hi⟩
  | succ d ih =>
    intro s l a w fuel hd hl hs h1 h2 hk h
    have hlt : s < ops.size := by omega
    have hns : l.getD s false = false := by
      cases hb : l.getD s false with
      | false => rfl
      | true => have := (hk s).1 hb; omega
    have hnr : ¬ Region.ready .any ops l = [] := by
      intro hr
      have := ready_nil hs hback hr s hlt
      rw [hns] at this; cases this
    have hsl : l.getD s true = false := by
      have : l.getD s true = l.getD s false := by simp [Array.getD, hs, hlt]
      rw [this, hns]
    cases fuel with
    | zero =>
      exfalso
      have := left_set (n := ops.size) (l := l) hs hlt hsl
      omega
    | succ fuel =>
      refine ⟨fun hr => absurd hr hnr, fun i hi => ?_⟩
      obtain ⟨o, ho, hilt, hn, hneeds⟩ := ready_spec hi
      have hni : l.getD i false = false := by
        have : l.getD i true = l.getD i false := by simp [Array.getD, hs, hilt]
        rw [← this]; exact hn
      have his : i = s := by
        rcases Nat.lt_trichotomy i s with h3 | h3 | h3
        · rw [(hk i).2 h3] at hni; cases hni
        · exact h3
        · have hc : ∀ k o, ops[k]? = some o → l.getD k false = true → ∀ j, needsB o j = true → l.getD j false = true := by
            intro k ok hok hkl j hj
            refine (hk j).2 ?_
            have hkl' := (hk k).1 hkl
            unfold backB at hback
            rw [List.all_eq_true] at hback
            have h4 := hback k (List.mem_range.2 (Array.getElem?_eq_some_iff.1 hok).1)
            rw [hok] at h4
            simp only at h4
            unfold needsB at hj
            rw [Array.any_eq_true] at hj
            obtain ⟨q, hq, h5⟩ := hj
            rw [Array.all_eq_true] at h4
            have h6 := h4 q hq
            rw [Bool.and_eq_true, beq_iff_eq] at h5
            rw [h5.1] at h6
            simp at h6
            omega
          have := cover_spec (tail_cover ht hilt (by omega)) hc ho hneeds s h3
          rw [hns] at this; cases this
      subst his
      have hdrop : ops.toList.drop i = o :: ops.toList.drop (i + 1) := by
        have hl' : i < ops.toList.length := by simpa using hilt
        rw [List.drop_eq_getElem_cons hl']
        congr 1
        have := (Array.getElem?_eq_some_iff.1 ho).2
        simpa using this
      rw [hdrop] at h
      have next : ∀ a' w', wpListIn (Fence.wide.inRound L) n P ops Q (ops.toList.drop (i + 1)) a' w' → wpAnyIn (Fence.wide.inRound L) n P .any ops Q fuel (l.setIfInBounds i true) a' w' := by
        intro a' w' h'
        refine ih (i + 1) _ a' w' fuel (by omega) (by have := left_set (n := ops.size) (l := l) hs hlt hsl; omega) (by simpa using hs) (by omega) (by omega) ?_ h'
        intro k
        rw [getD_set (by rw [hs]; exact hlt), hk k]
        omega
      unfold wpOpIn
      rw [ho]
      simp only
      simp only [wpListIn] at h
      split at h
      · rename_i hw
        rw [if_pos hw]
        exact Oper.wpIn_mono next h
      · rename_i hw
        rw [if_neg hw]
        exact ⟨h.1, next _ _ h.2⟩

/-- THE REGION: F i says what operation i yields; it lasts while nothing old is written. -/
theorem wpIn_region_flowT {id L n : Nat} (hnd : ndB ops = true) (t : Nat) (ht : tailB ops t = true) (hm : P.follows .mixedOrders = true) (F : Nat → Value → World → Prop)
    (hF : ∀ i v w w', Below w.heap.size w w' → F i v w → F i v w') (hback : backB ops = true) (honce : onceB ops a0.tmps.size = true)
    (step : ∀ (i : Nat) (o : Oper), i < t → ops[i]? = some o → ∀ (ρ : Operand → Value) (y : Nat → Option Bool) (w : World), Below w0.heap.size w0 w → Plain ρ →
      (∀ (j : Nat) (o' : Oper) (d : Tmp), ops[j]? = some o' → needsB o j = true → o'.dst = some d → F j (ρ (.tmp d)) w) →
      (∀ (t : Tmp), freeB ops i t = true → ρ (.tmp t) = a0.tmps.getD t undef) →
      (∀ (j : Nat) (o' : Oper) (d : Tmp) (b : Bool), ops[j]? = some o' → o'.dst = some d → ρ (.tmp d) = .bool b → y j = some b) →
      (∀ (j : Nat) (o' : Oper) (d : Tmp), ops[j]? = some o' → o'.dst = some d → ρ (.tmp d) = undef → y j = none) →
      if Region.wanted o y = true then Does P o ρ w (fun v w' => F i v w' ∧ Below w.heap.size w w') else F i undef w)
    (fin : ∀ (a : Act) (w : World), Below w0.heap.size w0 w → a.defers = a0.defers → a.tmps.size = a0.tmps.size → (∀ (i : Nat) (o : Oper) (d : Tmp), i < t → ops[i]? = some o → o.dst = some d → F i (a.tmps.getD d undef) w) →
      (∀ (x : Tmp), writesT ops t x = false → a.tmps.getD x undef = a0.tmps.getD x undef) → wpListIn (Fence.wide.inRound L) n P ops Q (ops.toList.drop t) a w) :
    (Code.region id ops true).wpIn (Fence.wide.inRound L) n P Q a0 w0 := by
  refine wpIn_region_any hm ?_
  have key : ∀ (fuel : Nat) (l : Array Bool) (a : Act) (w : World), leftOf ops.size l ≤ fuel → FlowInv ops F a0 w0 l a w → (∀ k, l.getD k false = true → k < t) → wpAnyIn (Fence.wide.inRound L) n P .any ops Q fuel l a w := by
    have hts : t ≤ ops.size := by
      unfold tailB at ht
      rw [Bool.and_eq_true, decide_eq_true_eq] at ht
      exact ht.1
    have full : ∀ (l : Array Bool) (a : Act) (w : World) (fuel : Nat), leftOf ops.size l ≤ fuel → FlowInv ops F a0 w0 l a w → (∀ k, l.getD k false = true → k < t) → (∀ k, k < t → l.getD k false = true) → wpAnyIn (Fence.wide.inRound L) n P .any ops Q fuel l a w := by
      intro l a w fuel hl hI hlt hall
      refine seq_tailIn hback ht _ t l a w fuel rfl hl hI.size (Nat.le_refl _) hts (fun k => ⟨hlt k, hall k⟩) ?_
      refine fin a w hI.below hI.defers hI.tmps (fun i o d hit ho hd => hI.facts i o d ho (hall i hit) hd) (fun x hx => hI.rest x fun i o ho hl' hd => ?_)
      have := writesT_not hx i o ho (hlt i hl')
      exact this hd
    intro fuel
    induction fuel with
    | zero =>
      intro l a w hl hI hbt
      refine full l a w 0 hl hI hbt fun k hk => ?_
      cases hlk : l.getD k false with
      | true => rfl
      | false =>
        exfalso
        have := left_set (n := ops.size) (l := l) (i := k) hI.size (by omega) (by
          have e : l.getD k true = l.getD k false := by simp [Array.getD, hI.size, show k < ops.size by omega]
          rw [e, hlk])
        omega
    | succ fuel ih =>
      intro l a w hl hI hbt
      by_cases hall : ∀ k, k < t → l.getD k false = true
      · exact full l a w _ hl hI hbt hall
      have hnr : ¬ Region.ready .any ops l = [] := fun hr => hall fun k hk => ready_nil hI.size hback hr k (by omega)
      refine ⟨fun hr => absurd hr hnr, fun i hi => ?_⟩
      obtain ⟨o, ho, hlt, hn, hneeds⟩ := ready_spec hi
      have hlt' : i < l.size := by rw [hI.size]; exact hlt
      have hnf : l.getD i false = false := by
        have : l.getD i true = l.getD i false := by simp [Array.getD, hlt']
        rw [← this]; exact hn
      have hit : i < t := by
        rcases Nat.lt_or_ge i t with h1 | h1
        · exact h1
        · exfalso
          exact hall fun k hk => cover_spec (tail_cover ht hlt h1) hI.closed ho hneeds k (by omega)
      have hdl : ∀ (j : Nat) (o' : Oper) (d : Tmp), ops[j]? = some o' → o'.dst = some d → d < a.tmps.size := by
        intro j o' d hj hd
        have hon := List.all_eq_true.1 honce j (List.mem_range.2 (Array.getElem?_eq_some_iff.1 hj).1)
        rw [hj] at hon
        simp only [hd, Bool.and_eq_true, decide_eq_true_eq] at hon
        rw [hI.tmps]
        exact hon.1
      have hyv : ∀ (j : Nat) (o' : Oper) (d : Tmp), ops[j]? = some o' → o'.dst = some d → yielded ops a.tmps j = (match a.tmps.getD d undef with
          | .bool b => some b
          | _ => none) := by
        intro j o' d hj hd
        have hlt2 := hdl j o' d hj hd
        unfold yielded
        rw [hj]
        simp only [Option.bind_some, hd]
        have e : a.tmps.getD d undef = a.tmps[d] := by simp [Array.getD, hlt2]
        rw [Array.getElem?_eq_getElem hlt2, e]
        generalize a.tmps[d] = v
        cases v <;> rfl
      have hst := step i o hit ho a.eval (yielded ops a.tmps) w hI.below ⟨fun _ => rfl, fun _ => rfl, fun _ => rfl⟩ (fun j o' d hj hnj hd => hI.facts j o' d hj (hneeds j hnj) hd)
        (fun t hfree => hI.rest t fun k ok hk hlk hdk => by
          unfold freeB at hfree
          rw [List.all_eq_true] at hfree
          have h1 := hfree k (List.mem_range.2 (Array.getElem?_eq_some_iff.1 hk).1)
          rw [hk] at h1
          simp only [Bool.or_eq_true] at h1
          rcases h1 with (h1 | h1) | h1
          · simp [hdk] at h1
          · rw [beq_iff_eq] at h1
            subst h1
            rw [hnf] at hlk; cases hlk
          · rw [hI.closed k ok hk hlk i h1] at hnf; cases hnf)
        (fun j o' d b hj hd hb => by
          rw [hyv j o' d hj hd]
          have hb' : a.tmps.getD d undef = .bool b := hb
          rw [hb'])
        (fun j o' d hj hd hb => by
          rw [hyv j o' d hj hd]
          have hb' : a.tmps.getD d undef = undef := hb
          rw [hb']
          rfl)
      have next : ∀ v w', F i v w' → Below w.heap.size w w' → wpAnyIn (Fence.wide.inRound L) n P .any ops Q fuel (l.setIfInBounds i true) (a.put o.dst v) w' := by
        intro v w' hv hb
        refine ih _ _ _ (by have := left_set (n := ops.size) (l := l) hI.size hlt hn; omega) ?_ (fun k hk => by
          rw [getD_set hlt'] at hk
          rcases hk with rfl | hk
          · exact hit
          · exact hbt k hk)
        refine ⟨by simpa using hI.size, hI.below.trans (hb.mono hI.below.size), ?_, ?_, ?_, ?_, ?_⟩
        · rw [← hI.defers]; cases o.dst <;> rfl
        · rw [← hI.tmps]; cases o.dst <;> simp [Act.put]
        · intro k ok hk hlk j hj
          rw [getD_set hlt'] at hlk ⊢
          rcases hlk with rfl | hlk
          · rw [ho] at hk
            obtain rfl := Option.some.inj hk
            exact .inr (hneeds j hj)
          · exact .inr (hI.closed k ok hk hlk j hj)
        · intro k ok d hk hlk hd
          have hon := List.all_eq_true.1 honce k (List.mem_range.2 (Array.getElem?_eq_some_iff.1 hk).1)
          rw [hk] at hon
          simp only [hd, Bool.and_eq_true, decide_eq_true_eq] at hon
          obtain ⟨hdl, hon⟩ := hon
          rw [List.all_eq_true] at hon
          rw [getD_set hlt'] at hlk
          rcases hlk with rfl | hlk
          · rw [ho] at hk
            obtain rfl := Option.some.inj hk
            rw [hd, put_getD (by rw [hI.tmps]; exact hdl), if_pos rfl]
            exact hv
          · have hne : o.dst ≠ some d := by
              have h1 := hon i (List.mem_range.2 hlt)
              rw [ho] at h1
              simp only [Bool.or_eq_true, beq_iff_eq] at h1
              rcases h1 with rfl | h1
              · rw [hnf] at hlk; cases hlk
              · simpa using h1
            have he : (a.put o.dst v).tmps.getD d undef = a.tmps.getD d undef := by
              cases hod : o.dst with
              | none => rfl
              | some d' =>
                have hi2 := List.all_eq_true.1 honce i (List.mem_range.2 hlt)
                rw [ho] at hi2
                simp only [hod, Bool.and_eq_true, decide_eq_true_eq] at hi2
                rw [put_getD (by rw [hI.tmps]; exact hi2.1), if_neg]
                rintro rfl
                exact hne hod
            rw [he]
            exact hF _ _ _ _ hb (hI.facts k ok d hk hlk hd)
        · intro t ht
          have hne : o.dst ≠ some t := ht i o ho (by rw [getD_set hlt']; exact .inl rfl)
          have he : (a.put o.dst v).tmps.getD t undef = a.tmps.getD t undef := by
            cases hod : o.dst with
            | none => rfl
            | some d' =>
              have hi2 := List.all_eq_true.1 honce i (List.mem_range.2 hlt)
              rw [ho] at hi2
              simp only [hod, Bool.and_eq_true, decide_eq_true_eq] at hi2
              rw [put_getD (by rw [hI.tmps]; exact hi2.1), if_neg]
              rintro rfl
              exact hne hod
          rw [he]
          exact hI.rest t fun k ok hk hlk => ht k ok hk (by rw [getD_set hlt']; exact .inr hlk)
      unfold wpOpIn
      rw [ho]
      simp only
      split at hst
      · rename_i hw
        rw [if_pos hw]
        exact Does.wpIn hst (ndB_spec hnd ho) fun v w' ⟨h1, h2⟩ => next v w' h1 h2
      · rename_i hw
        rw [if_neg hw]
        exact ⟨fun _ _ => trivial, next _ _ hst (Below.refl _ _)⟩
  have hz0 : ∀ k, (Array.replicate ops.size false).getD k false = false := by
    intro k
    by_cases hk : k < ops.size
    · simp [Array.getD, hk]
    · simp [Array.getD, hk]
  refine key ops.size _ _ _ ?_ ?_ (fun k h => by rw [hz0] at h; cases h)
  · unfold leftOf
    refine Nat.le_trans (List.length_filter_le _ _) (by simp)
  · have hz : ∀ k, (Array.replicate ops.size false).getD k false = false := by
      intro k
      by_cases hk : k < ops.size
      · simp [Array.getD, hk]
      · simp [Array.getD, hk]
    refine ⟨by simp, (Below.refl _ _).drew, rfl, rfl, fun k o _ h => ?_, fun i o d _ h => ?_, fun t _ => rfl⟩
    · rw [hz] at h; cases h
    · rw [hz] at h; cases h


end
end Go.Proofs.Ytaaddckhldccjaa
