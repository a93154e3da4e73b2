/- Regions that leave their order open, taken by an invariant on what has come up, on the frame and on the world: plain, and in the round of a range over a function. -/
import Derived.OrdersIn
import Derived.RangeFuncCalls
import Derived.TacticsIn
import Derived.Test.YtaaddckhldccjaaReg
namespace Go.Proofs.Ytaaddckhldccjaa
open Go.RowKit
variable {P : Program}

/-- No operation is deferred. -/
def ndB (ops : Array Oper) : Bool := ops.all fun o => match o.op with
  | .defer _ => false
  | _ => true
theorem ndB_spec {ops : Array Oper} (h : ndB ops = true) {i : Nat} {o : Oper} (ho : ops[i]? = some o) : ∀ c, o.op ≠ .defer c := by
  intro c hc
  unfold ndB at h
  rw [Array.all_eq_true] at h
  obtain ⟨hi, rfl⟩ := Array.getElem?_eq_some_iff.1 ho
  have := h i hi
  rw [hc] at this
  cases this
theorem Does.wpIn {L n : Nat} {o : Oper} {a : Act} {w : World} {R : Value → World → Prop} {K : Act → World → Prop} {Q : Exit → Act → World → Prop}
    (h : Does P o a.eval w R) (hnd : ∀ c, o.op ≠ .defer c) (k : ∀ v w', R v w' → K (a.put o.dst v) w') : o.wpIn (Fence.wide.inRound L) n P a w K Q := by
  unfold Does at h
  unfold Oper.wpIn
  refine ⟨fun _ _ => trivial, ?_⟩
  rw [show (Fence.wide.inRound L).round = some L from rfl, Oper.semAt_some L _ _ hnd]
  generalize (execOp a.eval o).run P w = r at *
  cases r with
  | halt x w' => exact h.elim
  | ok n w' =>
    cases n with
    | value v => exact k _ _ h
    | skip => exact k _ _ h
    | enter f args =>
      refine ⟨fun h => (by cases h), CallsIn.inRound L (callsIn_wide.2 (Calls.mono h ?_))⟩
      rintro e w'' ⟨v, rfl, hR⟩
      exact k _ _ hR
    | _ => exact h.elim
theorem does_skip {ρ : Operand → Value} {w w' : World} {R : Value → World → Prop} {o : Oper} (he : (execOp ρ o).run P w = .ok .skip w') (h : R undef w') : Does P o ρ w R := by
  unfold Does; rw [he]; exact h
section
variable {ops : Array Oper} {Q : Exit → Act → World → Prop} {a0 : Act} {w0 : World}

/-- The region, by an invariant. -/
theorem wp_region_J {id : Nat} (hm : P.follows .mixedOrders = true) (J : (Nat → Prop) → Act → World → Prop) (hback : backB ops = true) (hJ0 : J (fun _ => False) a0 w0.drew)
    (step : ∀ (i : Nat) (o : Oper), ops[i]? = some o → ∀ (S : Nat → Prop) (a : Act) (w : World), J S a w → ¬ S i → (∀ j, needsB o j = true → S j) → (∀ k ok, ops[k]? = some ok → S k → ∀ j, needsB ok j = true → S j) →
      if Region.wanted o (yielded ops a.tmps) = true then Does P o a.eval w (fun v w' => J (fun k => k = i ∨ S k) (a.put o.dst v) w') else J (fun k => k = i ∨ S k) (a.put o.dst undef) w)
    (fin : ∀ (a : Act) (w : World) (S : Nat → Prop), J S a w → (∀ i, i < ops.size → S i) → Q .normal a w) :
    (Code.region id ops true).wp P Q a0 w0 := by
  refine wp_region_any hm ?_
  have key : ∀ (fuel : Nat) (l : Array Bool) (a : Act) (w : World), leftOf ops.size l ≤ fuel → l.size = ops.size → J (fun k => l.getD k false = true) a w →
      (∀ k ok, ops[k]? = some ok → l.getD k false = true → ∀ j, needsB ok j = true → l.getD j false = true) → wpAny P .any ops Q fuel l a w := by
    have done : ∀ (l : Array Bool) (a : Act) (w : World), l.size = ops.size → J (fun k => l.getD k false = true) a w → Region.ready .any ops l = [] → Q .normal a w := by
      intro l a w hs hI hr
      exact fin a w _ hI (ready_nil hs hback hr)
    intro fuel
    induction fuel with
    | zero =>
      intro l a w hl hs hI hcl
      have hr : Region.ready .any ops l = [] := by
        rw [List.eq_nil_iff_forall_not_mem]
        intro i hi
        obtain ⟨o, ho, hlt, hn, _⟩ := ready_spec hi
        have := left_set (n := ops.size) (l := l) hs hlt hn
        omega
      exact ⟨hr, done l a w hs hI hr⟩
    | succ fuel ih =>
      intro l a w hl hs hI hcl
      refine ⟨done l a w hs hI, fun i hi => ?_⟩
      obtain ⟨o, ho, hlt, hn, hneeds⟩ := ready_spec hi
      have hlt' : i < l.size := by rw [hs]; exact hlt
      have hnf : ¬ l.getD i false = true := by
        have : l.getD i true = l.getD i false := by simp [Array.getD, hlt']
        rw [← this, hn]
        decide
      have hst := step i o ho _ a w hI hnf hneeds hcl
      have hS : (fun k => (l.setIfInBounds i true).getD k false = true) = (fun k => k = i ∨ l.getD k false = true) := funext fun k => propext (getD_set hlt')
      have next : ∀ v w', J (fun k => k = i ∨ l.getD k false = true) (a.put o.dst v) w' → wpAny P .any ops Q fuel (l.setIfInBounds i true) (a.put o.dst v) w' := by
        intro v w' hj
        refine ih _ _ _ (by have := left_set (n := ops.size) (l := l) hs hlt hn; omega) (by simpa using hs) (by rw [hS]; exact hj) ?_
        intro k ok hk hlk j hj
        rw [getD_set hlt'] at hlk ⊢
        rcases hlk with rfl | hlk
        · rw [ho] at hk
          obtain rfl := Option.some.inj hk
          exact .inr (hneeds j hj)
        · exact .inr (hcl k ok hk hlk j hj)
      unfold wpOp
      rw [ho]
      simp only
      split at hst
      · rename_i hw
        rw [if_pos hw]
        exact .inl (Does.wp hst next)
      · rename_i hw
        rw [if_neg hw]
        exact next _ _ hst
  have hz : ∀ k, (Array.replicate ops.size false).getD k false = false := by
    intro k
    by_cases hk : k < ops.size
    · simp [Array.getD, hk]
    · simp [Array.getD, hk]
  refine key ops.size _ _ _ ?_ (by simp) ?_ (fun k o _ h => by rw [hz] at h; cases h)
  · unfold leftOf
    refine Nat.le_trans (List.length_filter_le _ _) (by simp)
  · have e : (fun k => (Array.replicate ops.size false).getD k false = true) = (fun _ => False) := funext fun k => propext (Iff.intro (fun h => by rw [hz] at h; cases h) (fun h => False.elim h))
    rw [e]
    exact hJ0

/-- The region in a round. -/
theorem wpIn_region_J {id L n : Nat} (hnd : ndB ops = true) (hm : P.follows .mixedOrders = true) (J : (Nat → Prop) → Act → World → Prop) (hback : backB ops = true) (hJ0 : J (fun _ => False) a0 w0.drew)
    (step : ∀ (i : Nat) (o : Oper), ops[i]? = some o → ∀ (S : Nat → Prop) (a : Act) (w : World), J S a w → ¬ S i → (∀ j, needsB o j = true → S j) → (∀ k ok, ops[k]? = some ok → S k → ∀ j, needsB ok j = true → S j) →
      if Region.wanted o (yielded ops a.tmps) = true then Does P o a.eval w (fun v w' => J (fun k => k = i ∨ S k) (a.put o.dst v) w') else J (fun k => k = i ∨ S k) (a.put o.dst undef) w)
    (fin : ∀ (a : Act) (w : World) (S : Nat → Prop), J S a w → (∀ i, i < ops.size → S i) → Q .normal a w) :
    (Code.region id ops true).wpIn (Fence.wide.inRound L) n P Q a0 w0 := by
  refine wpIn_region_any hm ?_
  have key : ∀ (fuel : Nat) (l : Array Bool) (a : Act) (w : World), leftOf ops.size l ≤ fuel → l.size = ops.size → J (fun k => l.getD k false = true) a w →
      (∀ k ok, ops[k]? = some ok → l.getD k false = true → ∀ j, needsB ok j = true → l.getD j false = true) → wpAnyIn (Fence.wide.inRound L) n P .any ops Q fuel l a w := by
    have done : ∀ (l : Array Bool) (a : Act) (w : World), l.size = ops.size → J (fun k => l.getD k false = true) a w → Region.ready .any ops l = [] → Q .normal a w := by
      intro l a w hs hI hr
      exact fin a w _ hI (ready_nil hs hback hr)
    intro fuel
    induction fuel with
    | zero =>
      intro l a w hl hs hI hcl
      have hr : Region.ready .any ops l = [] := by
        rw [List.eq_nil_iff_forall_not_mem]
        intro i hi
        obtain ⟨o, ho, hlt, hn, _⟩ := ready_spec hi
        have := left_set (n := ops.size) (l := l) hs hlt hn
        omega
      exact ⟨hr, done l a w hs hI hr⟩
    | succ fuel ih =>
      intro l a w hl hs hI hcl
      refine ⟨done l a w hs hI, fun i hi => ?_⟩
      obtain ⟨o, ho, hlt, hn, hneeds⟩ := ready_spec hi
      have hlt' : i < l.size := by rw [hs]; exact hlt
      have hnf : ¬ l.getD i false = true := by
        have : l.getD i true = l.getD i false := by simp [Array.getD, hlt']
        rw [← this, hn]
        decide
      have hst := step i o ho _ a w hI hnf hneeds hcl
      have hS : (fun k => (l.setIfInBounds i true).getD k false = true) = (fun k => k = i ∨ l.getD k false = true) := funext fun k => propext (getD_set hlt')
      have next : ∀ v w', J (fun k => k = i ∨ l.getD k false = true) (a.put o.dst v) w' → wpAnyIn (Fence.wide.inRound L) n P .any ops Q fuel (l.setIfInBounds i true) (a.put o.dst v) w' := by
        intro v w' hj
        refine ih _ _ _ (by have := left_set (n := ops.size) (l := l) hs hlt hn; omega) (by simpa using hs) (by rw [hS]; exact hj) ?_
        intro k ok hk hlk j hj
        rw [getD_set hlt'] at hlk ⊢
        rcases hlk with rfl | hlk
        · rw [ho] at hk
          obtain rfl := Option.some.inj hk
          exact .inr (hneeds j hj)
        · exact .inr (hcl k ok hk hlk j hj)
      unfold wpOpIn
      rw [ho]
      simp only
      split at hst
      · rename_i hw
        rw [if_pos hw]
        exact Does.wpIn hst (ndB_spec hnd ho) next
      · rename_i hw
        rw [if_neg hw]
        exact ⟨fun _ _ => trivial, next _ _ hst⟩
  have hz : ∀ k, (Array.replicate ops.size false).getD k false = false := by
    intro k
    by_cases hk : k < ops.size
    · simp [Array.getD, hk]
    · simp [Array.getD, hk]
  refine key ops.size _ _ _ ?_ (by simp) ?_ (fun k o _ h => by rw [hz] at h; cases h)
  · unfold leftOf
    refine Nat.le_trans (List.length_filter_le _ _) (by simp)
  · have e : (fun k => (Array.replicate ops.size false).getD k false = true) = (fun _ => False) := funext fun k => propext (Iff.intro (fun h => by rw [hz] at h; cases h) (fun h => False.elim h))
    rw [e]
    exact hJ0

end
end Go.Proofs.Ytaaddckhldccjaa
