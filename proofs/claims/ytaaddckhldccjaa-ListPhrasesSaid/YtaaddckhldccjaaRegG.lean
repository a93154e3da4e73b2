/- A region that draws its order, by an invariant on what has come up, on the values and on the world. -/
import Derived.Test.YtaaddckhldccjaaReg
namespace Go.Proofs.Ytaaddckhldccjaa
open Go.RowKit
set_option linter.unusedVariables false
variable {P : Program}
section
variable {ops : Array Oper} {Q : Exit → Act → World → Prop} {a0 : Act} {w0 : World}
def upd (r : Nat → Value) (i : Nat) (v : Value) : Nat → Value := fun k => if k = i then v else r k
structure FlowInvG (ops : Array Oper) (a0 : Act) (J : (Nat → Prop) → (Nat → Value) → World → Prop) (l : Array Bool) (r : Nat → Value) (a : Act) (w : World) : Prop where
  size : l.size = ops.size
  inv : J (fun k => l.getD k false = true) r w
  defers : a.defers = a0.defers
  tmps : a.tmps.size = a0.tmps.size
  closed : ∀ k o, ops[k]? = some o → l.getD k false = true → ∀ j, needsB o j = true → l.getD j false = true
  facts : ∀ i o d, ops[i]? = some o → l.getD i false = true → o.dst = some d → a.tmps.getD d undef = r i
  rest : ∀ t, (∀ i o, ops[i]? = some o → l.getD i false = true → o.dst ≠ some t) → a.tmps.getD t undef = a0.tmps.getD t undef
theorem wp_region_flowG {id : Nat} (hm : P.follows .mixedOrders = true) (J : (Nat → Prop) → (Nat → Value) → World → Prop)
    (hJ0 : ∀ r, J (fun _ => False) r w0.drew) (hback : backB ops = true) (honce : onceB ops a0.tmps.size = true)
    (step : ∀ (i : Nat) (o : Oper), ops[i]? = some o → ∀ (ρ : Operand → Value) (y : Nat → Option Bool) (w : World) (S : Nat → Prop) (r : Nat → Value), J S r w → ¬ S i → (∀ j, needsB o j = true → S j) → (∀ k ok, ops[k]? = some ok → S k → ∀ j, needsB ok j = true → S j) → Plain ρ →
      (∀ (j : Nat) (o' : Oper) (d : Tmp), ops[j]? = some o' → needsB o j = true → o'.dst = some d → ρ (.tmp d) = r j) →
      (∀ (t : Tmp), freeB ops i t = true → ρ (.tmp t) = a0.tmps.getD t undef) →
      (∀ (j : Nat) (o' : Oper) (d : Tmp) (b : Bool), ops[j]? = some o' → o'.dst = some d → ρ (.tmp d) = .bool b → y j = some b) →
      (∀ (j : Nat) (o' : Oper) (d : Tmp), ops[j]? = some o' → o'.dst = some d → ρ (.tmp d) = undef → y j = none) →
      if Region.wanted o y = true then Does P o ρ w (fun v w' => J (fun k => k = i ∨ S k) (upd r i v) w') else J (fun k => k = i ∨ S k) (upd r i undef) w)
    (fin : ∀ (a : Act) (w : World) (S : Nat → Prop) (r : Nat → Value), J S r w → (∀ i, i < ops.size → S i) → a.defers = a0.defers → a.tmps.size = a0.tmps.size → (∀ (i : Nat) (o : Oper) (d : Tmp), ops[i]? = some o → o.dst = some d → a.tmps.getD d undef = r i) →
      (∀ (t : Tmp), writesB ops t = false → a.tmps.getD t undef = a0.tmps.getD t undef) → Q .normal a w) :
    (Code.region id ops true).wp P Q a0 w0 := by
  refine wp_region_any hm ?_
  have key : ∀ (fuel : Nat) (l : Array Bool) (r : Nat → Value) (a : Act) (w : World), leftOf ops.size l ≤ fuel → FlowInvG ops a0 J l r a w → wpAny P .any ops Q fuel l a w := by
    have done : ∀ (l : Array Bool) (r : Nat → Value) (a : Act) (w : World), FlowInvG ops a0 J l r a w → Region.ready .any ops l = [] → Q .normal a w := by
      intro l r a w hI hr'
      have hall := ready_nil hI.size hback hr'
      refine fin a w _ r hI.inv hall hI.defers hI.tmps (fun i o d ho hd => hI.facts i o d ho (hall i (Array.getElem?_eq_some_iff.1 ho).1) hd) (fun t ht => hI.rest t fun i o ho _ => writes_not ht i o ho)
    intro fuel
    induction fuel with
    | zero =>
      intro l r a w hl hI
      have hr : Region.ready .any ops l = [] := by
        rw [List.eq_nil_iff_forall_not_mem]
        intro i hi
        obtain ⟨o, ho, hlt, hn, _⟩ := ready_spec hi
        have := left_set (n := ops.size) (l := l) hI.size hlt hn
        omega
      exact ⟨hr, done l r a w hI hr⟩
    | succ fuel ih =>
      intro l r a w hl hI
      refine ⟨done l r a w hI, fun i hi => ?_⟩
      obtain ⟨o, ho, hlt, hn, hneeds⟩ := ready_spec hi
      have hlt' : i < l.size := by rw [hI.size]; exact hlt
      have hnf : l.getD i false = false := by
        have : l.getD i true = l.getD i false := by simp [Array.getD, hlt']
        rw [← this]; exact hn
      have hdl : ∀ (j : Nat) (o' : Oper) (d : Tmp), ops[j]? = some o' → o'.dst = some d → d < a.tmps.size := by
        intro j o' d hj hd
        have hon := List.all_eq_true.1 honce j (List.mem_range.2 (Array.getElem?_eq_some_iff.1 hj).1)
        rw [hj] at hon
        simp only [hd, Bool.and_eq_true, decide_eq_true_eq] at hon
        rw [hI.tmps]
        exact hon.1
      have hyv : ∀ (j : Nat) (o' : Oper) (d : Tmp), ops[j]? = some o' → o'.dst = some d → yielded ops a.tmps j = (match a.tmps.getD d undef with
          | .bool b => some b
          | _ => none) := by
        intro j o' d hj hd
        have hlt2 := hdl j o' d hj hd
        unfold yielded
        rw [hj]
        simp only [Option.bind_some, hd]
        have e : a.tmps.getD d undef = a.tmps[d] := by simp [Array.getD, hlt2]
        rw [Array.getElem?_eq_getElem hlt2, e]
        generalize a.tmps[d] = v
        cases v <;> rfl
      have hst := step i o ho a.eval (yielded ops a.tmps) w (fun k => l.getD k false = true) r hI.inv (by rw [hnf]; exact Bool.false_ne_true) hneeds hI.closed ⟨fun _ => rfl, fun _ => rfl, fun _ => rfl⟩ (fun j o' d hj hnj hd => hI.facts j o' d hj (hneeds j hnj) hd)
        (fun t hfree => hI.rest t fun k ok hk hlk hdk => by
          unfold freeB at hfree
          rw [List.all_eq_true] at hfree
          have h1 := hfree k (List.mem_range.2 (Array.getElem?_eq_some_iff.1 hk).1)
          rw [hk] at h1
          simp only [Bool.or_eq_true] at h1
          rcases h1 with (h1 | h1) | h1
          · simp [hdk] at h1
          · rw [beq_iff_eq] at h1
            subst h1
            rw [hnf] at hlk; cases hlk
          · rw [hI.closed k ok hk hlk i h1] at hnf; cases hnf)
        (fun j o' d b hj hd hb => by
          rw [hyv j o' d hj hd]
          have hb' : a.tmps.getD d undef = .bool b := hb
          rw [hb'])
        (fun j o' d hj hd hb => by
          rw [hyv j o' d hj hd]
          have hb' : a.tmps.getD d undef = undef := hb
          rw [hb']
          rfl)
      have next : ∀ v w', J (fun k => k = i ∨ l.getD k false = true) (upd r i v) w' → wpAny P .any ops Q fuel (l.setIfInBounds i true) (a.put o.dst v) w' := by
        intro v w' hj'
        refine ih _ (upd r i v) _ _ (by have := left_set (n := ops.size) (l := l) hI.size hlt hn; omega) ?_
        refine ⟨by simpa using hI.size, (by have e : (fun k => (l.setIfInBounds i true).getD k false = true) = (fun k => k = i ∨ l.getD k false = true) := funext fun k => propext (getD_set hlt'); rw [e]; exact hj'), ?_, ?_, ?_, ?_, ?_⟩
        · rw [← hI.defers]; cases o.dst <;> rfl
        · rw [← hI.tmps]; cases o.dst <;> simp [Act.put]
        · intro k ok hk hlk j hj
          rw [getD_set hlt'] at hlk ⊢
          rcases hlk with rfl | hlk
          · rw [ho] at hk
            obtain rfl := Option.some.inj hk
            exact .inr (hneeds j hj)
          · exact .inr (hI.closed k ok hk hlk j hj)
        · intro k ok d hk hlk hd
          have hon := List.all_eq_true.1 honce k (List.mem_range.2 (Array.getElem?_eq_some_iff.1 hk).1)
          rw [hk] at hon
          simp only [hd, Bool.and_eq_true, decide_eq_true_eq] at hon
          obtain ⟨hdl, hon⟩ := hon
          rw [List.all_eq_true] at hon
          rw [getD_set hlt'] at hlk
          rcases hlk with rfl | hlk
          · rw [ho] at hk
            obtain rfl := Option.some.inj hk
            rw [hd, put_getD (by rw [hI.tmps]; exact hdl), if_pos rfl]
            simp [upd]
          · have hne : o.dst ≠ some d := by
              have h1 := hon i (List.mem_range.2 hlt)
              rw [ho] at h1
              simp only [Bool.or_eq_true, beq_iff_eq] at h1
              rcases h1 with rfl | h1
              · rw [hnf] at hlk; cases hlk
              · simpa using h1
            have he : (a.put o.dst v).tmps.getD d undef = a.tmps.getD d undef := by
              cases hod : o.dst with
              | none => rfl
              | some d' =>
                have hi2 := List.all_eq_true.1 honce i (List.mem_range.2 hlt)
                rw [ho] at hi2
                simp only [hod, Bool.and_eq_true, decide_eq_true_eq] at hi2
                rw [put_getD (by rw [hI.tmps]; exact hi2.1), if_neg]
                rintro rfl
                exact hne hod
            rw [he]
            have hki : k ≠ i := fun e => by subst e; rw [hnf] at hlk; cases hlk
            simp only [upd, if_neg hki]
            exact hI.facts k ok d hk hlk hd
        · intro t ht
          have hne : o.dst ≠ some t := ht i o ho (by rw [getD_set hlt']; exact .inl rfl)
          have he : (a.put o.dst v).tmps.getD t undef = a.tmps.getD t undef := by
            cases hod : o.dst with
            | none => rfl
            | some d' =>
              have hi2 := List.all_eq_true.1 honce i (List.mem_range.2 hlt)
              rw [ho] at hi2
              simp only [hod, Bool.and_eq_true, decide_eq_true_eq] at hi2
              rw [put_getD (by rw [hI.tmps]; exact hi2.1), if_neg]
              rintro rfl
              exact hne hod
          rw [he]
          exact hI.rest t fun k ok hk hlk => ht k ok hk (by rw [getD_set hlt']; exact .inr hlk)
      unfold wpOp
      rw [ho]
      simp only
      split at hst
      · rename_i hw
        rw [if_pos hw]
        exact .inl (Does.wp hst fun v w' h3 => next v w' h3)
      · rename_i hw
        rw [if_neg hw]
        exact next _ _ hst
  refine key ops.size _ (fun _ => undef) _ _ ?_ ?_
  · unfold leftOf
    refine Nat.le_trans (List.length_filter_le _ _) (by simp)
  · have hz : ∀ k, (Array.replicate ops.size false).getD k false = false := by
      intro k
      by_cases hk : k < ops.size
      · simp [Array.getD, hk]
      · simp [Array.getD, hk]
    refine ⟨by simp, (by have e : (fun k => (Array.replicate ops.size false).getD k false = true) = (fun _ => False) := funext fun k => propext (Iff.intro (fun h => by rw [hz] at h; cases h) (fun h => False.elim h)); rw [e]; exact hJ0 _), rfl, rfl, fun k o _ h => ?_, fun i o d _ h => ?_, fun t _ => rfl⟩
    · rw [hz] at h; cases h
    · rw [hz] at h; cases h
end
end Go.Proofs.Ytaaddckhldccjaa
