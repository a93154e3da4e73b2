/- What is in the first one alone. -/
import Derived.Test.YtaaddckhldccjaaAnd
namespace Go.Proofs.Ytaaddckhldccjaa
open Go.RowKit Go.Shelf
set_option linter.unusedVariables false
set_option linter.unusedSimpArgs false

/-- One number more. -/
theorem push_u {w w1 : World} {v : Value} {L : List Nat} (x : Nat) (h : OwnU w1 w.heap.size v L) (hb : Below w.heap.size w w1) (hx : x ≤ 4294967295) (hl : L.length ≤ 100000000) :
    ∃ A' c' w', (Builtin.append_ #[38, 38] 38 #[v, .slice (some ⟨w1.heap.size, 0, none⟩) 1 1]).run Try.prog (w1.alloc (.cells #[.int .u32 (x : Nat)] 30)) = .ok (.slice A' (L.length + 1) c') w' ∧
      OwnU w' w.heap.size (.slice A' (L.length + 1) c') (L ++ [x]) ∧ Below w.heap.size w w' ∧ L.length + 1 ≤ c' ∧ c' ≤ 9223372036854775807 ∧ w1.grownBy w' v.ownBlock := by
  have hbT : Below w1.heap.size w1 (w1.alloc (.cells #[.int .u32 (x : Nat)] 30)) := (Below.refl _ _).alloc (Nat.le_refl _) _
  have hA := h.1.below hbT
  have hrd := Rd.new w1 30 [x] #[.int .u32 (x : Nat)] 1 (0, 0) (enc := encU) rfl rfl (by decide)
  obtain ⟨v1, w', r, o, g, _⟩ := run_append_rd (P := Try.prog) (c := 1) w.heap.size 38 38 30 (.int .u32 0) 4 Try.underlying38 infoU rfl (by decide) encU_one hA hrd (by omega) (by have := hb.size; simp; omega)
  obtain ⟨A', c', e, h1, h2, _⟩ := OwnL.rd o
  have hlen : (L ++ [x]).length = L.length + 1 := by simp
  rw [hlen] at e h1
  subst e
  exact ⟨A', c', w', r, ⟨o, h.2.append (U32.one (by omega))⟩, (hb.trans (hbT.mono hb.size)).grown g (by have := hb.size; simp; omega) (fun j hj => (OwnL.base hA j hj).1), h1, h2, (grown_below hbT _).trans g⟩
/-- What is not in the other one. -/
def notL (a b : List Nat) : List Nat := a.filter fun x => !decide (x ∈ b)
theorem not_no {a b : List Nat} {k : Nat} {x : Nat} (h : ∃ hl : k < a.length, a[k] = x) (hx : x ∈ b) : notL (a.take (k + 1)) b = notL (a.take k) b := by
  obtain ⟨hl, rfl⟩ := h
  rw [List.take_succ_eq_append_getElem hl]
  unfold notL
  rw [List.filter_append]
  simp [hx]
theorem not_yes {a b : List Nat} {k : Nat} {x : Nat} (h : ∃ hl : k < a.length, a[k] = x) (hx : x ∉ b) : notL (a.take (k + 1)) b = notL (a.take k) b ++ [x] := by
  obtain ⟨hl, rfl⟩ := h
  rw [List.take_succ_eq_append_getElem hl]
  unfold notL
  rw [List.filter_append]
  simp [hx]
theorem notL_len (a b : List Nat) : (notL a b).length ≤ a.length := List.length_filter_le _ _
def notE (a b : List Nat) : Int := if Up a ∧ Up b then 0 else 160
def notX (a b : List Nat) : List Nat := if Up a ∧ Up b then notL a b else []
theorem allLt_end {b : List Nat} {x : Nat} (h : AllLt b b.length x) : x ∉ b := fun hm => by
  have := allLt_mem h x hm
  omega
set_option maxRecDepth 100000 in
set_option maxHeartbeats 8000000 in
theorem Not_any (A : Option Addr) (na c : Nat) (la : List Nat) (B : Option Addr) (nb d : Nat) (lb : List Nat) (w : World) (hl : RdU w A na la) (hm : RdU w B nb lb) (hn : na ≤ 1000000) :
    Calls Try.prog 25 #[.slice A na c, .slice B nb d] w fun e w' => ∃ v, e = .returned (.tuple #[v, .int .i64 (notE la lb)]) ∧ OwnU w' w.heap.size v (notX la lb) ∧ Below w.heap.size w w' := by
  have HL := Lib.hid hl
  have HM := Lib.hid hm
  have HLn := Lib.hid (And.intro hl.len hm.len)
  have hmy := hm.max
  have C1 := Lib.hid (rises_any A na c la w hl)
  clear hl hm
  go_enter Try.func25, Try.ntmps25
  go_wp2
  go_step3
  go_wp2_with fail
  refine C1.out.mono ?_
  rintro e w1 ⟨rfl, hb⟩
  have HB1 := Lib.hid hb
  clear C1 hb
  by_cases ua : Up la
  case neg =>
    have hq : upB la = false := decide_eq_false ua
    have hE : Hid (notE la lb = 160 ∧ notX la lb = []) := Lib.hid ⟨if_neg (fun h => ua h.1), if_neg (fun h => ua h.1)⟩
    clear ua
    go_wp2
    (try rw [Exit.noGoto_ret])
    refine bodyPost_ret (v := .tuple #[.slice none 0 0, .int .i64 160]) (by simp [results, Try.results25, go_sem]) rfl ⟨_, by rw [hE.out.1], ?_, HB1.out⟩
    rw [hE.out.2]
    exact OwnU.nil _ _
  have hq : upB la = true := decide_eq_true ua
  have HUA := Lib.hid ua
  have C2 := Lib.hid (rises_any B nb d lb w1 (HM.out.below HB1.out))
  clear ua
  go_wp2_with fail
  refine C2.out.mono ?_
  rintro e w2 ⟨rfl, hb⟩
  have HB2 := Lib.hid (Below.thn HB1.out hb)
  clear C2 hb hq
  by_cases ub : Up lb
  case neg =>
    have hq : upB lb = false := decide_eq_false ub
    have hE : Hid (notE la lb = 160 ∧ notX la lb = []) := Lib.hid ⟨if_neg (fun h => ub h.2), if_neg (fun h => ub h.2)⟩
    clear ub
    go_wp2
    (try rw [Exit.noGoto_ret])
    refine bodyPost_ret (v := .tuple #[.slice none 0 0, .int .i64 160]) (by simp [results, Try.results25, go_sem]) rfl ⟨_, by rw [hE.out.1], ?_, HB2.out⟩
    rw [hE.out.2]
    exact OwnU.nil _ _
  have hq : upB lb = true := decide_eq_true ub
  have HUB := Lib.hid ub
  have hE : Hid (notE la lb = 0 ∧ notX la lb = notL la lb) := Lib.hid ⟨if_pos ⟨HUA.out, ub⟩, if_pos ⟨HUA.out, ub⟩⟩
  have HI2 : Hid (OwnU w2 w.heap.size (.slice none 0 0) (notL (la.take 0) lb)) := Lib.hid (OwnU.nil _ _)
  clear ub
  go_wp2_with fail
  go_step3
  go_wp2_with fail
  go_loopw [6, 7, 9, 20] (fun o y z x wr => ∃ i k : Nat, x = .int .i64 (i : Nat) ∧ i ≤ na ∧ y = .int .i64 (k : Nat) ∧ k ≤ nb ∧ Hid (∀ j (h : j < la.length), i ≤ j → AllLt lb k la[j]) ∧ Hid (OwnU wr w.heap.size o (notL (la.take i) lb)) ∧ Hid (Below w.heap.size w wr)) (fun _ _ _ x _ => na - (intOf x).toNat)
  case atStart => exact ⟨0, 0, rfl, Nat.zero_le _, rfl, Nat.zero_le _, Lib.hid (fun j h _ j' h' hj => absurd hj (Nat.not_lt_zero _)), HI2, HB2⟩
  case round =>
    obtain ⟨i, k, rfl, hi, rfl, hk, HAL, HO, HBs⟩ := hrel
    by_cases hlt : (i : Int) < (na : Int)
    · obtain ⟨ad, x, rfl, HX, hx, x0⟩ := (HL.out.below HBs.out).at (k := i) (by omega)
      have HA0 : Hid (AllLt lb k x) := Lib.hid (by
        obtain ⟨hl, rfl⟩ := HX.out
        exact HAL.out i hl (Nat.le_refl _))
      go_wp2_with fail
      go_loopw [7] (fun y wq => ∃ k' : Nat, y = .int .i64 (k' : Nat) ∧ k ≤ k' ∧ k' ≤ nb ∧ Hid (AllLt lb k' x) ∧ wr = wq) (fun y _ => nb - (intOf y).toNat)
      case atStart => exact ⟨k, rfl, Nat.le_refl _, hk, HA0, rfl⟩
      case round =>
        obtain ⟨k', rfl, hkk, hk', HA, rfl⟩ := hrel
        by_cases hkl : (k' : Int) < (nb : Int)
        · obtain ⟨ae, y, rfl, HY2, hy2, y0⟩ := (HM.out.below HBs.out).at (k := k') (by omega)
          by_cases hyx : (y : Int) ≤ (x : Int)
          · by_cases heq : y = x
            · have hin : x ∈ lb := by
                obtain ⟨hl, e⟩ := HY2.out
                rw [← heq, ← e]
                exact List.getElem_mem hl
              have hbe : ((y : Int) == (x : Int)) = true := by simp; omega
              have HN : Hid (OwnU wr w.heap.size _ (notL (la.take (i + 1)) lb)) := Lib.hid (by rw [not_no HX.out hin]; exact HO.out)
              have HAL2 : Hid (∀ j (h : j < la.length), i + 1 ≤ j → AllLt lb (k' + 1) la[j]) := Lib.hid (fun j h hj j' h' hj' => by
                obtain ⟨hl, e⟩ := HX.out
                have h2 := up_get HUA.out (i := i) (j := j) (by omega) h
                rcases Nat.lt_succ_iff_lt_or_eq.1 hj' with h3 | rfl
                · have h1 := HA.out j' h' h3
                  omega
                · obtain ⟨_, e2⟩ := HY2.out
                  omega)
              clear heq hin
              go_wp2
              exact ⟨⟨i + 1, k' + 1, by simp; try go_num, by omega, by simp; try go_num, by omega, HAL2, HN, HBs⟩, by simp [intOf]; omega⟩
            · have hbe : ((y : Int) == (x : Int)) = false := by simp; omega
              have HN : Hid (AllLt lb (k' + 1) x) := Lib.hid (fun j h hj => by
                rcases Nat.lt_succ_iff_lt_or_eq.1 hj with h1 | rfl
                · exact HA.out j h h1
                · obtain ⟨_, e⟩ := HY2.out
                  omega)
              clear heq
              go_wp2
              exact ⟨⟨k' + 1, by simp; try go_num, by omega, by omega, HN, (by trivial)⟩, by simp [intOf]; omega⟩
          · have hno := allLt_not HUB.out HA.out HY2.out (show x < y by omega)
            have hAL2 : ∀ j (h : j < la.length), i + 1 ≤ j → AllLt lb k' la[j] := fun j h hj j' h' hj' => by
              have h1 := HA.out j' h' hj'
              obtain ⟨hl, e⟩ := HX.out
              have h2 := up_get HUA.out (i := i) (j := j) (by omega) h
              omega
            have HAL2 := Lib.hid hAL2
            obtain ⟨Ao, co, rfl, lo, mo, _⟩ := OwnL.rd HO.out.1
            obtain ⟨A', c', w', r', o', hb', hc1, hc2, _⟩ := push_u x HO.out HBs.out hx (by have := notL_len (la.take i) lb; simp at this; omega)
            have HN : Hid (OwnU w' w.heap.size (.slice A' ((notL (la.take i) lb).length + 1) c') (notL (la.take (i + 1)) lb)) := Lib.hid (by rw [not_yes HX.out hno]; exact o')
            obtain ⟨no, hno2⟩ : ∃ no, no = (notL (la.take i) lb).length := ⟨_, rfl⟩
            rw [← hno2] at lo r' hc1 HN ⊢
            have HBN := Lib.hid hb'
            clear hAL2 o' hb' hno hno2
            go_wp2_with (at_builtin; refine wpl_append_run rfl _ _ _ rfl rfl rfl r' ?_)
            exact ⟨⟨i + 1, k', by simp; try go_num, by omega, rfl, hk', HAL2, HN, HBN⟩, by simp [intOf]; omega⟩
        · have hno : x ∉ lb := allLt_end (by
            have := HA.out
            have e : lb.length = k' := by have := HLn.out.2; omega
            rw [e]; exact this)
          have hAL2 : ∀ j (h : j < la.length), i + 1 ≤ j → AllLt lb k' la[j] := fun j h hj j' h' hj' => by
            have h1 := HA.out j' h' hj'
            obtain ⟨hl, e⟩ := HX.out
            have h2 := up_get HUA.out (i := i) (j := j) (by omega) h
            omega
          have HAL2 := Lib.hid hAL2
          obtain ⟨Ao, co, rfl, lo, mo, _⟩ := OwnL.rd HO.out.1
          obtain ⟨A', c', w', r', o', hb', hc1, hc2, _⟩ := push_u x HO.out HBs.out hx (by have := notL_len (la.take i) lb; simp at this; omega)
          have HN : Hid (OwnU w' w.heap.size (.slice A' ((notL (la.take i) lb).length + 1) c') (notL (la.take (i + 1)) lb)) := Lib.hid (by rw [not_yes HX.out hno]; exact o')
          obtain ⟨no, hno2⟩ : ∃ no, no = (notL (la.take i) lb).length := ⟨_, rfl⟩
          rw [← hno2] at lo r' hc1 HN ⊢
          have HBN := Lib.hid hb'
          clear hAL2 o' hb' hno hno2
          go_wp2_with (at_builtin; refine wpl_append_run rfl _ _ _ rfl rfl rfl r' ?_)
          exact ⟨⟨i + 1, k', by simp; try go_num, by omega, rfl, hk', HAL2, HN, HBN⟩, by simp [intOf]; omega⟩
    · obtain ⟨Ao, co, rfl, lo, mo, _⟩ := OwnL.rd HO.out.1
      have hF : Hid (notL (la.take i) lb = notX la lb) := Lib.hid (by rw [List.take_of_length_le (by have := HLn.out.1; omega), hE.out.2])
      obtain ⟨no, hno⟩ : ∃ no, no = (notL (la.take i) lb).length := ⟨_, rfl⟩
      rw [← hno] at lo HO ⊢
      clear hno
      go_wp2
      (try rw [Exit.noGoto_ret])
      refine bodyPost_ret (v := .tuple #[.slice Ao no co, .int .i64 0]) (by simp [results, Try.results25, go_sem]) rfl ⟨_, by rw [hE.out.1], ?_, HBs.out⟩
      rw [← hF.out]
      exact HO.out
end Go.Proofs.Ytaaddckhldccjaa
