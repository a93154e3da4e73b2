/- The document's: what is in all, what is in the first one alone. -/
import Derived.Test.YtaaddckhldccjaaNot
import Derived.Deep.QuietTactic
namespace Go.Proofs.Ytaaddckhldccjaa
open Go.RowKit Go.Shelf
set_option linter.unusedVariables false
set_option linter.unusedSimpArgs false

theorem quiet_has {A : Option Addr} {n c : Nat} {l : List Nat} {d k : Nat} {w : World} (h : RdU (w.drewN k) A n l) :
    Calls Try.prog 42 #[.slice A n c, .int .u32 (d : Nat)] (w.drewN k) fun e w' => e = .returned (.bool (decide (d ∈ l))) ∧ ∃ m, w' = w.drewN m :=
  (Has_any A n c l d _ h).mono fun _ _ ⟨he, hm⟩ => ⟨he, k, hm.symm⟩
theorem RdU.drewN {w : World} {A : Option Addr} {n : Nat} {l : List Nat} (h : RdU w A n l) (k : Nat) : RdU (w.drewN k) A n l := h.below (below_drewN (Below.refl _ _) k)
set_option maxRecDepth 100000 in
set_option maxHeartbeats 8000000 in
theorem refNot_any (A : Option Addr) (na c : Nat) (la : List Nat) (B : Option Addr) (nb d : Nat) (lb : List Nat) (w : World) (hl : RdU w A na la) (hm : RdU w B nb lb) (hc : na ≤ c) (hc2 : c ≤ 9223372036854775807) (hd : nb ≤ d) (hd2 : d ≤ 9223372036854775807) (hn : na ≤ 1000000) :
    Calls Try.prog 26 #[.slice A na c, .slice B nb d] w fun e w' => ∃ v, e = .returned (.tuple #[v, .int .i64 (notE la lb)]) ∧ OwnU w' w.heap.size v (notX la lb) ∧ Below w.heap.size w w' := by
  have hbA : Below w.heap.size w (w.alloc (.cells #[.slice A na c, .slice B nb d] 38)) := (Below.refl _ _).alloc (Nat.le_refl _) _
  have hrd : RdUU (w.alloc (.cells #[.slice A na c, .slice B nb d] 38)) (some ⟨w.heap.size, 0, none⟩) 2 [⟨A, na, c, la⟩, ⟨B, nb, d, lb⟩] :=
    ⟨Rd.new w 38 [⟨A, na, c, la⟩, ⟨B, nb, d, lb⟩] #[.slice A na c, .slice B nb d] 2 (0, 0) (enc := encUV) rfl rfl (by decide), fun x hx => by
      simp at hx
      rcases hx with rfl | rfl
      · exact ⟨hc, hc2, hl.below hbA⟩
      · exact ⟨hd, hd2, hm.below hbA⟩⟩
  have C := Lib.hid (checks_any (some ⟨w.heap.size, 0, none⟩) 2 2 _ _ hrd (by decide))
  have hE : allE [(⟨A, na, c, la⟩ : UV), ⟨B, nb, d, lb⟩] = notE la lb := by
    unfold allE notE
    have : allUp [(⟨A, na, c, la⟩ : UV), ⟨B, nb, d, lb⟩] ↔ (Up la ∧ Up lb) := by simp [allUp]
    simp only [this]
  rw [hE] at C
  have HL := Lib.hid hl
  have HM := Lib.hid hm
  have HLn := Lib.hid hl.len
  have HBA := Lib.hid hbA
  have hmy := hm.max
  clear hE hrd hbA hl hm
  go_enter Try.func26, Try.ntmps26
  go_wp2_with fail
  refine C.out.mono ?_
  rintro e w1 ⟨rfl, hb⟩
  have HB1 := Lib.hid (Below.thn HBA.out hb)
  clear C hb HBA
  by_cases hu : Up la ∧ Up lb
  case neg =>
    have hq : notE la lb = 160 := if_neg hu
    have hQ := Lib.hid hq
    have hX : Hid (notX la lb = []) := Lib.hid (if_neg hu)
    rw [hq]
    clear hu hq
    go_wp2
    refine bodyPost_ret (v := .tuple #[.slice none 0 0, .int .i64 160]) (by simp [results, Try.results26, go_sem]) rfl ⟨_, by rw [hQ.out], ?_, HB1.out⟩
    rw [hX.out]
    exact OwnU.nil _ _
  have hq : notE la lb = 0 := if_pos hu
  have hQ := Lib.hid hq
  have hX : Hid (notX la lb = notL la lb) := Lib.hid (if_pos hu)
  have HI1 : Hid (OwnU w1 w.heap.size (.slice none 0 0) (notL (la.take 0) lb)) := Lib.hid (OwnU.nil _ _)
  rw [hq]
  clear hu hq
  go_wp2_with fail
  go_loopw [7, 8] (fun o x wr => ∃ i : Nat, x = .int .i64 (i : Nat) ∧ i ≤ na ∧ Hid (OwnU wr w.heap.size o (notL (la.take i) lb)) ∧ Hid (Below w.heap.size w wr)) (fun _ x _ => na - (intOf x).toNat)
  case atStart => exact ⟨0, rfl, Nat.zero_le _, HI1, HB1⟩
  case round =>
    obtain ⟨i, rfl, hi, HO, HBs⟩ := hrel
    by_cases hlt : (i : Int) < (na : Int)
    · obtain ⟨ad, x, rfl, HX, hx, x0⟩ := (HL.out.below HBs.out).at (k := i) (by omega)
      have CH := Lib.hid (Has_any B nb d lb x wr (HM.out.below HBs.out))
      go_wp2_with fail
      refine CH.out.mono ?_
      rintro e w2 ⟨rfl, rfl⟩
      clear CH
      by_cases hin : x ∈ lb
      · rw [decide_eq_true hin]
        have HN : Hid (OwnU wr w.heap.size _ (notL (la.take (i + 1)) lb)) := Lib.hid (by rw [not_no HX.out hin]; exact HO.out)
        clear hin
        go_wp2
        exact ⟨⟨i + 1, by simp; try go_num, by omega, HN, HBs⟩, by simp [intOf]; omega⟩
      · rw [decide_eq_false hin]
        obtain ⟨Ao, co, rfl, lo, mo, _⟩ := OwnL.rd HO.out.1
        obtain ⟨A', c', w', r', o', hb', hc1, hc2, _⟩ := push_u x HO.out HBs.out hx (by have := notL_len (la.take i) lb; simp at this; omega)
        have HN : Hid (OwnU w' w.heap.size (.slice A' ((notL (la.take i) lb).length + 1) c') (notL (la.take (i + 1)) lb)) := Lib.hid (by rw [not_yes HX.out hin]; exact o')
        obtain ⟨no, hno2⟩ : ∃ no, no = (notL (la.take i) lb).length := ⟨_, rfl⟩
        rw [← hno2] at lo r' hc1 HN ⊢
        have HBN := Lib.hid hb'
        clear o' hb' hin hno2
        go_wp2_with (at_builtin; refine wpl_append_run rfl _ _ _ rfl rfl rfl r' ?_)
        exact ⟨⟨i + 1, by simp; try go_num, by omega, HN, HBN⟩, by simp [intOf]; omega⟩
    · obtain ⟨Ao, co, rfl, lo, mo, _⟩ := OwnL.rd HO.out.1
      have hF : Hid (notL (la.take i) lb = notX la lb) := Lib.hid (by rw [List.take_of_length_le (by have := HLn.out; omega), hX.out])
      obtain ⟨no, hno⟩ : ∃ no, no = (notL (la.take i) lb).length := ⟨_, rfl⟩
      rw [← hno] at lo HO ⊢
      clear hno
      go_wp2
      refine bodyPost_ret (v := .tuple #[.slice Ao no co, .int .i64 0]) (by simp [results, Try.results26, go_sem]) rfl ⟨_, by rw [hQ.out], ?_, HBs.out⟩
      rw [← hF.out]
      exact HO.out
/-- What is in all, of the first one. -/
def andG (l : List Nat) (ls : List UV) : List Nat := l.filter fun d => ls.all fun x => decide (d ∈ x.l)
theorem andG_eq {x : UV} {r : List UV} : andG x.l (x :: r) = andL (x :: r) := by
  unfold andG andL andI
  refine List.filter_congr fun d hd => ?_
  simp [hd]
theorem andG_no {l : List Nat} {ls : List UV} {k : Nat} {x : Nat} (h : ∃ hl : k < l.length, l[k] = x) (hx : ¬ ∀ y ∈ ls, x ∈ y.l) : andG (l.take (k + 1)) ls = andG (l.take k) ls := by
  obtain ⟨hl, rfl⟩ := h
  rw [List.take_succ_eq_append_getElem hl]
  unfold andG
  rw [List.filter_append]
  have : (ls.all fun y => decide (l[k] ∈ y.l)) = false := by
    rw [Bool.eq_false_iff]
    intro h
    exact hx (by simpa [List.all_eq_true] using h)
  simp [this]
theorem andG_yes {l : List Nat} {ls : List UV} {k : Nat} {x : Nat} (h : ∃ hl : k < l.length, l[k] = x) (hx : ∀ y ∈ ls, x ∈ y.l) : andG (l.take (k + 1)) ls = andG (l.take k) ls ++ [x] := by
  obtain ⟨hl, rfl⟩ := h
  rw [List.take_succ_eq_append_getElem hl]
  unfold andG
  rw [List.filter_append]
  have : (ls.all fun y => decide (l[k] ∈ y.l)) = true := by simpa [List.all_eq_true] using hx
  simp [this]
set_option maxRecDepth 100000 in
set_option maxHeartbeats 8000000 in
theorem refAnd_any (A : Option Addr) (n c : Nat) (ls : List UV) (w : World) (h : RdUU w A n ls) (hn : n ≤ 1000000) (hxn : ∀ x ∈ ls, x.n ≤ 1000000) :
    Calls Try.prog 14 #[.slice A n c] w fun e w' => ∃ v, e = .returned (.tuple #[v, .int .i64 (allE ls)]) ∧ OwnU w' w.heap.size v (andX ls) ∧ Below w.heap.size w w' := by
  have C := Lib.hid (checks_any A n c ls w h hn)
  have HR := Lib.hid h
  have HXN := Lib.hid hxn
  have HLn := Lib.hid h.len
  clear h hxn
  go_enter Try.func14, Try.ntmps14
  go_wp2_with fail
  refine C.out.mono ?_
  rintro e w1 ⟨rfl, hb⟩
  have HB1 := Lib.hid hb
  clear C hb
  by_cases hu : allUp ls
  case neg =>
    have hq : allE ls = 160 := if_neg hu
    have hQ := Lib.hid hq
    have hX : Hid (andX ls = []) := Lib.hid (if_neg hu)
    rw [hq]
    clear hu hq
    go_wp2
    refine bodyPost_ret (v := .tuple #[.slice none 0 0, .int .i64 160]) (by simp [results, Try.results14, go_sem]) rfl ⟨_, by rw [hQ.out], ?_, HB1.out⟩
    rw [hX.out]
    exact OwnU.nil _ _
  have hq : allE ls = 0 := if_pos hu
  have hQ := Lib.hid hq
  have hX : Hid (andX ls = andL ls) := Lib.hid (if_pos hu)
  rw [hq]
  clear hu hq
  by_cases hn0 : n = 0
  · subst hn0
    have hN : Hid (andX ls = []) := Lib.hid (by rw [hX.out, List.eq_nil_of_length_eq_zero HLn.out]; rfl)
    go_wp2_with fail
    go_loopw [5, 6, 7, 8] (fun o x y z wr => o = .slice none 0 0 ∧ w1 = wr) (fun _ _ _ _ _ => 0)
    case atStart => exact ⟨rfl, rfl⟩
    case round =>
      obtain ⟨rfl, rfl⟩ := hrel
      go_wp2
      refine bodyPost_ret (v := .tuple #[.slice none 0 0, .int .i64 0]) (by simp [results, Try.results14, go_sem]) rfl ⟨_, by rw [hQ.out], ?_, HB1.out⟩
      rw [hN.out]
      exact OwnU.nil _ _
  have h0n : (0 : Int) < (n : Int) := by omega
  obtain ⟨ad, x, rfl, HX, HO, hxm, x0⟩ := (HR.out.below HB1.out).at (k := 0) (by omega)
  have HX0 : Hid (∃ r, ls = x :: r) := Lib.hid (by
    obtain ⟨hl, rfl⟩ := HX.out
    cases ls with
    | nil => simp at hl
    | cons a r => exact ⟨r, rfl⟩)
  have hxn : x.n ≤ 1000000 := HXN.out x (by obtain ⟨r, e⟩ := HX0.out; rw [e]; simp)
  have HXL := Lib.hid HO.out.rd.len
  have HXR : Hid (∀ wr, Below w.heap.size w wr → x.ok wr ∧ wr.cell? ad = some (.slice x.A x.n x.c)) := Lib.hid fun wr hb => by
    obtain ⟨ad', x', e, h1, h2, _, h3⟩ := (HR.out.below hb).at (k := 0) (by omega)
    cases e
    have e2 : x' = x := by
      obtain ⟨_, e3⟩ := h1.out
      obtain ⟨_, e4⟩ := HX.out
      rw [← e3, ← e4]
    subst e2
    rw [Addr.add_zero'] at h3
    exact ⟨h2.out, h3⟩
  have HI1 : Hid (OwnU w1 w.heap.size (.slice none 0 0) (andG (x.l.take 0) ls) ∧ Below w.heap.size w w1) := Lib.hid ⟨OwnU.nil _ _, HB1.out⟩
  clear x0 HO
  go_wp2_with fail
  go_loopw [5, 6, 7, 8] (fun o y _ _ wr => ∃ i : Nat, y = .int .i64 (i : Nat) ∧ i ≤ x.n ∧ Hid (OwnU wr w.heap.size o (andG (x.l.take i) ls) ∧ Below w.heap.size w wr)) (fun _ y _ _ _ => x.n - (intOf y).toNat)
  case atStart => exact ⟨0, rfl, Nat.zero_le _, HI1⟩
  case round =>
    obtain ⟨i, rfl, hi, HI⟩ := hrel
    obtain ⟨hxo, k0⟩ := HXR.out wr HI.out.2
    by_cases hlt : (i : Int) < (x.n : Int)
    · obtain ⟨ax, d, hax, HD, hd, d0⟩ := hxo.rd.at (k := i) (by omega)
      have HAX := Lib.hid hax
      clear hxo d0
      go_wp2_with fail
      clear k0
      go_loopw [7, 8] (fun z y wq => ∃ (k : Nat) (b : Bool), y = .int .i64 (k : Nat) ∧ k ≤ n ∧ z = .bool b ∧ Hid ((b = true ↔ ∀ u ∈ ls.take k, d ∈ u.l) ∧ Below wr.heap.size wr wq)) (fun _ y _ => n - (intOf y).toNat)
      case atStart => exact ⟨0, true, rfl, Nat.zero_le _, rfl, Lib.hid ⟨by simp, Below.refl _ _⟩⟩
      case round =>
        obtain ⟨k, b, rfl, hk, rfl, HK⟩ := hrel
        have hbw : Below w.heap.size w _ := Below.thn HI.out.2 HK.out.2
        by_cases hkl : (k : Int) < (n : Int)
        · obtain ⟨ad', u, e, HU, HUO, hum, u0⟩ := (HR.out.below hbw).at (k := k) (by omega)
          cases e
          obtain ⟨hxo, k0⟩ := HXR.out _ hbw
          obtain ⟨ax', d', e, HD', hd', d0⟩ := hxo.rd.at (k := i) (by omega)
          obtain rfl : d' = d := by
            obtain ⟨_, e1⟩ := HD.out
            obtain ⟨_, e2⟩ := HD'.out
            rw [← e1, ← e2]
          have k0' : wr.cell? (ad.add 0) = some (.slice x.A x.n x.c) := by rw [Addr.add_zero']; exact k0
          rw [e] at k0 k0'
          have CH := Lib.hid (fun q : Nat => quiet_has (c := u.c) (d := d') (HUO.out.rd.drewN q))
          cases b
          · have HN : Hid (false = true ↔ ∀ v ∈ ls.take (k + 1), d' ∈ v.l) := Lib.hid ⟨fun h => (by cases h), fun h => HK.out.1.2 fun v hv => h v (List.mem_of_mem_take (i := k) (by rw [List.take_take, Nat.min_eq_left (by omega)]; exact hv))⟩
            go_upto_region 12 with fail
            go_quiet (fail)
            clear u0 k0 k0' d0 CH
            go_wp2
            exact ⟨⟨k + 1, false, by simp; try go_num, by omega, rfl, Lib.hid ⟨HN.out, below_drewN HK.out.2 nq⟩⟩, by simp [intOf]; omega⟩
          · have HN : Hid (decide (d' ∈ u.l) = true ↔ ∀ v ∈ ls.take (k + 1), d' ∈ v.l) := Lib.hid (by
              obtain ⟨hl, e3⟩ := HU.out
              rw [decide_eq_true_eq, List.take_succ_eq_append_getElem hl, e3]
              constructor
              · intro h v hv
                rcases List.mem_append.1 hv with h1 | h1
                · exact HK.out.1.1 rfl v h1
                · rw [List.mem_singleton] at h1; subst h1; exact h
              · intro h
                exact h u (by simp))
            obtain ⟨bb, hbb⟩ : ∃ bb, bb = decide (d' ∈ u.l) := ⟨_, rfl⟩
            rw [← hbb] at CH HN
            clear hbb
            go_upto_region 12 with fail
            go_quiet (first | (go_at_call 42; exact CH.out _))
            clear u0 k0 k0' d0 CH
            go_wp2
            exact ⟨⟨k + 1, bb, by simp; try go_num, by omega, rfl, Lib.hid ⟨HN.out, below_drewN HK.out.2 nq⟩⟩, by simp [intOf]; omega⟩
        · have HA : Hid (b = true ↔ ∀ u ∈ ls, d ∈ u.l) := Lib.hid (by
            have := HK.out.1
            rwa [List.take_of_length_le (by have := HLn.out; omega)] at this)
          cases b
          · have HN : Hid (OwnU _ w.heap.size _ (andG (x.l.take (i + 1)) ls) ∧ Below w.heap.size w _) := Lib.hid ⟨by
              rw [andG_no HD.out (fun h => by have := HA.out.2 h; cases this)]
              exact HI.out.1.below HK.out.2, hbw⟩
            clear hbw
            go_wp2
            exact ⟨⟨i + 1, by simp; try go_num, by omega, HN⟩, by simp [intOf]; omega⟩
          · obtain ⟨Ao, co, rfl, lo, mo, _⟩ := OwnL.rd HI.out.1.1
            have HO := Lib.hid (HI.out.1.below HK.out.2)
            obtain ⟨hxo, k0⟩ := HXR.out _ hbw
            obtain ⟨ax', d', e, HD', hd', d0⟩ := hxo.rd.at (k := i) (by omega)
            obtain rfl : d' = d := by
              obtain ⟨_, e1⟩ := HD.out
              obtain ⟨_, e2⟩ := HD'.out
              rw [← e1, ← e2]
            have k0' : wr.cell? (ad.add 0) = some (.slice x.A x.n x.c) := by rw [Addr.add_zero']; exact k0
            rw [e] at k0 k0'
            obtain ⟨A', c', w', r', o', hb', hc1, hc2, _⟩ := push_u d' HO.out hbw hd' (by
              have := List.length_filter_le (fun d => ls.all fun x => decide (d ∈ x.l)) (x.l.take i)
              have h2 := List.length_take_le i x.l
              unfold andG
              omega)
            have HN : Hid (OwnU w' w.heap.size (.slice A' ((andG (x.l.take i) ls).length + 1) c') (andG (x.l.take (i + 1)) ls) ∧ Below w.heap.size w w') := Lib.hid ⟨by rw [andG_yes HD.out (HA.out.1 rfl)]; exact o', hb'⟩
            obtain ⟨no, hno2⟩ : ∃ no, no = (andG (x.l.take i) ls).length := ⟨_, rfl⟩
            rw [← hno2] at lo r' hc1 HN ⊢
            clear o' hb' hno2 hbw
            go_wp2_with (at_builtin; refine wpl_append_run rfl _ _ _ rfl rfl rfl r' ?_)
            exact ⟨⟨i + 1, by simp; try go_num, by omega, HN⟩, by simp [intOf]; omega⟩
    · obtain ⟨Ao, co, rfl, lo, mo, _⟩ := OwnL.rd HI.out.1.1
      have hF : Hid (andG (x.l.take i) ls = andX ls) := Lib.hid (by
        obtain ⟨r, e⟩ := HX0.out
        rw [List.take_of_length_le (by have := HXL.out; omega), hX.out, e]
        exact andG_eq)
      obtain ⟨no, hno⟩ : ∃ no, no = (andG (x.l.take i) ls).length := ⟨_, rfl⟩
      have HO := HI
      rw [← hno] at lo HO ⊢
      clear hno hxo
      go_wp2
      refine bodyPost_ret (v := .tuple #[.slice Ao no co, .int .i64 0]) (by simp [results, Try.results14, go_sem]) rfl ⟨_, by rw [hQ.out], ?_, HO.out.2⟩
      rw [← hF.out]
      exact HO.out.1
end Go.Proofs.Ytaaddckhldccjaa
