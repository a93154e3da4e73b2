import Derived.Test.YtaaddckhldccjaaPhrA

/- The document's small functions on postings. -/
namespace Go.Proofs.Ytaaddckhldccjaa
open Go.RowKit
set_option linter.unusedVariables false
set_option linter.unusedSimpArgs false

set_option maxRecDepth 100000 in
set_option maxHeartbeats 2000000 in
theorem at_any (A : Option Addr) (n c : Nat) (l : List Int) (d : Int) (w : World) (h : Rd encI w A n l) :
    Calls Try.prog 62 #[.slice A n c, .int .i64 d] w fun e w' => e = .returned (.bool (decide (d ∈ l))) ∧ w = w' := by
  obtain ⟨R, hR⟩ : ∃ R, R = decide (d ∈ l) := ⟨_, rfl⟩
  rw [← hR]
  have HE := Lib.hid hR
  have HR := Lib.hid h
  have hn := h.max
  have HLn := Lib.hid h.len
  clear h hR
  go_enter Try.func62, Try.ntmps62
  go_wp2_with fail
  go_loop [5] (fun x => ∃ k : Nat, k ≤ n ∧ x = .int .i64 (k : Nat) ∧ Hid (d ∉ l.take k)) (fun x => n - (intOf x).toNat)
  case atStart => exact ⟨0, Nat.zero_le _, rfl, Lib.hid (by simp)⟩
  case round =>
    obtain ⟨k, hk, rfl, HI⟩ := hrel
    by_cases hlt : (k : Int) < (n : Int)
    · obtain ⟨ad, x, rfl, HX, x0⟩ := rdI_at HR.out (k := k) (by omega)
      by_cases hxd : x = d
      · have HF : Hid (R = true) := Lib.hid (by
          rw [HE.out]
          refine decide_eq_true ?_
          obtain ⟨hl, e⟩ := HX.out
          rw [← hxd, ← e]
          exact List.getElem_mem hl)
        have hq : (x == d) = true := by simp; exact hxd
        clear hxd
        go_wp2
        go_ret
        exact ⟨by rw [HF.out]; rfl, rfl⟩
      · have hq : (x == d) = false := by simp; exact hxd
        have HN : Hid (d ∉ l.take (k + 1)) := Lib.hid (by
          obtain ⟨hl, e⟩ := HX.out
          rw [List.take_succ_eq_append_getElem hl, List.mem_append, e]
          rintro (h | h)
          · exact HI.out h
          · rw [List.mem_singleton] at h; exact hxd h.symm)
        clear hxd
        go_wp2
        exact ⟨⟨k + 1, by omega, by go_num, HN⟩, by simp [intOf]; omega⟩
    · have HT : Hid (R = false) := Lib.hid (by
        rw [HE.out]
        refine decide_eq_false ?_
        have h := HI.out
        have h1 := HLn.out
        rw [List.take_of_length_le (by omega)] at h
        exact h)
      go_wp2
      go_ret
      exact ⟨by rw [HT.out]; rfl, rfl⟩
theorem posDoc_at {ls : List Po} {k d : Nat} {l : List Int} (hx : ∃ hl : k < ls.length, ls[k] = (d, l)) (h : ∀ p ∈ ls.take k, p.1 ≠ d) : posDoc ls d = l := by
  obtain ⟨hl, e⟩ := hx
  unfold posDoc
  have : ls.find? (fun q => q.1 == d) = some (d, l) := by
    rw [List.find?_eq_some_iff_getElem]
    refine ⟨by simp, k, hl, e, fun j hj => ?_⟩
    have := h ls[j] (List.mem_take_iff_getElem.2 ⟨j, by omega, rfl⟩)
    simpa using this
  rw [this]
  rfl
set_option maxRecDepth 100000 in
set_option maxHeartbeats 2000000 in
theorem places_any (A : Option Addr) (n c : Nat) (ls : List Po) (d : Nat) (w : World) (h : RdPo w A n ls) :
    Calls Try.prog 61 #[.slice A n c, .int .u32 (d : Nat)] w fun e w' => (∃ B m cc, e = .returned (.slice B m cc) ∧ m ≤ cc ∧ cc ≤ 9223372036854775807 ∧ Rd encI w B m (posDoc ls d)) ∧ w = w' := by
  have HR := Lib.hid h
  have hn := h.max
  have HLn := Lib.hid h.len
  clear h
  go_enter Try.func61, Try.ntmps61
  go_wp2_with fail
  go_loop [5] (fun x => ∃ k : Nat, k ≤ n ∧ x = .int .i64 (k : Nat) ∧ Hid (∀ p ∈ ls.take k, p.1 ≠ d)) (fun x => n - (intOf x).toNat)
  case atStart => exact ⟨0, Nat.zero_le _, rfl, Lib.hid (by simp)⟩
  case round =>
    obtain ⟨k, hk, rfl, HI⟩ := hrel
    by_cases hlt : (k : Int) < (n : Int)
    · obtain ⟨ad, B, m, c1, dd, l, rfl, HX, x0, x1, hm1, hm2, HRI, hd⟩ := HR.out.at (k := k) (by omega)
      by_cases hxd : dd = d
      · have HF : Hid (posDoc ls d = l) := Lib.hid (posDoc_at (by rw [← hxd]; exact HX.out) HI.out)
        have hq : ((dd : Int) == (d : Int)) = true := by simp; omega
        have HRP : Hid (Rd encI w B m (posDoc ls d)) := Lib.hid (by rw [HF.out]; exact HRI.out)
        have HM := Lib.hid (And.intro hm1 hm2)
        clear hxd
        go_wp2
        go_ret
        exact ⟨⟨B, m, c1, rfl, HM.out.1, HM.out.2, HRP.out⟩, rfl⟩
      · have hq : ((dd : Int) == (d : Int)) = false := by simp; omega
        have HN : Hid (∀ p ∈ ls.take (k + 1), p.1 ≠ d) := Lib.hid (by
          obtain ⟨hl, e⟩ := HX.out
          intro p hp
          rw [List.take_succ_eq_append_getElem hl, List.mem_append, e] at hp
          rcases hp with h | h
          · exact HI.out p h
          · rw [List.mem_singleton] at h; subst h; exact hxd)
        clear hxd x1
        go_wp2
        exact ⟨⟨k + 1, by omega, by go_num, HN⟩, by simp [intOf]; omega⟩
    · have HRP : Hid (Rd encI w none 0 (posDoc ls d)) := Lib.hid (by
        rw [posDoc_not fun p hp => HI.out p (by rw [List.take_of_length_le (by have := HLn.out; omega)]; exact hp)]
        exact Rd.empty w)
      go_wp2
      go_ret
      exact ⟨⟨none, 0, 0, rfl, Nat.le_refl _, by decide, HRP.out⟩, rfl⟩
set_option maxRecDepth 100000 in
set_option maxHeartbeats 4000000 in
theorem refList_any (A : Option Addr) (n c : Nat) (ls : List Po) (w : World) (h : RdPo w A n ls) :
    Calls Try.prog 76 #[.slice A n c] w fun e w' => e = .returned (.bool (rtB ls)) ∧ Below w.heap.size w w' := by
  have HR := Lib.hid h
  have hn := h.max
  have HLn := Lib.hid h.len
  clear h
  go_enter Try.func76, Try.ntmps76
  go_wp2_with fail
  go_loopw [3, 4] (fun p x wr => ∃ k pv : Nat, x = .int .i64 (k : Nat) ∧ k ≤ n ∧ p = .int .u32 (pv : Nat) ∧ pv ≤ 4294967295 ∧ Hid (pv = prevOf ls k) ∧ Hid (okLs ls k ∧ Below w.heap.size w wr)) (fun _ x _ => n - (intOf x).toNat)
  case atStart => exact ⟨0, 0, rfl, Nat.zero_le _, rfl, by decide, Lib.hid rfl, Lib.hid ⟨fun i h => absurd h (Nat.not_lt_zero _), Below.refl _ _⟩⟩
  case round =>
    obtain ⟨k, pv, rfl, hk, rfl, hpv, HPV, HI⟩ := hrel
    by_cases hlt : (k : Int) < (n : Int)
    · obtain ⟨ad, B, m, c1, d, l, rfl, HX, x0, x1, hm1, hm2, HRI, hd⟩ := (HR.out.below HI.out.2).at (k := k) (by omega)
      have C := Lib.hid (refCheck_pv pv (d, l) (.agg #[.int .u32 (d : Nat), .slice B m c1]) wr (RdPo.pv HRI.out hm1 hm2 hd) (by omega))
      go_wp2_with fail
      refine C.out.mono ?_
      rintro e w2 ⟨rfl, hb⟩
      have HB2 := Lib.hid (Below.thn HI.out.2 hb)
      have y0 := cell_keep hb x0
      clear hb C x0 x1
      by_cases hok : okP pv (d, l)
      · rw [chkP_yes hok]
        have HN : Hid (okLs ls (k + 1) ∧ Below w.heap.size w w2) := Lib.hid ⟨okLs_step HI.out.1 (by rw [← HPV.out, getD_of HX.out]; exact hok), HB2.out⟩
        have HP2 : Hid (d = prevOf ls (k + 1)) := Lib.hid (by rw [prevOf_succ, getD_of HX.out])
        clear hok
        go_wp2
        exact ⟨⟨k + 1, d, by simp; try go_num, by omega, rfl, hd, HP2, HN⟩, by simp [intOf]; omega⟩
      · rw [chkP_no hok]
        have HN : Hid (rtB ls = false) := Lib.hid (rtB_f fun hr => hok (by
          have := hr k (by have := HLn.out; omega)
          rwa [← HPV.out, getD_of HX.out] at this))
        clear hok
        go_wp2
        go_ret
        exact ⟨by rw [HN.out]; rfl, HB2.out⟩
    · have HT : Hid (rtB ls = true) := Lib.hid (rtB_t (by
        have := HI.out.1
        have e : ls.length = k := by have := HLn.out; omega
        unfold Rt
        rw [e]; exact this))
      go_wp2
      go_ret
      exact ⟨by rw [HT.out]; rfl, HI.out.2⟩
set_option maxRecDepth 100000 in
set_option maxHeartbeats 2000000 in
theorem lists_any (A : Option Addr) (n c : Nat) (ls : List VV) (w : World) (h : RdVV w A n ls) :
    Calls Try.prog 59 #[.slice A n c] w fun e w' => e = .returned (.bool (allRtB ls)) ∧ Below w.heap.size w w' := by
  have HR := Lib.hid h
  have hn := h.rd.max
  have HLn := Lib.hid h.len
  clear h
  go_enter Try.func59, Try.ntmps59
  go_wp2_with fail
  go_loopw [3] (fun x wr => ∃ k : Nat, k ≤ n ∧ x = .int .i64 (k : Nat) ∧ Hid (allRt (ls.take k) ∧ Below w.heap.size w wr)) (fun x _ => n - (intOf x).toNat)
  case atStart => exact ⟨0, Nat.zero_le _, rfl, Lib.hid ⟨fun x hx => by simp at hx, Below.refl _ _⟩⟩
  case round =>
    obtain ⟨k, hk, rfl, HI⟩ := hrel
    by_cases hlt : (k : Int) < (n : Int)
    · obtain ⟨ad, x, rfl, HX, HO, hxm, x0⟩ := (HR.out.below HI.out.2).at (k := k) (by omega)
      have C := Lib.hid (refList_any x.A x.n x.c x.l wr HO.out.rd)
      go_wp2_with fail
      refine C.out.mono ?_
      rintro e w1 ⟨rfl, hb⟩
      have HB := Lib.hid (Below.thn HI.out.2 hb)
      clear hb C x0
      by_cases hu : Rt x.l
      · have hq : rtB x.l = true := rtB_t hu
        have HN : Hid (allRt (ls.take (k + 1))) := Lib.hid (allRt_step HX.out HI.out.1 hu)
        clear hu
        go_wp2
        exact ⟨⟨k + 1, by omega, by go_num, Lib.hid ⟨HN.out, HB.out⟩⟩, by simp [intOf]; omega⟩
      · have hq : rtB x.l = false := rtB_f hu
        have HN : Hid (allRtB ls = false) := Lib.hid (allRtB_f (allRt_no HX.out hu))
        clear hu
        go_wp2
        go_ret
        exact ⟨by rw [HN.out]; rfl, HB.out⟩
    · have HT : Hid (allRtB ls = true) := Lib.hid (allRtB_t (by
        have h := HI.out.1
        have h1 := HLn.out
        rw [List.take_of_length_le (by omega)] at h
        exact h))
      go_wp2
      go_ret
      exact ⟨by rw [HT.out]; rfl, HI.out.2⟩
end Go.Proofs.Ytaaddckhldccjaa

/- The document's small functions on postings, the rest. -/
namespace Go.Proofs.Ytaaddckhldccjaa
open Go.RowKit
set_option linter.unusedVariables false
set_option linter.unusedSimpArgs false

/-- Both, put together: whole numbers. -/
def mI : List Int → List Int → List Int
  | [], b => b
  | a, [] => a
  | x :: a, y :: b => if x < y then x :: mI a (y :: b) else if y < x then y :: mI (x :: a) b else x :: mI a b
termination_by a b => a.length + b.length
abbrev UpI (l : List Int) : Prop := l.Pairwise (· < ·)
theorem mI_nil (b : List Int) : mI [] b = b := by unfold mI; rfl
theorem mI_nil' (a : List Int) : mI a [] = a := by cases a <;> (unfold mI; rfl)
theorem mI_cons (x y : Int) (a b : List Int) : mI (x :: a) (y :: b) = if x < y then x :: mI a (y :: b) else if y < x then y :: mI (x :: a) b else x :: mI a b := by
  conv => lhs; unfold mI
theorem mI_mem : ∀ (n : Nat) (a b : List Int), a.length + b.length ≤ n → ∀ d, d ∈ mI a b ↔ (d ∈ a ∨ d ∈ b)
  | n, [], b, _, d => by rw [mI_nil]; simp
  | n, a, [], _, d => by rw [mI_nil']; simp
  | 0, x :: a, y :: b, h, d => by simp at h
  | n + 1, x :: a, y :: b, h, d => by
    simp only [List.length_cons] at h
    have h1 := mI_mem n a (y :: b) (by simp only [List.length_cons]; omega) d
    have h2 := mI_mem n (x :: a) b (by simp only [List.length_cons]; omega) d
    have h3 := mI_mem n a b (by omega) d
    rw [mI_cons]
    split
    · rw [List.mem_cons, h1]
      simp only [List.mem_cons]
      grind
    · split
      · rw [List.mem_cons, h2]
        simp only [List.mem_cons]
        grind
      · have e : x = y := by omega
        subst e
        rw [List.mem_cons, h3]
        simp only [List.mem_cons]
        grind
theorem mI_up : ∀ (n : Nat) (a b : List Int), a.length + b.length ≤ n → UpI a → UpI b → UpI (mI a b)
  | n, [], b, _, _, hb => by rw [mI_nil]; exact hb
  | n, a, [], _, ha, _ => by rw [mI_nil']; exact ha
  | 0, x :: a, y :: b, h, _, _ => by simp at h
  | n + 1, x :: a, y :: b, h, ha, hb => by
    simp only [List.length_cons] at h
    have ha' := List.pairwise_cons.1 ha
    have hb' := List.pairwise_cons.1 hb
    have l1 : a.length + (y :: b).length ≤ n := by simp only [List.length_cons]; omega
    have l2 : (x :: a).length + b.length ≤ n := by simp only [List.length_cons]; omega
    rw [mI_cons]
    split
    · refine List.pairwise_cons.2 ⟨fun d hd => ?_, mI_up n a (y :: b) l1 ha'.2 hb⟩
      rcases (mI_mem n a (y :: b) l1 d).1 hd with h1 | h1
      · exact ha'.1 d h1
      · rcases List.mem_cons.1 h1 with rfl | h1
        · assumption
        · have := hb'.1 d h1; omega
    · split
      · refine List.pairwise_cons.2 ⟨fun d hd => ?_, mI_up n (x :: a) b l2 ha hb'.2⟩
        rcases (mI_mem n (x :: a) b l2 d).1 hd with h1 | h1
        · rcases List.mem_cons.1 h1 with rfl | h1
          · assumption
          · have := ha'.1 d h1; omega
        · exact hb'.1 d h1
      · have e : x = y := by omega
        subst e
        refine List.pairwise_cons.2 ⟨fun d hd => ?_, mI_up n a b (by omega) ha'.2 hb'.2⟩
        rcases (mI_mem n a b (by omega) d).1 hd with h1 | h1
        · exact ha'.1 d h1
        · exact hb'.1 d h1
theorem mI_len : ∀ (n : Nat) (a b : List Int), a.length + b.length ≤ n → (mI a b).length ≤ a.length + b.length
  | n, [], b, _ => by rw [mI_nil]; simp
  | n, a, [], _ => by rw [mI_nil']; simp
  | 0, x :: a, y :: b, h => by simp at h
  | n + 1, x :: a, y :: b, h => by
    simp only [List.length_cons] at h
    have h1 := mI_len n a (y :: b) (by simp only [List.length_cons]; omega)
    have h2 := mI_len n (x :: a) b (by simp only [List.length_cons]; omega)
    have h3 := mI_len n a b (by omega)
    simp only [List.length_cons] at h1 h2
    rw [mI_cons]
    split
    · simp only [List.length_cons]; omega
    · split
      · simp only [List.length_cons]; omega
      · simp only [List.length_cons]; omega
theorem upI_ext : ∀ {a b : List Int}, UpI a → UpI b → (∀ d, d ∈ a ↔ d ∈ b) → a = b
  | [], [], _, _, _ => rfl
  | [], y :: b, _, _, h => by have := (h y).2 (by simp); simp at this
  | x :: a, [], _, _, h => by have := (h x).1 (by simp); simp at this
  | x :: a, y :: b, ha, hb, h => by
    have ha' := List.pairwise_cons.1 ha
    have hb' := List.pairwise_cons.1 hb
    have e : x = y := by
      rcases List.mem_cons.1 ((h x).1 (by simp)) with h1 | h1
      · exact h1
      · rcases List.mem_cons.1 ((h y).2 (by simp)) with h2 | h2
        · exact h2.symm
        · have := hb'.1 x h1
          have := ha'.1 y h2
          omega
    subst e
    rw [upI_ext ha'.2 hb'.2 fun d => ⟨fun hd => ?_, fun hd => ?_⟩]
    · rcases List.mem_cons.1 ((h d).1 (by simp [hd])) with h1 | h1
      · have := ha'.1 d hd; omega
      · exact h1
    · rcases List.mem_cons.1 ((h d).2 (by simp [hd])) with h1 | h1
      · have := hb'.1 d hd; omega
      · exact h1
theorem drop_of {l : List Int} {k : Nat} {x : Int} (h : ∃ hl : k < l.length, l[k] = x) : l.drop k = x :: l.drop (k + 1) := by
  obtain ⟨hl, rfl⟩ := h
  exact List.drop_eq_getElem_cons hl
set_option maxRecDepth 100000 in
set_option maxHeartbeats 8000000 in
theorem refBoth_any (A : Option Addr) (na ca : Nat) (a : List Int) (B : Option Addr) (nb cb : Nat) (b : List Int) (w : World) (ha : Rd encI w A na a) (hb : Rd encI w B nb b) (h1 : na ≤ 1000000) (h2 : nb ≤ 1000000) :
    Calls Try.prog 60 #[.slice A na ca, .slice B nb cb] w fun e w' => ∃ v, e = .returned v ∧ OwnI w' w.heap.size v (mI a b) ∧ Below w.heap.size w w' := by
  have HA := Lib.hid ha
  have HBb := Lib.hid hb
  have HLn := Lib.hid (And.intro ha.len hb.len)
  clear ha hb
  go_enter Try.func60, Try.ntmps60
  go_wp2_with fail
  go_loopw [5, 6, 7] (fun o x y wr => ∃ (Ao : Option Addr) (no co : Nat) (out : List Int) (i k : Nat), o = .slice Ao no co ∧ x = .int .i64 (i : Nat) ∧ y = .int .i64 (k : Nat) ∧ i ≤ na ∧ k ≤ nb ∧ no ≤ co ∧ co ≤ 9223372036854775807 ∧
    Hid (OwnI wr w.heap.size (.slice Ao no co) out ∧ out.length = no) ∧ Hid (Below w.heap.size w wr) ∧ Hid (out ++ mI (a.drop i) (b.drop k) = mI a b) ∧ Hid (no ≤ i + k)) (fun _ x y _ => na + nb - (intOf x).toNat - (intOf y).toNat)
  case atStart => exact ⟨none, 0, 0, [], 0, 0, rfl, rfl, rfl, Nat.zero_le _, Nat.zero_le _, Nat.le_refl _, by decide, Lib.hid ⟨OwnL.nil _ _ _ _, rfl⟩, Lib.hid (Below.refl _ _), Lib.hid (by simp), Lib.hid (Nat.zero_le _)⟩
  case round =>
    obtain ⟨Ao, no, co, out, i, k, rfl, rfl, rfl, hi, hk, hno, hco, HO, HB, HE, HL⟩ := hrel
    by_cases hia : i < na
    · obtain ⟨ad, x, rfl, HX, x0⟩ := rdI_at (HA.out.below HB.out) (k := i) hia
      have hci : decide ((i : Int) < (na : Int)) = true := decide_eq_true (by omega)
      have hqi : ((i : Int) == (na : Int)) = false := by simp; omega
      by_cases hkb : k < nb
      · obtain ⟨ae, y, rfl, HY, y0⟩ := rdI_at (HBb.out.below HB.out) (k := k) hkb
        have hck : decide ((k : Int) < (nb : Int)) = true := decide_eq_true (by omega)
        have hqk : ((k : Int) == (nb : Int)) = false := by simp; omega
        by_cases hxy : x < y
        · have hd1 : decide (x < y) = true := decide_eq_true hxy
          have HN : Hid ((out ++ [x]) ++ mI (a.drop (i + 1)) (b.drop (k)) = mI a b) := Lib.hid (by rw [← HE.out, List.append_assoc]; congr 1; rw [drop_of HX.out, drop_of HY.out, mI_cons, if_pos hxy, List.singleton_append])
          go_upto_region 8 with fail
          go_quiet (fail)
          obtain ⟨wd0, hwd⟩ : ∃ wd, wd = wr.drewN nq := ⟨_, rfl⟩
          rw [← hwd]
          have hbd : Below wr.heap.size wr wd0 := by rw [hwd]; exact below_drewN (Below.refl _ _) nq
          replace HB := Lib.hid (Below.thn HB.out hbd)
          replace HO := Lib.hid (And.intro (OwnL.below HO.out.1 hbd) HO.out.2)
          replace x0 := cell_keep hbd x0
          replace y0 := cell_keep hbd y0
          clear hwd hbd
          obtain ⟨A', c', w', r', o', hb', hc1, hc2, _⟩ := push_i x HO.out.1 HB.out (by have := HO.out.2; have := HL.out; omega)
          rw [HO.out.2] at r' o' hc1
          obtain ⟨n2, hn2⟩ : ∃ n2, n2 = no + 1 := ⟨_, rfl⟩
          rw [← hn2] at r' o' hc1
          have HO2 : Hid (OwnI w' w.heap.size (.slice A' n2 c') (out ++ [x]) ∧ (out ++ [x]).length = n2) := Lib.hid ⟨o', by rw [List.length_append, HO.out.2, hn2]; rfl⟩
          have HB2 := Lib.hid hb'
          have HL2 : Hid (n2 ≤ (i + 1) + (k)) := Lib.hid (by have := HL.out; omega)
          clear o' hb' hn2
          go_wp2_with (first | (at_builtin; refine wpl_append_run rfl _ _ _ rfl rfl rfl r' ?_) | fail)
          exact ⟨⟨A', n2, c', out ++ [x], i + 1, k, rfl, by go_num, by go_num, by omega, by omega, hc1, hc2, HO2, HB2, HN, HL2⟩, by simp [intOf]; omega⟩
        by_cases hyx : y < x
        · have hd1 : decide (x < y) = false := decide_eq_false hxy
          have hd2 : decide (y < x) = true := decide_eq_true hyx
          have HN : Hid ((out ++ [y]) ++ mI (a.drop (i)) (b.drop (k + 1)) = mI a b) := Lib.hid (by rw [← HE.out, List.append_assoc]; congr 1; rw [drop_of HX.out, drop_of HY.out, mI_cons, if_neg hxy, if_pos hyx, List.singleton_append])
          go_upto_region 8 with fail
          go_quiet (fail)
          obtain ⟨wd0, hwd⟩ : ∃ wd, wd = wr.drewN nq := ⟨_, rfl⟩
          rw [← hwd]
          have hbd : Below wr.heap.size wr wd0 := by rw [hwd]; exact below_drewN (Below.refl _ _) nq
          replace HB := Lib.hid (Below.thn HB.out hbd)
          replace HO := Lib.hid (And.intro (OwnL.below HO.out.1 hbd) HO.out.2)
          replace x0 := cell_keep hbd x0
          replace y0 := cell_keep hbd y0
          clear hwd hbd
          go_upto_region 11 with fail
          go_quiet (fail)
          obtain ⟨wd1, hwd⟩ : ∃ wd, wd = wd0.drewN nq := ⟨_, rfl⟩
          rw [← hwd]
          have hbd : Below wd0.heap.size wd0 wd1 := by rw [hwd]; exact below_drewN (Below.refl _ _) nq
          replace HB := Lib.hid (Below.thn HB.out hbd)
          replace HO := Lib.hid (And.intro (OwnL.below HO.out.1 hbd) HO.out.2)
          replace x0 := cell_keep hbd x0
          replace y0 := cell_keep hbd y0
          clear hwd hbd
          obtain ⟨A', c', w', r', o', hb', hc1, hc2, _⟩ := push_i y HO.out.1 HB.out (by have := HO.out.2; have := HL.out; omega)
          rw [HO.out.2] at r' o' hc1
          obtain ⟨n2, hn2⟩ : ∃ n2, n2 = no + 1 := ⟨_, rfl⟩
          rw [← hn2] at r' o' hc1
          have HO2 : Hid (OwnI w' w.heap.size (.slice A' n2 c') (out ++ [y]) ∧ (out ++ [y]).length = n2) := Lib.hid ⟨o', by rw [List.length_append, HO.out.2, hn2]; rfl⟩
          have HB2 := Lib.hid hb'
          have HL2 : Hid (n2 ≤ (i) + (k + 1)) := Lib.hid (by have := HL.out; omega)
          clear o' hb' hn2
          go_wp2_with (first | (at_builtin; refine wpl_append_run rfl _ _ _ rfl rfl rfl r' ?_) | fail)
          exact ⟨⟨A', n2, c', out ++ [y], i, k + 1, rfl, by go_num, by go_num, by omega, by omega, hc1, hc2, HO2, HB2, HN, HL2⟩, by simp [intOf]; omega⟩
        · have hd1 : decide (x < y) = false := decide_eq_false hxy
          have hd2 : decide (y < x) = false := decide_eq_false hyx
          have HN : Hid ((out ++ [x]) ++ mI (a.drop (i + 1)) (b.drop (k + 1)) = mI a b) := Lib.hid (by rw [← HE.out, List.append_assoc]; congr 1; rw [drop_of HX.out, drop_of HY.out, mI_cons, if_neg hxy, if_neg hyx, List.singleton_append])
          go_upto_region 8 with fail
          go_quiet (fail)
          obtain ⟨wd0, hwd⟩ : ∃ wd, wd = wr.drewN nq := ⟨_, rfl⟩
          rw [← hwd]
          have hbd : Below wr.heap.size wr wd0 := by rw [hwd]; exact below_drewN (Below.refl _ _) nq
          replace HB := Lib.hid (Below.thn HB.out hbd)
          replace HO := Lib.hid (And.intro (OwnL.below HO.out.1 hbd) HO.out.2)
          replace x0 := cell_keep hbd x0
          replace y0 := cell_keep hbd y0
          clear hwd hbd
          go_upto_region 11 with fail
          go_quiet (fail)
          obtain ⟨wd1, hwd⟩ : ∃ wd, wd = wd0.drewN nq := ⟨_, rfl⟩
          rw [← hwd]
          have hbd : Below wd0.heap.size wd0 wd1 := by rw [hwd]; exact below_drewN (Below.refl _ _) nq
          replace HB := Lib.hid (Below.thn HB.out hbd)
          replace HO := Lib.hid (And.intro (OwnL.below HO.out.1 hbd) HO.out.2)
          replace x0 := cell_keep hbd x0
          replace y0 := cell_keep hbd y0
          clear hwd hbd
          obtain ⟨A', c', w', r', o', hb', hc1, hc2, _⟩ := push_i x HO.out.1 HB.out (by have := HO.out.2; have := HL.out; omega)
          rw [HO.out.2] at r' o' hc1
          obtain ⟨n2, hn2⟩ : ∃ n2, n2 = no + 1 := ⟨_, rfl⟩
          rw [← hn2] at r' o' hc1
          have HO2 : Hid (OwnI w' w.heap.size (.slice A' n2 c') (out ++ [x]) ∧ (out ++ [x]).length = n2) := Lib.hid ⟨o', by rw [List.length_append, HO.out.2, hn2]; rfl⟩
          have HB2 := Lib.hid hb'
          have HL2 : Hid (n2 ≤ (i + 1) + (k + 1)) := Lib.hid (by have := HL.out; omega)
          clear o' hb' hn2
          go_wp2_with (first | (at_builtin; refine wpl_append_run rfl _ _ _ rfl rfl rfl r' ?_) | fail)
          exact ⟨⟨A', n2, c', out ++ [x], i + 1, k + 1, rfl, by go_num, by go_num, by omega, by omega, hc1, hc2, HO2, HB2, HN, HL2⟩, by simp [intOf]; omega⟩
      · have hck : decide ((k : Int) < (nb : Int)) = false := decide_eq_false (by omega)
        have hqk : ((k : Int) == (nb : Int)) = true := by simp; omega

        have HN : Hid ((out ++ [x]) ++ mI (a.drop (i + 1)) (b.drop (k)) = mI a b) := Lib.hid (by rw [← HE.out, List.append_assoc]; congr 1; rw [drop_of HX.out, List.drop_of_length_le (l := b) (i := k) (by have := HLn.out.2; omega), mI_nil', mI_nil', List.singleton_append])
        go_upto_region 8 with fail
        go_quiet (fail)
        obtain ⟨wd0, hwd⟩ : ∃ wd, wd = wr.drewN nq := ⟨_, rfl⟩
        rw [← hwd]
        have hbd : Below wr.heap.size wr wd0 := by rw [hwd]; exact below_drewN (Below.refl _ _) nq
        replace HB := Lib.hid (Below.thn HB.out hbd)
        replace HO := Lib.hid (And.intro (OwnL.below HO.out.1 hbd) HO.out.2)
        replace x0 := cell_keep hbd x0
        clear hwd hbd
        obtain ⟨A', c', w', r', o', hb', hc1, hc2, _⟩ := push_i x HO.out.1 HB.out (by have := HO.out.2; have := HL.out; omega)
        rw [HO.out.2] at r' o' hc1
        obtain ⟨n2, hn2⟩ : ∃ n2, n2 = no + 1 := ⟨_, rfl⟩
        rw [← hn2] at r' o' hc1
        have HO2 : Hid (OwnI w' w.heap.size (.slice A' n2 c') (out ++ [x]) ∧ (out ++ [x]).length = n2) := Lib.hid ⟨o', by rw [List.length_append, HO.out.2, hn2]; rfl⟩
        have HB2 := Lib.hid hb'
        have HL2 : Hid (n2 ≤ (i + 1) + (k)) := Lib.hid (by have := HL.out; omega)
        clear o' hb' hn2
        go_wp2_with (first | (at_builtin; refine wpl_append_run rfl _ _ _ rfl rfl rfl r' ?_) | fail)
        exact ⟨⟨A', n2, c', out ++ [x], i + 1, k, rfl, by go_num, by go_num, by omega, by omega, hc1, hc2, HO2, HB2, HN, HL2⟩, by simp [intOf]; omega⟩
    · have hci : decide ((i : Int) < (na : Int)) = false := decide_eq_false (by omega)
      have hqi : ((i : Int) == (na : Int)) = true := by simp; omega
      by_cases hkb : k < nb
      · obtain ⟨ae, y, rfl, HY, y0⟩ := rdI_at (HBb.out.below HB.out) (k := k) hkb
        have hck : decide ((k : Int) < (nb : Int)) = true := decide_eq_true (by omega)
        have hqk : ((k : Int) == (nb : Int)) = false := by simp; omega

        have HN : Hid ((out ++ [y]) ++ mI (a.drop (i)) (b.drop (k + 1)) = mI a b) := Lib.hid (by rw [← HE.out, List.append_assoc]; congr 1; rw [drop_of HY.out, List.drop_of_length_le (l := a) (i := i) (by have := HLn.out.1; omega), mI_nil, mI_nil, List.singleton_append])
        go_upto_region 8 with fail
        go_quiet (fail)
        obtain ⟨wd0, hwd⟩ : ∃ wd, wd = wr.drewN nq := ⟨_, rfl⟩
        rw [← hwd]
        have hbd : Below wr.heap.size wr wd0 := by rw [hwd]; exact below_drewN (Below.refl _ _) nq
        replace HB := Lib.hid (Below.thn HB.out hbd)
        replace HO := Lib.hid (And.intro (OwnL.below HO.out.1 hbd) HO.out.2)
        replace y0 := cell_keep hbd y0
        clear hwd hbd
        go_upto_region 11 with fail
        go_quiet (fail)
        obtain ⟨wd1, hwd⟩ : ∃ wd, wd = wd0.drewN nq := ⟨_, rfl⟩
        rw [← hwd]
        have hbd : Below wd0.heap.size wd0 wd1 := by rw [hwd]; exact below_drewN (Below.refl _ _) nq
        replace HB := Lib.hid (Below.thn HB.out hbd)
        replace HO := Lib.hid (And.intro (OwnL.below HO.out.1 hbd) HO.out.2)
        replace y0 := cell_keep hbd y0
        clear hwd hbd
        obtain ⟨A', c', w', r', o', hb', hc1, hc2, _⟩ := push_i y HO.out.1 HB.out (by have := HO.out.2; have := HL.out; omega)
        rw [HO.out.2] at r' o' hc1
        obtain ⟨n2, hn2⟩ : ∃ n2, n2 = no + 1 := ⟨_, rfl⟩
        rw [← hn2] at r' o' hc1
        have HO2 : Hid (OwnI w' w.heap.size (.slice A' n2 c') (out ++ [y]) ∧ (out ++ [y]).length = n2) := Lib.hid ⟨o', by rw [List.length_append, HO.out.2, hn2]; rfl⟩
        have HB2 := Lib.hid hb'
        have HL2 : Hid (n2 ≤ (i) + (k + 1)) := Lib.hid (by have := HL.out; omega)
        clear o' hb' hn2
        go_wp2_with (first | (at_builtin; refine wpl_append_run rfl _ _ _ rfl rfl rfl r' ?_) | fail)
        exact ⟨⟨A', n2, c', out ++ [y], i, k + 1, rfl, by go_num, by go_num, by omega, by omega, hc1, hc2, HO2, HB2, HN, HL2⟩, by simp [intOf]; omega⟩
      · have HF : Hid (OwnI wr w.heap.size (.slice Ao no co) (mI a b)) := Lib.hid (by
          have h := HE.out
          rw [List.drop_of_length_le (by have := HLn.out.1; omega), List.drop_of_length_le (by have := HLn.out.2; omega), mI_nil, List.append_nil] at h
          rw [← h]
          exact HO.out.1)
        have hck : decide ((k : Int) < (nb : Int)) = false := decide_eq_false (by omega)
        go_wp2
        go_ret
        exact ⟨_, rfl, HF.out, HB.out⟩
end Go.Proofs.Ytaaddckhldccjaa
