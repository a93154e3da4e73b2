/- A document put at its place, once: the reference's. -/
import Derived.Test.YtaaddckhldccjaaRefAN
import Derived.Test.YtaaddckhldccjaaEit
namespace Go.Proofs.Ytaaddckhldccjaa
open Go.RowKit Go.Shelf
set_option linter.unusedVariables false
set_option linter.unusedSimpArgs false

/-- More numbers put behind. -/
theorem app_u {w w1 : World} {v : Value} {L : List Nat} (h : OwnU w1 w.heap.size v L) (hb : Below w.heap.size w w1) {A : Option Addr} {m c : Nat} {ys : List Nat} (hr : RdU w1 A m ys) (hl : L.length + m ≤ 100000000) :
    ∃ A' c' w', (Builtin.append_ #[38, 38] 38 #[v, .slice A m c]).run Try.prog w1 = .ok (.slice A' (L.length + m) c') w' ∧
      OwnU w' w.heap.size (.slice A' (L.length + m) c') (L ++ ys) ∧ Below w.heap.size w w' ∧ L.length + m ≤ c' ∧ c' ≤ 9223372036854775807 := by
  obtain ⟨v1, w', r, o, g, _⟩ := run_append_rd (P := Try.prog) (c := c) w.heap.size 38 38 30 (.int .u32 0) 4 Try.underlying38 infoU rfl (by decide) encU_one h.1 hr.rd (by omega) hb.size
  obtain ⟨A', c', e, h1, h2, _⟩ := OwnL.rd o
  have hlen : (L ++ ys).length = L.length + m := by rw [List.length_append, hr.len]
  rw [hlen] at e h1
  subst e
  exact ⟨A', c', w', r, ⟨o, h.2.append hr.lt⟩, hb.grown g hb.size (fun j hj => (OwnL.base h.1 j hj).1), h1, h2⟩
/-- What is put. -/
def PutR (l : List Nat) (d : Nat) (r : List Nat) : Prop := (Up l → Up r) ∧ (∀ x, x ∈ r ↔ x ∈ l ∨ x = d) ∧ r.length ≤ l.length + 1
theorem putR_in {l : List Nat} {d : Nat} (h : d ∈ l) : PutR l d l := ⟨id, fun x => ⟨.inl, fun hx => by rcases hx with hx | rfl <;> assumption⟩, Nat.le_succ _⟩
theorem putR_at {l : List Nat} {d j : Nat} (hn : d ∉ l) (h1 : ∀ x ∈ l.take j, x < d) (h2 : ∃ x, (l.drop j).head? = x ∧ ∀ y, x = some y → d ≤ y) : PutR l d ((l.take j ++ [d]) ++ l.drop j) := by
  obtain ⟨x0, hx0, hy⟩ := h2
  refine ⟨fun hu => ?_, fun x => ?_, by simp only [List.length_append, List.length_take, List.length_drop, List.length_singleton]; omega⟩
  · have hu' : (l.take j ++ l.drop j).Pairwise (· < ·) := by rw [List.take_append_drop]; exact hu
    obtain ⟨u1, u2, u3⟩ := List.pairwise_append.1 hu'
    have hd : ∀ y ∈ l.drop j, d < y := fun y hm => by
      have hym : y ∈ l := List.mem_of_mem_drop hm
      have hne : d ≠ y := fun e => hn (by rw [e]; exact hym)
      cases hdr : l.drop j with
      | nil => rw [hdr] at hm; cases hm
      | cons z r =>
        rw [hdr] at hm hx0 u2
        have hz := hy z hx0.symm
        rcases List.mem_cons.1 hm with rfl | hm
        · omega
        · have := (List.pairwise_cons.1 u2).1 y hm; omega
    refine List.pairwise_append.2 ⟨List.pairwise_append.2 ⟨u1, by simp, fun a ha b hb => ?_⟩, u2, fun a ha b hb => ?_⟩
    · rw [List.mem_singleton] at hb; subst hb; exact h1 a ha
    · rcases List.mem_append.1 ha with ha | ha
      · exact u3 a ha b hb
      · rw [List.mem_singleton] at ha; subst ha; exact hd b hb
  · have e : x ∈ l ↔ x ∈ l.take j ∨ x ∈ l.drop j := by
      conv => lhs; rw [← List.take_append_drop j l]
      exact List.mem_append
    rw [List.mem_append, List.mem_append, List.mem_singleton, e]
    grind
set_option maxRecDepth 100000 in
set_option maxHeartbeats 8000000 in
theorem put_any (b : Nat) (v : Value) (l : List Nat) (d : Nat) (w : World) (h : OwnU w b v l) (hbw : b ≤ w.heap.size) (hd : d ≤ 4294967295) (hl : l.length ≤ 1000000) :
    Calls Try.prog 54 #[v, .int .u32 (d : Nat)] w fun e w' => ∃ v' r, e = .returned v' ∧ OwnU w' b v' r ∧ PutR l d r ∧ Below w.heap.size w w' := by
  obtain ⟨A, n, c, rfl, hnc, hc2, hr⟩ := h.us
  have HR := Lib.hid hr
  have HLn := Lib.hid hr.len
  have HB := Lib.hid h
  have hn6 : n ≤ 1000000 := by rw [← hr.len]; exact hl
  have HBW := Lib.hid hbw
  have C := Lib.hid (Has_any A n c l d w hr)
  clear h hr hl hbw
  go_enter Try.func54, Try.ntmps54
  go_wp2_with fail
  refine C.out.mono ?_
  rintro e w1 ⟨rfl, rfl⟩
  by_cases hin : d ∈ l
  · rw [decide_eq_true hin]
    have HP := Lib.hid (putR_in hin)
    clear hin C
    go_wp2
    refine bodyPost_ret (v := .slice A n c) (by simp [results, Try.results54, go_sem]) rfl ⟨_, l, rfl, HB.out, HP.out, Below.refl _ _⟩
  rw [decide_eq_false hin]
  have HIN := Lib.hid hin
  clear hin C
  go_wp2_with fail
  go_loopw [5, 6] (fun o y wr => ∃ k : Nat, y = .int .i64 (k : Nat) ∧ k ≤ n ∧ Hid (OwnU wr w.heap.size o (l.take k)) ∧ Hid (Below w.heap.size w wr) ∧ Hid (∀ x ∈ l.take k, x < d)) (fun _ y _ => n - (intOf y).toNat)
  case atStart => exact ⟨0, rfl, Nat.zero_le _, Lib.hid (OwnU.nil _ _), Lib.hid (Below.refl _ _), Lib.hid (fun x hx => by simp at hx)⟩
  case round =>
    obtain ⟨k, rfl, hk, HO, HBs, HX⟩ := hrel
    obtain ⟨Ao, co, rfl, lo, mo, _⟩ := OwnL.rd HO.out.1
    have hlk : (l.take k).length = k := by rw [List.length_take, HLn.out]; omega
    rw [hlk] at lo HO ⊢
    by_cases hlt : (k : Int) < (n : Int)
    · obtain ⟨ad, x, rfl, HXE, hxm, x0⟩ := (HR.out.below HBs.out).at (k := k) (by omega)
      by_cases hxd : (x : Int) < (d : Int)
      · have HN : Hid (∀ y ∈ l.take (k + 1), y < d) := Lib.hid (fun y hy => by
          obtain ⟨hl9, e9⟩ := HXE.out
          rw [List.take_succ_eq_append_getElem hl9, e9] at hy
          rcases List.mem_append.1 hy with hy | hy
          · exact HX.out y hy
          · rw [List.mem_singleton] at hy; omega)
        obtain ⟨A1, c1, W1, r1, o1, hb1, hc11, hc12, _⟩ := push_u x HO.out HBs.out hxm (by omega)
        have HO1 : Hid (OwnU W1 w.heap.size (.slice A1 (k + 1) c1) (l.take (k + 1))) := Lib.hid (by
          obtain ⟨hl9, e9⟩ := HXE.out
          rw [List.take_succ_eq_append_getElem hl9, e9]
          rw [hlk] at o1
          exact o1)
        have HB1 := Lib.hid hb1
        rw [hlk] at r1 hc11
        clear o1 hb1 hlk
        go_wp2_with (at_builtin; refine wpl_append_run rfl _ _ _ rfl rfl rfl r1 ?_)
        exact ⟨⟨k + 1, by simp; try go_num, by omega, HO1, HB1, HN⟩, by simp [intOf]; omega⟩
      · have HP : Hid (PutR l d ((l.take k ++ [d]) ++ l.drop k)) := Lib.hid (putR_at HIN.out HX.out ⟨_, rfl, fun y hy => by
          obtain ⟨hl9, e9⟩ := HXE.out
          rw [List.drop_eq_getElem_cons hl9, e9] at hy
          cases hy
          omega⟩)
        obtain ⟨A1, c1, W1, r1, o1, hb1, hc11, hc12, _⟩ := push_u d HO.out HBs.out hd (by omega)
        obtain ⟨A', hcut, hcr⟩ := cutU (some ad) n c k hk hnc
        obtain ⟨A2, c2', W2, r2, o2, hb2', hc21, hc22⟩ := app_u (c := c - k) o1 hb1 (hcr W1 l (HR.out.below hb1)) (by simp; omega)
        have hl1 : (l.take k ++ [d]).length = k + 1 := by rw [List.length_append, hlk]; rfl
        rw [hlk] at r1 hc11
        rw [hlk] at r2
        rw [hl1] at r2 hc21 o2
        obtain ⟨nk, hnk⟩ : ∃ nk, nk = n - k := ⟨_, rfl⟩
        obtain ⟨ck, hck⟩ : ∃ ck, ck = c - k := ⟨_, rfl⟩
        obtain ⟨n2, hn2⟩ : ∃ n2, n2 = k + 1 + nk := ⟨_, rfl⟩
        rw [← hnk, ← hck] at hcut
        rw [← hnk, ← hck, ← hn2] at r2
        rw [← hnk, ← hn2] at hc21 o2
        clear hnk hck hn2
        have HO2 := Lib.hid o2
        have HB2 := Lib.hid hb2'
        clear o1 o2 hb1 hb2' hcr hlk hl1
        go_wp2_with (first | (at_builtin; refine wpl_append_run rfl _ _ _ rfl rfl rfl r1 ?_) | (at_builtin; refine wpl_append_run rfl _ _ _ rfl rfl rfl r2 ?_) | fail)
        refine bodyPost_ret (v := .slice A2 n2 c2') (by simp [results, Try.results54, go_sem]) rfl ⟨_, rfl, _, ⟨OwnL.mono HO2.out.1 HBW.out, HO2.out.2⟩, HP.out, HB2.out⟩
    · obtain rfl : n = k := by omega
      have HP : Hid (PutR l d ((l.take n ++ [d]) ++ l.drop n)) := Lib.hid (putR_at HIN.out HX.out ⟨_, rfl, fun y hy => by
        rw [List.drop_eq_nil_of_le (by rw [HLn.out]; exact Nat.le_refl _)] at hy
        cases hy⟩)
      obtain ⟨A1, c1, W1, r1, o1, hb1, hc11, hc12, _⟩ := push_u d HO.out HBs.out hd (by omega)
      obtain ⟨A', hcut, hcr⟩ := cutU A n c n hk hnc
      obtain ⟨A2, c2', W2, r2, o2, hb2', hc21, hc22⟩ := app_u (c := c - n) o1 hb1 (hcr W1 l (HR.out.below hb1)) (by simp; omega)
      have hl1 : (l.take n ++ [d]).length = n + 1 := by rw [List.length_append, hlk]; rfl
      rw [hlk] at r1 hc11
      rw [hlk] at r2
      rw [hl1] at r2 hc21 o2
      obtain ⟨nk, hnk⟩ : ∃ nk, nk = n - n := ⟨_, rfl⟩
      obtain ⟨ck, hck⟩ : ∃ ck, ck = c - n := ⟨_, rfl⟩
      obtain ⟨n2, hn2⟩ : ∃ n2, n2 = n + 1 + nk := ⟨_, rfl⟩
      rw [← hnk, ← hck] at hcut
      rw [← hnk, ← hck, ← hn2] at r2
      rw [← hnk, ← hn2] at hc21 o2
      clear hnk hck hn2
      have HO2 := Lib.hid o2
      have HB2 := Lib.hid hb2'
      clear o1 o2 hb1 hb2' hcr hlk hl1
      go_wp2_with (first | (at_builtin; refine wpl_append_run rfl _ _ _ rfl rfl rfl r1 ?_) | (at_builtin; refine wpl_append_run rfl _ _ _ rfl rfl rfl r2 ?_) | fail)
      refine bodyPost_ret (v := .slice A2 n2 c2') (by simp [results, Try.results54, go_sem]) rfl ⟨_, rfl, _, ⟨OwnL.mono HO2.out.1 HBW.out, HO2.out.2⟩, HP.out, HB2.out⟩
end Go.Proofs.Ytaaddckhldccjaa
