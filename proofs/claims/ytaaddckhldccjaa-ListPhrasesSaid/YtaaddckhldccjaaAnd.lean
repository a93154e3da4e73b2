/- What is in all. -/
import Derived.Test.YtaaddckhldccjaaTold
import Derived.Test.YtaaddckhldccjaaSrt
import Derived.Shelf.Abstract
namespace Go.Proofs.Ytaaddckhldccjaa
open Go.RowKit Go.Shelf
set_option linter.unusedVariables false
set_option linter.unusedSimpArgs false

/-- Two rows that rise and have the same are the same. -/
theorem up_ext : ∀ {a b : List Nat}, Up a → Up b → (∀ d, d ∈ a ↔ d ∈ b) → a = b
  | [], [], _, _, _ => rfl
  | [], y :: b, _, _, h => by have := (h y).2 (by simp); simp at this
  | x :: a, [], _, _, h => by have := (h x).1 (by simp); simp at this
  | x :: a, y :: b, ha, hb, h => by
    have ha' := List.pairwise_cons.1 ha
    have hb' := List.pairwise_cons.1 hb
    have e : x = y := by
      rcases List.mem_cons.1 ((h x).1 (by simp)) with h1 | h1
      · exact h1
      · rcases List.mem_cons.1 ((h y).2 (by simp)) with h2 | h2
        · exact h2.symm
        · have := hb'.1 x h1
          have := ha'.1 y h2
          omega
    subst e
    rw [up_ext ha'.2 hb'.2 fun d => ⟨fun hd => ?_, fun hd => ?_⟩]
    · rcases List.mem_cons.1 ((h d).1 (by simp [hd])) with h1 | h1
      · have := ha'.1 d hd; omega
      · exact h1
    · rcases List.mem_cons.1 ((h d).2 (by simp [hd])) with h1 | h1
      · have := hb'.1 d hd; omega
      · exact h1
/-- What is in the first one, and in all others. -/
def andI (l : List Nat) (r : List UV) : List Nat := l.filter fun d => r.all fun x => decide (d ∈ x.l)
theorem andI_nil (l : List Nat) : andI l [] = l := by simp [andI]
theorem andI_snoc (l : List Nat) (r : List UV) (x : UV) : bothL (andI l r) x.l = andI l (r ++ [x]) := by
  unfold bothL andI
  rw [List.filter_filter]
  congr 1
  funext d
  rw [List.all_append]
  simp [Bool.and_comm]
theorem andI_up {l : List Nat} {r : List UV} (h : Up l) : Up (andI l r) := List.Pairwise.filter _ h
theorem andI_u32 {l : List Nat} {r : List UV} (h : U32 l) : U32 (andI l r) := fun d hd => h d (List.mem_filter.1 hd).1
theorem andI_mem {l : List Nat} {r : List UV} {d : Nat} : d ∈ andI l r ↔ (d ∈ l ∧ ∀ x ∈ r, d ∈ x.l) := by simp [andI, List.mem_filter, List.all_eq_true]
theorem andI_len (l : List Nat) (r : List UV) : (andI l r).length ≤ l.length := List.length_filter_le _ _
def andL : List UV → List Nat
  | [] => []
  | x :: r => andI x.l r
theorem andL_mem {ls : List UV} (h : ls ≠ []) {d : Nat} : d ∈ andL ls ↔ ∀ x ∈ ls, d ∈ x.l := by
  cases ls with
  | nil => exact absurd rfl h
  | cons x r => simp [andL, andI_mem]
theorem andL_up {ls : List UV} (h : allUp ls) : Up (andL ls) := by
  cases ls with
  | nil => exact List.Pairwise.nil
  | cons x r => exact andI_up (h x (by simp))
theorem andL_perm {ls ls' : List UV} (h : ls'.Perm ls) (hu : allUp ls) : andL ls' = andL ls := by
  by_cases h0 : ls = []
  · subst h0
    rw [List.perm_nil.1 h]
  · have h0' : ls' ≠ [] := fun e => h0 (by rw [e] at h; exact List.nil_perm.1 h)
    refine up_ext (andL_up fun x hx => hu x (h.subset hx)) (andL_up hu) fun d => ?_
    rw [andL_mem h0, andL_mem h0']
    exact ⟨fun hh x hx => hh x (h.symm.subset hx), fun hh x hx => hh x (h.subset hx)⟩
def andX (ls : List UV) : List Nat := if allUp ls then andL ls else []
theorem both_any (A : Option Addr) (na c : Nat) (B : Option Addr) (nb d : Nat) (w : World) :
    Calls Try.prog 46 #[.slice A na c, .slice B nb d] w fun e w' => e = .returned (.func (.func 68) #[] #[.pointer (some ⟨w.heap.size, 0, none⟩), .pointer (some ⟨w.heap.size + 1, 0, none⟩)]) ∧
      w' = (w.alloc (.cells #[.slice A na c] 38)).alloc (.cells #[.slice B nb d] 38) := by
  go_enter Try.func46, Try.ntmps46
  go_wp2
  go_ret
  exact ⟨rfl, rfl⟩
/-- What two have in common, gathered. -/
theorem collBoth_any (A : Option Addr) (na c : Nat) (la : List Nat) (B : Option Addr) (nb d : Nat) (lb : List Nat) (w : World) (hl : RdU w A na la) (hm : RdU w B nb lb) (ua : Up la) (ub : Up lb) (hL : la.length ≤ 100000000) :
    Calls Try.prog 51 #[.func (.func 68) #[] #[.pointer (some ⟨w.heap.size, 0, none⟩), .pointer (some ⟨w.heap.size + 1, 0, none⟩)]] ((w.alloc (.cells #[.slice A na c] 38)).alloc (.cells #[.slice B nb d] 38))
      fun e w' => ∃ v, e = .returned v ∧ OwnU w' w.heap.size v (bothL la lb) ∧ Below w.heap.size w w' := by
  obtain ⟨w0, hw0⟩ : ∃ w0, w0 = (w.alloc (.cells #[.slice A na c] 38)).alloc (.cells #[.slice B nb d] 38) := ⟨_, rfl⟩
  have hb : Below w.heap.size w w0 := by rw [hw0]; exact ((Below.refl _ _).alloc (Nat.le_refl _) _).alloc (by simp) _
  have h1 : w0.heap[w.heap.size]? = some (.cells #[.slice A na c] 38 (0, 0)) := by rw [hw0]; exact (Lib.alloc_old _ _ _ (by simp)).trans (World.alloc_heap_new w _)
  have h2 : w0.heap[w.heap.size + 1]? = some (.cells #[.slice B nb d] 38 (0, 0)) := by
    have := World.alloc_heap_new (w.alloc (.cells #[.slice A na c] 38)) (.cells #[.slice B nb d] 38)
    rw [World.size_alloc] at this
    rw [hw0]
    exact this
  rw [← hw0]
  have hs := both_seq 9 w.heap.size (w.heap.size + 1) (by decide) A na c la B nb d lb SU w0 w0 h1 h2 (Below.refl _ _) (hl.below hb) (hm.below hb) ua ub
  refine (Collect_seq 68 _ (enters_of Try.func68 (by kernel_rfl) rfl) w0.heap.size (bothL la lb) w0 hs (Nat.le_refl _) (Nat.le_trans (List.length_filter_le _ _) hL)).mono ?_
  rintro e w' ⟨v, e1, ho, hb2⟩
  exact ⟨v, e1, ⟨ho.l.mono hb.size, fun x hx => hl.lt x (List.mem_filter.1 hx).1⟩, hb.trans (hb2.mono hb.size)⟩
/-- A cut of a row of rows. -/
theorem cutUV (A : Option Addr) (n c k : Nat) (hk : k ≤ n) (hc : n ≤ c) : ∃ A' : Option Addr,
    (∀ W : World, (Instr.slice 43 (.slice A n c) (some (.int .i64 (k : Int))) none none).run Try.prog W = .ok (.slice A' (n - k) (c - k)) W) ∧
      ∀ (w : World) (l : List UV), Rd encUV w A n l → Rd encUV w A' (n - k) (l.drop k) := by
  obtain ⟨A', h1, _, h3⟩ := cut_rd (P := Try.prog) encUV 43 38 Try.underlying43 infoUV A n c k hk hc
  exact ⟨A', h1, h3⟩
set_option maxRecDepth 100000 in
set_option maxHeartbeats 4000000 in
theorem And_any (A : Option Addr) (n c : Nat) (ls : List UV) (w : World) (h : RdUU w A n ls) (hc : n ≤ c) (hc2 : c ≤ 9223372036854775807) (hn : n ≤ 19) (hx : ∀ x ∈ ls, x.n ≤ 1000000) :
    Calls Try.prog 22 #[.slice A n c] w fun e w' => ∃ v, e = .returned (.tuple #[v, .int .i64 (allE ls)]) ∧ OwnU w' w.heap.size v (andX ls) ∧ Below w.heap.size w w' := by
  have C1 := Lib.hid (all_any A n c ls w h (by omega))
  have HR := Lib.hid h
  have HX := Lib.hid hx
  have HLn := Lib.hid h.len
  clear h hx
  go_enter Try.func22, Try.ntmps22
  go_wp2_with fail
  refine C1.out.mono ?_
  rintro e w1 ⟨rfl, hb⟩
  have HB1 := Lib.hid hb
  clear C1 hb
  by_cases hu : allUp ls
  case neg =>
    have hE : Hid (allE ls = 160 ∧ andX ls = []) := Lib.hid ⟨if_neg hu, if_neg hu⟩
    rw [decide_eq_false hu]
    clear hu
    go_wp2
    refine bodyPost_ret (v := .tuple #[.slice none 0 0, .int .i64 160]) (by simp [results, Try.results22, go_sem]) rfl ⟨_, by rw [hE.out.1], ?_, HB1.out⟩
    rw [hE.out.2]
    exact OwnU.nil _ _
  rw [decide_eq_true hu]
  have HU := Lib.hid hu
  have hE : Hid (allE ls = 0 ∧ andX ls = andL ls) := Lib.hid ⟨if_pos hu, if_pos hu⟩
  clear hu
  by_cases hn0 : n = 0
  · subst hn0
    have hN : Hid (andL ls = []) := Lib.hid (by rw [List.eq_nil_of_length_eq_zero HLn.out]; rfl)
    go_wp2
    refine bodyPost_ret (v := .tuple #[.slice none 0 0, .int .i64 0]) (by simp [results, Try.results22, go_sem]) rfl ⟨_, by rw [hE.out.1], ?_, HB1.out⟩
    rw [hE.out.2, hN.out]
    exact OwnU.nil _ _
  have hq0 : ((n : Int) == 0) = false := by simp; omega
  have C2 := Lib.hid (CloneUV_any A n c ls w1 (HR.out.below HB1.out).rd (by omega) hc hc2)
  go_wp2_with fail
  refine C2.out.mono ?_
  rintro e w2 ⟨v, rfl, ho, hb⟩
  obtain ⟨G, c2, rfl, _⟩ := OwnL.place ho (by rw [HLn.out]; omega)
  have hlen := HLn.out
  rw [hlen] at ho ⊢
  have C3 := Lib.hid (sortStable_any w1 G n c2 ls w2 ho hb (fun x hx => Nat.le_trans (HX.out x hx) (by decide)) hn)
  clear ho hb C2 hlen
  go_wp2_with fail
  refine C3.out.mono ?_
  rintro e w3 ⟨rfl, ls', hp, ho, hb⟩
  have HP := Lib.hid hp
  have HB3 := Lib.hid (HB1.out.trans (hb.mono HB1.out.size))
  have HB13 := Lib.hid hb
  have HOK : Hid (∀ x ∈ ls', x.ok w1 ∧ Up x.l ∧ x.n ≤ 1000000) := Lib.hid fun x hx => ⟨(HR.out.ok x (hp.subset hx)).below HB1.out, HU.out x (hp.subset hx), HX.out x (hp.subset hx)⟩
  have hlen' : ls'.length = n := by rw [hp.length_eq, HLn.out]
  obtain ⟨hl0, k0, _⟩ := insI_at ho (k := 0) (by omega)
  obtain ⟨x, hx⟩ : ∃ x, x = ls'[0] := ⟨_, rfl⟩
  rw [← hx] at k0
  have hxm : x ∈ ls' := by rw [hx]; exact List.getElem_mem hl0
  have hxok := (HOK.out x hxm)
  have C4 := Lib.hid (CloneU_any x.A x.n x.c x.l w3 (hxok.1.below hb).rd.rd (by have := hxok.2.2; omega) hxok.1.nc hxok.1.c2)
  have HXU := Lib.hid (And.intro hxok.2.1 (And.intro hxok.1.rd.lt (show x.l.length ≤ 1000000 by rw [hxok.1.rd.len]; exact hxok.2.2)))
  obtain ⟨R, hR⟩ : ∃ R, R = ls'.drop 1 := ⟨_, rfl⟩
  have HLS : Hid (ls' = x :: R) := Lib.hid (by
    have := List.drop_eq_getElem_cons hl0
    rw [List.drop_zero] at this
    rw [hx, hR]
    exact this)
  have HRM : Hid (∀ y ∈ R, y ∈ ls') := Lib.hid fun y hy => by rw [hR] at hy; exact List.mem_of_mem_drop hy
  obtain ⟨A9, c9, e9, hn9, hc9, hrd9⟩ := OwnL.rd ho
  injection e9 with e1 e2 e3
  subst e1 e3
  rw [hlen'] at hrd9 hn9
  obtain ⟨A', hcut, hrdc⟩ := cutUV (some ⟨G, 0, none⟩) n c2 1 (by omega) hn9
  have hcut1 : ∀ W : World, (Instr.slice 43 (.slice (some ⟨G, 0, none⟩) n c2) (some (.int .i64 1)) none none).run Try.prog W = .ok (.slice A' (n - 1) (c2 - 1)) W := hcut
  have HRD := Lib.hid (hrdc w3 ls' hrd9)
  rw [← hR] at HRD
  obtain ⟨m, hm⟩ : ∃ m, m = n - 1 := ⟨_, rfl⟩
  obtain ⟨cm, hcm⟩ : ∃ cm, cm = c2 - 1 := ⟨_, rfl⟩
  rw [← hm] at hcut1 HRD
  rw [← hcm] at hcut1
  have hm19 : m ≤ 18 := by omega
  have h0n : (0 : Int) < (n : Int) := by omega
  have h0n2 : 0 < n := by omega
  clear hp ho hb hlen' hl0 hx hxm hxok hR hrd9 hn9 e2 hcut hrdc hm hcm C3
  go_wp2_with fail
  refine C4.out.mono ?_
  rintro e w4 ⟨v, rfl, ho4, hb4⟩
  have HI4 : Hid (OwnU w4 w.heap.size v (andI x.l (R.take 0)) ∧ Below w3.heap.size w3 w4) := Lib.hid ⟨by
    rw [List.take_zero, andI_nil]
    exact ⟨ho4.mono HB3.out.size, HXU.out.2.1⟩, hb4⟩
  clear ho4 hb4 C4 k0
  go_wp2_with fail
  clear hcut1
  go_loopw [5, 7, 25] (fun y z u wr => ∃ i : Nat, u = .int .i64 (i : Nat) ∧ i ≤ m ∧ Hid (OwnU wr w.heap.size y (andI x.l (R.take i)) ∧ Below w3.heap.size w3 wr)) (fun _ _ u _ => m - (intOf u).toNat)
  case atStart => exact ⟨0, rfl, Nat.zero_le _, HI4⟩
  case round =>
    rename_i y0 z0 _
    obtain ⟨i, rfl, hi, HI⟩ := hrel
    by_cases hlt : (i : Int) < (m : Int)
    · obtain ⟨Ao, co, rfl, lo, mo, ho⟩ := OwnL.rd HI.out.1.1
      obtain ⟨no, hno⟩ : ∃ no, no = (andI x.l (R.take i)).length := ⟨_, rfl⟩
      rw [← hno] at lo ho ⊢
      have HRI := HRD.out.below HI.out.2
      obtain ⟨ad, hA', hcell⟩ := HRI.cell (by omega)
      have hil : i < R.length := by rw [HRI.len]; omega
      obtain ⟨z, hz⟩ : ∃ z, z = R[i] := ⟨_, rfl⟩
      have hk := hcell i hil
      rw [← hz] at hk
      have hk : wr.cell? (ad.add i) = some (.slice z.A z.n z.c) := hk
      have hzm : z ∈ ls' := HRM.out z (by rw [hz]; exact List.getElem_mem hil)
      have hzo := HOK.out z hzm
      have hb1r : Below w1.heap.size w1 wr := Below.thn HB13.out HI.out.2
      have CB := Lib.hid (both_any Ao no co z.A z.n z.c wr)
      have CC := Lib.hid (collBoth_any Ao no co (andI x.l (R.take i)) z.A z.n z.c z.l wr ⟨ho, HI.out.1.2⟩ (hzo.1.below hb1r).rd (andI_up HXU.out.1) hzo.2.1 (Nat.le_trans (andI_len _ _) (by have := HXU.out.2.2; omega)))
      have HNX : Hid (andI x.l (R.take (i + 1)) = bothL (andI x.l (R.take i)) z.l) := Lib.hid (by
        rw [andI_snoc, List.take_succ_eq_append_getElem hil, hz])
      subst hA'
      clear ho hno hcell hil hz hzm hzo hb1r HRI
      go_wp2_with fail
      refine CB.out.mono ?_
      rintro e w5 ⟨rfl, rfl⟩
      clear CB
      go_wp2_with fail
      refine CC.out.mono ?_
      rintro e w6 ⟨v6, rfl, ho6, hb6⟩
      have HN : Hid (OwnU w6 w.heap.size v6 (andI x.l (R.take (i + 1))) ∧ Below w3.heap.size w3 w6) := Lib.hid ⟨by
        rw [HNX.out]
        exact ho6.mono (Nat.le_trans HB3.out.size HI.out.2.size), Below.thn HI.out.2 hb6⟩
      clear ho6 hb6 CC hk
      go_wp2
      exact ⟨⟨i + 1, by simp; try go_num, by omega, HN⟩, by simp [intOf]; omega⟩
    · have hF : Hid (andI x.l (R.take i) = andX ls) := Lib.hid (by
        rw [List.take_of_length_le (by rw [HRD.out.len]; omega), hE.out.2, ← andL_perm HP.out HU.out, HLS.out]
        rfl)
      obtain ⟨Ao, co, rfl, lo, mo, ho⟩ := OwnL.rd HI.out.1.1
      obtain ⟨no, hno⟩ : ∃ no, no = (andI x.l (R.take i)).length := ⟨_, rfl⟩
      have HO := HI
      rw [← hno] at lo ho HO ⊢
      clear ho hno
      go_wp2
      refine bodyPost_ret (v := .tuple #[.slice Ao no co, .int .i64 0]) (by simp [results, Try.results22, go_sem]) rfl ⟨_, by rw [hE.out.1], ?_, HB3.out.trans (HO.out.2.mono HB3.out.size)⟩
      rw [← hF.out]
      exact HO.out.1
end Go.Proofs.Ytaaddckhldccjaa
