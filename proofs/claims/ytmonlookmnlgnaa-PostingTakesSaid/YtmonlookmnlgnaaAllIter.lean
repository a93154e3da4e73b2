/- Postings gone through: the program's. -/
import Derived.Test.YtmonlookmnlgnaaTakeP
import Derived.Test.YtmonlookmnlgnaaRangeR
import Derived.Shelf.Abstract
import Derived.Shelf.RegionOpen
import Derived.OwnWalkIn
import Derived.TacticsInMore
import Derived.LoopNIn
import Derived.LoopIn
import Derived.RangeFuncCalls
namespace Go.Proofs.Ytmonlookmnlgnaa
open Go.RowKit Go.Shelf
set_option linter.unusedVariables false
set_option linter.unusedSimpArgs false
attribute [local go_sem] Oper.semAt_some

theorem tvN_ge : ∀ (l : List Nat) (i v : Nat), (tvF l i v).2 = 0 → i < tvN l i ∧ tvN l i ≤ i + l.length
  | [], i, v, h => by simp [tvF] at h
  | c :: r, i, v, h => by
    unfold tvF at h
    unfold tvN
    split at h
    · simp at h
    · rename_i h1
      rw [if_neg h1]
      split at h
      · rename_i h2
        rw [if_pos h2]
        simp
      · rename_i h2
        rw [if_neg h2]
        have := tvN_ge r (i + 1) _ h
        simp only [List.length_cons]
        omega
theorem takeR_lt {l : List Nat} (h : (takeV l).2 = 0) : (takeR l).length < l.length := by
  have := tvN_ge l 0 0 h
  unfold takeR
  rw [if_pos h, List.length_drop]
  omega
theorem takeN_le : ∀ (n last : Nat) (l : List Nat) (x : List Int × List Nat), takeN n last l = some x → x.2.length ≤ l.length
  | 0, last, l, x, h => by simp [takeN] at h; subst h; exact Nat.le_refl _
  | n + 1, last, l, x, h => by
    unfold takeN at h
    split at h
    · cases h
    · obtain ⟨y, hy, rfl⟩ := Option.map_eq_some_iff.1 h
      exact Nat.le_trans (takeN_le n _ _ y hy) (takeR_len l)
theorem takeP_some {l : List Nat} {prev : Nat} {x : Po × List Nat} (h : takeP l prev = some x) : x.2.length < l.length ∧ okP prev x.1 := by
  unfold takeP at h
  split at h
  · cases h
  · rename_i h1
    simp only [not_or, Classical.not_not] at h1
    have h2 := takeR_lt h1.1
    have h3 := takeR_lt h1.2.1
    cases h4 : takeN (takeV (takeR l)).1 0 (takeR (takeR l)) with
    | none => rw [h4] at h; cases h
    | some y =>
      rw [h4] at h
      have h5 := takeN_le _ _ _ y h4
      by_cases hok : okP prev (prev + (takeV l).1, y.1)
      · rw [finP_yes hok] at h
        cases h
        exact ⟨by simp only; omega, hok⟩
      · rw [finP_no hok] at h; cases h
theorem tkR_ok {b : List Nat} {k prev : Nat} (h : (tkR b (k : Int) prev).2.2 = 0) : (k : Int) < (tkR b (k : Int) prev).2.1 ∧ (tkR b (k : Int) prev).2.1 ≤ (b.length : Int) ∧ okP prev (tkR b (k : Int) prev).1 := by
  unfold tkR at h ⊢
  split at h
  · simp at h
  · rename_i h1
    rw [if_neg h1]
    rw [Int.toNat_natCast] at h ⊢
    cases h2 : takeP (b.drop k) prev with
    | none => rw [h2] at h; simp at h
    | some x =>
      simp only
      obtain ⟨h3, h4⟩ := takeP_some h2
      rw [List.length_drop] at h3
      exact ⟨by omega, by omega, h4⟩
/-- All postings from a place on, and where each ends. -/
noncomputable def allF (b : List Nat) : Nat → Nat → Nat → List (Nat × Po)
  | 0, _, _ => []
  | f + 1, at_, prev => if at_ < b.length ∧ (tkR b (at_ : Int) prev).2.2 = 0 then ((tkR b (at_ : Int) prev).2.1.toNat, (tkR b (at_ : Int) prev).1) :: allF b f (tkR b (at_ : Int) prev).2.1.toNat (tkR b (at_ : Int) prev).1.1 else []
theorem allF_fuel (b : List Nat) : ∀ (f g at_ prev : Nat), b.length - at_ < f → b.length - at_ < g → allF b f at_ prev = allF b g at_ prev
  | 0, g, at_, prev, h, _ => by omega
  | f + 1, 0, at_, prev, _, h => by omega
  | f + 1, g + 1, at_, prev, h1, h2 => by
    unfold allF
    by_cases h : at_ < b.length ∧ (tkR b (at_ : Int) prev).2.2 = 0
    · rw [if_pos h, if_pos h]
      have := tkR_ok h.2
      rw [allF_fuel b f g _ _ (by omega) (by omega)]
    · rw [if_neg h, if_neg h]
noncomputable def allAt (b : List Nat) (at_ prev : Nat) : List (Nat × Po) := allF b (b.length - at_ + 1) at_ prev
noncomputable def allL (b : List Nat) (prev : Nat) : List (Nat × Po) := allAt b 0 prev
theorem allAt_no {b : List Nat} {at_ prev : Nat} (h : ¬ (at_ < b.length ∧ (tkR b (at_ : Int) prev).2.2 = 0)) : allAt b at_ prev = [] := by unfold allAt allF; rw [if_neg h]
theorem allAt_step {b : List Nat} {at_ prev e : Nat} {p : Po} (h : at_ < b.length) (h2 : tkR b (at_ : Int) prev = (p, (e : Int), 0)) : allAt b at_ prev = (e, p) :: allAt b e p.1 := by
  have h3 : (tkR b (at_ : Int) prev).2.2 = 0 := by rw [h2]
  have h4 := tkR_ok h3
  rw [h2] at h4
  simp only at h4
  unfold allAt
  rw [allF, if_pos ⟨h, h3⟩, h2]
  simp only [Int.toNat_natCast]
  rw [allF_fuel b (b.length - at_) (b.length - e + 1) e p.1 (by omega) (by omega)]

/-- An element: where it ends, the posting, and where its positions lie. -/
abbrev El := Nat × Po × (Option Addr × Nat × Nat)
abbrev slE (x : El) : Value := .slice x.2.2.1 x.2.2.2.1 x.2.2.2.2
abbrev encA : El → Array Value := fun x => #[.int .i64 (x.1 : Nat), .agg #[.int .u32 (x.2.1.1 : Nat), slE x]]
def mA (x : El) : Nat × Po := (x.1, x.2.1)
def KpA (w1 : World) (c2 : Nat) (W W' : World) : Prop := Below w1.heap.size W W' ∧ ∀ o, W.heap[c2]? = some o → o.isCells = true → W'.heap[c2]? = some o
def RA (n₁ : Nat) (b : List Nat) (prev : Nat) (B : Nat) (pre : List El) (x : El) (W : World) : Prop := (pre.map mA ++ [mA x]) <+: allL b prev ∧ OwnL encI 3 W n₁ (slE x) x.2.1.2 ∧ ∀ k, (slE x).ownBlock = some k → B ≤ k

set_option maxRecDepth 100000 in
set_option maxHeartbeats 4000000 in
theorem all_stops (n c1 c2 : Nat) (hn : 1 ≤ n) (A : Option Addr) (m c : Nat) (b : List Nat) (prev : Nat) (w1 w : World) (hl : RdB w1 A m b) (hc : m ≤ c) (hc2 : c ≤ 9223372036854775807) (hm : m ≤ 1000000000) (hb1 : Below w1.heap.size w1 w) (hp : prev < 4294967296)
    (h1 : w.cell? ⟨c1, 0, none⟩ = some (.int .u32 (prev : Nat))) (h2 : Boxed w c2 23 (.slice A m c)) :
    SeqR Fence.wide n Try.prog 33 #[.pointer (some ⟨c1, 0, none⟩), .pointer (some ⟨c2, 0, none⟩)] encA (KpA w1 c2) (RA w.heap.size b prev) (fun xs => xs.map mA = allL b prev) (fun pre => pre.map mA <+: allL b prev) w := fun L J Jx W hW hJ hJx hY h0 => by
  have HB := Lib.hid (hb1.trans (hW.mono hb1.size))
  have HL := Lib.hid hl
  have HWs := Lib.hid hW.size
  have HJ : Hid (AbidesFrom W.heap.size J) := hJ
  have HY := Lib.hid hY
  have hcell := cell_keep hW h1
  have HC2 : Hid (Boxed W c2 23 (.slice A m c)) := Lib.hid ((hW.block c2 h2.lt).trans h2)
  have HJ0 := Lib.hid h0
  have HLn := Lib.hid hl.len
  have hp' : prev ≤ 4294967295 := by omega
  clear hl hb1 hW hJ hJx hY h0 h1 h2 hp
  refine callsIn_of_wp Try.func33 rfl trivial ?_ rfl
  simp only [Try.ntmps33, List.size_toArray, List.length_cons, List.length_nil, Nat.reduceAdd, Nat.reduceSub, Array.replicate_succ, Array.replicate_zero, List.push_toArray, List.append_toArray, List.nil_append, List.cons_append]
  gi_wp2_with fail
  refine wpIn_wide.2 ?_
  go_quiet (fail)
  clear hcell
  have HJ1 := Lib.hid (HJ.out [] W (W.drewN nq) none HJ0.out (grown_below (Below.drewN W nq) none) (fun r e => by cases e))
  have HB1 := Lib.hid (below_drewN HB.out nq)
  have HC3 : Hid (Boxed (W.drewN nq) c2 23 (.slice A m c)) := Lib.hid (((Below.drewN W nq).block c2 HC2.out.lt).trans HC2.out)
  have HSz : Hid (W.heap.size ≤ (W.drewN nq).heap.size) := Lib.hid (Below.drewN W nq).size
  clear HJ0
  gi_wp2_with fail
  gi_loopw [4, 5] (fun x4 x5 wr => ∃ at_ la : Nat, x4 = .int .i64 at_ ∧ x5 = .int .u32 la ∧ at_ ≤ m ∧ la ≤ 4294967295 ∧ Hid (∃ pre : List El, J pre wr ∧ allL b prev = pre.map mA ++ allAt b at_ la ∧ Below w1.heap.size w1 wr ∧ Boxed wr c2 23 (.slice A m c) ∧ W.heap.size ≤ wr.heap.size)) (fun x4 _ _ => m - (intOf x4).toNat)
  case atStart => exact ⟨0, prev, rfl, rfl, by omega, hp', Lib.hid ⟨[], HJ1.out, rfl, HB1.out, HC3.out, HSz.out⟩⟩
  case round =>
    obtain ⟨at_, la, rfl, rfl, hat, hla, HI⟩ := hrel
    obtain ⟨pre, hj, hall, hbl, hbx, hsz⟩ := HI.out
    have HJp := Lib.hid hj
    have HAll := Lib.hid hall
    have HBl := Lib.hid hbl
    have HBx := Lib.hid hbx
    have HSr := Lib.hid hsz
    have hcb := hbx.cell
    clear hj hall hbl hbx hsz HI
    by_cases hlt : (at_ : Int) < (m : Int)
    · have C := Lib.hid (Take_bs (.slice A m c) b (at_ : Int) la wr ((HL.out.below HBl.out).bs hc hc2) (by omega) (by rw [HLn.out]; exact hm))
      unfold TakeE at C
      obtain ⟨T, hT⟩ : ∃ T, T = tkR b (at_ : Int) la := ⟨_, rfl⟩
      rw [← hT] at C
      have HT := Lib.hid hT
      obtain ⟨⟨d, xs⟩, en, er⟩ := T
      simp only at C
      clear hT
      gi_wp2_with fail
      refine ⟨trivial, (callsIn_wide.2 C.out).mono ?_⟩
      rintro e W2 ⟨u, rfl, ho, hb⟩
      obtain ⟨A5, c5, hu, hl5, hc5, hr5⟩ := ho.rd
      subst hu
      obtain ⟨nx, hnx⟩ : ∃ nx, nx = xs.length := ⟨_, rfl⟩
      rw [← hnx] at ho hl5 ⊢
      have HO := Lib.hid ho
      have HB2 := Lib.hid hb
      have HSb := Lib.hid hb.size
      clear ho hb hcb C hr5 hnx
      by_cases her : er = 0
      · subst her
        have hok := tkR_ok (b := b) (k := at_) (prev := la) (by rw [← HT.out])
        rw [← HT.out] at hok
        simp only at hok
        obtain ⟨k1, k2, k3⟩ := hok
        rw [HLn.out] at k2
        obtain ⟨e2, rfl⟩ : ∃ e2 : Nat, en = e2 := ⟨en.toNat, by omega⟩
        have hd : d ≤ 2147483647 := k3.2.1
        have HSt : Hid (allAt b at_ la = (e2, (d, xs)) :: allAt b e2 d) := Lib.hid (allAt_step (by rw [HLn.out]; omega) HT.out.symm)
        obtain ⟨W3, hW3⟩ : ∃ W3, W3 = W2.alloc (.cells #[.int .u32 (d : Nat), .slice A5 nx c5] 32) := ⟨_, rfl⟩
        have hb23 : Below W2.heap.size W2 W3 := by rw [hW3]; exact (Below.refl _ _).alloc (Nat.le_refl _) _
        have HBox : Hid (Box2 W3 W2.heap.size 32 (.int .u32 (d : Nat)) (.slice A5 nx c5)) := Lib.hid (by rw [hW3]; exact Box2.new _ _ _ _)
        have hbw : Below wr.heap.size wr W3 := HB2.out.trans (hb23.mono HSb.out)
        have hj3 : J pre W3 := HJ.out pre wr W3 none HJp.out (grown_below hbw none) (fun r e => by cases e)
        have HB3 := Lib.hid (Below.thn HBl.out hbw)
        have HC3' : Hid (Boxed W3 c2 23 (.slice A m c)) := Lib.hid ((hbw.block c2 HBx.out.lt).trans HBx.out)
        have HO3 : Hid (OwnL encI 3 W3 w.heap.size (.slice A5 nx c5) xs) := Lib.hid ((HO.out.below hb23).mono (Nat.le_trans HWs.out HSr.out))
        have HPf : Hid ((pre ++ [(e2, (d, xs), A5, nx, c5)]).map mA = pre.map mA ++ [(e2, (d, xs))]) := Lib.hid (by simp [mA])
        have HRA : Hid (RA w.heap.size b prev wr.heap.size pre (e2, (d, xs), A5, nx, c5) W3) := Lib.hid ⟨by rw [HAll.out, HSt.out]; exact ⟨allAt b e2 d, by simp [mA]⟩, HO3.out, fun k hk => (HO.out.base k hk).1⟩
        obtain ⟨fn, tmps, assign, body, hy, hRd⟩ := HY.out pre (e2, (d, xs), A5, nx, c5) wr W3 HJp.out (Later.below hbw) hj3 HRA.out
        dsimp only [encA, slE] at hy
        have HW3 := Lib.hid hW3
        have HG : Hid (wr.heap.size ≤ W2.heap.size ∧ W2.heap.size < W3.heap.size ∧ W.heap.size ≤ W3.heap.size) := Lib.hid ⟨HSb.out, by rw [hW3]; simp, Nat.le_trans HSr.out hbw.size⟩
        obtain ⟨f0, f1, _, _⟩ := HBox.out.facts
        obtain ⟨g, hg⟩ : ∃ g, g = W2.heap.size := ⟨_, rfl⟩
        have hnn' : 1 ≤ n := hn
        clear hb23 hbw hj3
        gi_wp2_with fail
        rw [← HW3.out, ← hg]
        rw [← hg] at f0 f1 HBox HG
        clear hW3 hg HW3
        gi_wp2
        rw [hy]
        refine ⟨fun _ => hnn', hRd.mono ?_⟩
        rintro e W4 (⟨rfl, hj4, hk4, hm4⟩ | ⟨rfl, hjx4⟩)
        · have HJ4 := Lib.hid hj4
          have HB4 : Hid (Below w1.heap.size w1 W4) := Lib.hid (HB3.out.trans hk4.1)
          have HC4 : Hid (Boxed W4 c2 23 (.slice A m c)) := Lib.hid (hk4.2 _ HC3'.out rfl)
          have HX4 : Hid (Box2 W4 g 32 (.int .u32 (d : Nat)) (.slice A5 nx c5)) := Lib.hid (hm4 g _ HG.out.1 HBox.out rfl)
          have HS4 : Hid (W.heap.size ≤ W4.heap.size) := Lib.hid (Nat.le_trans HG.out.2.2 hk4.1.size)
          obtain ⟨f0, f1, _, _⟩ := HX4.out.facts
          clear hj4 hk4 hm4
          gi_wp2_with fail
          refine wpIn_wide.2 ?_
          go_quiet (fail)
          clear f0 f1
          have HJ5 := Lib.hid (HJ.out _ W4 (W4.drewN nq) none HJ4.out (grown_below (Below.drewN W4 nq) none) (fun r e => by cases e))
          have HB5 := Lib.hid (below_drewN HB4.out nq)
          have HC5 : Hid (Boxed (W4.drewN nq) c2 23 (.slice A m c)) := Lib.hid (((Below.drewN W4 nq).block c2 HC4.out.lt).trans HC4.out)
          have HS5 : Hid (W.heap.size ≤ (W4.drewN nq).heap.size) := Lib.hid (Nat.le_trans HS4.out (Below.drewN W4 nq).size)
          gi_wp2
          go_roundw
          case rel => exact ⟨e2, d, rfl, rfl, by omega, by omega, Lib.hid ⟨_, HJ5.out, by rw [HPf.out, HAll.out, HSt.out]; simp, HB5.out, HC5.out, HS5.out⟩⟩
          case measure => simp [intOf]; omega
        · have HX4 := Lib.hid hjx4
          clear hjx4
          gi_wp2
          refine bodyPost_ret (results_none rfl _ _ _) rfl ?_
          exact ⟨⟨_, rfl⟩, .inr ⟨_, by rw [HPf.out, HAll.out, HSt.out]; exact ⟨allAt b e2 d, by simp⟩, HX4.out⟩⟩
      · have HD : Hid (allL b prev = pre.map mA) := Lib.hid (by
          rw [HAll.out, allAt_no (by rintro ⟨_, h⟩; rw [← HT.out] at h; exact her h), List.append_nil])
        have HJ2 := Lib.hid (HJ.out pre wr (W2.alloc (.cells #[.int .u32 (d : Nat), .slice A5 nx c5] 32)) none HJp.out (grown_below (HB2.out.alloc HB2.out.size _) none) (fun r e => by cases e))
        have h0 : (er == 0) = false := by simp [her]
        have h1 : (er != 0) = true := by simp [her]
        gi_wp2
        refine ⟨(fun f hf => by cases hf), ?_⟩
        gi_wp2
        refine bodyPost_ret (results_none rfl _ _ _) rfl ?_
        exact ⟨⟨_, rfl⟩, .inl ⟨_, HD.out.symm, HJ2.out⟩⟩
    · have HD : Hid (allL b prev = pre.map mA) := Lib.hid (by
        rw [HAll.out, allAt_no (by rintro ⟨h, _⟩; rw [HLn.out] at h; omega), List.append_nil])
      gi_wp2
      go_end0
      exact ⟨⟨_, rfl⟩, .inl ⟨_, HD.out.symm, HJp.out⟩⟩
end Go.Proofs.Ytmonlookmnlgnaa
