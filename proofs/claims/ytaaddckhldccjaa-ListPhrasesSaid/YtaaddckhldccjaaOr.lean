/- What is in any. -/
import Derived.Test.YtaaddckhldccjaaOrA
import Derived.Test.YtaaddckhldccjaaRegT
namespace Go.Proofs.Ytaaddckhldccjaa
open Go.RowKit
set_option linter.unusedVariables false
set_option linter.unusedSimpArgs false
attribute [local go_sem] Oper.semAt_some

abbrev orFr (A : Option Addr) (n c : Nat) (A2 : Option Addr) (c2 : Nat) (x4 x5 x12 x13 x14 x15 x16 x35 : Value) (ds : List Deferred) : Act := { tmps := #[.slice A n c, undef, .slice none 0 0, .int .i64 0, x4, x5, undef, .slice A n c, .bool true, .bool false, .slice A n c, .slice A2 n c2, x12, x13, x14, x15, x16, undef, undef, undef, undef, undef, undef, undef, undef, undef, undef, undef, undef, undef, undef, undef, undef, undef, undef, x35, undef, undef, undef, undef, undef, undef, undef], defers := ds }
/-- The marks as yet. -/
def DsOK (w : World) (Ds : List Nat) (W : World) : Prop := Ds.Pairwise (· ≠ ·) ∧ ∀ D ∈ Ds, w.heap.size ≤ D ∧ W.heap[D]? = some (.deferred (some []))
theorem DsOK.nil (w W : World) : DsOK w [] W := ⟨List.Pairwise.nil, fun D h => by cases h⟩
theorem DsOK.below {w W W' : World} {Ds : List Nat} {b : Nat} (h : DsOK w Ds W) (hb : Below b W W') (hD : W.heap.size ≤ b) : DsOK w Ds W' :=
  ⟨h.1, fun D hm => ⟨(h.2 D hm).1, (hb.block D (by have := (Array.getElem?_eq_some_iff.1 (h.2 D hm).2).1; omega)).trans (h.2 D hm).2⟩⟩
def lenOf : Value → Nat
  | .slice _ n _ => n
  | _ => 0
def P9 (W : World) (ae : Addr) (xa xb : UV) : Nat → Value → World → Prop
  | 0 => fun v w => v = .slice (some ae) 2 2
  | 1 => fun v w => v = .pointer (some ae)
  | 2 => fun v w => v = .slice xa.A xa.n xa.c
  | 3 => fun v w => v = .slice (some ae) 2 2
  | 4 => fun v w => v = .pointer (some ⟨ae.block, ae.off + 1, none⟩)
  | 5 => fun v w => v = .slice xb.A xb.n xb.c
  | _ => fun _ _ => True
theorem P9.below (W : World) (ae : Addr) (xa xb : UV) : ∀ i v w w', Below w.heap.size w w' → P9 W ae xa xb i v w → P9 W ae xa xb i v w'
  | 0, _, _, _, _, h => h
  | 1, _, _, _, _, h => h
  | 2, _, _, _, _, h => h
  | 3, _, _, _, _, h => h
  | 4, _, _, _, _, h => h
  | 5, _, _, _, _, h => h
  | _ + 6, _, _, _, _, _ => trivial
def P10 (Wt : World) (D : Nat) (vn : Value) (ae : Addr) (el : UV) : Nat → Value → World → Prop
  | 0 => fun v w => v = vn
  | 1 => fun v w => v = .slice (some ae) 1 1
  | 2 => fun v w => v = .pointer (some ae)
  | 3 => fun v w => v = .slice el.A el.n el.c
  | 4 => fun v w => ∃ (gk : Nat), v = .slice (some ⟨gk, 0, none⟩) 1 1 ∧ (Wt.heap.size ≤ gk ∧ w.heap[gk]? = some (.cells #[.slice el.A el.n el.c] 38 (0, 0)))
  | _ => fun _ _ => True
theorem P10.below (Wt : World) (D : Nat) (vn : Value) (ae : Addr) (el : UV) : ∀ i v w w', Below w.heap.size w w' → P10 Wt D vn ae el i v w → P10 Wt D vn ae el i v w'
  | 0, _, _, _, _, h => h
  | 1, _, _, _, _, h => h
  | 2, _, _, _, _, h => h
  | 3, _, _, _, _, h => h
  | 4, _, _, _, hb, h => by
    obtain ⟨gk, e, g⟩ := h
    exact ⟨gk, e, ⟨g.1, (hb.block _ (Array.getElem?_eq_some_iff.1 g.2).1).trans g.2⟩⟩
  | _ + 5, _, _, _, _, _ => trivial

abbrev orBd (A : Option Addr) (n c : Nat) (A2 : Option Addr) (c2 : Nat) (A' : Option Addr) (n' c' D : Nat) (x35 : Value) (QA : Option Addr) (qm : Nat) : Act := { tmps := #[.slice A n c, undef, .slice none 0 0, .int .i64 0, .slice A' n' c', .pointer (some ⟨D, 0, none⟩), .slice QA qm qm, .slice A n c, .bool true, .bool false, .slice A n c, .slice A2 n c2, .slice A' n' c', .int .i64 (n' : Nat), .bool true, .slice A' n' c', .func (.func 73) #[] #[.pointer (some ⟨D + 1, 0, none⟩), .pointer (some ⟨D + 1 + 1, 0, none⟩)], .slice QA qm qm, undef, undef, undef, undef, undef, undef, undef, undef, undef, undef, undef, undef, undef, undef, undef, undef, undef, x35, undef, undef, undef, undef, undef, undef, undef], defers := [] }
set_option maxRecDepth 100000 in
set_option maxHeartbeats 8000000 in
theorem Or_any (A : Option Addr) (n c : Nat) (ls : List UV) (w : World) (h : RdUU w A n ls) (hc : n ≤ c) (hc2 : c ≤ 9223372036854775807) (hn : n ≤ 1000) (ht : tot ls ≤ 1000000) :
    Calls Try.prog 23 #[.slice A n c] w fun e w' => ∃ v, e = .returned (.tuple #[v, .int .i64 (allE ls)]) ∧ (∃ r, OwnU w' w.heap.size v r ∧ OrR ls r) ∧ Below w.heap.size w w' := by
  have C1 := Lib.hid (all_any A n c ls w h (by omega))
  have HR := Lib.hid h
  have HLn := Lib.hid h.len
  have HT := Lib.hid ht
  clear h ht
  refine (callsIn_wide (n := 10)).1 ?_
  refine callsIn_of_wp_marks Try.func23 rfl trivial ?_ rfl
  simp only [Try.ntmps23, List.size_toArray, List.length_cons, List.length_nil, Nat.reduceAdd, Nat.reduceSub, Array.replicate_succ, Array.replicate_zero, List.push_toArray, List.append_toArray, List.nil_append, List.cons_append]
  gi_wp2_with fail
  refine ⟨trivial, (callsIn_wide.2 C1.out).mono ?_⟩
  rintro e w1 ⟨rfl, hb⟩
  have HB1 := Lib.hid hb
  clear C1 hb
  by_cases hu : allUp ls
  case neg =>
    have hE : Hid (allE ls = 160 ∧ OrR ls []) := Lib.hid ⟨if_neg hu, fun h => absurd h hu, fun _ => rfl⟩
    rw [decide_eq_false hu]
    clear hu
    gi_wp2
    exact ⟨.tuple #[.slice none 0 0, .int .i64 160], by simp [results, Try.results23, go_sem], _, by rw [hE.out.1], ⟨[], OwnU.nil _ _, hE.out.2⟩, HB1.out⟩
  rw [decide_eq_true hu]
  have HU := Lib.hid hu
  have hE : Hid (allE ls = 0) := Lib.hid (if_pos hu)
  clear hu
  have C2 := Lib.hid (CloneUV_any A n c ls w1 (HR.out.below HB1.out).rd (by omega) hc hc2)
  gi_wp2_with fail
  refine ⟨trivial, (callsIn_wide.2 C2.out).mono ?_⟩
  rintro e w2 ⟨v, rfl, ho, hb⟩
  obtain ⟨A2, c2, rfl, l2, m2, hrd2⟩ := OwnL.rd ho
  have hlen := HLn.out
  rw [hlen] at l2 hrd2 ⊢
  have HD : Hid (HdO w ls w2 A2 n c2 ls) := Lib.hid ⟨Below.thn HB1.out hb, l2, m2, ⟨hrd2, fun y hy => ((HR.out.ok y hy).below HB1.out).below hb⟩, HU.out, fun d => Iff.rfl, Nat.le_refl _⟩
  clear C2 ho hb l2 m2 hrd2 hlen hc hc2
  gi_wp2_with fail
  refine wpIn_loop (fun a W => ∃ (A' : Option Addr) (n' c' : Nat) (cur : List UV) (Ds : List Nat) (x5 x12 x13 x14 x15 x16 x35 : Value), a = orFr A n c A2 c2 (.slice A' n' c') x5 x12 x13 x14 x15 x16 x35 (Ds.map markOf) ∧ Hid (HdO w ls W A' n' c' cur) ∧ Hid (DsOK w Ds W) ∧ n' ≤ n) (fun a _ => lenOf (a.tmps.getD 4 undef)) ⟨A2, n, c2, ls, [], _, _, _, _, _, _, _, rfl, HD, Lib.hid (DsOK.nil _ _), Nat.le_refl _⟩ ?_
  rintro a W ⟨A', n', c', cur, Ds, x5, x12, x13, x14, x15, x16, x35, rfl, HH, HDs, hnn⟩
  clear HD
  by_cases h1 : (n' : Int) > 1
  · have hWs : w.heap.size ≤ W.heap.size := HH.out.be.size
    obtain ⟨ad, hA, _⟩ := HH.out.rd.rd.cell (by omega)
    subst hA
    obtain ⟨D, hD⟩ : ∃ D, D = W.heap.size := ⟨_, rfl⟩
    obtain ⟨Wb, hWb⟩ : ∃ Wb, Wb = W.alloc (.cells #[.slice none 0 0] 43) := ⟨_, rfl⟩
    have hsb : Wb.heap.size = D + 1 := by rw [hWb, hD]; simp
    obtain ⟨Wc, hWc⟩ : ∃ Wc, Wc = (Wb.alloc (.cells #[.slice (some ad) n' c'] 43)).alloc (.cells #[.int .i64 2] 3) := ⟨_, rfl⟩
    have hsc : Wc.heap.size = D + 3 := by rw [hWc]; simp [hsb]
    have hbb : Below D W Wb := by rw [hWb, hD]; exact (Below.refl _ _).alloc (Nat.le_refl _) _
    have hbc1 : Below (D + 1) Wb Wc := by
      rw [hWc, ← hsb]
      exact ((Below.refl _ _).alloc (Nat.le_refl _) _).alloc (by simp) _
    have hbc : Below D W Wc := hbb.trans (hbc1.mono (by omega))
    have hbox : Boxed Wc D 43 (.slice none 0 0) := by
      have := Boxed.new W 43 (.slice none 0 0)
      rw [← hWb, ← hD] at this
      exact (hbc1.block _ (by omega)).trans this
    have hc1 : Wc.heap[D + 1]? = some (.cells #[.slice (some ad) n' c'] 43 (0, 0)) := by
      have h1 := World.alloc_heap_new Wb (.cells #[.slice (some ad) n' c'] 43)
      rw [hsb] at h1
      rw [hWc]
      exact (Below.heap_alloc _ _ _ (by simp [hsb])).trans h1
    have hc2 : Wc.heap[D + 2]? = some (.cells #[.int .i64 2] 3 (0, 0)) := by
      have h1 := World.alloc_heap_new (Wb.alloc (.cells #[.slice (some ad) n' c'] 43)) (.cells #[.int .i64 2] 3)
      rw [World.size_alloc, hsb] at h1
      rw [hWc]
      exact h1
    have HSQ := Lib.hid (chunk_seq 9 (D + 1) (D + 2) (by decide) ad n' c' cur D (SO D) Wc Wc hc1 hc2 (Below.refl _ _) (by simp [SO]) (by simp [SO]) HH.out.nc HH.out.c2 (by omega))
    have HI0 : Hid (PI W D [] Wc) := Lib.hid ⟨[], _, hbc, hbox, World.ownsRow_nil _ _ _ _, fun y hy => (by cases hy), PRel.nil⟩
    have HDE := Lib.hid hD
    have HSB := Lib.hid hsb
    have HSC := Lib.hid hsc
    have HWC := Lib.hid hWc
    have HWB := Lib.hid hWb
    have HBC := Lib.hid hbc
    clear hD hsb hsc hbb hbc1 hbc hbox hc1 hc2 hWc hWb
    gi_wp2_with fail
    rw [← HWB.out]
    refine ⟨trivial, (callsIn_wide.2 (chunk_any (some ad) n' c' Wb)).mono ?_⟩
    rintro e W1 ⟨rfl, rfl⟩
    rw [← HWC.out, HSB.out, ← HDE.out]
    gi_wp2_with fail
    refine wpIn_range_Q (n := 10) rfl (by omega) (gf := 73) (lb := #[.pointer (some ⟨D + 1, 0, none⟩), .pointer (some ⟨D + 2, 0, none⟩)]) rfl trivial (enters_of Try.func73 (by kernel_rfl) rfl) HSQ.out (by have := HSC.out; omega) (Below.refl _ _) (fun _ => rfl)
      (PI W D) (fun _ _ _ => False) (pi_firm W D _ (by have := HSC.out; omega) HDE.out.symm) (fun c s A B h _ => h) HI0.out
      (fun pre q a' W' => a' = orBd A n c A2 c2 (some ad) n' c' D x35 q.A q.m) ?axfirm ?assign ?body ?done ?stop
    case axfirm =>
      rintro pre x a' s X Y e hst
      exact e
    case assign =>
      intro L' pre q W' K hpx hI hK
      have HI := Lib.hid hI
      have HK := Lib.hid hK
      clear hI hK
      gi_wp2
      exact HK.out _ _ (Keep.refl _ _ _ _) HI.out rfl
    case body =>
      rintro L' pre q a' W' hpx hI rfl
      obtain ⟨nl, vn, hP⟩ := hI
      obtain ⟨h2k, hq⟩ := chunk_at hpx
      have HDW' : Hid (D ≤ W'.heap.size) := Lib.hid (by have := hP.be.size; have := HDE.out; omega)
      have HNL : Hid ((nl.length + 1) * 24 ≤ 140737488355328) := Lib.hid (by have := hP.rel.len; omega)
      have hbe := hP.be
      rw [HDE.out] at hbe
      by_cases hk : 2 * pre.length + 1 < n'
      · obtain ⟨xa, xb, hck, hma, hmb, k0, k1⟩ := chunk_2 HH.out.rd rfl hk
        rw [hck] at hq
        obtain ⟨ae, hae⟩ : ∃ ae : Addr, ae = ad.add (2 * pre.length) := ⟨_, rfl⟩
        rw [← hae] at hq k0 k1
        have hqA : q.A = some ae := by rw [hq]
        have hqm : q.m = 2 := by rw [hq]
        have hql : q.ls = [xa, xb] := by rw [hq]
        rw [hqA, hqm]
        have HQ : Hid (PRel pre nl) := Lib.hid hP.rel
        have hla := Nat.le_trans (tot_mem hma) (Nat.le_trans HH.out.tot HT.out)
        have hlb := Nat.le_trans (tot_mem hmb) (Nat.le_trans HH.out.tot HT.out)
        have hoa := HH.out.rd.ok xa hma
        have hob := HH.out.rd.ok xb hmb
        have hua := HH.out.up xa hma
        have hub := HH.out.up xb hmb
        have C53 : Hid (∀ w2, Below W'.heap.size W' w2 → Calls Try.prog 53 #[.slice xa.A xa.n xa.c, .slice xb.A xb.n xb.c] w2 fun e w' => ∃ v, e = .returned v ∧ OwnU w' w2.heap.size v (eitherL xa.l xb.l) ∧ Below w2.heap.size w2 w') := Lib.hid fun w2 h2 =>
          either_any xa.A xa.n xa.c xa.l xb.A xb.n xb.c xb.l w2 ((hoa.below hbe).below h2).rd ((hob.below hbe).below h2).rd hoa.nc hoa.c2 hob.nc hob.c2 (by have := hoa.rd.len; omega) (by have := hob.rd.len; omega)
        have E0 := Lib.hid (cell_keep hbe k0)
        have E1 := Lib.hid (cell_keep hbe k1)
        have HP' := Lib.hid hP
        have HPB := piece2 xa xb hua hub
        rw [← hql] at HPB
        replace HPB := Lib.hid HPB
        clear hql hqA hqm hq hP hbe hk hck hma hmb k0 k1 hae hla hlb hoa hob hua hub h2k hpx
        gi_upto_region 9 with fail
        refine wpIn_region_flowT (by kernel_rfl) 6 (by kernel_rfl) (by kernel_rfl) (P9 W' ae xa xb) (P9.below W' ae xa xb) (by kernel_rfl) (by kernel_rfl) ?_ ?_
        case refine_1 =>
          intro i o hit ho ρ y w2 hb2 hreg hn hf hyb hyn
          obtain rfl | rfl | rfl | rfl | rfl | rfl : i = 0 ∨ i = 1 ∨ i = 2 ∨ i = 3 ∨ i = 4 ∨ i = 5 := by omega
          · cases ho
            rw [if_pos (show Region.wanted _ y = true from rfl)]
            have f6 : ρ (.tmp 6) = .slice (some ae) 2 2 := hf 6 (by kernel_rfl)
            exact does_ok (v := .slice (some ae) 2 2) (w' := w2) (by simp [go_sem, hreg.const, f6]) ⟨rfl, Below.refl _ _⟩
          · cases ho
            rw [if_pos (show Region.wanted _ y = true from rfl)]
            have f21 : ρ (.tmp 21) = .slice (some ae) 2 2 := hn 0 _ 21 rfl (by kernel_rfl) rfl
            exact does_ok (v := .pointer (some ae)) (w' := w2) (by simp [go_sem, hreg.const, f21, add_none]) ⟨rfl, Below.refl _ _⟩
          · cases ho
            rw [if_pos (show Region.wanted _ y = true from rfl)]
            have f22 : ρ (.tmp 22) = .pointer (some ae) := hn 1 _ 22 rfl (by kernel_rfl) rfl
            have k0 := cell_keep hb2 E0.out
            exact does_ok (v := .slice xa.A xa.n xa.c) (w' := w2) (by simp [go_sem, hreg.const, f22, k0]) ⟨rfl, Below.refl _ _⟩
          · cases ho
            rw [if_pos (show Region.wanted _ y = true from rfl)]
            have f6 : ρ (.tmp 6) = .slice (some ae) 2 2 := hf 6 (by kernel_rfl)
            exact does_ok (v := .slice (some ae) 2 2) (w' := w2) (by simp [go_sem, hreg.const, f6]) ⟨rfl, Below.refl _ _⟩
          · cases ho
            rw [if_pos (show Region.wanted _ y = true from rfl)]
            have f24 : ρ (.tmp 24) = .slice (some ae) 2 2 := hn 3 _ 24 rfl (by kernel_rfl) rfl
            exact does_ok (v := .pointer (some ⟨ae.block, ae.off + 1, none⟩)) (w' := w2) (by simp [go_sem, hreg.const, f24]) ⟨rfl, Below.refl _ _⟩
          · cases ho
            rw [if_pos (show Region.wanted _ y = true from rfl)]
            have f25 : ρ (.tmp 25) = .pointer (some ⟨ae.block, ae.off + 1, none⟩) := hn 4 _ 25 rfl (by kernel_rfl) rfl
            have k0 := cell_keep hb2 E1.out
            exact does_ok (v := .slice xb.A xb.n xb.c) (w' := w2) (by simp [go_sem, hreg.const, f25, k0]) ⟨rfl, Below.refl _ _⟩
        case refine_2 =>
          intro a w2 hb2 hd hs hfacts hrest
          have q23 : a.tmps.getD 23 undef = .slice xa.A xa.n xa.c := hfacts 2 _ 23 (by decide) rfl rfl
          have q26 : a.tmps.getD 26 undef = .slice xb.A xb.n xb.c := hfacts 5 _ 26 (by decide) rfl rfl
          have ha := frame_ofP hd hs hrest [21, 22, 23, 24, 25, 26] (by kernel_rfl)
          simp only [q23, q26, List.foldl, List.setIfInBounds_toArray, List.set_cons_succ, List.set_cons_zero] at ha
          clear q23 q26 hd hs hfacts hrest
          generalize a.tmps.getD = gg at ha
          subst ha
          simp only [List.drop_succ_cons, List.drop_zero]
          gi_wp2_with fail
          refine ⟨trivial, CallsIn.inRound L' ((callsIn_wide.2 (C53.out w2 hb2)).mono ?_)⟩
          rintro e' w3 ⟨ve, rfl, hoe, hb3⟩
          obtain ⟨Ae, ce, rfl, hle, hce, _⟩ := OwnL.rd hoe.1
          obtain ⟨ne, hne⟩ : ∃ ne, ne = (eitherL xa.l xb.l).length := ⟨_, rfl⟩
          rw [← hne] at hle hoe ⊢
          obtain ⟨el, hel⟩ : ∃ el : UV, el = ⟨Ae, ne, ce, eitherL xa.l xb.l⟩ := ⟨_, rfl⟩
          obtain ⟨Wt, hWt⟩ : ∃ Wt, Wt = w3.alloc (.cells #[.slice Ae ne ce] 38) := ⟨_, rfl⟩
          have hb4 : Below w3.heap.size w3 Wt := by rw [hWt]; exact (Below.refl _ _).alloc (Nat.le_refl _) _
          have hbt : Below W'.heap.size W' Wt := Below.thn (Below.thn hb2 hb3) hb4
          have HKP : Hid (Keep D Wc.heap.size (SO D) W' Wt) := Lib.hid (Keep.below hbt)
          have HP : Hid (PIv W D pre nl vn Wt) := Lib.hid (HP'.out.below hbt HDW'.out)
          have HDW : Hid (D ≤ Wt.heap.size) := Lib.hid (Nat.le_trans HDW'.out hbt.size)
          have B5 := Lib.hid HP.out.box.cell
          have HEL : Hid (el.ok W ∨ OwnU Wt D (encUV el) el.l) := Lib.hid (.inr (by
            rw [hel]
            exact (hoe.mono (Nat.le_trans HDW'.out hb2.size)).below hb4))
          have HPR : Hid (PRel (pre ++ [q]) (nl ++ [el])) := Lib.hid (HQ.out.snoc q el (by rw [hel]; exact HPB.out.1) (by rw [hel]; exact HPB.out.2.1) (by rw [hel]; exact HPB.out.2.2))
          clear E0 E1
          obtain ⟨ae, hae2⟩ : ∃ ae : Addr, ae = ⟨w3.heap.size, 0, none⟩ := ⟨_, rfl⟩
          have E0 : Hid (Wt.cell? ae = some (.slice el.A el.n el.c)) := Lib.hid (by
            rw [hWt, hae2, hel]
            simp)
          have HWT := Lib.hid hWt
          have HAE := Lib.hid hae2
          clear C53 HP' hne hoe hb2 hb3 hb4 hbt hle hel hWt hae2
          gi_wp2_with fail
          rw [← HWT.out, ← HAE.out]
          gi_upto_region 10 with fail
          refine wpIn_region_flowT (by kernel_rfl) 5 (by kernel_rfl) (by kernel_rfl) (P10 Wt D vn ae el) (P10.below Wt D vn ae el) (by kernel_rfl) (by kernel_rfl) ?_ ?_
          case refine_1 =>
            intro i o hit ho ρ y w2 hb2 hreg hn hf hyb hyn
            obtain rfl | rfl | rfl | rfl | rfl : i = 0 ∨ i = 1 ∨ i = 2 ∨ i = 3 ∨ i = 4 := by omega
            · cases ho
              rw [if_pos (show Region.wanted _ y = true from rfl)]
              have f5 : ρ (.tmp 5) = .pointer (some ⟨D, 0, none⟩) := hf 5 (by kernel_rfl)
              have k0 := cell_keep hb2 B5.out
              exact does_ok (v := vn) (w' := w2) (by simp [go_sem, hreg.const, f5, k0]) ⟨rfl, Below.refl _ _⟩
            · cases ho
              rw [if_pos (show Region.wanted _ y = true from rfl)]
              have f6 : ρ (.tmp 6) = .slice (some ae) 1 1 := hf 6 (by kernel_rfl)
              exact does_ok (v := .slice (some ae) 1 1) (w' := w2) (by simp [go_sem, hreg.const, f6]) ⟨rfl, Below.refl _ _⟩
            · cases ho
              rw [if_pos (show Region.wanted _ y = true from rfl)]
              have f30 : ρ (.tmp 30) = .slice (some ae) 1 1 := hn 1 _ 30 rfl (by kernel_rfl) rfl
              exact does_ok (v := .pointer (some ae)) (w' := w2) (by simp [go_sem, hreg.const, f30, add_none]) ⟨rfl, Below.refl _ _⟩
            · cases ho
              rw [if_pos (show Region.wanted _ y = true from rfl)]
              have f31 : ρ (.tmp 31) = .pointer (some ae) := hn 2 _ 31 rfl (by kernel_rfl) rfl
              have k0 := cell_keep hb2 E0.out
              exact does_ok (v := .slice el.A el.n el.c) (w' := w2) (by simp [go_sem, hreg.const, f31, k0]) ⟨rfl, Below.refl _ _⟩
            · cases ho
              rw [if_pos (show Region.wanted _ y = true from rfl)]
              have f32 : ρ (.tmp 32) = .slice el.A el.n el.c := hn 3 _ 32 rfl (by kernel_rfl) rfl
              have hbk : Below w2.heap.size w2 (w2.alloc (.cells #[.slice el.A el.n el.c] 38)) := (Below.refl _ _).alloc (Nat.le_refl _) _
              exact does_ok (v := .slice (some ⟨w2.heap.size, 0, none⟩) 1 1) (w' := w2.alloc (.cells #[.slice el.A el.n el.c] 38)) (by simp [go_sem, hreg.const, f32]) ⟨⟨_, rfl, hb2.size, World.alloc_heap_new w2 _⟩, hbk⟩
          case refine_2 =>
            intro a w2 hb2 hd hs hfacts hrest
            have q29 : a.tmps.getD 29 undef = vn := hfacts 0 _ 29 (by decide) rfl rfl
            obtain ⟨gk, q33, g33⟩ : ∃ (gk : Nat), a.tmps.getD 33 undef = .slice (some ⟨gk, 0, none⟩) 1 1 ∧ (Wt.heap.size ≤ gk ∧ w2.heap[gk]? = some (.cells #[.slice el.A el.n el.c] 38 (0, 0))) := hfacts 4 _ 33 (by decide) rfl rfl
            have ha := frame_ofP hd hs hrest [29, 30, 31, 32, 33] (by kernel_rfl)
            simp only [q29, q33, List.foldl, List.setIfInBounds_toArray, List.set_cons_succ, List.set_cons_zero] at ha
            clear q29 q33 hd hs hfacts hrest
            generalize a.tmps.getD = gg at ha
            subst ha
            obtain ⟨v1, w3, r1, hC⟩ := collStepG (P := Try.prog) (enc := encE) (x := el) (n₀ := D) (B := D) 43 38 (.slice none 0 0) 24 Try.underlying43 infoUV rfl (by decide) (by decide) encE_len encE_one (by decide) HP.out.box HP.out.row HDW.out (Nat.le_refl _) HNL.out 43 hb2 gk g33.2 g33.1
            obtain ⟨g6, c6, hv1⟩ := hC.sh
            have HFin : Hid (∀ a, postQ Wc.heap.size D (SO D) (PI W D) (fun _ _ _ => False) (pre ++ [q]) W' .normal a (w3.setCell ⟨D, 0, none⟩ v1)) := Lib.hid (fun a => ⟨HKP.out.trans (hC.keepQ HP.out.box HP.out.row (Nat.le_refl _) (Nat.le_refl _) (by simp [SO]) (fun _ => rfl) (Nat.le_refl _) HDW.out), nl ++ [el], v1, HP.out.step hC HEL.out HPR.out⟩)
            have f0 := hC.box.cell
            have f1 := hC.box.frozen
            subst hv1
            obtain ⟨nk, hnk⟩ : ∃ nk, nk = nl.length + 1 := ⟨_, rfl⟩
            rw [← hnk] at r1 HFin
            clear hC hnk g33 hb2
            simp only [List.drop_succ_cons, List.drop_zero]
            gi_wp2_with (first | (gi_at_builtin; refine wplIn_append_run rfl _ _ _ rfl rfl rfl r1 ?_))
            exact HFin.out _
      · obtain ⟨el, hck, hma, k0⟩ := chunk_1 HH.out.rd rfl (show 2 * pre.length + 1 = n' by omega)
        rw [hck] at hq
        obtain ⟨ae, hae⟩ : ∃ ae : Addr, ae = ad.add (2 * pre.length) := ⟨_, rfl⟩
        rw [← hae] at hq k0
        have hqA : q.A = some ae := by rw [hq]
        have hqm : q.m = 1 := by rw [hq]
        have hql : q.ls = [el] := by rw [hq]
        rw [hqA, hqm]
        obtain ⟨Wt, hWt⟩ : ∃ Wt, Wt = W' := ⟨_, rfl⟩
        rw [← hWt] at hP hbe ⊢
        have HKP : Hid (Keep D Wc.heap.size (SO D) Wt Wt) := Lib.hid (Keep.refl _ _ _ _)
        have HP : Hid (PIv W D pre nl vn Wt) := Lib.hid hP
        have HDW : Hid (D ≤ Wt.heap.size) := Lib.hid (by rw [hWt]; exact HDW'.out)
        have B5 := Lib.hid HP.out.box.cell
        have HEL : Hid (el.ok W ∨ OwnU Wt D (encUV el) el.l) := Lib.hid (.inl (HH.out.rd.ok el hma))
        have hp1 := piece1 el
        rw [← hql] at hp1
        have HPR : Hid (PRel (pre ++ [q]) (nl ++ [el])) := Lib.hid (HP.out.rel.snoc q el (HH.out.up el hma) hp1.1 hp1.2)
        have E0 := Lib.hid (cell_keep hbe k0)
        clear hP hbe hk hck hma k0 hae hql hqA hqm hq hp1 hWt h2k hpx
        gi_wp2_with fail
        gi_upto_region 10 with fail
        refine wpIn_region_flowT (by kernel_rfl) 5 (by kernel_rfl) (by kernel_rfl) (P10 Wt D vn ae el) (P10.below Wt D vn ae el) (by kernel_rfl) (by kernel_rfl) ?_ ?_
        case refine_1 =>
          intro i o hit ho ρ y w2 hb2 hreg hn hf hyb hyn
          obtain rfl | rfl | rfl | rfl | rfl : i = 0 ∨ i = 1 ∨ i = 2 ∨ i = 3 ∨ i = 4 := by omega
          · cases ho
            rw [if_pos (show Region.wanted _ y = true from rfl)]
            have f5 : ρ (.tmp 5) = .pointer (some ⟨D, 0, none⟩) := hf 5 (by kernel_rfl)
            have k0 := cell_keep hb2 B5.out
            exact does_ok (v := vn) (w' := w2) (by simp [go_sem, hreg.const, f5, k0]) ⟨rfl, Below.refl _ _⟩
          · cases ho
            rw [if_pos (show Region.wanted _ y = true from rfl)]
            have f6 : ρ (.tmp 6) = .slice (some ae) 1 1 := hf 6 (by kernel_rfl)
            exact does_ok (v := .slice (some ae) 1 1) (w' := w2) (by simp [go_sem, hreg.const, f6]) ⟨rfl, Below.refl _ _⟩
          · cases ho
            rw [if_pos (show Region.wanted _ y = true from rfl)]
            have f30 : ρ (.tmp 30) = .slice (some ae) 1 1 := hn 1 _ 30 rfl (by kernel_rfl) rfl
            exact does_ok (v := .pointer (some ae)) (w' := w2) (by simp [go_sem, hreg.const, f30, add_none]) ⟨rfl, Below.refl _ _⟩
          · cases ho
            rw [if_pos (show Region.wanted _ y = true from rfl)]
            have f31 : ρ (.tmp 31) = .pointer (some ae) := hn 2 _ 31 rfl (by kernel_rfl) rfl
            have k0 := cell_keep hb2 E0.out
            exact does_ok (v := .slice el.A el.n el.c) (w' := w2) (by simp [go_sem, hreg.const, f31, k0]) ⟨rfl, Below.refl _ _⟩
          · cases ho
            rw [if_pos (show Region.wanted _ y = true from rfl)]
            have f32 : ρ (.tmp 32) = .slice el.A el.n el.c := hn 3 _ 32 rfl (by kernel_rfl) rfl
            have hbk : Below w2.heap.size w2 (w2.alloc (.cells #[.slice el.A el.n el.c] 38)) := (Below.refl _ _).alloc (Nat.le_refl _) _
            exact does_ok (v := .slice (some ⟨w2.heap.size, 0, none⟩) 1 1) (w' := w2.alloc (.cells #[.slice el.A el.n el.c] 38)) (by simp [go_sem, hreg.const, f32]) ⟨⟨_, rfl, hb2.size, World.alloc_heap_new w2 _⟩, hbk⟩
        case refine_2 =>
          intro a w2 hb2 hd hs hfacts hrest
          have q29 : a.tmps.getD 29 undef = vn := hfacts 0 _ 29 (by decide) rfl rfl
          obtain ⟨gk, q33, g33⟩ : ∃ (gk : Nat), a.tmps.getD 33 undef = .slice (some ⟨gk, 0, none⟩) 1 1 ∧ (Wt.heap.size ≤ gk ∧ w2.heap[gk]? = some (.cells #[.slice el.A el.n el.c] 38 (0, 0))) := hfacts 4 _ 33 (by decide) rfl rfl
          have ha := frame_ofP hd hs hrest [29, 30, 31, 32, 33] (by kernel_rfl)
          simp only [q29, q33, List.foldl, List.setIfInBounds_toArray, List.set_cons_succ, List.set_cons_zero] at ha
          clear q29 q33 hd hs hfacts hrest
          generalize a.tmps.getD = gg at ha
          subst ha
          obtain ⟨v1, w3, r1, hC⟩ := collStepG (P := Try.prog) (enc := encE) (x := el) (n₀ := D) (B := D) 43 38 (.slice none 0 0) 24 Try.underlying43 infoUV rfl (by decide) (by decide) encE_len encE_one (by decide) HP.out.box HP.out.row HDW.out (Nat.le_refl _) HNL.out 43 hb2 gk g33.2 g33.1
          obtain ⟨g6, c6, hv1⟩ := hC.sh
          have HFin : Hid (∀ a, postQ Wc.heap.size D (SO D) (PI W D) (fun _ _ _ => False) (pre ++ [q]) Wt .normal a (w3.setCell ⟨D, 0, none⟩ v1)) := Lib.hid (fun a => ⟨HKP.out.trans (hC.keepQ HP.out.box HP.out.row (Nat.le_refl _) (Nat.le_refl _) (by simp [SO]) (fun _ => rfl) (Nat.le_refl _) HDW.out), nl ++ [el], v1, HP.out.step hC HEL.out HPR.out⟩)
          have f0 := hC.box.cell
          have f1 := hC.box.frozen
          subst hv1
          obtain ⟨nk, hnk⟩ : ∃ nk, nk = nl.length + 1 := ⟨_, rfl⟩
          rw [← hnk] at r1 HFin
          clear hC hnk g33 hb2
          simp only [List.drop_succ_cons, List.drop_zero]
          gi_wp2_with (first | (gi_at_builtin; refine wplIn_append_run rfl _ _ _ rfl rfl rfl r1 ?_))
          exact HFin.out _
    case done =>
      rintro D3 W3 hD3 hI hK
      obtain ⟨nl, v, hP⟩ := hI
      obtain ⟨A3, c3, rfl, hHd⟩ := hP.head HDE.out.symm HH.out
      have HB := Lib.hid hP.box.cell
      have HDs3 : Hid (DsOK w (D3 :: Ds) W3) := Lib.hid (by
        have h0 := HDs.out.below hP.be (by rw [← HDE.out]; exact Nat.le_refl _)
        have h9 := HSC.out
        refine ⟨List.pairwise_cons.2 ⟨fun D' hm e => ?_, h0.1⟩, fun D' hm => ?_⟩
        · have := (Array.getElem?_eq_some_iff.1 (HDs.out.2 D' hm).2).1
          have := HDE.out
          omega
        · rcases List.mem_cons.1 hm with rfl | hm
          · exact ⟨by have := HDE.out; omega, hK⟩
          · exact h0.2 D' hm)
      obtain ⟨n3, hn3⟩ : ∃ n3, n3 = (n' + 1) / 2 := ⟨_, rfl⟩
      rw [← hn3] at hHd HB
      have HN := Lib.hid hHd
      have c5 := HB.out
      have HL3 : Hid (n3 < n') := Lib.hid (by omega)
      clear hP hK hn3 hHd hD3 HSQ HI0
      gi_wp2
      exact ⟨⟨A3, n3, c3, nl, D3 :: Ds, _, _, _, _, _, _, _, rfl, HN, HDs3, by have := HL3.out; omega⟩, by simp [lenOf, HL3.out]⟩
    case stop =>
      rintro D cc pre W' hD hpx hI hK
      exact hI.elim
  · by_cases h0 : n' = 0
    · subst h0
      have HO : Hid (OrR ls []) := Lib.hid ⟨fun _ => ⟨List.Pairwise.nil, fun d => by
        have h := HH.out.mem d
        rw [List.eq_nil_of_length_eq_zero HH.out.rd.len] at h
        exact (show d ∈ [] ↔ uni [] d by simp [uni]).trans h⟩, fun h => absurd HU.out h⟩
      have HBe := Lib.hid HH.out.be
      gi_wp2
      refine leaves_marks (v := .tuple #[.slice none 0 0, .int .i64 0]) (b := w.heap.size) (fun W => by simp [results, Try.results23, go_sem]) (fun W5 => Below w.heap.size w W5) (fun W5 D5 h5 h6 h7 => h7.grown (grownBy_putObj' W5 D5 _) h7.size (fun k hk => by cases hk; exact h5)) (fun W5 h5 => ⟨_, by rw [hE.out], ⟨[], OwnU.nil _ _, HO.out⟩, h5⟩) Ds W HDs.out.1 HDs.out.2 HBe.out
    · obtain rfl : n' = 1 := by omega
      obtain ⟨ad, x, rfl, HX, HXO, hxn, k0⟩ := HH.out.rd.at (k := 0) (by omega)
      rw [add_none] at k0
      have hxe : cur = [x] := by
        obtain ⟨hl, e9⟩ := HX.out
        have := HH.out.rd.len
        match cur, this, hl, e9 with
        | [z], _, _, e9 => simp at e9; rw [e9]
      have HO : Hid (OrR ls x.l) := Lib.hid ⟨fun _ => ⟨HH.out.up x (by rw [hxe]; simp), fun d => by
        have h := HH.out.mem d
        rw [hxe] at h
        exact (show d ∈ x.l ↔ uni [x] d by simp [uni]).trans h⟩, fun h => absurd HU.out h⟩
      have HXN : Hid (x.n ≤ 1000000) := Lib.hid (by
        have := tot_mem (ls := cur) (x := x) (by rw [hxe]; simp)
        have := HH.out.tot
        have := HT.out
        have := HXO.out.rd.len
        omega)
      have C21 := Lib.hid (CloneU_any x.A x.n x.c x.l W HXO.out.rd.rd HXN.out HXO.out.nc HXO.out.c2)
      have HBe := Lib.hid HH.out.be
      clear hxe
      gi_wp2_with fail
      refine ⟨trivial, (callsIn_wide.2 C21.out).mono ?_⟩
      rintro e W4 ⟨v, rfl, ho, hb4⟩
      have HG : Hid (Below w.heap.size w W4 ∧ OwnU W4 w.heap.size v x.l) := Lib.hid ⟨Below.thn HBe.out hb4, ho.mono HBe.out.size, HXO.out.rd.lt⟩
      have HD4 : Hid (DsOK w Ds W4) := Lib.hid (HDs.out.below hb4 (Nat.le_refl _))
      clear ho hb4 C21
      gi_wp2
      refine leaves_marks (v := .tuple #[v, .int .i64 0]) (b := w.heap.size) (fun W => by simp [results, Try.results23, go_sem]) (fun W5 => Below w.heap.size w W5 ∧ OwnU W5 w.heap.size v x.l) (fun W5 D5 h5 h6 h7 => ⟨h7.1.grown (grownBy_putObj' W5 D5 _) h7.1.size (fun k hk => by cases hk; exact h5), ownsRow_putObj h7.2.1 _ h6 rfl, h7.2.2⟩) (fun W5 h5 => ⟨_, by rw [hE.out], ⟨x.l, h5.2, HO.out⟩, h5.1⟩) Ds W4 HD4.out.1 HD4.out.2 HG.out
end Go.Proofs.Ytaaddckhldccjaa
