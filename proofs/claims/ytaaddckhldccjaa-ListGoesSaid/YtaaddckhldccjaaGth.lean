/- What is gathered; a sequence that counts how often it is asked. -/
import Derived.Test.YtaaddckhldccjaaRangeX
import Derived.Test.YtaaddckhldccjaaTold
namespace Go.Proofs.Ytaaddckhldccjaa
open Go.RowKit
set_option linter.unusedVariables false
set_option linter.unusedSimpArgs false

def cntV (pre : List Nat) : Value := .int .i64 (pre.length : Nat)
set_option maxRecDepth 100000 in
set_option maxHeartbeats 4000000 in
theorem count_seq (n Ba q : Nat) (hn : 1 ≤ n) (A : Option Addr) (na c : Nat) (l : List Nat) (b : Nat) (S : Nat → TypeId → Bool) (we w : World)
    (hBa : w.heap[Ba]? = some (.cells #[.slice A na c] 38 (0, 0))) (hq : w.heap[q]? = some (.cells #[.int .i64 0] 3 (0, 0))) (hl : RdU we A na l) (hwe : Below we.heap.size we w) (hqe : we.heap.size ≤ q) (hbe : we.heap.size ≤ b) (hqb : q < b) (hS : S q 3 = false) (hna : na ≤ 1000000) :
    SeqX Fence.wide n Try.prog 15 #[.pointer (some ⟨Ba, 0, none⟩), .pointer (some ⟨q, 0, none⟩)] encK b S q cntV l w := fun L J Jx W hW hJ hJx hY h0 hc => by
  have HB := Lib.hid (hwe.trans (hW.mono hwe.size))
  have HR := Lib.hid hl
  have HJ : Hid (FirmX q W.heap.size S J) := hJ
  have HY := Lib.hid hY
  have HLn := Lib.hid hl.len
  have hCa := (hW.block Ba (Array.getElem?_eq_some_iff.1 hBa).1).trans hBa
  have hCq := (hW.block q (Array.getElem?_eq_some_iff.1 hq).1).trans hq
  have HQ := Lib.hid hCq
  have HNM := Lib.hid (And.intro hqe (And.intro hbe (And.intro hqb hS)))
  have c0 : W.cell? ⟨Ba, 0, none⟩ = some (.slice A na c) := by simp [World.cell?, hCa]
  have HJ0 : Hid (J (l.take 0) W) := Lib.hid h0
  clear hwe hW hJ hJx hY hBa hq h0 hl hCa hCq hc hqe hbe hqb hS
  refine callsIn_of_wp Try.func15 rfl trivial ?_ rfl
  simp only [Try.ntmps15, List.size_toArray, List.length_cons, List.length_nil, Nat.reduceAdd, Nat.reduceSub, Array.replicate_succ, Array.replicate_zero, List.push_toArray, List.append_toArray, List.nil_append, List.cons_append]
  gi_wp2_with fail
  clear c0
  gi_loopw [8] (fun x wr => ∃ k : Nat, x = .int .i64 (k : Nat) ∧ k ≤ na ∧ Hid (J (l.take k) wr) ∧ Hid (wr.heap[q]? = some (.cells #[.int .i64 (k : Nat)] 3 (0, 0))) ∧ Hid (Below we.heap.size we wr)) (fun x _ => na - (intOf x).toNat)
  case atStart => exact ⟨0, rfl, Nat.zero_le _, HJ0, HQ, HB⟩
  case round =>
    obtain ⟨k, rfl, hk, HJs, HQs, HBs⟩ := hrel
    by_cases hlt : (k : Int) < (na : Int)
    · obtain ⟨ad, x, rfl, HX, hx, x0⟩ := (HR.out.below HBs.out).at (k := k) (by omega)
      obtain ⟨k1, hk1⟩ : ∃ k1, k1 = k + 1 := ⟨_, rfl⟩
      have hki : (k : Int) + 1 = (k1 : Int) := by omega
      obtain ⟨Wq, hWq⟩ : ∃ Wq, Wq = wr.setCell ⟨q, 0, none⟩ (.int .i64 (k1 : Nat)) := ⟨_, rfl⟩
      have hg := grownBy_setCell' wr q (.int .i64 (k1 : Nat))
      rw [← hWq] at hg
      have hJq : J (l.take k) Wq := HJ.out _ _ _ HJs.out ⟨hg.os, hg.tape, hg.output, hg.size, fun j o hj hne ho => (hg.block j (Array.getElem?_eq_some_iff.1 ho).1 (fun e => hne (by injection e))).trans ho, fun j C t fr ht ho => (hg.block j (Array.getElem?_eq_some_iff.1 ho).1 (fun e => by
        injection e with e
        subst e
        rw [HQs.out] at ho
        cases ho
        rw [HNM.out.2.2.2] at ht
        cases ht)).trans ho⟩
      have HQ1 : Hid (Wq.heap[q]? = some (.cells #[.int .i64 (k1 : Nat)] 3 (0, 0))) := Lib.hid (by rw [hWq]; exact Boxed.set (v' := .int .i64 (k1 : Nat)) (show Boxed wr q 3 _ from HQs.out))
      have HBq : Hid (Below we.heap.size we Wq) := Lib.hid (by rw [hWq]; exact HBs.out.setCell HNM.out.1 _)
      have q0 : wr.cell? ⟨q, 0, none⟩ = some (.int .i64 (k : Nat)) := by simp [World.cell?, HQs.out]
      have q1 : wr.frozen? ⟨q, 0, none⟩ = false := by simp [World.frozen?, HQs.out]
      obtain ⟨fn, tmps, assign, body, hy, hRd⟩ := HY.out (l.take k) x Wq (by rw [take_pre HX.out]; exact List.take_prefix _ _) hJq
      dsimp only [encK] at hy
      have HWq := Lib.hid hWq
      have HK1 := Lib.hid hk1
      rw [hWq] at hy hRd
      clear hg hJq hWq hk1
      gi_wp2_with fail
      refine hRd.mono ?_
      rintro e W5 (⟨rfl, hJ5, hk5⟩ | ⟨rfl, hJx5, hk5⟩)
      · rw [← HWq.out] at hk5
        have HN := Lib.hid hJ5
        have HBN : Hid (Below we.heap.size we W5) := Lib.hid (HBq.out.trans ((hk5.mono HNM.out.2.1 (Nat.le_refl _)).belowb HBq.out.size))
        have HQN := Lib.hid (hk5.low _ _ HNM.out.2.2.1 HQ1.out)
        clear hJ5 hk5 x0 q0 q1
        gi_wp2
        go_roundw
        case rel => exact ⟨k1, by simp; try go_num, by have := HK1.out; omega, Lib.hid (by rw [HK1.out, ← take_pre HX.out]; exact HN.out), HQN, HBN⟩
        case measure => have := HK1.out; simp [intOf]; omega
      · rw [← HWq.out] at hk5
        have HX5 := Lib.hid hJx5
        have HQN : Hid (W5.cell? ⟨q, 0, none⟩ = some (cntV (l.take (k + 1)))) := Lib.hid (by
          have h1 := hk5.low _ _ HNM.out.2.2.1 HQ1.out
          have h2 : (l.take (k + 1)).length = k1 := by have := HK1.out; have := HLn.out; rw [List.length_take]; omega
          unfold cntV
          rw [h2]
          simp [World.cell?, h1])
        clear hJx5 hk5 x0 q0 q1
        gi_wp2
        refine bodyPost_ret (results_none rfl _ _ _) rfl ?_
        exact ⟨⟨_, rfl⟩, .inr ⟨_, by rw [take_pre HX.out]; exact List.take_prefix _ _, HX5.out, by rw [take_pre HX.out]; exact HQN.out⟩⟩
    · have HE : Hid (l.take k = l) := Lib.hid (List.take_of_length_le (by have := HLn.out; omega))
      have HQF : Hid (wr.cell? ⟨q, 0, none⟩ = some (cntV l)) := Lib.hid (by
        have h1 : l.length = k := by have := HLn.out; omega
        unfold cntV
        rw [h1]
        simp [World.cell?, HQs.out])
      gi_wp2
      exact ⟨rfl, _, results_none rfl _ _ _, ⟨_, rfl⟩, .inl ⟨by have := HJs.out; rwa [HE.out] at this, HQF.out⟩⟩
theorem BX.low {q : Nat} {w W W' : World} (h : BX q w W) (hb : Below w.heap.size W W') : BX q w W' :=
  ⟨hb.os.trans h.os, hb.tape.trans h.tape, hb.output.trans h.output, Nat.le_trans h.size hb.size, fun k hk hq => (hb.block k hk).trans (h.block k hk hq)⟩
attribute [local go_sem] Oper.semAt_some
/-- What is gathered as yet. -/
def GxI (q : Nat) (w : World) (most : Int) (pre : List Nat) (W : World) : Prop := BX q w W ∧ (∃ v, Boxed W (w.heap.size + 1) 38 v ∧ W.ownsRow w.heap.size 30 1 v pre.length (pre.flatMap encT)) ∧ Boxed W w.heap.size 3 (.int .i64 most)
def GaI (q : Nat) (w : World) (most : Int) (pre : List Nat) (W : World) : Prop := GxI q w most pre W ∧ (pre.length : Int) < most
def GaX (q : Nat) (w : World) (most : Int) (L : List Nat) (c : Code) (pre : List Nat) (W : World) : Prop := c = .exit 0 ∧ pre = L.take most.toNat ∧ GxI q w most pre W
theorem gxI_firm (q : Nat) (w : World) (most : Int) (D : Nat) (hD : w.heap.size + 1 < D) (hq : q < w.heap.size) : FirmX q D SU (GxI q w most) := by
  rintro s A B ⟨h1, ⟨v, h2, h3⟩, h4⟩ hst
  exact ⟨hst.bx (by omega) h1, ⟨v, hst.own _ _ _ _ rfl h2, by
    rcases h3.2 with ⟨rfl, h0⟩ | ⟨g, cap, cur, rfl, hb, hh, rest⟩
    · exact ⟨h3.1, .inl ⟨rfl, h0⟩⟩
    · exact ⟨h3.1, .inr ⟨g, cap, cur, rfl, hb, hst.own _ _ _ _ rfl hh, rest⟩⟩⟩, hst.low _ _ (by omega) (by omega) h4⟩
theorem gaI_firm (q : Nat) (w : World) (most : Int) (D : Nat) (hD : w.heap.size + 1 < D) (hq : q < w.heap.size) : FirmX q D SU (GaI q w most) := by
  rintro s A B ⟨h1, h2⟩ hst
  exact ⟨gxI_firm q w most D hD hq s A B h1 hst, h2⟩
theorem gaX_firm (q : Nat) (w : World) (most : Int) (L : List Nat) (c : Code) (D : Nat) (hD : w.heap.size + 1 < D) (hq : q < w.heap.size) : FirmX q D SU (GaX q w most L c) := by
  rintro s A B ⟨h1, h3, h2⟩ hst
  exact ⟨h1, h3, gxI_firm q w most D hD hq s A B h2 hst⟩
abbrev gathFr (s gf : Nat) (lb : Array Value) (most : Int) (x : Nat) : Act := { tmps := #[.func (.func gf) #[] lb, .int .i64 most, undef, .pointer (some ⟨s, 0, none⟩), .slice none 0 0, .pointer (some ⟨s + 1, 0, none⟩), .int .u32 (x : Int), .func (.func gf) #[] lb, .bool false, .bool false, .int .i64 most, .bool false, .bool false, .func (.func gf) #[] lb, .int .u32 (x : Int), undef, undef, undef, undef, undef, undef, undef, undef, undef], defers := [] }
theorem gather_none (most : Int) (w : World) : Calls Try.prog 19 #[.nilFunc, .int .i64 most] w fun e w' => e = .returned (.slice none 0 0) ∧ Below w.heap.size w w' := by
  have hb : Below w.heap.size w (w.alloc (.cells #[.int .i64 most] 3)) := (Below.refl _ _).alloc (Nat.le_refl _) _
  have HB := Lib.hid hb
  clear hb
  have hnil : ∀ W : World, (binOp .eql 48 .nilFunc .nilFunc).run Try.prog W = .ok (.bool true) W := fun W => by
    have hu := Try.underlying48
    have h : (Op.equalIn (9999 + 1) 48 .nilFunc .nilFunc).run Try.prog W = .ok true W := by
      rw [Op.equalIn]
      simp [run_underlying hu]
    simp only [binOp]
    simp [Op.equal, Op.maxDepth, h]
  go_enter Try.func19, Try.ntmps19
  go_wp2
  go_ret
  exact ⟨rfl, HB.out⟩
theorem gather_few (gf : Nat) (lb : Array Value) (most : Int) (w : World) (hm : most < 1) : Calls Try.prog 19 #[.func (.func gf) #[] lb, .int .i64 most] w fun e w' => e = .returned (.slice none 0 0) ∧ Below w.heap.size w w' := by
  have hb : Below w.heap.size w (w.alloc (.cells #[.int .i64 most] 3)) := (Below.refl _ _).alloc (Nat.le_refl _) _
  have HB := Lib.hid hb
  clear hb
  have hnil := run_eql_nilF gf lb
  go_enter Try.func19, Try.ntmps19
  go_wp2
  go_ret
  exact ⟨rfl, HB.out⟩
set_option maxRecDepth 100000 in
set_option maxHeartbeats 4000000 in
theorem gather_seq (gf : Nat) (lb : Array Value) (eg : ∀ args w, (callFunc gf args).run Try.prog w = .ok (.enter gf args) w) (b q : Nat) (qv : List Nat → Value) (L : List Nat) (w : World) (most : Int) (hm1 : 1 ≤ most) (hm2 : most ≤ 9223372036854775807)
    (hseq : ∀ W, Below w.heap.size w W → SeqX Fence.wide 9 Try.prog gf lb encK b SU q qv L W) (hb0 : b ≤ w.heap.size) (hL : L.length ≤ 100000000) (hq : w.cell? ⟨q, 0, none⟩ = some (qv [])) :
    Calls Try.prog 19 #[.func (.func gf) #[] lb, .int .i64 most] w fun e w' => ∃ v, e = .returned v ∧ OwnK encT 1 30 w' w.heap.size v (L.take most.toNat) ∧ BX q w w' ∧ w'.cell? ⟨q, 0, none⟩ = some (qv (L.take most.toNat)) := by
  have HSQ := Lib.hid hseq
  have HBB := Lib.hid hb0
  have HLL := Lib.hid hL
  have HQ := Lib.hid hq
  have hqw := cell_lt hq
  have HQW := Lib.hid hqw
  have HM := Lib.hid (And.intro hm1 hm2)
  clear hseq hb0 hL hq hqw
  have hnil := run_eql_nilF gf lb
  have HEG := Lib.hid eg
  clear eg
  have hlt1 : decide (most < 1) = false := decide_eq_false (by omega)
  refine (callsIn_wide (n := 10)).1 ?_
  refine callsIn_of_wp_marks Try.func19 rfl trivial ?_ rfl
  simp only [Try.ntmps19, List.size_toArray, List.length_cons, List.length_nil, Nat.reduceAdd, Nat.reduceSub, Array.replicate_succ, Array.replicate_zero, List.push_toArray, List.append_toArray, List.nil_append, List.cons_append]
  gi_wp2_with fail
  clear hnil
  obtain ⟨W2, hW2⟩ : ∃ W2, W2 = (w.alloc (.cells #[.int .i64 most] 3)).alloc (.cells #[.slice none 0 0] 38) := ⟨_, rfl⟩
  have b1 := Boxed.new w 3 (.int .i64 most)
  have b2 := Boxed.new (w.alloc (.cells #[.int .i64 most] 3)) 38 (.slice none 0 0)
  simp only [World.size_alloc] at b2
  have HB2 : Hid (Below w.heap.size w W2) := Lib.hid (by rw [hW2]; exact ((Below.refl _ _).alloc (Nat.le_refl _) _).alloc (by simp) _)
  have HI2 : Hid (GaI q w most [] W2) := Lib.hid ⟨⟨BX.of HB2.out, ⟨_, by rw [hW2]; exact b2, World.ownsRow_nil _ _ _ _⟩, by rw [hW2]; exact b1.alloc _⟩, by simp; omega⟩
  have hsz2 : w.heap.size + 2 = W2.heap.size := by rw [hW2]; simp
  have HSZ := Lib.hid hsz2
  have HQ2 : Hid (W2.cell? ⟨q, 0, none⟩ = some (qv [])) := Lib.hid (cell_low HQ.out fun o ho => (HB2.out.block _ HQW.out).trans ho)
  rw [← hW2]
  clear hW2 b1 b2 hsz2
  refine wpIn_range_X (n := 10) rfl (by omega) (gf := gf) (lb := lb) rfl trivial HEG.out (HSQ.out W2 HB2.out) (Nat.le_trans HBB.out HB2.out.size) HQ2.out (Below.refl _ _) (fun _ => rfl)
    (GaI q w most) (GaX q w most L) (gaI_firm q w most _ (by have := HSZ.out; omega) HQW.out) (fun c => gaX_firm q w most L c _ (by have := HSZ.out; omega) HQW.out) HI2.out
    (fun pre x a' W' => a' = gathFr w.heap.size gf lb most x) ?axfirm ?assign ?body ?done ?stop
  case axfirm =>
    rintro pre x a' s X Y e hst
    exact e
  case assign =>
    intro L' pre x W' K hpx hI hK
    have HI := Lib.hid hI
    have HK := Lib.hid hK
    clear hI hK
    gi_wp2
    exact HK.out _ _ (Keep.refl _ _ _ _) HI.out rfl
  case body =>
    rintro L' pre x a' W hpx hI rfl
    obtain ⟨⟨i1, ⟨v, hv, hrow⟩, hbm⟩, hpl9⟩ := hI
    obtain ⟨A1, cc1, hvs, hl1, hc1, _⟩ := OwnK.rd (enc := encT) encT_len (show OwnK encT 1 30 W w.heap.size v pre from hrow)
    have hpl : pre.length + 1 ≤ 100000000 := by
      have h1 := hpx.length_le
      rw [List.length_append, List.length_singleton] at h1
      have := HLL.out
      omega
    obtain ⟨v1, w2, r1, hC⟩ := collStep (P := Try.prog) (enc := encT) (x := x) (n₀ := w.heap.size) (B := (w.heap.size + 1)) 38 30 (.int .u32 0) 4 Try.underlying38 infoU rfl (by decide) (by decide) encT_len encT_one (by decide) hv hrow i1.size (by omega) (by omega) 38 #[.int .u32 (x : Int)] rfl
    obtain ⟨g6, c6, hv1⟩ := hC.sh
    have hbm2 := hC.boxed hrow hbm (by omega) (by decide)
    have hGx : GxI q w most (pre ++ [x]) (w2.setCell ⟨w.heap.size + 1, 0, none⟩ v1) := ⟨i1.low hC.bl, ⟨v1, hC.out, by simpa using hC.row⟩, hbm2⟩
    have hKp := hC.keepQ (D := W2.heap.size) (S := SU) hv hrow HBB.out (by have := HBB.out; omega) rfl (fun _ => rfl) HBB.out i1.size
    have hc := hv.cell
    have hcm := hbm2.cell
    have hco := hC.out.cell
    have f0 := hC.box.cell
    have f1 := hC.box.frozen
    subst hv1
    subst hvs
    by_cases hfull : ((pre.length + 1 : Nat) : Int) = most
    · have HFin : Hid (∀ a, postQ W2.heap.size b SU (GaI q w most) (GaX q w most L) (pre ++ [x]) W (.exit 0) a (w2.setCell ⟨w.heap.size + 1, 0, none⟩ (.slice (some ⟨g6, 0, none⟩) (pre.length + 1) c6))) := Lib.hid fun a => ⟨hKp, rfl, (by
        have := List.prefix_iff_eq_take.1 hpx
        rw [List.length_append, List.length_singleton] at this
        rw [this, ← hfull]
        rfl), hGx⟩
      obtain ⟨pl, hpl2⟩ : ∃ pl, pl = pre.length := ⟨_, rfl⟩
      obtain ⟨pk, hpk⟩ : ∃ pk, pk = pl + 1 := ⟨_, rfl⟩
      rw [← hpl2] at hc r1 f0 hl1 hfull HFin hpl hco hcm
      rw [← hpk] at r1 HFin hfull hco hcm
      have hqe : ((pk : Int) == most) = true := by rw [hfull]; simp
      clear hv hrow hC i1 hpl2 hpx hpl9 hbm hbm2 hGx hKp hpk hfull
      gi_wp2_with (first | (gi_at_builtin; refine wplIn_append_run rfl _ _ _ rfl rfl rfl r1 ?_))
      exact HFin.out _
    · have HFin : Hid (∀ a, postQ W2.heap.size b SU (GaI q w most) (GaX q w most L) (pre ++ [x]) W .normal a (w2.setCell ⟨w.heap.size + 1, 0, none⟩ (.slice (some ⟨g6, 0, none⟩) (pre.length + 1) c6))) := Lib.hid fun a => ⟨hKp, hGx, by rw [List.length_append, List.length_singleton]; omega⟩
      obtain ⟨pl, hpl2⟩ : ∃ pl, pl = pre.length := ⟨_, rfl⟩
      obtain ⟨pk, hpk⟩ : ∃ pk, pk = pl + 1 := ⟨_, rfl⟩
      rw [← hpl2] at hc r1 f0 hl1 hfull HFin hpl hco hcm
      rw [← hpk] at r1 HFin hfull hco hcm
      have hqe : ((pk : Int) == most) = false := by simp; omega
      clear hv hrow hC i1 hpl2 hpx hpl9 hbm hbm2 hGx hKp hpk hfull
      gi_wp2_with (first | (gi_at_builtin; refine wplIn_append_run rfl _ _ _ rfl rfl rfl r1 ?_))
      exact HFin.out _
  case done =>
    rintro D W' hD hI hcq hK
    have htk : L.take most.toNat = L := List.take_of_length_le (by have := hI.2; omega)
    have HK := Lib.hid hK
    obtain ⟨⟨i1, ⟨v, hv, hrow⟩, hbm⟩, hpl9⟩ := hI
    have HOwn : Hid (OwnK encT 1 30 (W'.putObj D (.deferred none)) w.heap.size v (L.take most.toNat)) := Lib.hid (by rw [htk]; exact ownsRow_putObj hrow _ hK rfl)
    have HBe : Hid (BX q w (W'.putObj D (.deferred none)) ∧ (W'.putObj D (.deferred none)).cell? ⟨q, 0, none⟩ = some (qv (L.take most.toNat))) := Lib.hid ⟨i1.low ((Below.refl w.heap.size W').grown (grownBy_putObj' W' D _) i1.size (fun k hk => by cases hk; have := HSZ.out; omega)), by
      rw [htk]
      exact cell_low hcq fun o ho => (World.putObj_heap_other (by have := HQW.out; have := HSZ.out; omega)).trans ho⟩
    have c5 := hv.cell
    obtain ⟨A1, cc1, hvs, hl1, hc1, _⟩ := OwnK.rd (enc := encT) encT_len (show OwnK encT 1 30 W' w.heap.size v L from hrow)
    subst hvs
    obtain ⟨yl, hyl⟩ : ∃ yl, yl = L.length := ⟨_, rfl⟩
    rw [← hyl] at c5 hl1 HOwn
    clear i1 hv hrow hK hyl hbm hpl9 htk hcq
    gi_wp2
    refine ⟨by simp, .inl ⟨_, _, rfl, run_takeDeferred HK.out, ?_⟩⟩
    exact ⟨.slice A1 yl cc1, by simp [results, Try.results19, go_sem], _, rfl, HOwn.out, HBe.out⟩
  case stop =>
    rintro D cc pre W' hD hpx ⟨rfl, hpt, hI⟩ hcq hK
    have HK := Lib.hid hK
    obtain ⟨i1, ⟨v, hv, hrow⟩, hbm⟩ := hI
    have HOwn : Hid (OwnK encT 1 30 (W'.putObj D (.deferred none)) w.heap.size v (L.take most.toNat)) := Lib.hid (by rw [← hpt]; exact ownsRow_putObj hrow _ hK rfl)
    have HBe : Hid (BX q w (W'.putObj D (.deferred none)) ∧ (W'.putObj D (.deferred none)).cell? ⟨q, 0, none⟩ = some (qv (L.take most.toNat))) := Lib.hid ⟨i1.low ((Below.refl w.heap.size W').grown (grownBy_putObj' W' D _) i1.size (fun k hk => by cases hk; have := HSZ.out; omega)), by
      rw [← hpt]
      exact cell_low hcq fun o ho => (World.putObj_heap_other (by have := HQW.out; have := HSZ.out; omega)).trans ho⟩
    have c5 := hv.cell
    obtain ⟨A1, cc1, hvs, hl1, hc1, _⟩ := OwnK.rd (enc := encT) encT_len (show OwnK encT 1 30 W' w.heap.size v pre from hrow)
    subst hvs
    obtain ⟨yl, hyl⟩ : ∃ yl, yl = pre.length := ⟨_, rfl⟩
    rw [← hyl] at c5 hl1 HOwn
    clear i1 hv hrow hK hyl hpx hpt hbm hcq
    gi_wp2
    refine ⟨by simp, .inl ⟨_, _, rfl, run_takeDeferred HK.out, ?_⟩⟩
    exact ⟨.slice A1 yl cc1, by simp [results, Try.results19, go_sem], _, rfl, HOwn.out, HBe.out⟩
end Go.Proofs.Ytaaddckhldccjaa
