/- Tokens that are told, gathered. -/
import Derived.Test.YtaaddckhldccjaaCollS
import Derived.Test.YtaaddckhldccjaaVals
import Derived.OwnWalkIn
import Derived.RangeFuncCalls
import Derived.TacticsIn
import Derived.LoopIn
namespace Go.Proofs.Ytaaddckhldccjaa
open Go.RowKit
set_option linter.unusedVariables false
set_option linter.unusedSimpArgs false
attribute [local go_sem] Oper.semAt_some

abbrev encT : Nat → List Value := fun x => [.int .u32 (x : Int)]
theorem encT_len (x : Nat) : (encT x).length = 1 := rfl
theorem encT_one : ∀ x, ∀ u ∈ encT x, u.oneCell' = true := by
  intro x u hu
  simp at hu
  rcases hu with rfl
  rfl
theorem flat_u (L : List Nat) : L.flatMap encT = L.map encU := by
  induction L with
  | nil => rfl
  | cons a L ih => rw [List.flatMap_cons, ih]; rfl
theorem OwnK.l {w : World} {base : Nat} {v : Value} {L : List Nat} (h : OwnK encT 1 30 w base v L) : OwnL encU 30 w base v L := by
  unfold OwnK at h
  unfold OwnL
  rwa [flat_u] at h
theorem OwnL.k {w : World} {base : Nat} {v : Value} {L : List Nat} (h : OwnL encU 30 w base v L) : OwnK encT 1 30 w base v L := by
  unfold OwnL at h
  unfold OwnK
  rwa [flat_u]
/-- The types that one who gathers numbers writes. -/
def SU (_ : Nat) (t : TypeId) : Bool := t == 38 || t == 30
theorem run_eql_nilF (gf : Nat) (lb : Array Value) (W : World) : (binOp .eql 48 (.func (.func gf) #[] lb) .nilFunc).run Try.prog W = .ok (.bool false) W := by
  have hu := Try.underlying48
  have h : (Op.equalIn (9999 + 1) 48 (.func (.func gf) #[] lb) .nilFunc).run Try.prog W = .ok false W := by
    rw [Op.equalIn]
    simp [run_underlying hu]
  simp only [binOp]
  simp [Op.equal, Op.maxDepth, h]
/-- What is gathered as yet: its box, its row. -/
def GtI (w : World) (Bl : Nat) (pre : List Nat) (W : World) : Prop := Below w.heap.size w W ∧ ∃ v, Boxed W Bl 38 v ∧ W.ownsRow w.heap.size 30 1 v pre.length (pre.flatMap encT)
theorem gtI_firm (w : World) (Bl D : Nat) (hD : w.heap.size ≤ D) : Firm D SU (GtI w Bl) := by
  rintro s A B ⟨hb, v, h1, h2⟩ hst
  exact ⟨hb.trans ((hst.mono hD).belowB hb.size), v, Boxed.step h1 hst rfl, ownsRow_step h2 hst (fun _ => rfl)⟩
theorem gtI_below {w : World} {Bl : Nat} {pre : List Nat} {W W' : World} (h : GtI w Bl pre W) (hb : Below W.heap.size W W') : GtI w Bl pre W' := by
  obtain ⟨h0, v, h1, h2⟩ := h
  exact ⟨Below.thn h0 hb, v, (hb.block _ h1.lt).trans h1, OwnK.below (enc := encT) h2 hb⟩
theorem pre_take {L pre : List Nat} {x : Nat} {k : Nat} (h : pre ++ [x] <+: L) (hk : pre.length = k) : L.take k = pre := by
  have h1 : pre <+: L := List.IsPrefix.trans ⟨[x], rfl⟩ h
  have := List.prefix_iff_eq_take.1 h1
  rw [hk] at this
  exact this.symm

abbrev AppendSeqFr (s gf : Nat) (lb : Array Value)  (x : Nat) : Act := { tmps := #[.slice none 0 0, .func (.func gf) #[] lb, .pointer (some ⟨s, 0, none⟩), undef, .slice none 0 0, .int .u32 (x : Int), .func (.func gf) #[] lb, .int .u32 (x : Int), undef, undef, undef, undef, undef], defers := [] }
set_option maxRecDepth 100000 in
set_option maxHeartbeats 4000000 in
theorem AppendSeq_seq (gf : Nat) (lb : Array Value) (eg : ∀ args w, (callFunc gf args).run Try.prog w = .ok (.enter gf args) w) (b : Nat) (L : List Nat) (w0 w : World)  (hseq : SeqQ Fence.wide 9 Try.prog gf lb encK b SU L w) (hb0 : b ≤ w.heap.size) (hL : L.length ≤ 100000000) :
    Calls Try.prog 72 #[.slice none 0 0, .func (.func gf) #[] lb] w fun e w' => ∃ v, e = .returned v ∧ OwnK encT 1 30 w' w.heap.size v (L) ∧ Below w.heap.size w w' := by
  have HSQ := Lib.hid hseq
  have HBB := Lib.hid hb0
  have HLL := Lib.hid hL
  clear hseq hb0 hL
  have hnil := run_eql_nilF gf lb
  have HEG := Lib.hid eg
  clear eg
  refine (callsIn_wide (n := 10)).1 ?_
  refine callsIn_of_wp_marks Try.func72 rfl trivial ?_ rfl
  simp only [Try.ntmps72, List.size_toArray, List.length_cons, List.length_nil, Nat.reduceAdd, Nat.reduceSub, Array.replicate_succ, Array.replicate_zero, List.push_toArray, List.append_toArray, List.nil_append, List.cons_append]
  gi_wp2_with fail
  clear hnil
  obtain ⟨W2, hW2⟩ : ∃ W2, W2 = w.alloc (.cells #[.slice none 0 0] 38) := ⟨_, rfl⟩
  have b2 := Boxed.new w 38 (.slice none 0 0)
  have HB2 : Hid (Below w.heap.size w W2) := Lib.hid (by rw [hW2]; exact (Below.refl _ _).alloc (Nat.le_refl _) _)
  have HI2 : Hid (GtI w w.heap.size [] W2) := Lib.hid ⟨HB2.out, _, by rw [hW2]; exact b2, World.ownsRow_nil _ _ _ _⟩
  have hsz2 : w.heap.size + 1 = W2.heap.size := by rw [hW2]; simp
  have HSZ := Lib.hid hsz2
  rw [← hW2]
  clear hW2 b2 hsz2
  refine wpIn_range_Q (n := 10) rfl (by omega) (gf := gf) (lb := lb) rfl trivial HEG.out HSQ.out HBB.out HB2.out (fun _ => rfl)
    (GtI w w.heap.size) (fun _ _ _ => False) (gtI_firm w _ _ (by have := HSZ.out; omega)) (fun c s A B h _ => h) HI2.out
    (fun pre x a' W' => a' = AppendSeqFr w.heap.size gf lb  x) ?axfirm ?assign ?body ?done ?stop
  case axfirm =>
    rintro pre x a' s X Y e hst
    exact e
  case assign =>
    intro L' pre x W' K hpx hI hK
    have HI := Lib.hid hI
    have HK := Lib.hid hK
    clear hI hK
    gi_wp2
    exact HK.out _ _ (Keep.refl _ _ _ _) HI.out rfl
  case body =>
    rintro L' pre x a' W hpx hI rfl
    obtain ⟨i1, v, hv, hrow⟩ := hI
    obtain ⟨A1, cc1, hvs, hl1, hc1, _⟩ := OwnK.rd (enc := encT) encT_len (show OwnK encT 1 30 W w.heap.size v pre from hrow)
    have hpl : pre.length + 1 ≤ 100000000 := by
      have h1 := hpx.length_le
      rw [List.length_append, List.length_singleton] at h1
      have := HLL.out
      omega
    obtain ⟨v1, w2, r1, hC⟩ := collStep (P := Try.prog) (enc := encT) (x := x) (n₀ := w.heap.size) (B := w.heap.size) 38 30 (.int .u32 0) 4 Try.underlying38 infoU rfl (by decide) (by decide) encT_len encT_one (by decide) hv hrow i1.size (by omega) (by omega) 38 #[.int .u32 (x : Int)] rfl
    obtain ⟨g6, c6, hv1⟩ := hC.sh
    have HFin : Hid (∀ a, postQ W2.heap.size b SU (GtI w w.heap.size) (fun _ _ _ => False) (pre ++ [x]) W .normal a (w2.setCell ⟨w.heap.size, 0, none⟩ v1)) := Lib.hid (fun a => by
      refine ⟨hC.keepQ hv hrow HBB.out (by have := HBB.out; omega) rfl (fun _ => rfl) HBB.out i1.size, ⟨i1.trans hC.bl, v1, hC.out, by simpa using hC.row⟩⟩)
    have hc := hv.cell
    have f0 := hC.box.cell
    have f1 := hC.box.frozen
    subst hv1
    subst hvs
    obtain ⟨pl, hpl2⟩ : ∃ pl, pl = pre.length := ⟨_, rfl⟩
    rw [← hpl2] at hc r1 f0 hl1 HFin hpl
    clear hv hrow hC i1 hpl2 hpx 
    gi_wp2_with (first | (gi_at_builtin; refine wplIn_append_run rfl _ _ _ rfl rfl rfl r1 ?_))
    exact HFin.out _
  case done =>
    rintro D W' hD hI hK
    have HK := Lib.hid hK
    obtain ⟨i1, v, hv, hrow⟩ := hI
    have HOwn : Hid (OwnK encT 1 30 (W'.putObj D (.deferred none)) w.heap.size v (L)) := Lib.hid (ownsRow_putObj hrow _ hK rfl)
    have HBe : Hid (Below w.heap.size w (W'.putObj D (.deferred none))) := Lib.hid (i1.grown (grownBy_putObj' W' D _) i1.size (fun k hk => by cases hk; have := HSZ.out; omega))
    have c5 := hv.cell
    obtain ⟨A1, cc1, hvs, hl1, hc1, _⟩ := OwnK.rd (enc := encT) encT_len (show OwnK encT 1 30 W' w.heap.size v (L) from hrow)
    subst hvs
    obtain ⟨yl, hyl⟩ : ∃ yl, yl = (L).length := ⟨_, rfl⟩
    rw [← hyl] at c5 hl1 HOwn
    clear i1 hv hrow hK hyl 
    gi_wp2
    refine ⟨by simp, .inl ⟨_, _, rfl, run_takeDeferred HK.out, ?_⟩⟩
    exact ⟨.slice A1 yl cc1, by simp [results, Try.results72, go_sem], _, rfl, HOwn.out, HBe.out⟩
  case stop =>
    rintro D cc pre W' hD hpx hI hK
    exact hI.elim


def TdI (w : World) (most : Int) (pre : List Nat) (W : World) : Prop := GtI w (w.heap.size + 1) pre W ∧ Boxed W w.heap.size 3 (.int .i64 most) ∧ pre.length ≤ most.toNat
def TdX (w : World) (most : Int) (L : List Nat) (c : Code) (pre : List Nat) (W : World) : Prop := c = .exit 0 ∧ GtI w (w.heap.size + 1) (L.take most.toNat) W
theorem tdI_firm (w : World) (most : Int) (D : Nat) (hD : w.heap.size < D) : Firm D SU (TdI w most) := by
  rintro s A B ⟨h1, h2, h3⟩ hst
  exact ⟨gtI_firm w _ D (by omega) _ _ _ h1 hst, Boxed.low h2 hst hD, h3⟩
theorem tdX_firm (w : World) (most : Int) (L : List Nat) (c : Code) (D : Nat) (hD : w.heap.size < D) : Firm D SU (TdX w most L c) := by
  rintro s A B ⟨h1, h2⟩ hst
  exact ⟨h1, gtI_firm w _ D (by omega) _ _ _ h2 hst⟩
theorem tdI_below {w : World} {most : Int} {pre : List Nat} {W W' : World} (h : TdI w most pre W) (hb : Below W.heap.size W W') : TdI w most pre W' := ⟨gtI_below h.1 hb, (hb.block _ h.2.1.lt).trans h.2.1, h.2.2⟩

abbrev toldFr (s gf : Nat) (lb : Array Value) (most : Int) (x : Nat) : Act := { tmps := #[.func (.func gf) #[] lb, .int .i64 most, undef, .pointer (some ⟨s, 0, none⟩), .slice none 0 0, .pointer (some ⟨s + 1, 0, none⟩), .int .u32 (x : Int), .func (.func gf) #[] lb, .bool false, .func (.func gf) #[] lb, .int .u32 (x : Int), undef, undef, undef, undef, undef, undef, undef, undef, undef], defers := [] }
set_option maxRecDepth 100000 in
set_option maxHeartbeats 4000000 in
theorem told_seq (gf : Nat) (lb : Array Value) (eg : ∀ args w, (callFunc gf args).run Try.prog w = .ok (.enter gf args) w) (b : Nat) (L : List Nat) (w0 w : World) (most : Int) (hm1 : -9223372036854775808 ≤ most) (hm2 : most ≤ 9223372036854775807) (hseq : SeqQ Fence.wide 9 Try.prog gf lb encK b SU L w) (hb0 : b ≤ w.heap.size) (hL : L.length ≤ 100000000) :
    Calls Try.prog 17 #[.func (.func gf) #[] lb, .int .i64 most] w fun e w' => ∃ v, e = .returned v ∧ OwnK encT 1 30 w' w.heap.size v (L.take most.toNat) ∧ Below w.heap.size w w' := by
  have HSQ := Lib.hid hseq
  have HBB := Lib.hid hb0
  have HLL := Lib.hid hL
  clear hseq hb0 hL
  have hnil := run_eql_nilF gf lb
  have HEG := Lib.hid eg
  clear eg
  refine (callsIn_wide (n := 10)).1 ?_
  refine callsIn_of_wp_marks Try.func17 rfl trivial ?_ rfl
  simp only [Try.ntmps17, List.size_toArray, List.length_cons, List.length_nil, Nat.reduceAdd, Nat.reduceSub, Array.replicate_succ, Array.replicate_zero, List.push_toArray, List.append_toArray, List.nil_append, List.cons_append]
  gi_wp2_with fail
  clear hnil
  obtain ⟨W2, hW2⟩ : ∃ W2, W2 = (w.alloc (.cells #[.int .i64 most] 3)).alloc (.cells #[.slice none 0 0] 38) := ⟨_, rfl⟩
  have b1 := Boxed.new w 3 (.int .i64 most)
  have b2 := Boxed.new (w.alloc (.cells #[.int .i64 most] 3)) 38 (.slice none 0 0)
  simp only [World.size_alloc] at b2
  have HB2 : Hid (Below w.heap.size w W2) := Lib.hid (by rw [hW2]; exact ((Below.refl _ _).alloc (Nat.le_refl _) _).alloc (by simp) _)
  have HI2 : Hid (TdI w most [] W2) := Lib.hid ⟨⟨HB2.out, _, by rw [hW2]; exact b2, World.ownsRow_nil _ _ _ _⟩, by rw [hW2]; exact b1.alloc _, Nat.zero_le _⟩
  have hsz2 : w.heap.size + 2 = W2.heap.size := by rw [hW2]; simp
  have HSZ := Lib.hid hsz2
  rw [← hW2]
  clear hW2 b1 b2 hsz2
  refine wpIn_range_Q (n := 10) rfl (by omega) (gf := gf) (lb := lb) rfl trivial HEG.out HSQ.out HBB.out HB2.out (fun _ => rfl)
    (TdI w most) (TdX w most L) (tdI_firm w most _ (by have := HSZ.out; omega)) (fun c => tdX_firm w most L c _ (by have := HSZ.out; omega)) HI2.out
    (fun pre x a' W' => a' = toldFr w.heap.size gf lb most x) ?axfirm ?assign ?body ?done ?stop
  case axfirm =>
    rintro pre x a' s X Y e hst
    exact e
  case assign =>
    intro L' pre x W' K hpx hI hK
    have HI := Lib.hid hI
    have HK := Lib.hid hK
    clear hI hK
    gi_wp2
    exact HK.out _ _ (Keep.refl _ _ _ _) HI.out rfl
  case body =>
    rintro L' pre x a' W hpx hI rfl
    obtain ⟨⟨i1, v, hv, hrow⟩, hbm, hpl9⟩ := hI
    have hI0 : GtI w (w.heap.size + 1) pre W := ⟨i1, v, hv, hrow⟩
    obtain ⟨A1, cc1, hvs, hl1, hc1, _⟩ := OwnK.rd (enc := encT) encT_len (show OwnK encT 1 30 W w.heap.size v pre from hrow)
    by_cases hfull : most ≤ (pre.length : Int)
    · have hc := hv.cell
      have hcm := hbm.cell
      subst hvs
      obtain ⟨pl, hpl2⟩ : ∃ pl, pl = pre.length := ⟨_, rfl⟩
      have HFin : Hid (∀ a, postQ W2.heap.size b SU (TdI w most) (TdX w most L) (pre ++ [x]) W (.exit 0) a W) := Lib.hid fun a => ⟨Keep.refl _ _ _ _, rfl, by rw [pre_take hpx (by omega)]; exact hI0⟩
      rw [← hpl2] at hc hl1 hfull
      clear hv hrow i1 hpl2 hI0 hpl9 hbm hpx
      gi_wp2_with fail
      exact HFin.out _
    · have hpl : pre.length + 1 ≤ 100000000 := by
        have h1 := hpx.length_le
        rw [List.length_append, List.length_singleton] at h1
        have := HLL.out
        omega
      obtain ⟨v1, w2, r1, hC⟩ := collStep (P := Try.prog) (enc := encT) (x := x) (n₀ := w.heap.size) (B := (w.heap.size + 1)) 38 30 (.int .u32 0) 4 Try.underlying38 infoU rfl (by decide) (by decide) encT_len encT_one (by decide) hv hrow i1.size (by omega) (by omega) 38 #[.int .u32 (x : Int)] rfl
      obtain ⟨g6, c6, hv1⟩ := hC.sh
      have HFin : Hid (∀ a, postQ W2.heap.size b SU (TdI w most) (TdX w most L) (pre ++ [x]) W .normal a (w2.setCell ⟨w.heap.size + 1, 0, none⟩ v1)) := Lib.hid (fun a => by
        refine ⟨hC.keepQ hv hrow HBB.out (by have := HBB.out; omega) rfl (fun _ => rfl) HBB.out i1.size, ⟨⟨i1.trans hC.bl, v1, hC.out, by simpa using hC.row⟩, hC.boxed hrow hbm (by omega) (by decide), by simp; omega⟩⟩)
      have hc := hv.cell
      have hcm := hbm.cell
      have f0 := hC.box.cell
      have f1 := hC.box.frozen
      subst hv1
      subst hvs
      obtain ⟨pl, hpl2⟩ : ∃ pl, pl = pre.length := ⟨_, rfl⟩
      rw [← hpl2] at hc r1 f0 hl1 hfull HFin hpl
      clear hv hrow hC i1 hpl2 hpx hI0 hpl9 hbm
      gi_wp2_with (first | (gi_at_builtin; refine wplIn_append_run rfl _ _ _ rfl rfl rfl r1 ?_))
      exact HFin.out _
  case done =>
    rintro D W' hD ⟨hI, hbm, hpl⟩ hK
    have hI : GtI w (w.heap.size + 1) (L.take most.toNat) W' := by rw [List.take_of_length_le (by omega)]; exact hI
    have HK := Lib.hid hK
    obtain ⟨i1, v, hv, hrow⟩ := hI
    have HOwn : Hid (OwnK encT 1 30 (W'.putObj D (.deferred none)) w.heap.size v (L.take most.toNat)) := Lib.hid (ownsRow_putObj hrow _ hK rfl)
    have HBe : Hid (Below w.heap.size w (W'.putObj D (.deferred none))) := Lib.hid (i1.grown (grownBy_putObj' W' D _) i1.size (fun k hk => by cases hk; have := HSZ.out; omega))
    have c5 := hv.cell
    obtain ⟨A1, cc1, hvs, hl1, hc1, _⟩ := OwnK.rd (enc := encT) encT_len (show OwnK encT 1 30 W' w.heap.size v (L.take most.toNat) from hrow)
    subst hvs
    obtain ⟨yl, hyl⟩ : ∃ yl, yl = (L.take most.toNat).length := ⟨_, rfl⟩
    rw [← hyl] at c5 hl1 HOwn
    clear i1 hv hrow hK hyl hbm hpl
    gi_wp2
    refine ⟨by simp, .inl ⟨_, _, rfl, run_takeDeferred HK.out, ?_⟩⟩
    exact ⟨.slice A1 yl cc1, by simp [results, Try.results17, go_sem], _, rfl, HOwn.out, HBe.out⟩
  case stop =>
    rintro D cc pre W' hD hpx ⟨rfl, hI⟩ hK
    have HK := Lib.hid hK
    obtain ⟨i1, v, hv, hrow⟩ := hI
    have HOwn : Hid (OwnK encT 1 30 (W'.putObj D (.deferred none)) w.heap.size v (L.take most.toNat)) := Lib.hid (ownsRow_putObj hrow _ hK rfl)
    have HBe : Hid (Below w.heap.size w (W'.putObj D (.deferred none))) := Lib.hid (i1.grown (grownBy_putObj' W' D _) i1.size (fun k hk => by cases hk; have := HSZ.out; omega))
    have c5 := hv.cell
    obtain ⟨A1, cc1, hvs, hl1, hc1, _⟩ := OwnK.rd (enc := encT) encT_len (show OwnK encT 1 30 W' w.heap.size v (L.take most.toNat) from hrow)
    subst hvs
    obtain ⟨yl, hyl⟩ : ∃ yl, yl = (L.take most.toNat).length := ⟨_, rfl⟩
    rw [← hyl] at c5 hl1 HOwn
    clear i1 hv hrow hK hyl hpx
    gi_wp2
    refine ⟨by simp, .inl ⟨_, _, rfl, run_takeDeferred HK.out, ?_⟩⟩
    exact ⟨.slice A1 yl cc1, by simp [results, Try.results17, go_sem], _, rfl, HOwn.out, HBe.out⟩


set_option maxRecDepth 100000 in
set_option maxHeartbeats 1000000 in
theorem Collect_seq (gf : Nat) (lb : Array Value) (eg : ∀ args w, (callFunc gf args).run Try.prog w = .ok (.enter gf args) w) (b : Nat) (L : List Nat) (w : World) (hseq : SeqQ Fence.wide 9 Try.prog gf lb encK b SU L w) (hb0 : b ≤ w.heap.size) (hL : L.length ≤ 100000000) :
    Calls Try.prog 51 #[.func (.func gf) #[] lb] w fun e w' => ∃ v, e = .returned v ∧ OwnK encT 1 30 w' w.heap.size v L ∧ Below w.heap.size w w' := by
  have C := Lib.hid (AppendSeq_seq gf lb eg b L w w hseq hb0 hL)
  clear hseq hb0 hL eg
  go_enter Try.func51, Try.ntmps51
  go_wp2_with fail
  refine C.out.mono ?_
  rintro e w1 ⟨v, rfl, ho, hb⟩
  have HO := Lib.hid ho
  have HB := Lib.hid hb
  clear ho hb C
  go_wp2
  go_ret
  exact ⟨v, rfl, HO.out, HB.out⟩
end Go.Proofs.Ytaaddckhldccjaa
