/- Tokens that are told, gathered. -/
import Derived.Test.YtkkeodlnejckjaaGreatCollQ
import Derived.Test.YtkkeodlnejckjaaGreatWoMath
import Derived.Test.YtkkeodlnejckjaaGreatTabEq
import Derived.RangeFuncCalls
import Derived.TacticsIn
import Derived.LoopIn
namespace Go.Proofs.YtkkeodlnejckjaaGreat
open Go.RowKit Go.Shelf
set_option linter.unusedVariables false
set_option linter.unusedSimpArgs false
attribute [local go_sem] Oper.semAt_some

abbrev Tok := ByteArray × Nat
abbrev encTk : Tok → List Value := fun x => [.string x.1, .int .i64 (x.2 : Nat)]
theorem encTk_len (x : Tok) : (encTk x).length = 2 := rfl
theorem encTk_one : ∀ x, ∀ u ∈ encTk x, u.oneCell' = true := by
  intro x u hu
  simp at hu
  rcases hu with rfl | rfl <;> rfl
theorem infoTk : (Tryz.prog.info? 160).map (fun i => (i.zero, i.size, i.bytes)) = some (some (.agg #[.string .empty, .int .i64 0]), 2, 24) := by kernel_rfl
abbrev encK : Tok → Array Value := fun x => #[.agg #[.string x.1, .int .i64 (x.2 : Nat)]]
/-- The types that one who gathers tokens writes. -/
def S33 (t : TypeId) : Bool := t == 157 || t == 160
/-- A value that reads as tokens. -/
def TS (w : World) (v : Value) (L : List Tok) : Prop := ∃ A n c, v = .slice A n c ∧ n ≤ c ∧ c ≤ 9223372036854775807 ∧ RdK encTk 2 w A n L
theorem TS.below {w w' : World} {v : Value} {L : List Tok} (h : TS w v L) (hb : Below w.heap.size w w') : TS w' v L := by
  obtain ⟨A, n, c, e, h1, h2, h3⟩ := h
  exact ⟨A, n, c, e, h1, h2, h3.below hb⟩
theorem OwnK.ts {w : World} {base : Nat} {v : Value} {L : List Tok} (h : OwnK encTk 2 160 w base v L) : TS w v L := by
  obtain ⟨A, c, e, h1, h2, h3⟩ := OwnK.rd encTk_len h
  exact ⟨A, _, c, e, h1, h2, h3⟩
theorem run_eql_nilF (gf : Nat) (lb : Array Value) (W : World) : (binOp .eql 174 (.func (.func gf) #[] lb) .nilFunc).run Tryz.prog W = .ok (.bool false) W := by
  have hu := Tryz.underlying174
  have h : (Op.equalIn (9999 + 1) 174 (.func (.func gf) #[] lb) .nilFunc).run Tryz.prog W = .ok false W := by
    rw [Op.equalIn]
    simp [run_underlying hu]
  simp only [binOp]
  simp [Op.equal, Op.maxDepth, h]
theorem tok_box {W : World} {g : Nat} {x : Tok} (h : W.heap[g]? = some (.cells #[.string x.1, .int .i64 (x.2 : Nat)] 160 (0, 0))) : W.cell? ⟨g, 0, none⟩ = some (.string x.1) ∧ W.cell? ⟨g, 1, none⟩ = some (.int .i64 (x.2 : Nat)) := by simp [World.cell?, h]
/-- What is gathered as yet: its box, its row. -/
def GtI (w : World) (Bl : Nat) (pre : List Tok) (W : World) : Prop := Below w.heap.size w W ∧ ∃ v, Boxed W Bl 157 v ∧ W.ownsRow w.heap.size 160 2 v pre.length (pre.flatMap encTk)
theorem gtI_firm (w : World) (Bl D : Nat) (hD : w.heap.size ≤ D) : Firm D S33 (GtI w Bl) := by
  rintro s A B ⟨hb, v, h1, h2⟩ hst
  exact ⟨hb.trans ((hst.mono hD).belowB hb.size), v, Boxed.step h1 hst rfl, ownsRow_step h2 hst rfl⟩
theorem gtI_below {w : World} {Bl : Nat} {pre : List Tok} {W W' : World} (h : GtI w Bl pre W) (hb : Below W.heap.size W W') : GtI w Bl pre W' := by
  obtain ⟨h0, v, h1, h2⟩ := h
  exact ⟨Below.thn h0 hb, v, (hb.block _ h1.lt).trans h1, OwnK.below (enc := encTk) h2 hb⟩
theorem pre_take {L pre : List Tok} {x : Tok} {k : Nat} (h : pre ++ [x] <+: L) (hk : pre.length = k) : L.take k = pre := by
  have h1 : pre <+: L := List.IsPrefix.trans ⟨[x], rfl⟩ h
  have := List.prefix_iff_eq_take.1 h1
  rw [hk] at this
  exact this.symm

abbrev AppendSeqFr (s gf : Nat) (lb : Array Value)  (g : Nat) (x : Tok) : Act := { tmps := #[.slice none 0 0, .func (.func gf) #[] lb, .pointer (some ⟨s, 0, none⟩), undef, .slice none 0 0, .pointer (some ⟨g, 0, none⟩), .func (.func gf) #[] lb, .agg #[.string x.1, .int .i64 (x.2 : Nat)], undef, undef, undef, undef, undef], defers := [] }
set_option maxRecDepth 100000 in
set_option maxHeartbeats 4000000 in
theorem AppendSeq_seq (gf : Nat) (lb : Array Value) (eg : ∀ args w, (callFunc gf args).run Tryz.prog w = .ok (.enter gf args) w) (b : Nat) (L : List Tok) (w0 w : World)  (hseq : SeqQ Fence.wide 9 Tryz.prog gf lb encK b S33 L w) (hb0 : b ≤ w.heap.size) (hL : L.length ≤ 100000000) :
    Calls Tryz.prog 126 #[.slice none 0 0, .func (.func gf) #[] lb] w fun e w' => ∃ v, e = .returned v ∧ OwnK encTk 2 160 w' w.heap.size v (L) ∧ Below w.heap.size w w' := by
  have HSQ := Lib.hid hseq
  have HBB := Lib.hid hb0
  have HLL := Lib.hid hL
  clear hseq hb0 hL
  have hnil := run_eql_nilF gf lb
  have HEG := Lib.hid eg
  clear eg
  refine (callsIn_wide (n := 10)).1 ?_
  refine callsIn_of_wp_marks Tryz.func126 rfl trivial ?_ rfl
  simp only [Tryz.ntmps126, List.size_toArray, List.length_cons, List.length_nil, Nat.reduceAdd, Nat.reduceSub, Array.replicate_succ, Array.replicate_zero, List.push_toArray, List.append_toArray, List.nil_append, List.cons_append]
  gi_wp2_with fail
  clear hnil
  obtain ⟨W2, hW2⟩ : ∃ W2, W2 = w.alloc (.cells #[.slice none 0 0] 157) := ⟨_, rfl⟩
  have b2 := Boxed.new w 157 (.slice none 0 0)
  have HB2 : Hid (Below w.heap.size w W2) := Lib.hid (by rw [hW2]; exact (Below.refl _ _).alloc (Nat.le_refl _) _)
  have HI2 : Hid (GtI w w.heap.size [] W2) := Lib.hid ⟨HB2.out, _, by rw [hW2]; exact b2, World.ownsRow_nil _ _ _ _⟩
  have hsz2 : w.heap.size + 1 = W2.heap.size := by rw [hW2]; simp
  have HSZ := Lib.hid hsz2
  rw [← hW2]
  clear hW2 b2 hsz2
  refine wpIn_range_Q (n := 10) rfl (by omega) (gf := gf) (lb := lb) rfl trivial HEG.out HSQ.out HBB.out HB2.out (fun _ => rfl)
    (GtI w w.heap.size) (fun _ _ _ => False) (gtI_firm w _ _ (by have := HSZ.out; omega)) (fun c s A B h _ => h) HI2.out
    (fun pre x a' W' => ∃ g, a' = AppendSeqFr w.heap.size gf lb  g x ∧ W'.heap[g]? = some (.cells #[.string x.1, .int .i64 (x.2 : Nat)] 160 (0, 0))) ?axfirm ?assign ?body ?done ?stop
  case axfirm =>
    rintro pre x a' s X Y ⟨g, e, h⟩ hst
    exact ⟨g, e, hst.own _ _ _ _ rfl h⟩
  case assign =>
    intro L' pre x W' K hpx hI hK
    have HI := Lib.hid hI
    have HK := Lib.hid hK
    clear hI hK
    gi_wp2
    have hbA : Below W'.heap.size W' (W'.alloc (.cells #[.string x.1, .int .i64 (x.2 : Nat)] 160)) := (Below.refl _ _).alloc (Nat.le_refl _) _
    exact HK.out _ _ (Keep.below hbA) (gtI_below HI.out hbA) ⟨W'.heap.size, rfl, World.alloc_heap_new W' _⟩
  case body =>
    rintro L' pre x a' W hpx hI ⟨g, rfl, hg⟩
    obtain ⟨i1, v, hv, hrow⟩ := hI
    obtain ⟨A1, cc1, hvs, hl1, hc1, _⟩ := OwnK.rd (enc := encTk) encTk_len (show OwnK encTk 2 160 W w.heap.size v pre from hrow)
    have hpl : pre.length + 1 ≤ 100000000 := by
      have h1 := hpx.length_le
      rw [List.length_append, List.length_singleton] at h1
      have := HLL.out
      omega
    obtain ⟨v1, w2, r1, hC⟩ := collStep (P := Tryz.prog) (enc := encTk) (x := x) (n₀ := w.heap.size) (B := w.heap.size) 157 160 (.agg #[.string .empty, .int .i64 0]) 24 Tryz.underlying157 infoTk rfl (by decide) (by decide) encTk_len encTk_one (by decide) hv hrow i1.size (by omega) (by omega) 157 #[.string x.1, .int .i64 (x.2 : Nat)] rfl
    obtain ⟨g6, c6, hv1⟩ := hC.sh
    have HFin : Hid (∀ a, postQ W2.heap.size b S33 (GtI w w.heap.size) (fun _ _ _ => False) (pre ++ [x]) W .normal a (w2.setCell ⟨w.heap.size, 0, none⟩ v1)) := Lib.hid (fun a => by
      refine ⟨hC.keepQ hv hrow HBB.out (by have := HBB.out; omega) rfl rfl HBB.out i1.size, ⟨i1.trans hC.bl, v1, hC.out, by simpa using hC.row⟩⟩)
    have hc := hv.cell
    obtain ⟨g0, g1⟩ := tok_box hg
    have f0 := hC.box.cell
    have f1 := hC.box.frozen
    subst hv1
    subst hvs
    obtain ⟨pl, hpl2⟩ : ∃ pl, pl = pre.length := ⟨_, rfl⟩
    rw [← hpl2] at hc r1 f0 hl1 HFin hpl
    clear hv hrow hC i1 hg hpl2 hpx 
    gi_wp2_with (first | (gi_at_builtin; refine wplIn_append_run rfl _ _ _ rfl rfl rfl r1 ?_))
    exact HFin.out _
  case done =>
    rintro D W' hD hI hK
    have HK := Lib.hid hK
    obtain ⟨i1, v, hv, hrow⟩ := hI
    have HOwn : Hid (OwnK encTk 2 160 (W'.putObj D (.deferred none)) w.heap.size v (L)) := Lib.hid (ownsRow_putObj hrow _ hK rfl)
    have HBe : Hid (Below w.heap.size w (W'.putObj D (.deferred none))) := Lib.hid (i1.grown (grownBy_putObj' W' D _) i1.size (fun k hk => by cases hk; have := HSZ.out; omega))
    have c5 := hv.cell
    obtain ⟨A1, cc1, hvs, hl1, hc1, _⟩ := OwnK.rd (enc := encTk) encTk_len (show OwnK encTk 2 160 W' w.heap.size v (L) from hrow)
    subst hvs
    obtain ⟨yl, hyl⟩ : ∃ yl, yl = (L).length := ⟨_, rfl⟩
    rw [← hyl] at c5 hl1 HOwn
    clear i1 hv hrow hK hyl 
    gi_wp2
    refine ⟨by simp, .inl ⟨_, _, rfl, run_takeDeferred HK.out, ?_⟩⟩
    exact ⟨.slice A1 yl cc1, by simp [results, Tryz.results126, go_sem], _, rfl, HOwn.out, HBe.out⟩
  case stop =>
    rintro D cc pre W' hD hpx hI hK
    exact hI.elim


def TdI (w : World) (most : Nat) (pre : List Tok) (W : World) : Prop := GtI w (w.heap.size + 1) pre W ∧ Boxed W w.heap.size 3 (.int .i64 (most : Nat)) ∧ pre.length ≤ most
def TdX (w : World) (most : Nat) (L : List Tok) (c : Code) (pre : List Tok) (W : World) : Prop := c = .exit 0 ∧ GtI w (w.heap.size + 1) (L.take most) W
theorem tdI_firm (w : World) (most D : Nat) (hD : w.heap.size < D) : Firm D S33 (TdI w most) := by
  rintro s A B ⟨h1, h2, h3⟩ hst
  exact ⟨gtI_firm w _ D (by omega) _ _ _ h1 hst, Boxed.low h2 hst hD, h3⟩
theorem tdX_firm (w : World) (most : Nat) (L : List Tok) (c : Code) (D : Nat) (hD : w.heap.size < D) : Firm D S33 (TdX w most L c) := by
  rintro s A B ⟨h1, h2⟩ hst
  exact ⟨h1, gtI_firm w _ D (by omega) _ _ _ h2 hst⟩
theorem tdI_below {w : World} {most : Nat} {pre : List Tok} {W W' : World} (h : TdI w most pre W) (hb : Below W.heap.size W W') : TdI w most pre W' := ⟨gtI_below h.1 hb, (hb.block _ h.2.1.lt).trans h.2.1, h.2.2⟩

abbrev toldFr (s gf : Nat) (lb : Array Value) (most : Nat) (g : Nat) (x : Tok) : Act := { tmps := #[.func (.func gf) #[] lb, .int .i64 (most : Nat), undef, .pointer (some ⟨s, 0, none⟩), .slice none 0 0, .pointer (some ⟨s + 1, 0, none⟩), .pointer (some ⟨g, 0, none⟩), .func (.func gf) #[] lb, .bool false, .func (.func gf) #[] lb, .agg #[.string x.1, .int .i64 (x.2 : Nat)], undef, undef, undef, undef, undef, undef, undef, undef, undef], defers := [] }
set_option maxRecDepth 100000 in
set_option maxHeartbeats 1000000 in
theorem Collect_seq (gf : Nat) (lb : Array Value) (eg : ∀ args w, (callFunc gf args).run Tryz.prog w = .ok (.enter gf args) w) (b : Nat) (L : List Tok) (w : World) (hseq : SeqQ Fence.wide 9 Tryz.prog gf lb encK b S33 L w) (hb0 : b ≤ w.heap.size) (hL : L.length ≤ 100000000) :
    Calls Tryz.prog 120 #[.func (.func gf) #[] lb] w fun e w' => ∃ v, e = .returned v ∧ OwnK encTk 2 160 w' w.heap.size v L ∧ Below w.heap.size w w' := by
  have C := Lib.hid (AppendSeq_seq gf lb eg b L w w hseq hb0 hL)
  clear hseq hb0 hL eg
  go_enter Tryz.func120, Tryz.ntmps120
  go_wp2_with fail
  refine C.out.mono ?_
  rintro e w1 ⟨v, rfl, ho, hb⟩
  have HO := Lib.hid ho
  have HB := Lib.hid hb
  clear ho hb C
  go_wp2
  go_ret
  exact ⟨v, rfl, HO.out, HB.out⟩
end Go.Proofs.YtkkeodlnejckjaaGreat
