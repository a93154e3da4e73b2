/- Marks that are told, at most so many. -/
import Derived.Test.YtlbphgbhkbgknaaRunes
import Derived.Test.YtlbphgbhkbgknaaText
import Derived.Test.YtlbphgbhkbgknaaOwnIn
namespace Go.Proofs.Ytlbphgbhkbgknaa
open Go.RowKit Go.Shelf
set_option linter.unusedVariables false
set_option linter.unusedSimpArgs false
attribute [local go_sem] Oper.semAt_some

theorem pure_own {β : Type} (B : Nat) (p : β → Prop) : OwnFrom B (fun s (_ : World) => p s) := fun s W W' row hs hg hr => hs
theorem run_eql_nilF (gf : Nat) (lb : Array Value) (W : World) : (binOp .eql 37 (.func (.func gf) #[] lb) .nilFunc).run Try.prog W = .ok (.bool false) W := by
  have hu := Try.underlying37
  have h : (Op.equalIn (9999 + 1) 37 (.func (.func gf) #[] lb) .nilFunc).run Try.prog W = .ok false W := by
    rw [Op.equalIn]
    simp [run_underlying hu]
  simp only [binOp]
  simp [Op.equal, Op.maxDepth, h]
/-- What holds as one goes on: the collected list, in its box; how many at most, in its box. -/
def MkI (w : World) (most : Nat) (pre : List (Nat × Nat)) (W : World) : Prop :=
  ((∃ v, Boxed W (w.heap.size + 1) 30 v ∧ W.ownsRow w.heap.size 34 2 v pre.length (pre.flatMap encMk) ∧ pre.length ≤ most) ∧ Boxed W w.heap.size 3 (.int .i64 (most : Nat))) ∧ Below w.heap.size w W
def MkX (w : World) (most : Nat) (c : Code) (pre : List (Nat × Nat)) (W : World) : Prop :=
  ((∃ v, Boxed W (w.heap.size + 1) 30 v ∧ W.ownsRow w.heap.size 34 2 v (pre.take most).length ((pre.take most).flatMap encMk) ∧ pre.length = most + 1) ∧ Below w.heap.size w W) ∧ c = .exit 0
theorem mkI_own (w : World) (most : Nat) (B : Nat) (hB : w.heap.size ≤ B) : OwnFrom B (MkI w most) :=
  OwnFrom.and (Own.from (Own.and (holdsRow_own w.heap.size (w.heap.size + 1) 30 34 2 (fun pre : List (Nat × Nat) => pre.length) (fun pre => pre.flatMap encMk) (fun pre _ => pre.length ≤ most)) (boxed_own _ _ _)) _) (ownFrom_below (Nat.le_refl _) hB)
theorem mkX_own (w : World) (most : Nat) (c : Code) (B : Nat) (hB : w.heap.size ≤ B) : OwnFrom B (MkX w most c) :=
  OwnFrom.and (OwnFrom.and (Own.from (holdsRow_own w.heap.size (w.heap.size + 1) 30 34 2 (fun pre : List (Nat × Nat) => (pre.take most).length) (fun pre => (pre.take most).flatMap encMk) (fun pre _ => pre.length = most + 1)) _) (ownFrom_below (Nat.le_refl _) hB)) (pure_own _ _)
theorem prefix_take {α : Type} {pre M : List α} {n : Nat} (h : pre <+: M) (hl : n < pre.length) : pre.take n = M.take n := by
  obtain ⟨t, rfl⟩ := h
  rw [List.take_append_of_le_length (by omega)]

set_option maxRecDepth 100000 in
set_option maxHeartbeats 2000000 in
theorem marks_seq (gf : Nat) (lb : Array Value) (most : Nat) (M : List (Nat × Nat)) (w : World) (eg : ∀ args w, (callFunc gf args).run Try.prog w = .ok (.enter gf args) w)
    (hseq : SeqStopsK Fence.wide 9 Try.prog gf lb encM KeepsWalks (fun ys => ys = M) (fun pre => pre <+: M) M.length w) (hM : M.length ≤ 100000000) (hm : most ≤ 100000000) :
    Calls Try.prog 15 #[.func (.func gf) #[] lb, .int .i64 (most : Nat)] w fun e w' => ∃ v, e = .returned v ∧ OwnM w' w.heap.size v (M.take most) ∧ Below w.heap.size w w' := by
  have HS := Lib.hid hseq
  have HE := Lib.hid eg
  have h1 : 1 ≤ 10 := by omega
  clear hseq eg
  refine (callsIn_wide (n := 10)).1 ?_
  refine callsIn_of_wp_marks Try.func15 rfl trivial ?_ rfl
  simp only [Try.ntmps15, List.size_toArray, List.length_cons, List.length_nil, Nat.reduceAdd, Nat.reduceSub, Array.replicate_succ, Array.replicate_zero, List.push_toArray, List.append_toArray, List.nil_append, List.cons_append]
  have hnil := run_eql_nilF gf lb
  gi_wp2_with fail
  clear hnil
  obtain ⟨W0, hW0⟩ : ∃ W0, W0 = (w.alloc (.cells #[.int .i64 (most : Nat)] 3)).alloc (.cells #[.slice none 0 0] 30) := ⟨_, rfl⟩
  have hI0 : MkI w most [] W0 := by
    rw [hW0]
    refine ⟨⟨⟨_, ?_, World.ownsRow_nil _ _ _ _, Nat.zero_le _⟩, (Boxed.new w _ _).alloc _⟩, ((Below.refl w.heap.size w).alloc (Nat.le_refl _) _).alloc (by simp) _⟩
    have := Boxed.new (w.alloc (.cells #[.int .i64 (most : Nat)] 3)) 30 (.slice none 0 0)
    rw [World.size_alloc] at this
    exact this
  have hsz0 : W0.heap.size = w.heap.size + 2 := by rw [hW0]; simp
  rw [← hW0]
  clear hW0
  refine wpIn_rangeFunc_ownG rfl h1 (gf := gf) (lb := lb) rfl trivial HE.out HS.out walksK_t walksK_b hI0.2 (fun _ => rfl)
    (MkI w most) (MkX w most) (mkI_own w most _ (by omega)) (fun c => mkX_own w most c _ (by omega)) hI0
    (fun x => { tmps := #[.func (.func gf) #[] lb, .int .i64 (most : Nat), undef, .pointer (some ⟨w.heap.size, 0, none⟩), .slice none 0 0, .pointer (some ⟨w.heap.size + 1, 0, none⟩), .int .i64 (x.1 : Nat), .int .i32 (x.2 : Nat), .func (.func gf) #[] lb, .bool false, .func (.func gf) #[] lb, .int .i64 (x.1 : Nat), .int .i32 (x.2 : Nat), undef, undef, undef, undef, undef, undef, undef, undef, undef, undef, undef], defers := [] }) ?assign ?body ?done ?stop
  case assign =>
    intro L x W K hK
    gi_wp2
    exact hK
  case body =>
    rintro L pre x W ⟨⟨⟨v, hv, hrow, hlen⟩, hbx⟩, hB⟩ hlt
    have hc := hv.cell
    have hcb := hbx.cell
    obtain ⟨A, c, hvs, hl1, hl2, _⟩ := OwnK.rd encMk_len (show OwnK encMk 2 _ W w.heap.size v pre from hrow)
    subst hvs
    by_cases hfull : most ≤ pre.length
    · have hge : (pre.length : Int) ≥ (most : Int) := by omega
      have HX : Hid (KeepsFrom W0.heap.size W W ∧ MkX w most (.exit 0) (pre ++ [x]) W) := Lib.hid ⟨KeepsFrom.refl _ _, ⟨⟨_, hv, by rw [List.take_append_of_le_length (by omega), List.take_of_length_le (by omega)]; exact hrow, by simp; omega⟩, hB⟩, rfl⟩
      obtain ⟨pl, hpl⟩ : ∃ pl, pl = pre.length := ⟨_, rfl⟩
      rw [← hpl] at hc hge hl1
      clear hv hrow hbx hB hlt hfull hpl hlen hI0 hsz0
      gi_wp2
      exact HX.out
    · have hge : ¬ (most : Int) ≤ (pre.length : Int) := by omega
      have hbl : (W.alloc (.cells #[.int .i64 (x.1 : Nat), .int .i32 (x.2 : Nat)] 34)).ownsRow w.heap.size 34 2 (.slice A pre.length c) pre.length (pre.flatMap encMk) := hrow.alloc _
      have hrd := RdK.one (enc := encMk) (sz := 2) W 34 x #[.int .i64 (x.1 : Nat), .int .i32 (x.2 : Nat)] (0, 0) rfl rfl
      obtain ⟨v1, w2, r1, o1, g1, at1⟩ := run_append_rdK (P := Try.prog) (c := 1) w.heap.size 30 30 34 (.agg #[.int .i64 0, .int .i32 0]) 16 Try.underlying30 infoMk rfl (by decide) (by decide) encMk_len encMk_one (show OwnK encMk 2 _ _ w.heap.size _ pre from hbl) hrd (by omega) (by have := hB.size; simp; omega)
      have o2 : w2.ownsRow w.heap.size 34 2 v1 (pre.length + 1) ((pre ++ [x]).flatMap encMk) := by
        have := o1
        unfold OwnK at this
        simpa using this
      obtain ⟨b1, b2, b3, b4, b5⟩ := Boxed.appended hv (by decide) hrow hB.size (by omega) o2 g1
      obtain ⟨g, cap, hv1⟩ := ownsRow_succ o2
      have HN : Hid (KeepsFrom W0.heap.size W (w2.setCell ⟨w.heap.size + 1, 0, none⟩ v1) ∧ KeepsWalks W (w2.setCell ⟨w.heap.size + 1, 0, none⟩ v1) ∧ MkI w most (pre ++ [x]) (w2.setCell ⟨w.heap.size + 1, 0, none⟩ v1)) := Lib.hid ⟨b4.from _, b4.walks, ⟨⟨⟨_, b2, by simpa using b3, by simp; omega⟩, ?_⟩, hB.trans b5⟩⟩
      case refine_1 => exact ((hbx.alloc _).kept g1 ((hbx.alloc _).not_row (by decide) hbl)).kept (grownBy_setCell' w2 (w.heap.size + 1) v1) (by simp)
      subst hv1
      have hc1 := b1.cell
      have hf1 := b1.frozen
      obtain ⟨pl, hpl⟩ : ∃ pl, pl = pre.length := ⟨_, rfl⟩
      rw [← hpl] at hc hge hl1 r1 hc1 HN
      clear hv hrow hbx hB hlt hfull hpl hlen hI0 hbl hrd o1 g1 at1 o2 b1 b2 b3 b4 b5 hsz0
      gi_wp2_with (first | (gi_at_builtin; refine wplIn_append_run rfl _ _ _ rfl rfl rfl r1 ?_))
      exact HN.out
  case done =>
    rintro D ys W hD rfl ⟨⟨⟨v, hv, hrow, hlen⟩, hbx⟩, hB⟩ hK
    have hc := hv.cell
    have HR := Lib.hid (And.intro hrow (And.intro hlen hB))
    clear hrow hbx hv hB
    gi_wp2
    refine ⟨by simp, .inl ⟨_, _, rfl, run_takeDeferred hK, ?_⟩⟩
    exact ⟨_, results_tmp rfl _ _ _, _, rfl, by rw [List.take_of_length_le hlen]; exact ownsRow_putObj HR.out.1 _ hK rfl, HR.out.2.2.trans (belowK_b (w := w) (Nat.le_refl _) W D _ _ (by omega) hK rfl rfl)⟩
  case stop =>
    rintro D c pre W hD hpre ⟨⟨⟨v, hv, hrow, hlen⟩, hB⟩, rfl⟩ hK
    have hc := hv.cell
    have HR := Lib.hid (And.intro hrow (And.intro hlen (And.intro hB hpre)))
    have HPt : Hid (pre.take most = M.take most) := Lib.hid (prefix_take hpre (by omega))
    clear hrow hv hB hpre
    gi_wp2
    refine ⟨by simp, .inl ⟨_, _, rfl, run_takeDeferred hK, ?_⟩⟩
    exact ⟨_, results_tmp rfl _ _ _, _, rfl, by rw [← HPt.out]; exact ownsRow_putObj HR.out.1 _ hK rfl, HR.out.2.2.1.trans (belowK_b (w := w) (Nat.le_refl _) W D _ _ (by omega) hK rfl rfl)⟩
end Go.Proofs.Ytlbphgbhkbgknaa
