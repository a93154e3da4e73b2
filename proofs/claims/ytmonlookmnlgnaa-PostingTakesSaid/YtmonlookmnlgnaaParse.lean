/- All postings of bytes: the program's. -/
import Derived.Test.YtmonlookmnlgnaaFind
namespace Go.Proofs.Ytmonlookmnlgnaa
open Go.RowKit Go.Shelf
set_option linter.unusedVariables false
set_option linter.unusedSimpArgs false
attribute [local go_sem] Oper.semAt_some

def endL : List (Nat × Po) → Nat
  | [] => 0
  | [x] => x.1
  | _ :: r => endL r
theorem endL_snoc : ∀ (l : List (Nat × Po)) (x : Nat × Po), endL (l ++ [x]) = x.1
  | [], x => rfl
  | [y], x => rfl
  | y :: z :: r, x => by
    show endL (z :: (r ++ [x])) = x.1
    exact endL_snoc (z :: r) x
theorem allF_len (b : List Nat) : ∀ (f at_ prev : Nat), (allF b f at_ prev).length ≤ b.length - at_
  | 0, _, _ => by simp [allF]
  | f + 1, at_, prev => by
    unfold allF
    by_cases h : at_ < b.length ∧ (tkR b (at_ : Int) prev).2.2 = 0
    · rw [if_pos h]
      have h1 := tkR_ok h.2
      have h2 := allF_len b f (tkR b (at_ : Int) prev).2.1.toNat (tkR b (at_ : Int) prev).1.1
      simp only [List.length_cons]
      omega
    · rw [if_neg h]; simp
theorem allL_len (b : List Nat) (prev : Nat) : (allL b prev).length ≤ b.length := by
  have := allF_len b (b.length - 0 + 1) 0 prev
  unfold allL allAt
  omega
theorem pre_len {b : List Nat} {prev : Nat} {pre : List El} {x : El} (h : (pre.map mA ++ [mA x]) <+: allL b prev) : pre.length + 1 ≤ b.length := by
  have h1 := h.length_le
  have h2 := allL_len b prev
  simp at h1
  omega
theorem endF_le (b : List Nat) : ∀ (f at_ prev : Nat), ∀ x ∈ allF b f at_ prev, x.1 ≤ b.length
  | 0, _, _, x, h => by simp [allF] at h
  | f + 1, at_, prev, x, h => by
    unfold allF at h
    by_cases h0 : at_ < b.length ∧ (tkR b (at_ : Int) prev).2.2 = 0
    · rw [if_pos h0] at h
      have h1 := tkR_ok h0.2
      rcases List.mem_cons.1 h with rfl | h
      · simp only; omega
      · exact endF_le b f _ _ x h
    · rw [if_neg h0] at h; cases h
theorem allL_end {b : List Nat} {prev : Nat} {x : Nat × Po} (h : x ∈ allL b prev) : x.1 ≤ b.length := endF_le b _ _ _ x h
theorem okF (b : List Nat) : ∀ (f at_ prev : Nat), ∀ x ∈ allF b f at_ prev, ∃ pv, okP pv x.2
  | 0, _, _, x, h => by simp [allF] at h
  | f + 1, at_, prev, x, h => by
    unfold allF at h
    by_cases h0 : at_ < b.length ∧ (tkR b (at_ : Int) prev).2.2 = 0
    · rw [if_pos h0] at h
      have h1 := tkR_ok h0.2
      rcases List.mem_cons.1 h with rfl | h
      · exact ⟨prev, h1.2.2⟩
      · exact okF b f _ _ x h
    · rw [if_neg h0] at h; cases h
theorem allL_ok {b : List Nat} {prev : Nat} {x : Nat × Po} (h : x ∈ allL b prev) : x.1 ≤ b.length ∧ ∃ pv, okP pv x.2 := ⟨endF_le b _ _ _ x h, okF b _ _ _ x h⟩
theorem pre_ok {b : List Nat} {prev : Nat} {pre : List El} {x : El} (h : (pre.map mA ++ [mA x]) <+: allL b prev) : x.1 ≤ b.length ∧ x.2.1.1 ≤ 2147483647 := by
  obtain ⟨h1, pv, h2⟩ := allL_ok (h.subset (show mA x ∈ pre.map mA ++ [mA x] by simp))
  exact ⟨h1, h2.2.1⟩
theorem endL_mem : ∀ (l : List (Nat × Po)), l = [] ∨ ∃ x ∈ l, endL l = x.1
  | [] => .inl rfl
  | [x] => .inr ⟨x, by simp, rfl⟩
  | y :: z :: r => .inr (by
    rcases endL_mem (z :: r) with h | ⟨x, h1, h2⟩
    · cases h
    · exact ⟨x, List.mem_cons_of_mem _ h1, h2⟩)
theorem allL_endL (b : List Nat) (prev : Nat) : endL (allL b prev) ≤ b.length := by
  rcases endL_mem (allL b prev) with h | ⟨x, h1, h2⟩
  · rw [h]; exact Nat.zero_le _
  · rw [h2]; exact allL_end h1
noncomputable def prsR (b : List Nat) : List Po × Int := open Classical in if endL (allL b 0) = b.length then ((allL b 0).map (·.2), 0) else ([], 150)
theorem prsR_yes {b : List Nat} (h : endL (allL b 0) = b.length) : prsR b = ((allL b 0).map (·.2), 0) := if_pos h
theorem prsR_no {b : List Nat} (h : ¬ endL (allL b 0) = b.length) : prsR b = ([], 150) := if_neg h
/-- What Parse answers. -/
def ParseE (b : List Nat) (w : World) (e : Ending) (w' : World) : Prop := ∃ v, e = .returned (.tuple #[v, .int .i64 (prsR b).2]) ∧ LS w' v (prsR b).1 ∧ Below w.heap.size w w'

abbrev encX (x : El) : List Value := [.int .u32 (x.2.1.1 : Nat), slE x]
theorem encX_one : ∀ x, ∀ u ∈ encX x, u.oneCell' = true := by
  intro x u hu
  simp at hu
  rcases hu with rfl | rfl <;> rfl
theorem infoP : (Try.prog.info? 32).map (fun i => (i.zero, i.size, i.bytes)) = some (some (.agg #[.int .u32 0, .slice none 0 0]), 2, 32) := by kernel_rfl
/-- What was gathered reads as postings. -/
theorem gathered {w : World} {n₀ n₁ : Nat} {v : Value} {pre : List El} (hr : w.ownsRow n₀ 32 2 v pre.length (pre.flatMap encX)) (hx : ∀ y ∈ pre, OwnL encI 3 w n₁ (slE y) y.2.1.2 ∧ y.2.1.1 < 4294967296) : LS w v (pre.map fun y => y.2.1) := by
  obtain ⟨A, c, rfl, h1, h2, h3⟩ := OwnK.rd (enc := encX) (fun _ => rfl) (show OwnK encX 2 32 w n₀ v pre from hr)
  refine ⟨A, pre.length, c, rfl, h1, h2, by simp, by omega, fun h0 => ?_⟩
  obtain ⟨ad, e, hc⟩ := h3.cell h0
  refine ⟨ad, e, fun j hj => ?_⟩
  have hj' : j < pre.length := by simpa using hj
  obtain ⟨h4, h5⟩ := hx pre[j] (List.getElem_mem hj')
  obtain ⟨A5, c5, he, hl5, hc5, hr5⟩ := h4.rd
  have e0 := hc j hj' 0 _ rfl
  have e1 := hc j hj' 1 _ rfl
  rw [add_at _ _ _ (by decide)] at e1
  rw [he] at e1
  refine ⟨A5, (pre[j]).2.1.2.length, c5, ?_, ?_, hl5, hc5, ?_, ?_⟩
  · simpa using e0
  · simpa using e1
  · simpa using hr5
  · simpa using h5
theorem cell_later {W W' : World} {p : Addr} {v : Value} (h : W.cell? p = some v) (hl : Later W W') : W'.cell? p = some v := by
  unfold World.cell? at h ⊢
  cases ho : W.heap[p.block]? with
  | none => rw [ho] at h; cases h
  | some o =>
    rw [ho] at h
    cases o with
    | cells c e fr => rw [hl.2 _ _ ho rfl]; exact h
    | _ => cases h
theorem Rd.later {W W' : World} {A : Option Addr} {n : Nat} {l : List Int} (h : Rd encI W A n l) (hl : Later W W') : Rd encI W' A n l :=
  ⟨h.len, h.max, fun h0 => by
    obtain ⟨ad, e, hc⟩ := h.cell h0
    exact ⟨ad, e, fun j hj => cell_later (hc j hj) hl⟩⟩
theorem RdPo.later {W W' : World} {A : Option Addr} {n : Nat} {ls : List Po} (h : RdPo W A n ls) (hl : Later W W') : RdPo W' A n ls :=
  ⟨h.len, h.max, fun h0 => by
    obtain ⟨ad, e, hc⟩ := h.cell h0
    refine ⟨ad, e, fun j hj => ?_⟩
    obtain ⟨B, m, c, h1, h2, h3, h4, h5, h6⟩ := hc j hj
    exact ⟨B, m, c, cell_later h1 hl, cell_later h2 hl, h3, h4, Rd.later h5 hl, h6⟩⟩
theorem LS.later {W W' : World} {v : Value} {ls : List Po} (h : LS W v ls) (hl : Later W W') : LS W' v ls := by
  obtain ⟨A, n, c, e, h1, h2, h3⟩ := h
  exact ⟨A, n, c, e, h1, h2, h3.later hl⟩
def PsI (w : World) (n₁ : Nat) (pre : List El) (W : World) : Prop :=
  Below w.heap.size w W ∧ (∃ v, Boxed W w.heap.size 22 v ∧ W.ownsRow w.heap.size 32 2 v pre.length (pre.flatMap encX)) ∧ Boxed W (w.heap.size + 1) 3 (.int .i64 (endL (pre.map mA) : Nat)) ∧
  (∀ y ∈ pre, OwnL encI 3 W n₁ (slE y) y.2.1.2 ∧ y.2.1.1 < 4294967296) ∧ ∃ u, Boxed W (w.heap.size + 2) 23 u
theorem psI_own (w : World) (n₁ D : Nat) (h : w.heap.size ≤ D) : OwnFrom D (PsI w n₁) := by
  rintro s A B row ⟨h1, ⟨v, h2, h3⟩, h4, h5, u, h6⟩ hg hr
  have hr2 : ∀ r, row = some r → ∃ o : Obj, A.heap[r]? = some o ∧ o.isCells = false := fun r e => (hr r e).2
  exact ⟨h1.grown hg (by have := h1.size; omega) (fun r e => Nat.le_trans h (hr r e).1), ⟨v, Boxed.from' h2 hg hr2, ownsRow_from h3 hg hr2⟩, Boxed.from' h4 hg hr2, fun y hy => ⟨ownsRow_from (h5 y hy).1 hg hr2, (h5 y hy).2⟩, u, Boxed.from' h6 hg hr2⟩
def PsM (w : World) (pre : List El) (B : Nat) (W : World) : Prop := w.heap.size + 1 < B ∧ ∃ v, Boxed W w.heap.size 22 v ∧ ∀ j, v.ownBlock = some j → j < B
theorem psM_0 {w : World} {n₁ : Nat} {pre : List El} {W : World} (h : PsI w n₁ pre W) : PsM w pre W.heap.size W := by
  obtain ⟨h1, ⟨v, h2, h3⟩, h4, h5, _⟩ := h
  exact ⟨h4.lt, v, h2, fun j hj => (World.ownsRow.lt h3 j hj).2⟩
theorem psM_later {w : World} {pre : List El} {B : Nat} {W W' : World} (h : PsM w pre B W) (hl : Later W W') : PsM w pre B W' := by
  obtain ⟨h1, v, h2, h3⟩ := h
  exact ⟨h1, v, Boxed.later h2 hl, h3⟩

abbrev PsFr (s : Nat) (A : Option Addr) (m c g : Nat) (x : El) : Act :=
  { tmps := #[.slice A m c, undef, .slice none 0 0, .int .i64 0, .pointer (some ⟨s, 0, none⟩), .pointer (some ⟨s + 1, 0, none⟩), .int .i64 (x.1 : Nat), .pointer (some ⟨g, 0, none⟩), .slice A m c,
      .func (.func 33) #[] #[.pointer (some ⟨s + 2 + 1, 0, none⟩), .pointer (some ⟨s + 2, 0, none⟩)], .int .i64 (x.1 : Nat), .agg #[.int .u32 (x.2.1.1 : Nat), slE x], undef, undef, undef, undef, undef, undef, undef, undef, undef, undef], defers := [] }
def PsA (w : World) (A : Option Addr) (m c : Nat) (b : List Nat) (n₁ : Nat) (pre : List El) (x : El) (a' : Act) (W : World) : Prop := ∃ g, a' = PsFr w.heap.size A m c g x ∧ Box2 W g 32 (.int .u32 (x.2.1.1 : Nat)) (slE x) ∧ (pre.map mA ++ [mA x]) <+: allL b 0 ∧ OwnL encI 3 W n₁ (slE x) x.2.1.2
theorem psA_own (w : World) (A : Option Addr) (m c : Nat) (b : List Nat) (n₁ D : Nat) (pre : List El) (x : El) (a' : Act) : OwnFrom D (fun (_ : Unit) W => PsA w A m c b n₁ pre x a' W) := by
  rintro s X Y row ⟨g, e, h1, h2, h3⟩ hg hr
  have hr2 : ∀ r, row = some r → ∃ o : Obj, X.heap[r]? = some o ∧ o.isCells = false := fun r e => (hr r e).2
  exact ⟨g, e, h1.from' hg hr2, h2, ownsRow_from h3 hg hr2⟩

set_option maxRecDepth 100000 in
set_option maxHeartbeats 4000000 in
theorem Parse_any (A : Option Addr) (m c : Nat) (b : List Nat) (w : World) (hl : RdB w A m b) (hc : m ≤ c) (hc2 : c ≤ 9223372036854775807) (hm : m ≤ 1000000000) :
    Calls Try.prog 13 #[.slice A m c] w (ParseE b w) := by
  have HL := Lib.hid hl
  have HLn := Lib.hid hl.len
  clear hl
  have h10 : 1 ≤ 10 := by omega
  refine (callsIn_wide (n := 10)).1 ?_
  refine callsIn_of_wp_marks Try.func13 rfl trivial ?_ rfl
  simp only [Try.ntmps13, List.size_toArray, List.length_cons, List.length_nil, Nat.reduceAdd, Nat.reduceSub, Array.replicate_succ, Array.replicate_zero, List.push_toArray, List.append_toArray, List.nil_append, List.cons_append]
  gi_wp2_with fail
  obtain ⟨W1, hW1⟩ : ∃ W1, W1 = (w.alloc (.cells #[.slice none 0 0] 22)).alloc (.cells #[.int .i64 0] 3) := ⟨_, rfl⟩
  have b1 := Boxed.new w 22 (.slice none 0 0)
  have b2 := Boxed.new (w.alloc (.cells #[.slice none 0 0] 22)) 3 (.int .i64 0)
  simp only [World.size_alloc] at b2
  have b1' := b1.alloc (.cells #[.int .i64 0] 3)
  rw [← hW1] at b1' b2
  have hb1 : Below w.heap.size w W1 := by rw [hW1]; exact ((Below.refl _ _).alloc (Nat.le_refl _) _).alloc (by simp) _
  have hsz1 : W1.heap.size = w.heap.size + 2 := by rw [hW1]; simp
  rw [← hW1]
  have HI1 := Lib.hid (And.intro b1' b2)
  have HS1 := Lib.hid hsz1
  have HB1 := Lib.hid hb1
  clear b1 b1' b2 hb1 hsz1 hW1
  refine ⟨trivial, (callsIn_wide.2 (All_any A m c 0 W1)).mono ?_⟩
  rintro e W2 ⟨rfl, hW2⟩
  have h5 := Boxed.new W1 23 (.slice A m c)
  have h6 := Boxed.new (W1.alloc (.cells #[.slice A m c] 23)) 29 (.int .u32 0)
  have h5' := h5.alloc (.cells #[.int .u32 0] 29)
  rw [← hW2] at h5' h6
  have hB2 : Below W1.heap.size W1 W2 := by rw [hW2]; exact ((Below.refl _ _).alloc (Nat.le_refl _) _).alloc (by simp) _
  have hI2 : PsI w W2.heap.size [] W2 := ⟨Below.thn HB1.out hB2, ⟨_, boxed_below HI1.out.1 hB2, World.ownsRow_nil _ _ _ _⟩, boxed_below HI1.out.2 hB2, (fun y hy => by cases hy), _, by rw [HS1.out] at h5'; exact h5'⟩
  simp only [World.size_alloc] at h6
  have hsz2 : w.heap.size + 4 = W2.heap.size := by rw [hW2]; have := HS1.out; simp; omega
  rw [HS1.out] at h5' h6 ⊢
  clear h5 hB2 hW2 HI1 HS1 HB1
  gi_wp2_with fail
  refine wpIn_range_R (n := 10) rfl h10 (gf := 33) (lb := #[.pointer (some ⟨w.heap.size + 2 + 1, 0, none⟩), .pointer (some ⟨w.heap.size + 2, 0, none⟩)]) rfl trivial (enters_of Try.func33 (by kernel_rfl) rfl)
    (all_stops 9 (w.heap.size + 2 + 1) (w.heap.size + 2) (by omega) A m c b 0 w W2 HL.out hc hc2 hm hI2.1 (by decide) h6.cell h5')
    kpA_trans (fun W l o o' hl h ho hw => kpA_put w _ W l o o' (by omega) h ho) (Below.refl _ _) (fun _ => rfl)
    (PsI w W2.heap.size) (fun _ _ _ => False) (psI_own w _ _ (by omega)) (fun _ _ _ _ _ hs _ _ => hs) hI2
    (PsM w) (fun pre W h => psM_0 h) (fun _ _ _ _ h hl => psM_later h hl)
    (fun _ => PsA w A m c b W2.heap.size) (fun _ pre x a' => psA_own w A m c b _ _ pre x a') ?assign ?body ?done ?stop
  case assign =>
    intro L B0 pre x W K hI hR hK
    have HI := Lib.hid hI
    have HR := Lib.hid hR
    have HK := Lib.hid hK
    clear hI hR hK hI2 h5' h6
    gi_wp2
    have hbA : Below W.heap.size W (W.alloc (.cells #[.int .u32 (x.2.1.1 : Nat), slE x] 32)) := (Below.refl _ _).alloc (Nat.le_refl _) _
    obtain ⟨i1, ⟨v, i2, i3⟩, i4, i5, u, i6⟩ := HI.out
    exact HK.out _ _ ((KeepsOthers.alloc W _).from _) ⟨hbA.mono i1.size, fun o h1 _ => (hbA.block _ (Array.getElem?_eq_some_iff.1 h1).1).trans h1⟩ (Later.below hbA)
      ⟨Below.thn i1 hbA, ⟨v, boxed_below i2 hbA, OwnK.below (enc := encX) i3 hbA⟩, boxed_below i4 hbA, fun y hy => ⟨(i5 y hy).1.below hbA, (i5 y hy).2⟩, u, boxed_below i6 hbA⟩ ⟨W.heap.size, rfl, Box2.new _ _ _ _, HR.out.1, HR.out.2.1.below hbA⟩
  case body =>
    rintro L pre x a' W B ⟨i1, ⟨v, hv, hrow⟩, i3, i4, u, i5⟩ ⟨g, rfl, hg, hpf, ho⟩ ⟨hm1, v', hv', hm2⟩
    obtain rfl : v' = v := Boxed.eq hv' hv
    have hpl := pre_len hpf
    obtain ⟨hen, hd⟩ := pre_ok hpf
    obtain ⟨en, ⟨d, xs⟩, A5, n5, c5⟩ := x
    simp only at hen hd
    rw [HLn.out] at hpl hen
    obtain ⟨A1, c1, hvs, hl1, hc1, _⟩ := OwnK.rd (enc := encX) (fun _ => rfl) (show OwnK encX 2 32 W w.heap.size v' pre from hrow)
    obtain ⟨v1, w2, r1, hC⟩ := collStep (P := Try.prog) (enc := encX) (x := (en, (d, xs), A5, n5, c5)) 22 32 (.agg #[.int .u32 0, .slice none 0 0]) 32 Try.underlying22 infoP rfl (by decide) (by decide) (fun _ => rfl) encX_one (by decide) hv hrow i1.size (Nat.le_refl _) (by omega) 22 #[.int .u32 (d : Nat), .slice A5 n5 c5] rfl
    obtain ⟨g6, c6, hv1⟩ := hC.sh
    have hb5 := hC.boxed hrow i3 (by omega) (by decide)
    have hS := grownBy_setCell' (w2.setCell ⟨w.heap.size, 0, none⟩ v1) (w.heap.size + 1) (.int .i64 (en : Nat))
    have HFin : Hid (∀ a, postR W2.heap.size B (KpA w (w.heap.size + 2)) (PsI w W2.heap.size) (fun _ _ _ => False) (pre ++ [(en, (d, xs), A5, n5, c5)]) W .normal a ((w2.setCell ⟨w.heap.size, 0, none⟩ v1).setCell ⟨w.heap.size + 1, 0, none⟩ (.int .i64 (en : Nat)))) := Lib.hid (fun a => by
      refine ⟨(hC.ks.trans (KeepsOthers.setCell _ _ _)).from _, ⟨hC.bl.setCell (p := ⟨w.heap.size + 1, 0, none⟩) (by simp) _, fun o h1 h2 => ?_⟩, (hC.mid hm2 (by omega)).trans (Mid.grown hS (fun k hk => by cases hk; exact hm1)), ?_⟩
      · have e1 := hC.keep _ o h1 (i5.not_row (by decide) hrow) (by omega)
        exact (hS.block _ (Array.getElem?_eq_some_iff.1 e1).1 (by intro e; injection e; omega)).trans e1
      · have e5 := hC.boxed hrow i5 (by omega) (by decide)
        refine ⟨(i1.trans hC.bl).setCell (p := ⟨w.heap.size + 1, 0, none⟩) (by simp) _, ⟨v1, hC.out.kept hS (by intro e; injection e; omega), ?_⟩, ?_, ?_, u, e5.kept hS (by intro e; injection e; omega)⟩
        · have := hC.row.kept hS (.inr (hb5.not_row (by decide) hC.row).symm)
          simpa using this
        · rw [List.map_append, List.map_cons, List.map_nil, endL_snoc]
          exact hb5.set _
        · have key : ∀ {sl : Value} {zs : List Int}, OwnL encI 3 W W2.heap.size sl zs → OwnL encI 3 ((w2.setCell ⟨w.heap.size, 0, none⟩ v1).setCell ⟨w.heap.size + 1, 0, none⟩ (.int .i64 (en : Nat))) W2.heap.size sl zs := by
            intro sl zs ho
            have h2 := hC.rows hv hrow ho (by decide) (by decide)
            refine World.ownsRow.kept h2 hS ?_
            cases hob : sl.ownBlock with
            | none => exact .inl rfl
            | some k =>
              right
              intro e
              injection e with e
              have := (World.ownsRow.lt h2 k hob).1
              omega
          intro y hy
          rcases List.mem_append.1 hy with hy | hy
          · exact ⟨key (i4 y hy).1, (i4 y hy).2⟩
          · simp at hy
            subst hy
            exact ⟨key ho, by show d < _; omega⟩)
    have hc := hv.cell
    obtain ⟨g0, g1, _, _⟩ := hg.facts
    have f0 := hC.box.cell
    have f1 := hC.box.frozen
    have f2 := hb5.cell
    have f3 := hb5.frozen
    simp only [slE] at g1
    subst hv1
    subst hvs
    obtain ⟨pl, hpl2⟩ : ∃ pl, pl = pre.length := ⟨_, rfl⟩
    rw [← hpl2] at hc r1 f0 f2 f3 hl1 HFin
    clear hv hrow hC hb5 hS i1 i3 i4 i5 hg hpf ho hm1 hv' hm2 hpl2 hI2 h5' h6
    gi_wp2_with (first | (gi_at_builtin; refine wplIn_append_run rfl _ _ _ rfl rfl rfl r1 ?_))
    exact HFin.out _
  case done =>
    rintro D ys W hD hS ⟨i1, ⟨v, hv, hrow⟩, i3, i4, _⟩ hK
    have hLS : LS W v ((allL b 0).map (·.2)) := by
      have := gathered hrow i4
      rw [← hS, List.map_map]
      exact this
    rw [hS] at i3
    obtain ⟨A1, c1, hvs, hl1, hc1, _⟩ := OwnK.rd (enc := encX) (fun _ => rfl) (show OwnK encX 2 32 W w.heap.size v ys from hrow)
    subst hvs
    have c4 := hv.cell
    have c5 := i3.cell
    have hEm : endL (allL b 0) ≤ m := by rw [← HLn.out]; exact allL_endL b 0
    have HK := Lib.hid hK
    have HLS := Lib.hid hLS
    have HB := Lib.hid i1
    have HB9 : Hid (Below w.heap.size w (W.putObj D (.deferred none))) := Lib.hid (i1.grown (grownBy_putObj' W D _) i1.size (fun k hk => by cases hk; omega))
    obtain ⟨yl, hyl⟩ : ∃ yl, yl = ys.length := ⟨_, rfl⟩
    rw [← hyl] at c4 hl1 HLS
    obtain ⟨E, hE⟩ : ∃ E, E = endL (allL b 0) := ⟨_, rfl⟩
    rw [← hE] at c5 hEm
    have HE := Lib.hid hE
    clear hS hv hrow i1 i3 i4 hK hLS hyl hE hI2 h5' h6
    by_cases he : E = m
    · subst he
      have HP : Hid (prsR b = ((allL b 0).map (·.2), 0)) := Lib.hid (prsR_yes (by rw [← HE.out, HLn.out]))
      have q1 : ((E : Int) != (E : Int)) = false := by simp
      gi_wp2
      refine ⟨by simp, .inl ⟨_, _, rfl, run_takeDeferred HK.out, ?_⟩⟩
      refine ⟨.tuple #[.slice A1 yl c1, .int .i64 0], by simp [results, Try.results13, go_sem], _, by rw [HP.out], ?_, HB9.out⟩
      rw [HP.out]
      exact HLS.out.later (Later.put HK.out rfl)
    · have q1 : ((E : Int) == (m : Int)) = false := by simp; omega
      have q2 : ((E : Int) != (m : Int)) = true := by simp; omega
      have HP : Hid (prsR b = ([], 150)) := Lib.hid (prsR_no (by rw [← HE.out, HLn.out]; exact he))
      gi_wp2
      refine ⟨by simp, .inl ⟨_, _, rfl, run_takeDeferred HK.out, ?_⟩⟩
      refine ⟨.tuple #[.slice none 0 0, .int .i64 150], by simp [results, Try.results13, go_sem], _, by rw [HP.out], ?_, HB9.out⟩
      rw [HP.out]
      exact ⟨_, _, _, rfl, Nat.le_refl _, by decide, RdPo.empty _⟩
  case stop =>
    rintro D c pre W _ _ h _
    exact h.elim
end Go.Proofs.Ytmonlookmnlgnaa
