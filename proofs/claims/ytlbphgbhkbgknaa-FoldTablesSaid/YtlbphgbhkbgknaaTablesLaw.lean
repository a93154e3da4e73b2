/- FoldTables: which tables may be, and what they fold. -/
import Derived.Test.YtlbphgbhkbgknaaLetIter
import Derived.Test.YtlbphgbhkbgknaaRegT
import Derived.Test.YtlbphgbhkbgknaaTwiceLaw
import Derived.Test.YtlbphgbhkbgknaaOwnIn
namespace Go.Proofs.Ytlbphgbhkbgknaa
open Go.RowKit Go.Shelf
set_option linter.unusedVariables false
set_option linter.unusedSimpArgs false
attribute [local go_sem] Oper.semAt_some

def FL (l : List (Int × Int)) : List Int := l.flatMap fun x => [x.1, x.2]
theorem FL_app (a b : List (Int × Int)) : FL (a ++ b) = FL a ++ FL b := by simp [FL]
theorem FL_one (x : Int × Int) : FL [x] = [x.1, x.2] := rfl
theorem FL_len (l : List (Int × Int)) : (FL l).length = 2 * l.length := by
  induction l with
  | nil => rfl
  | cons x l ih => simp only [FL, List.flatMap_cons, List.length_append, List.length_cons, List.length_nil] at *; omega
theorem prs_len {tb : List Fo} (h : okTb tb) : (prsL tb).length ≤ 2048 := by
  have key : ∀ l : List Fo, (∀ x ∈ l, x.2.2 ≤ 256) → (prsL l).length ≤ 256 * l.length := by
    intro l
    induction l with
    | nil => intro _; simp [prsL]
    | cons x l ih =>
      intro h
      have h1 := h x (by simp)
      have h2 := ih fun y hy => h y (by simp [hy])
      simp only [prsL, List.flatMap_cons, List.length_append, rng_len, List.length_cons] at *
      omega
  have := key tb fun x hx => by
    obtain ⟨i, hi, rfl⟩ := List.getElem_of_mem hx
    exact (h.2.1 i hi).1.2.1
  have := h.1
  omega
theorem let_len (tb : List Fo) : (letL tb).length ≤ 2048 := by
  unfold letL
  by_cases h : okTb tb
  · rw [eff_yes h]; exact prs_len h
  · rw [eff_no h]; simp [prsL]
abbrev OwnI (w : World) (base : Nat) (v : Value) (l : List Int) : Prop := OwnL enc32 21 w base v l
/-- A row of runes read. -/
theorem equalR_v {w : World} {u v : Value} {b b' : Nat} {a : List Int} (ha : OwnI w b u a) (hb : OwnI w b' v a) :
    Calls Try.prog 30 #[u, v] w fun e w' => e = .returned (.bool true) ∧ Below w.heap.size w w' := by
  obtain ⟨A, c, rfl, _, _, h3⟩ := ha.rd
  obtain ⟨B, d, rfl, _, _, h6⟩ := hb.rd
  have := equalR_any A B _ _ c d a a w h3 h6
  rw [decide_eq_true rfl] at this
  exact this
theorem equalF_v {w : World} {u v : Value} {a : List Fo} (ha : FS w u a) (hb : FS w v a) :
    Calls Try.prog 26 #[u, v] w fun e w' => e = .returned (.bool true) ∧ Below w.heap.size w w' := by
  obtain ⟨A, n, c, rfl, _, _, h3⟩ := ha
  obtain ⟨B, m, d, rfl, _, _, h6⟩ := hb
  have := equalF_any A B n m c d a a w h3.k h6.k
  rw [decide_eq_true rfl] at this
  exact this
theorem run_eql_nilF2 (gf : Nat) (lb : Array Value) (W : World) : (binOp .eql 52 (.func (.func gf) #[] lb) .nilFunc).run Try.prog W = .ok (.bool false) W := by
  have hu := Try.underlying52
  have h : (Op.equalIn (9999 + 1) 52 (.func (.func gf) #[] lb) .nilFunc).run Try.prog W = .ok false W := by
    rw [Op.equalIn]
    simp [run_underlying hu]
  simp only [binOp]
  simp [Op.equal, Op.maxDepth, h]
set_option maxHeartbeats 1000000 in
theorem Letters_any (A : Option Addr) (n c : Nat) (w : World) : Calls Try.prog 29 #[.slice A n c] w fun e w' => e = .returned (.func (.func 39) #[] #[.pointer (some ⟨w.heap.size, 0, none⟩)]) ∧ w' = w.alloc (.cells #[.slice A n c] 22) := by
  go_enter Try.func29, Try.ntmps29
  go_wp2
  go_ret
  exact ⟨rfl, rfl⟩
/-- What is gathered as one goes through the letters. -/
def GtI (wS : World) (B : Nat) (pre : List (Int × Int)) (W : World) : Prop :=
  (∃ v, Boxed W B 50 v ∧ W.ownsRow wS.heap.size 21 1 v (FL pre).length ((FL pre).map enc32) ∧ True) ∧ Below wS.heap.size wS W
theorem gtI_own (wS : World) (B D : Nat) (hD : wS.heap.size ≤ D) : OwnFrom D (GtI wS B) :=
  OwnFrom.and (Own.from (holdsRow_own wS.heap.size B 50 21 1 (fun pre : List (Int × Int) => (FL pre).length) (fun pre => (FL pre).map enc32) (fun _ _ => True)) _) (ownFrom_below (Nat.le_refl _) hD)
def WantF (ad : Addr) (n c : Nat) (u8 : Value) (ix k : Nat) (p2 q2 : Int) : Nat → Value → World → Prop
  | 0 => fun v w => v = u8
  | 1 => fun v w => v = .slice (some ad) n c
  | 2 => fun v w => v = .int .i64 (ix : Nat)
  | 3 => fun v w => v = .pointer (some (ad.add (ix * 3)))
  | 4 => fun v w => v = .pointer (some (ad.add (ix * 3)))
  | 5 => fun v w => v = .int .i32 p2
  | 6 => fun v w => v = .int .i64 (k : Nat)
  | 7 => fun v w => v = .int .i32 (k : Nat)
  | 8 => fun v w => v = .int .i32 (p2 + (k : Nat))
  | 9 => fun v w => v = .slice (some ad) n c
  | 10 => fun v w => v = .int .i64 (ix : Nat)
  | 11 => fun v w => v = .pointer (some (ad.add (ix * 3)))
  | 12 => fun v w => v = .pointer (some ⟨(ad.add (ix * 3)).block, (ad.add (ix * 3)).off + 1, none⟩)
  | 13 => fun v w => v = .int .i32 q2
  | 14 => fun v w => v = .int .i64 (k : Nat)
  | 15 => fun v w => v = .int .i32 (k : Nat)
  | 16 => fun v w => v = .int .i32 (q2 + (k : Nat))
  | 17 => fun v w => ∃ (V101 : Value), v = V101 ∧ ∃ g, V101 = .slice (some ⟨g, 0, none⟩) 2 2 ∧ Rd enc32 w (some ⟨g, 0, none⟩) 2 [p2 + (k : Int), q2 + (k : Int)]
  | _ => fun _ _ => True
theorem WantF.below (ad : Addr) (n c : Nat) (u8 : Value) (ix k : Nat) (p2 q2 : Int) : ∀ i v w w', Below w.heap.size w w' → WantF ad n c u8 ix k p2 q2 i v w → WantF ad n c u8 ix k p2 q2 i v w'
  | 0, _, _, _, _, h => h
  | 1, _, _, _, _, h => h
  | 2, _, _, _, _, h => h
  | 3, _, _, _, _, h => h
  | 4, _, _, _, _, h => h
  | 5, _, _, _, _, h => h
  | 6, _, _, _, _, h => h
  | 7, _, _, _, _, h => h
  | 8, _, _, _, _, h => h
  | 9, _, _, _, _, h => h
  | 10, _, _, _, _, h => h
  | 11, _, _, _, _, h => h
  | 12, _, _, _, _, h => h
  | 13, _, _, _, _, h => h
  | 14, _, _, _, _, h => h
  | 15, _, _, _, _, h => h
  | 16, _, _, _, _, h => h
  | 17, _, _, _, hb, h => by
    obtain ⟨V101, e, g⟩ := h
    exact ⟨V101, e, (by obtain ⟨gg, h1, h2⟩ := g; exact ⟨gg, h1, h2.below hb⟩)⟩
  | _ + 18, _, _, _, _, _ => trivial

/-- What the law answers. -/
def LawE (w : World) (e : Ending) (w' : World) : Prop := e = .returned (.bool true) ∧ Below w.heap.size w w'
theorem want_step {tb : List Fo} {i : Nat} {p q N : Int} (hx : ∃ h : i < tb.length, tb[i] = (p, q, N)) (k : Nat) (hk : (k : Int) < N) :
    FL (prsL (tb.take i) ++ (rngL (p, q, N)).take k) ++ [p + (k : Int), q + (k : Int)] = FL (prsL (tb.take i) ++ (rngL (p, q, N)).take (k + 1)) := by
  rw [rng_at (p, q, N) k hk, ← List.append_assoc, FL_app _ [_], FL_one]
theorem want_next {tb : List Fo} {i : Nat} {p q N : Int} (hx : ∃ h : i < tb.length, tb[i] = (p, q, N)) (k : Nat) (hk : N ≤ (k : Int)) :
    FL (prsL (tb.take i) ++ (rngL (p, q, N)).take k) = FL (prsL (tb.take (i + 1))) := by
  obtain ⟨ha, hb⟩ := hx
  rw [show (rngL (p, q, N)).take k = rngL (p, q, N) from List.take_of_length_le (by rw [rng_len]; simp only; omega), List.take_succ_eq_append_getElem ha, hb]
  simp [prsL]
theorem want_len {tb : List Fo} (hok : okTb tb) {i : Nat} {p q N : Int} (hx : ∃ h : i < tb.length, tb[i] = (p, q, N)) (k : Nat) : (FL (prsL (tb.take i) ++ (rngL (p, q, N)).take k)).length ≤ 4096 := by
  obtain ⟨ha, hb⟩ := hx
  have h1 := prs_at tb i ha
  have h2 := congrArg List.length h1
  rw [hb] at h2
  have h3 := prs_len hok
  rw [FL_len]
  simp only [List.length_append, List.length_take] at *
  omega
set_option maxRecDepth 100000 in
set_option maxHeartbeats 8000000 in
theorem tables_law (A : Option Addr) (n c : Nat) (tb : List Fo) (r : Int) (B : Option Addr) (m d : Nat) (l : List Nat) (w : World) (ht : RdT w A n tb) (hwf : wfT tb) (hc : n ≤ c) (hc2 : c ≤ 9223372036854775807) (hl : RdB w B m l) (hd : m ≤ d) (hd2 : d ≤ 9223372036854775807) (h1 : -2147483648 ≤ r) (h2 : r ≤ 2147483647) :
    Calls Try.prog 7 #[.slice A n c, .int .i32 r, .slice B m d] w (LawE w) := by
  have HT := Lib.hid ht
  have HL := Lib.hid hl
  have HW := Lib.hid hwf
  have H12 := Lib.hid (And.intro h1 h2)
  clear ht hl hwf h1 h2
  by_cases q1 : (100 : Int) < (n : Int)
  · skip
    go_enter Try.func7, Try.ntmps7
    go_wp2_with fail
    refine (live_any _).mono ?_
    rintro e w1 ⟨rfl, hb⟩
    have KB := Lib.hid hb
    clear hb
    go_wp2_with fail
    refine (live_any _).mono ?_
    rintro e w2 ⟨rfl, hb⟩
    have KB2 := Lib.hid (Below.thn KB.out hb)
    clear hb KB
    go_wp2
    go_ret
    exact ⟨rfl, KB2.out⟩
  by_cases q2 : (500 : Int) < (m : Int)
  · skip
    go_enter Try.func7, Try.ntmps7
    go_wp2_with fail
    refine (live_any _).mono ?_
    rintro e w1 ⟨rfl, hb⟩
    have KB := Lib.hid hb
    clear hb
    go_wp2_with fail
    refine (live_any _).mono ?_
    rintro e w2 ⟨rfl, hb⟩
    have KB2 := Lib.hid (Below.thn KB.out hb)
    clear hb KB
    go_wp2
    go_ret
    exact ⟨rfl, KB2.out⟩
  have hm : m ≤ 100000000 := by omega
  have hnn : n ≤ 1000000 := by omega
  obtain ⟨R, hR⟩ : ∃ R, R = oneR (eff tb) r := ⟨_, rfl⟩
  obtain ⟨X, hX⟩ : ∃ X, X = strL (textL tb l) := ⟨_, rfl⟩
  obtain ⟨E, hE⟩ : ∃ E, E = chkE tb := ⟨_, rfl⟩
  have HR := Lib.hid hR
  have HX := Lib.hid hX
  have HE := Lib.hid hE
  clear hR hX hE
  have h10 : 1 ≤ 10 := by omega
  refine (callsIn_wide (n := 10)).1 ?_
  refine callsIn_of_wp_marks Try.func7 rfl trivial ?_ rfl
  simp only [Try.ntmps7, List.size_toArray, List.length_cons, List.length_nil, Nat.reduceAdd, Nat.reduceSub, Array.replicate_succ, Array.replicate_zero, List.push_toArray, List.append_toArray, List.nil_append, List.cons_append]
  refine wpIn_wide.2 ?_
  have KB := Lib.hid (Below.refl w.heap.size w)
  go_wp2_with fail
  refine (live_any _).mono ?_
  rintro e w2 ⟨rfl, hb⟩
  have KB2 := Lib.hid (Below.thn KB.out hb)
  have HT_2 := Lib.hid (HT.out.below hb)
  have HL_2 := Lib.hid (HL.out.below hb)
  clear hb KB HT HL
  have KB := KB2
  clear KB2
  have HT := HT_2
  clear HT_2
  have HL := HL_2
  clear HL_2
  go_wp2_with fail
  refine (CloneF_any A n c tb _ HT.out hnn hc hc2).mono ?_
  rintro e w3 ⟨v7, rfl, ho, hb⟩
  have KB3 := Lib.hid (Below.thn KB.out hb)
  have HT_3 := Lib.hid (HT.out.below hb)
  have HL_3 := Lib.hid (HL.out.below hb)
  clear hb KB HT HL
  have KB := KB3
  clear KB3
  have HT := HT_3
  clear HT_3
  have HL := HL_3
  clear HL_3
  obtain ⟨A7, n7, c7, rfl, h71, h72, h73⟩ := ho
  have HO := Lib.hid h73
  have h7l : n7 ≤ 1000000 := by rw [← h73.len, HT.out.len]; exact hnn
  clear h73
  go_wp2_with fail
  refine (Check_any A7 n7 c7 tb _ HO.out).mono ?_
  rintro e w4 ⟨rfl, hb⟩
  have KB4 := Lib.hid (Below.thn KB.out hb)
  have HT_4 := Lib.hid (HT.out.below hb)
  have HL_4 := Lib.hid (HL.out.below hb)
  have HO_4 := Lib.hid (HO.out.below hb)
  clear hb KB HT HL HO
  have KB := KB4
  clear KB4
  have HT := HT_4
  clear HT_4
  have HL := HL_4
  clear HL_4
  have HO := HO_4
  clear HO_4
  rw [← HE.out]
  go_wp2_with fail
  have C := refCheck_any A n c tb w4 HT.out HW.out
  unfold ChkE at C
  go_wp2_with fail
  refine (C).mono ?_
  rintro e w5 ⟨rfl, hb⟩
  have KB5 := Lib.hid (Below.thn KB.out hb)
  have HT_5 := Lib.hid (HT.out.below hb)
  have HL_5 := Lib.hid (HL.out.below hb)
  have HO_5 := Lib.hid (HO.out.below hb)
  clear hb KB HT HL HO C
  have KB := KB5
  clear KB5
  have HT := HT_5
  clear HT_5
  have HL := HL_5
  clear HL_5
  have HO := HO_5
  clear HO_5
  rw [← HE.out]
  go_wp2_with fail
  refine (Rune_any A7 n7 c7 tb r _ HO.out).mono ?_
  rintro e w6 ⟨rfl, hb⟩
  have KB6 := Lib.hid (Below.thn KB.out hb)
  have HT_6 := Lib.hid (HT.out.below hb)
  have HL_6 := Lib.hid (HL.out.below hb)
  have HO_6 := Lib.hid (HO.out.below hb)
  clear hb KB HT HL HO
  have KB := KB6
  clear KB6
  have HT := HT_6
  clear HT_6
  have HL := HL_6
  clear HL_6
  have HO := HO_6
  clear HO_6
  rw [← HR.out]
  go_wp2_with fail
  refine (refRune_any A n c tb r _ HT.out HW.out H12.out.1 H12.out.2).mono ?_
  rintro e w7 ⟨rfl, hb⟩
  have KB7 := Lib.hid (Below.thn KB.out hb)
  have HT_7 := Lib.hid (HT.out.below hb)
  have HL_7 := Lib.hid (HL.out.below hb)
  have HO_7 := Lib.hid (HO.out.below hb)
  clear hb KB HT HL HO
  have KB := KB7
  clear KB7
  have HT := HT_7
  clear HT_7
  have HL := HL_7
  clear HL_7
  have HO := HO_7
  clear HO_7
  rw [← HR.out]
  go_wp2_with fail
  refine (Text_any A7 n7 c7 tb B m d l _ HO.out HL.out hd hm).mono ?_
  rintro e w8 ⟨rfl, hb⟩
  have KB8 := Lib.hid (Below.thn KB.out hb)
  have HT_8 := Lib.hid (HT.out.below hb)
  have HL_8 := Lib.hid (HL.out.below hb)
  have HO_8 := Lib.hid (HO.out.below hb)
  clear hb KB HT HL HO
  have KB := KB8
  clear KB8
  have HT := HT_8
  clear HT_8
  have HL := HL_8
  clear HL_8
  have HO := HO_8
  clear HO_8
  rw [← HX.out]
  go_wp2_with fail
  refine (refText_any A n c tb B m d l _ HT.out HW.out HL.out hd hm hd2).mono ?_
  rintro e w9 ⟨rfl, hb⟩
  have KB9 := Lib.hid (Below.thn KB.out hb)
  have HT_9 := Lib.hid (HT.out.below hb)
  have HL_9 := Lib.hid (HL.out.below hb)
  have HO_9 := Lib.hid (HO.out.below hb)
  clear hb KB HT HL HO
  have KB := KB9
  clear KB9
  have HT := HT_9
  clear HT_9
  have HL := HL_9
  clear HL_9
  have HO := HO_9
  clear HO_9
  rw [← HX.out]
  go_wp2_with fail
  refine (equalF_v ⟨_, _, _, rfl, h71, h72, HO.out⟩ ⟨_, _, _, rfl, hc, hc2, HT.out⟩).mono ?_
  rintro e w10 ⟨rfl, hb⟩
  have KB10 := Lib.hid (Below.thn KB.out hb)
  have HT_10 := Lib.hid (HT.out.below hb)
  have HL_10 := Lib.hid (HL.out.below hb)
  have HO_10 := Lib.hid (HO.out.below hb)
  clear hb KB HT HL HO
  have KB := KB10
  clear KB10
  have HT := HT_10
  clear HT_10
  have HL := HL_10
  clear HL_10
  have HO := HO_10
  clear HO_10
  go_wp2_with fail
  refine (Plain_any _).mono ?_
  rintro e w11 ⟨rfl, hp, hb⟩
  have KB11 := Lib.hid (Below.thn KB.out hb)
  have HT_11 := Lib.hid (HT.out.below hb)
  have HL_11 := Lib.hid (HL.out.below hb)
  have HO_11 := Lib.hid (HO.out.below hb)
  clear hb KB HT HL HO
  have KB := KB11
  clear KB11
  have HT := HT_11
  clear HT_11
  have HL := HL_11
  clear HL_11
  have HO := HO_11
  clear HO_11
  have HP1 := Lib.hid hp
  clear hp
  go_wp2_with fail
  refine (refPlain_any _).mono ?_
  rintro e w12 ⟨rfl, hp, hb⟩
  have KB12 := Lib.hid (Below.thn KB.out hb)
  have HT_12 := Lib.hid (HT.out.below hb)
  have HL_12 := Lib.hid (HL.out.below hb)
  have HO_12 := Lib.hid (HO.out.below hb)
  have HP1_12 := Lib.hid (HP1.out.below hb)
  clear hb KB HT HL HO HP1
  have KB := KB12
  clear KB12
  have HT := HT_12
  clear HT_12
  have HL := HL_12
  clear HL_12
  have HO := HO_12
  clear HO_12
  have HP1 := HP1_12
  clear HP1_12
  have HP2 := Lib.hid hp
  clear hp
  go_wp2_with fail
  refine (equalF_v ⟨_, _, _, rfl, Nat.le_refl _, by decide, HP1.out⟩ ⟨_, _, _, rfl, Nat.le_refl _, by decide, HP2.out⟩).mono ?_
  rintro e w13 ⟨rfl, hb⟩
  have KB13 := Lib.hid (Below.thn KB.out hb)
  have HT_13 := Lib.hid (HT.out.below hb)
  have HL_13 := Lib.hid (HL.out.below hb)
  have HO_13 := Lib.hid (HO.out.below hb)
  clear hb KB HT HL HO HP1 HP2
  have KB := KB13
  clear KB13
  have HT := HT_13
  clear HT_13
  have HL := HL_13
  clear HL_13
  have HO := HO_13
  clear HO_13
  go_wp2_with fail
  obtain ⟨wL, hwL⟩ : ∃ wL, wL = w13 := ⟨_, rfl⟩
  rw [← hwL] at KB HT HL HO ⊢
  clear hwL
  go_loopw [8, 9] (fun x8 x9 wr => ∃ i : Nat, i ≤ n ∧ x9 = .int .i64 i ∧ Hid ((¬ okTb tb → i = 0) ∧ OwnI wr wL.heap.size x8 (FL (prsL (tb.take i))) ∧ Below wL.heap.size wL wr)) (fun _ x9 _ => n - (intOf x9).toNat)
  case atStart => exact ⟨0, by omega, rfl, Lib.hid ⟨fun _ => rfl, OwnL.nil _ _ _ _, Below.refl _ _⟩⟩
  case round =>
    obtain ⟨ix, hi, rfl, HI⟩ := hrel
    by_cases hlt : (ix : Int) < (n : Int)
    · by_cases hok : okTb tb
      · obtain ⟨ad, rfl, p, q, N, HP, e0, e1, e2⟩ := (HT.out.below HI.out.2.2).at (k := ix) (by omega)
        have HGp : Hid (gd (p, q, N)) := Lib.hid (by obtain ⟨ha, hb⟩ := HP.out; rw [← hb]; exact (hok.2.1 ix ha).1)
        obtain ⟨r1, r2, r3, r4⟩ := gd_rng HGp.out
        have r5 := HGp.out.1
        have r6 := HGp.out.2.1
        simp only at r1 r2 r3 r4 r5 r6
        have HOk := Lib.hid hok
        have C := Lib.hid (refCheck_any (some ad) n c tb wr (HT.out.below HI.out.2.2) HW.out)
        unfold ChkE at C
        rw [chk_yes hok] at C
        clear hok e0 e1 e2
        go_wp2_with fail
        refine C.out.mono ?_
        rintro e wy ⟨rfl, hb⟩
        have HWy := Lib.hid (OwnL.below HI.out.2.1 hb)
        have HBy := Lib.hid (Below.thn HI.out.2.2 hb)
        clear hb C
        obtain ⟨ad', e, p', q', N', HP', e0, e1, e2⟩ := (HT.out.below HBy.out).at (k := ix) (by omega)
        cases e
        obtain ⟨rfl, rfl, rfl⟩ : p' = p ∧ q' = q ∧ N' = N := by
          obtain ⟨_, ha⟩ := HP.out
          obtain ⟨_, hb⟩ := HP'.out
          rw [ha] at hb
          cases hb
          exact ⟨rfl, rfl, rfl⟩
        clear e0 e1
        go_wp2_with fail
        clear e2
        obtain ⟨wB, hwB⟩ : ∃ wB, wB = wy := ⟨_, rfl⟩
        rw [← hwB] at HWy HBy ⊢
        clear hwB
        go_loopw [8, 81] (fun x8 x81 wz => ∃ k : Nat, (k : Int) ≤ N' ∧ x81 = .int .i64 k ∧ Hid (OwnI wz wL.heap.size x8 (FL (prsL (tb.take ix) ++ (rngL (p', q', N')).take k)) ∧ Below wL.heap.size wL wz)) (fun _ x81 _ => (N' - intOf x81).toNat)
        case atStart => exact ⟨0, by omega, rfl, Lib.hid ⟨by simpa using HWy.out, HBy.out⟩⟩
        case round =>
          obtain ⟨k, hk, rfl, HK⟩ := hrel
          by_cases hkN : (k : Int) < N'
          · obtain ⟨ad', e, p2, q2, N2, HP2, e0, e1, e2⟩ := (HT.out.below HK.out.2).at (k := ix) (by omega)
            cases e
            obtain ⟨rfl, rfl, rfl⟩ : p2 = p' ∧ q2 = q' ∧ N2 = N' := by
              obtain ⟨_, ha⟩ := HP.out
              obtain ⟨_, hb⟩ := HP2.out
              rw [ha] at hb
              cases hb
              exact ⟨rfl, rfl, rfl⟩
            have hwl := want_len HOk.out HP.out k
            have HWn : Hid (FL (prsL (tb.take ix) ++ (rngL (p2, q2, N2)).take k) ++ [p2 + (k : Int), q2 + (k : Int)] = FL (prsL (tb.take ix) ++ (rngL (p2, q2, N2)).take (k + 1))) := Lib.hid (want_step HP.out k hkN)
            have hi1 : (ix : Int) < (n : Int) := hlt
            have hi2 : ix < n := by omega
            have wk : IntKind.i32.wrap (k : Int) = (k : Int) := by rw [IntKind.wrap_i32]; omega
            have wp : IntKind.i32.wrap (p2 + (k : Int)) = p2 + (k : Int) := by rw [IntKind.wrap_i32]; omega
            have wq : IntKind.i32.wrap (q2 + (k : Int)) = q2 + (k : Int) := by rw [IntKind.wrap_i32]; omega
            obtain ⟨i0, hii, hz0, hz1, hz2⟩ := info_parts info32
            go_wp2_with fail
            rename_i K1 hK1
            refine wp_region_flowT 18 (by kernel_rfl) (by kernel_rfl) (WantF ad n c u8 ix k p2 q2) (WantF.below ad n c u8 ix k p2 q2) (by kernel_rfl) (by kernel_rfl) ?_ ?_
            case refine_1 =>
              intro i o hit ho ρ y w2 hb2 hreg hn hf hyb hyn
              obtain rfl | rfl | rfl | rfl | rfl | rfl | rfl | rfl | rfl | rfl | rfl | rfl | rfl | rfl | rfl | rfl | rfl | rfl : i = 0 ∨ i = 1 ∨ i = 2 ∨ i = 3 ∨ i = 4 ∨ i = 5 ∨ i = 6 ∨ i = 7 ∨ i = 8 ∨ i = 9 ∨ i = 10 ∨ i = 11 ∨ i = 12 ∨ i = 13 ∨ i = 14 ∨ i = 15 ∨ i = 16 ∨ i = 17 := by omega
              · cases ho
                rw [if_pos (show Region.wanted _ y = true from rfl)]
                have f8 : ρ (.tmp 8) = u8 := hf 8 (by kernel_rfl)
                exact ⟨f8, Below.refl _ _⟩
              · cases ho
                rw [if_pos (show Region.wanted _ y = true from rfl)]
                have f0 : ρ (.tmp 0) = .slice (some ad) n c := hf 0 (by kernel_rfl)
                exact ⟨f0, Below.refl _ _⟩
              · cases ho
                rw [if_pos (show Region.wanted _ y = true from rfl)]
                have f9 : ρ (.tmp 9) = .int .i64 (ix : Nat) := hf 9 (by kernel_rfl)
                exact ⟨f9, Below.refl _ _⟩
              · cases ho
                rw [if_pos (show Region.wanted _ y = true from rfl)]
                have f85 : ρ (.tmp 85) = .slice (some ad) n c := hn 1 _ 85 rfl (by kernel_rfl) rfl
                have f86 : ρ (.tmp 86) = .int .i64 (ix : Nat) := hn 2 _ 86 rfl (by kernel_rfl) rfl
                exact does_ok (v := .pointer (some (ad.add (ix * 3)))) (w' := w2) (by simp [go_sem, hreg.const, f85, f86, hi1, hi2]) ⟨rfl, Below.refl _ _⟩
              · cases ho
                rw [if_pos (show Region.wanted _ y = true from rfl)]
                have f87 : ρ (.tmp 87) = .pointer (some (ad.add (ix * 3))) := hn 3 _ 87 rfl (by kernel_rfl) rfl
                exact does_ok (v := .pointer (some (ad.add (ix * 3)))) (w' := w2) (by simp [go_sem, hreg.const, f87]) ⟨rfl, Below.refl _ _⟩
              · cases ho
                rw [if_pos (show Region.wanted _ y = true from rfl)]
                have f88 : ρ (.tmp 88) = .pointer (some (ad.add (ix * 3))) := hn 4 _ 88 rfl (by kernel_rfl) rfl
                have k0 := cell_keep hb2 e0
                exact does_ok (v := .int .i32 p2) (w' := w2) (by simp [go_sem, hreg.const, f88, k0]) ⟨rfl, Below.refl _ _⟩
              · cases ho
                rw [if_pos (show Region.wanted _ y = true from rfl)]
                have f10 : ρ (.tmp 10) = .int .i64 (k : Nat) := hf 10 (by kernel_rfl)
                exact ⟨f10, Below.refl _ _⟩
              · cases ho
                rw [if_pos (show Region.wanted _ y = true from rfl)]
                have f90 : ρ (.tmp 90) = .int .i64 (k : Nat) := hn 6 _ 90 rfl (by kernel_rfl) rfl
                exact does_ok (v := .int .i32 (k : Nat)) (w' := w2) (by simp [go_sem, hreg.const, f90, wk]) ⟨rfl, Below.refl _ _⟩
              · cases ho
                rw [if_pos (show Region.wanted _ y = true from rfl)]
                have f89 : ρ (.tmp 89) = .int .i32 p2 := hn 5 _ 89 rfl (by kernel_rfl) rfl
                have f91 : ρ (.tmp 91) = .int .i32 (k : Nat) := hn 7 _ 91 rfl (by kernel_rfl) rfl
                exact does_ok (v := .int .i32 (p2 + (k : Nat))) (w' := w2) (by simp [go_sem, hreg.const, f89, f91, wp]) ⟨rfl, Below.refl _ _⟩
              · cases ho
                rw [if_pos (show Region.wanted _ y = true from rfl)]
                have f0 : ρ (.tmp 0) = .slice (some ad) n c := hf 0 (by kernel_rfl)
                exact ⟨f0, Below.refl _ _⟩
              · cases ho
                rw [if_pos (show Region.wanted _ y = true from rfl)]
                have f9 : ρ (.tmp 9) = .int .i64 (ix : Nat) := hf 9 (by kernel_rfl)
                exact ⟨f9, Below.refl _ _⟩
              · cases ho
                rw [if_pos (show Region.wanted _ y = true from rfl)]
                have f93 : ρ (.tmp 93) = .slice (some ad) n c := hn 9 _ 93 rfl (by kernel_rfl) rfl
                have f94 : ρ (.tmp 94) = .int .i64 (ix : Nat) := hn 10 _ 94 rfl (by kernel_rfl) rfl
                exact does_ok (v := .pointer (some (ad.add (ix * 3)))) (w' := w2) (by simp [go_sem, hreg.const, f93, f94, hi1, hi2]) ⟨rfl, Below.refl _ _⟩
              · cases ho
                rw [if_pos (show Region.wanted _ y = true from rfl)]
                have f95 : ρ (.tmp 95) = .pointer (some (ad.add (ix * 3))) := hn 11 _ 95 rfl (by kernel_rfl) rfl
                exact does_ok (v := .pointer (some ⟨(ad.add (ix * 3)).block, (ad.add (ix * 3)).off + 1, none⟩)) (w' := w2) (by simp [go_sem, hreg.const, f95]) ⟨rfl, Below.refl _ _⟩
              · cases ho
                rw [if_pos (show Region.wanted _ y = true from rfl)]
                have f96 : ρ (.tmp 96) = .pointer (some ⟨(ad.add (ix * 3)).block, (ad.add (ix * 3)).off + 1, none⟩) := hn 12 _ 96 rfl (by kernel_rfl) rfl
                have k0 := cell_keep hb2 e1
                exact does_ok (v := .int .i32 q2) (w' := w2) (by simp [go_sem, hreg.const, f96, k0]) ⟨rfl, Below.refl _ _⟩
              · cases ho
                rw [if_pos (show Region.wanted _ y = true from rfl)]
                have f10 : ρ (.tmp 10) = .int .i64 (k : Nat) := hf 10 (by kernel_rfl)
                exact ⟨f10, Below.refl _ _⟩
              · cases ho
                rw [if_pos (show Region.wanted _ y = true from rfl)]
                have f98 : ρ (.tmp 98) = .int .i64 (k : Nat) := hn 14 _ 98 rfl (by kernel_rfl) rfl
                exact does_ok (v := .int .i32 (k : Nat)) (w' := w2) (by simp [go_sem, hreg.const, f98, wk]) ⟨rfl, Below.refl _ _⟩
              · cases ho
                rw [if_pos (show Region.wanted _ y = true from rfl)]
                have f97 : ρ (.tmp 97) = .int .i32 q2 := hn 13 _ 97 rfl (by kernel_rfl) rfl
                have f99 : ρ (.tmp 99) = .int .i32 (k : Nat) := hn 15 _ 99 rfl (by kernel_rfl) rfl
                exact does_ok (v := .int .i32 (q2 + (k : Nat))) (w' := w2) (by simp [go_sem, hreg.const, f97, f99, wq]) ⟨rfl, Below.refl _ _⟩
              · cases ho
                rw [if_pos (show Region.wanted _ y = true from rfl)]
                have f92 : ρ (.tmp 92) = .int .i32 (p2 + (k : Nat)) := hn 8 _ 92 rfl (by kernel_rfl) rfl
                have f100 : ρ (.tmp 100) = .int .i32 (q2 + (k : Nat)) := hn 16 _ 100 rfl (by kernel_rfl) rfl
                exact does_ok (v := .slice (some ⟨w2.heap.size, 0, none⟩) 2 2) (w' := w2.alloc (.cells #[.int .i32 (p2 + (k : Int)), .int .i32 (q2 + (k : Int))] 21)) (by simp [go_sem, f92, f100, hii, hz0, hz1, hz2]) ⟨⟨_, rfl, _, rfl, Rd.new w2 _ _ _ 2 (0, 0) rfl rfl (by decide)⟩, (Below.refl _ _).alloc (Nat.le_refl _) _⟩
            case refine_2 =>
              intro a w2 hb2 hd hs hfacts hrest
              have q84 : a.tmps.getD 84 undef = u8 := hfacts 0 _ 84 (by decide) rfl rfl
              obtain ⟨V101, q101, g101⟩ : ∃ (V101 : Value), a.tmps.getD 101 undef = V101 ∧ ∃ g, V101 = .slice (some ⟨g, 0, none⟩) 2 2 ∧ Rd enc32 w2 (some ⟨g, 0, none⟩) 2 [p2 + (k : Int), q2 + (k : Int)] := hfacts 17 _ 101 (by decide) rfl rfl
              have ha := frame_ofP hd hs hrest [84, 85, 86, 87, 88, 89, 90, 91, 92, 93, 94, 95, 96, 97, 98, 99, 100, 101] (by kernel_rfl)
              simp only [q84, q101, List.foldl, List.setIfInBounds_toArray, List.set_cons_succ, List.set_cons_zero] at ha
              clear q84 q101 hd hs hfacts hrest
              generalize a.tmps.getD = gg at ha
              subst ha
              have HK2 := Lib.hid (OwnL.below HK.out.1 hb2)
              have HB2 := Lib.hid (Below.thn HK.out.2 hb2)
              clear hb2 e0 e1 e2 wk wp wq
              obtain ⟨gS, rfl, hrd⟩ := g101
              obtain ⟨v1, w3, r1', o1, g1, at1⟩ := run_append_rd (P := Try.prog) (c := 2) wL.heap.size 50 50 21 (.int .i32 0) 4 Try.underlying50 info32 rfl (by decide) (fun _ => rfl) HK2.out hrd (by omega) HB2.out.size
              have HN : Hid (OwnI w3 wL.heap.size v1 (FL (prsL (tb.take ix) ++ (rngL (p2, q2, N2)).take (k + 1))) ∧ Below wL.heap.size wL w3) := Lib.hid ⟨by rw [← HWn.out]; exact o1, HB2.out.grown g1 HB2.out.size (fun j hj => (HK2.out.base j hj).1)⟩
              clear o1 g1 at1 hrd hwl
              simp only [List.drop_succ_cons, List.drop_zero]
              go_wp2_with (at_builtin; refine wpl_append_run rfl _ _ _ rfl rfl rfl r1' ?_)
              exact ⟨⟨k + 1, by omega, by go_num, HN⟩, by simp [intOf]; omega⟩
          · have HNx : Hid (OwnI wr wL.heap.size u8 (FL (prsL (tb.take (ix + 1))))) := Lib.hid (by rw [← want_next HP.out k (by omega)]; exact HK.out.1)
            have HBn := Lib.hid HK.out.2
            obtain ⟨ad', e, p2, q2, N2, HP2, e0, e1, e2⟩ := (HT.out.below HK.out.2).at (k := ix) (by omega)
            clear e0 e1 e2 HP2 e
            go_wp2
            exact ⟨⟨ix + 1, by omega, by go_num, Lib.hid ⟨fun h => absurd HOk.out h, HNx.out, HBn.out⟩⟩, by simp [intOf]; omega⟩
      · have HNo := Lib.hid hok
        have C := Lib.hid (refCheck_any A n c tb wr (HT.out.below HI.out.2.2) HW.out)
        unfold ChkE at C
        rw [chk_no hok] at C
        have hi0 := HI.out.1 hok
        have HWant0 : Hid (OwnI wr wL.heap.size u8 (FL (letL tb))) := Lib.hid (by
          have h := HI.out.2.1
          rw [hi0] at h
          unfold letL
          rw [eff_no hok]
          simpa [prsL] using h)
        clear hok hi0
        go_wp2_with fail
        refine C.out.mono ?_
        rintro e wx ⟨rfl, hb⟩
        have HWant := Lib.hid (OwnL.below HWant0.out hb)
        have HBL := Lib.hid (Below.thn HI.out.2.2 hb)
        clear hb C
        have HBx : Hid (Below w.heap.size w wx) := Lib.hid (KB.out.trans (HBL.out.mono KB.out.size))
        have HOx := Lib.hid (HO.out.below HBL.out)
        go_wp2_with fail
        refine (Letters_any A7 n7 c7 _).mono ?_
        rintro e w1 ⟨rfl, hw1⟩
        have hbx := Boxed.new wx 22 (.slice A7 n7 c7)
        obtain ⟨Bs, hBs⟩ : ∃ Bs, Bs = wx.heap.size := ⟨_, rfl⟩
        have HB1 : Hid (Below wx.heap.size wx w1) := Lib.hid (by rw [hw1]; exact (Below.refl _ _).alloc (Nat.le_refl _) _)
        rw [← hw1, ← hBs] at hbx
        rw [← hBs]
        have HBs := Lib.hid hbx.cell
        have HOS := Lib.hid (HOx.out.below HB1.out)
        have HWS := Lib.hid (OwnL.below HWant.out HB1.out)
        have HBS : Hid (Below w.heap.size w w1) := Lib.hid (Below.thn HBx.out HB1.out)
        have hnil := run_eql_nilF2 39 #[.pointer (some ⟨Bs, 0, none⟩)]
        clear hw1 hbx hBs HBx HOx HB1
        go_wp2_with fail
        clear hnil
        obtain ⟨wS, hwS⟩ : ∃ wS, wS = w1 := ⟨_, rfl⟩
        rw [← hwS] at HBs HOS HWS HBS ⊢
        clear hwS
        obtain ⟨W0, hW0⟩ : ∃ W0, W0 = wS.alloc (.cells #[.slice none 0 0] 50) := ⟨_, rfl⟩
        have hI0 : GtI wS wS.heap.size [] W0 := by
          rw [hW0]
          exact ⟨⟨_, Boxed.new wS _ _, World.ownsRow_nil _ _ _ _, trivial⟩, (Below.refl wS.heap.size wS).alloc (Nat.le_refl _) _⟩
        have hsz0 : W0.heap.size = wS.heap.size + 1 := by rw [hW0]; simp
        rw [← hW0]
        clear hW0
        have HI0 := Lib.hid hI0
        refine wpIn_wide.1 (wpIn_rangeFunc_ownG (n := 10) rfl h10 (gf := 39) (lb := #[.pointer (some ⟨Bs, 0, none⟩)]) rfl trivial (enters_of Try.func39 (by kernel_rfl) rfl)
          (letters_stops 9 Bs (by omega) A7 n7 c7 tb wS wS HBs.out HOS.out (Below.refl _ _)) (fun h k => ⟨h.1.trans k.1, h.2.trans k.2⟩)
          (fun W l o o' hl h ho hw => ⟨belowK_b (w := W0) (by omega) W l o o' hl h ho hw, KeepTy.put h ho⟩) HI0.out.2 (fun _ => rfl)
          (GtI wS wS.heap.size) (fun _ _ _ => False) (gtI_own wS _ _ (by omega)) (fun _ _ _ _ _ hs _ _ => hs) HI0.out
          ?fr1 ?assign1 ?body1 ?done1 ?stop1)
        case assign1 =>
          intro L x W K hK
          gi_wp2
          exact hK
        case body1 =>
          rintro L pre x W ⟨⟨v, hv, hrow, _⟩, hB⟩ hlt
          have hc := hv.cell
          obtain ⟨A1, c1, hvs, hl1, hl2, _⟩ := OwnL.rd (show OwnL enc32 _ W wS.heap.size v (FL pre) from hrow)
          subst hvs
          have hbl : (W.alloc (.cells #[.int .i32 x.1, .int .i32 x.2] 21)).ownsRow wS.heap.size 21 1 (.slice A1 (FL pre).length c1) (FL pre).length ((FL pre).map enc32) := hrow.alloc _
          have hrd : Rd enc32 (W.alloc (.cells #[.int .i32 x.1, .int .i32 x.2] 21)) (some ⟨W.heap.size, 0, none⟩) 2 [x.1, x.2] := Rd.new W _ [x.1, x.2] _ 2 (0, 0) rfl rfl (by decide)
          obtain ⟨v1, w2, r1, o1, g1, at1⟩ := run_append_rd (P := Try.prog) (c := 2) wS.heap.size 50 50 21 (.int .i32 0) 4 Try.underlying50 info32 rfl (by decide) (fun _ => rfl) (show OwnL enc32 _ _ wS.heap.size _ (FL pre) from hbl) hrd (by have := let_len tb; rw [FL_len]; omega) (by have := hB.size; simp; omega)
          have o2 : w2.ownsRow wS.heap.size 21 1 v1 ((FL pre).length + 1 + 1) ((FL (pre ++ [x])).map enc32) := by
            have := o1
            unfold OwnL at this
            rw [FL_app, FL_one]
            simpa using this
          obtain ⟨b1, b2, b3, b4, b5⟩ := Boxed.appended hv (by decide) hrow hB.size (Nat.le_refl _) o2 g1
          obtain ⟨g, cap, hv1⟩ := ownsRow_succ o2
          have HN : Hid (KeepsFrom W0.heap.size W (w2.setCell ⟨wS.heap.size, 0, none⟩ v1) ∧ KpL wS W (w2.setCell ⟨wS.heap.size, 0, none⟩ v1) ∧ GtI wS wS.heap.size (pre ++ [x]) (w2.setCell ⟨wS.heap.size, 0, none⟩ v1)) := Lib.hid ⟨b4.from _, ⟨b5, ?_⟩, ⟨⟨_, b2, by rw [FL_app, FL_one] at *; simpa using b3, trivial⟩, hB.trans b5⟩⟩
          case refine_1 =>
            refine ((KeepTy.below ((Below.refl W.heap.size W).alloc (Nat.le_refl _) _)).trans (KeepTy.grown g1 (KeepTy.row (t := 0) hbl) (by decide))).trans (KeepTy.grown (grownBy_setCell' w2 wS.heap.size v1) (e := 50) (fun k hk => ?_) (by decide))
            cases hk
            exact ⟨_, _, b1⟩
          subst hv1
          have hc1 := b1.cell
          have hf1 := b1.frozen
          obtain ⟨pl, hpl⟩ : ∃ pl, pl = (FL pre).length := ⟨_, rfl⟩
          rw [← hpl] at hc hl1 r1 hc1 HN
          clear hv hrow hB hlt hpl hbl hrd o1 g1 at1 o2 b1 b2 b3 b4 b5 hsz0 hI0
          gi_wp2_with (first | (gi_at_builtin; refine wplIn_append_run rfl _ _ _ rfl rfl rfl r1 ?_))
          exact HN.out
        case done1 =>
          rintro D ys W hD rfl ⟨⟨v, hv, hrow, _⟩, hB⟩ hK
          have hc := hv.cell
          have HR2 := Lib.hid (show OwnI W wS.heap.size v (FL (letL tb)) from hrow)
          have HW2 := Lib.hid (OwnL.below HWS.out hB)
          have HBW := Lib.hid (Below.thn HBS.out hB)
          have HK := Lib.hid hK
          clear hrow hv hB hI0 hK
          go_wp2_with fail
          refine (equalR_v HR2.out HW2.out).mono ?_
          rintro e w3 ⟨rfl, hb⟩
          have HB3 := Lib.hid (Below.thn HBW.out hb)
          have HK3 : Hid (w3.heap[D]? = some (.deferred (some []))) := Lib.hid ((hb.block D (Array.getElem?_eq_some_iff.1 HK.out).1).trans HK.out)
          clear hb hc
          go_wp2
          refine ⟨by simp, .inl ⟨_, _, rfl, run_takeDeferred HK3.out, ?_⟩⟩
          exact ⟨_, results_tmp rfl _ _ _, rfl, HB3.out.trans (belowK_b (w := w) (Nat.le_refl _) w3 D _ _ (by have := HBS.out.size; omega) HK3.out rfl rfl)⟩
        case stop1 =>
          rintro D c pre W _ _ h _
          exact h.elim
    · have HWant : Hid (OwnI wr wL.heap.size u8 (FL (letL tb))) := Lib.hid (by
        have h := HI.out.2.1
        by_cases hok : okTb tb
        · rw [List.take_of_length_le (by have := HT.out.len; omega)] at h
          unfold letL
          rw [eff_yes hok]
          exact h
        · have hi0 := HI.out.1 hok
          rw [hi0] at h
          unfold letL
          rw [eff_no hok]
          simpa [prsL] using h)
      have HBL := Lib.hid HI.out.2.2
      obtain ⟨wx, hwx⟩ : ∃ wx, wx = wr := ⟨_, rfl⟩
      rw [← hwx] at HWant HBL ⊢
      clear hwx
      have HBx : Hid (Below w.heap.size w wx) := Lib.hid (KB.out.trans (HBL.out.mono KB.out.size))
      have HOx := Lib.hid (HO.out.below HBL.out)
      go_wp2_with fail
      refine (Letters_any A7 n7 c7 _).mono ?_
      rintro e w1 ⟨rfl, hw1⟩
      have hbx := Boxed.new wx 22 (.slice A7 n7 c7)
      obtain ⟨Bs, hBs⟩ : ∃ Bs, Bs = wx.heap.size := ⟨_, rfl⟩
      have HB1 : Hid (Below wx.heap.size wx w1) := Lib.hid (by rw [hw1]; exact (Below.refl _ _).alloc (Nat.le_refl _) _)
      rw [← hw1, ← hBs] at hbx
      rw [← hBs]
      have HBs := Lib.hid hbx.cell
      have HOS := Lib.hid (HOx.out.below HB1.out)
      have HWS := Lib.hid (OwnL.below HWant.out HB1.out)
      have HBS : Hid (Below w.heap.size w w1) := Lib.hid (Below.thn HBx.out HB1.out)
      have hnil := run_eql_nilF2 39 #[.pointer (some ⟨Bs, 0, none⟩)]
      clear hw1 hbx hBs HBx HOx HB1
      go_wp2_with fail
      clear hnil
      obtain ⟨wS, hwS⟩ : ∃ wS, wS = w1 := ⟨_, rfl⟩
      rw [← hwS] at HBs HOS HWS HBS ⊢
      clear hwS
      obtain ⟨W0, hW0⟩ : ∃ W0, W0 = wS.alloc (.cells #[.slice none 0 0] 50) := ⟨_, rfl⟩
      have hI0 : GtI wS wS.heap.size [] W0 := by
        rw [hW0]
        exact ⟨⟨_, Boxed.new wS _ _, World.ownsRow_nil _ _ _ _, trivial⟩, (Below.refl wS.heap.size wS).alloc (Nat.le_refl _) _⟩
      have hsz0 : W0.heap.size = wS.heap.size + 1 := by rw [hW0]; simp
      rw [← hW0]
      clear hW0
      have HI0 := Lib.hid hI0
      refine wpIn_wide.1 (wpIn_rangeFunc_ownG (n := 10) rfl h10 (gf := 39) (lb := #[.pointer (some ⟨Bs, 0, none⟩)]) rfl trivial (enters_of Try.func39 (by kernel_rfl) rfl)
        (letters_stops 9 Bs (by omega) A7 n7 c7 tb wS wS HBs.out HOS.out (Below.refl _ _)) (fun h k => ⟨h.1.trans k.1, h.2.trans k.2⟩)
        (fun W l o o' hl h ho hw => ⟨belowK_b (w := W0) (by omega) W l o o' hl h ho hw, KeepTy.put h ho⟩) HI0.out.2 (fun _ => rfl)
        (GtI wS wS.heap.size) (fun _ _ _ => False) (gtI_own wS _ _ (by omega)) (fun _ _ _ _ _ hs _ _ => hs) HI0.out
        ?fr2 ?assign2 ?body2 ?done2 ?stop2)
      case assign2 =>
        intro L x W K hK
        gi_wp2
        exact hK
      case body2 =>
        rintro L pre x W ⟨⟨v, hv, hrow, _⟩, hB⟩ hlt
        have hc := hv.cell
        obtain ⟨A1, c1, hvs, hl1, hl2, _⟩ := OwnL.rd (show OwnL enc32 _ W wS.heap.size v (FL pre) from hrow)
        subst hvs
        have hbl : (W.alloc (.cells #[.int .i32 x.1, .int .i32 x.2] 21)).ownsRow wS.heap.size 21 1 (.slice A1 (FL pre).length c1) (FL pre).length ((FL pre).map enc32) := hrow.alloc _
        have hrd : Rd enc32 (W.alloc (.cells #[.int .i32 x.1, .int .i32 x.2] 21)) (some ⟨W.heap.size, 0, none⟩) 2 [x.1, x.2] := Rd.new W _ [x.1, x.2] _ 2 (0, 0) rfl rfl (by decide)
        obtain ⟨v1, w2, r1, o1, g1, at1⟩ := run_append_rd (P := Try.prog) (c := 2) wS.heap.size 50 50 21 (.int .i32 0) 4 Try.underlying50 info32 rfl (by decide) (fun _ => rfl) (show OwnL enc32 _ _ wS.heap.size _ (FL pre) from hbl) hrd (by have := let_len tb; rw [FL_len]; omega) (by have := hB.size; simp; omega)
        have o2 : w2.ownsRow wS.heap.size 21 1 v1 ((FL pre).length + 1 + 1) ((FL (pre ++ [x])).map enc32) := by
          have := o1
          unfold OwnL at this
          rw [FL_app, FL_one]
          simpa using this
        obtain ⟨b1, b2, b3, b4, b5⟩ := Boxed.appended hv (by decide) hrow hB.size (Nat.le_refl _) o2 g1
        obtain ⟨g, cap, hv1⟩ := ownsRow_succ o2
        have HN : Hid (KeepsFrom W0.heap.size W (w2.setCell ⟨wS.heap.size, 0, none⟩ v1) ∧ KpL wS W (w2.setCell ⟨wS.heap.size, 0, none⟩ v1) ∧ GtI wS wS.heap.size (pre ++ [x]) (w2.setCell ⟨wS.heap.size, 0, none⟩ v1)) := Lib.hid ⟨b4.from _, ⟨b5, ?_⟩, ⟨⟨_, b2, by rw [FL_app, FL_one] at *; simpa using b3, trivial⟩, hB.trans b5⟩⟩
        case refine_1 =>
          refine ((KeepTy.below ((Below.refl W.heap.size W).alloc (Nat.le_refl _) _)).trans (KeepTy.grown g1 (KeepTy.row (t := 0) hbl) (by decide))).trans (KeepTy.grown (grownBy_setCell' w2 wS.heap.size v1) (e := 50) (fun k hk => ?_) (by decide))
          cases hk
          exact ⟨_, _, b1⟩
        subst hv1
        have hc1 := b1.cell
        have hf1 := b1.frozen
        obtain ⟨pl, hpl⟩ : ∃ pl, pl = (FL pre).length := ⟨_, rfl⟩
        rw [← hpl] at hc hl1 r1 hc1 HN
        clear hv hrow hB hlt hpl hbl hrd o1 g1 at1 o2 b1 b2 b3 b4 b5 hsz0 hI0
        gi_wp2_with (first | (gi_at_builtin; refine wplIn_append_run rfl _ _ _ rfl rfl rfl r1 ?_))
        exact HN.out
      case done2 =>
        rintro D ys W hD rfl ⟨⟨v, hv, hrow, _⟩, hB⟩ hK
        have hc := hv.cell
        have HR2 := Lib.hid (show OwnI W wS.heap.size v (FL (letL tb)) from hrow)
        have HW2 := Lib.hid (OwnL.below HWS.out hB)
        have HBW := Lib.hid (Below.thn HBS.out hB)
        have HK := Lib.hid hK
        clear hrow hv hB hI0 hK
        go_wp2_with fail
        refine (equalR_v HR2.out HW2.out).mono ?_
        rintro e w3 ⟨rfl, hb⟩
        have HB3 := Lib.hid (Below.thn HBW.out hb)
        have HK3 : Hid (w3.heap[D]? = some (.deferred (some []))) := Lib.hid ((hb.block D (Array.getElem?_eq_some_iff.1 HK.out).1).trans HK.out)
        clear hb hc
        go_wp2
        refine ⟨by simp, .inl ⟨_, _, rfl, run_takeDeferred HK3.out, ?_⟩⟩
        exact ⟨_, results_tmp rfl _ _ _, rfl, HB3.out.trans (belowK_b (w := w) (Nat.le_refl _) w3 D _ _ (by have := HBS.out.size; omega) HK3.out rfl rfl)⟩
      case stop2 =>
        rintro D c pre W _ _ h _
        exact h.elim
end Go.Proofs.Ytlbphgbhkbgknaa
