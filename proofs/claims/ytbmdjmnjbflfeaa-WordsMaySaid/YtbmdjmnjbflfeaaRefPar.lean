import Derived.Test.YtbmdjmnjbflfeaaRefSm
import Derived.Test.YtbmdjmnjbflfeaaBackLaw
import Derived.BigQuiet
import Derived.Lib.AppendStr
import Derived.Laws.Tables

/- The document's: bytes that are taken; what is read of a form (plain). -/
namespace Go.Proofs.Ytbmdjmnjbflfeaa
open Go.RowKit Go.Shelf
set_option linter.unusedVariables false
set_option linter.unusedSimpArgs false

def tk1 (l : List Nat) (k : Nat) : Nat := l.getD k 0
def tk2 (l : List Nat) (k : Nat) : Nat := 256 * tk1 l k + tk1 l (k + 1)
theorem tk1_lt {l : List Nat} (h : Byt l) (k : Nat) : tk1 l k < 256 := h.getD k
theorem tk2_lt {l : List Nat} (h : Byt l) (k : Nat) : tk2 l k < 65536 := by
  have h1 := tk1_lt h k
  have h2 := tk1_lt h (k + 1)
  unfold tk2
  omega
/-- The taker's box. -/
abbrev TkB (W : World) (g : Nat) (T : Option Addr) (nt ct k : Nat) : Prop := W.heap[g]? = some (.cells #[.slice T nt ct, .int .i64 (k : Nat)] 97 (0, 0))
theorem tkB_facts {W : World} {g : Nat} {T : Option Addr} {nt ct k : Nat} (h : TkB W g T nt ct k) : W.cell? ⟨g, 0, none⟩ = some (.slice T nt ct) ∧ W.cell? ⟨g, 1, none⟩ = some (.int .i64 (k : Nat)) ∧ W.frozen? ⟨g, 1, none⟩ = false := by
  simp [World.cell?, World.frozen?, show W.heap[g]? = _ from h]
theorem tkB_set {W : World} {g : Nat} {T : Option Addr} {nt ct k : Nat} (h : TkB W g T nt ct k) (j : Nat) : TkB (W.setCell ⟨g, 1, none⟩ (.int .i64 (j : Nat))) g T nt ct j := by
  simp [TkB, World.setCell, Array.getElem?_modify, show W.heap[g]? = _ from h]
set_option maxRecDepth 100000 in
set_option maxHeartbeats 2000000 in
theorem one_tk (w0 W : World) (g : Nat) (T : Option Addr) (nt ct k : Nat) (l : List Nat) (hB : Below w0.heap.size w0 W) (ht : RdB w0 T nt l) (htc : nt ≤ ct) (htc2 : ct ≤ 9223372036854775807) (hg : w0.heap.size ≤ g) (hb : TkB W g T nt ct k) (hk : k ≤ 1000000) :
    Calls Try.prog 60 #[.pointer (some ⟨g, 0, none⟩)] W fun e w' => e = .returned (.int .i64 (tk1 l k : Nat)) ∧ TkB w' g T nt ct (k + 1) ∧ W.grownBy w' (some g) := by
  obtain ⟨c0, c1, xf⟩ := tkB_facts hb
  have hS := tkB_set hb (k + 1)
  have hgr := grown_setCell W ⟨g, 1, none⟩ (.int .i64 ((k + 1 : Nat) : Int))
  have hBS : Below w0.heap.size w0 (W.setCell ⟨g, 1, none⟩ (.int .i64 ((k + 1 : Nat) : Int))) := hB.setCell (p := ⟨g, 1, none⟩) hg _
  obtain ⟨K, hK⟩ : ∃ K, K = k + 1 := ⟨_, rfl⟩
  rw [← hK] at hS hgr hBS ⊢
  obtain ⟨s0, s1, _⟩ := tkB_facts hS
  have hkk : (k : Int) + 1 = (K : Int) := by omega
  have hKm : (K : Int) - 1 = (k : Int) := by omega
  have hK2 : K ≤ 1000001 := by omega
  obtain ⟨R, hR⟩ : ∃ R, R = tk1 l k := ⟨_, rfl⟩
  rw [← hR]
  have HR := Lib.hid hR
  have HS := Lib.hid hS
  have HG := Lib.hid hgr
  have HT := Lib.hid (ht.below hBS)
  have HLn := Lib.hid ht.len
  have HKE := Lib.hid hK
  clear hR hS hgr ht hB hBS hb hK
  go_enter Try.func60, Try.ntmps60
  by_cases h1 : (K : Int) > (nt : Int)
  · have H0 : Hid (R = 0) := Lib.hid (by
      rw [HR.out]
      have := HLn.out
      have := HKE.out
      unfold tk1
      rw [List.getD_eq_getElem?_getD, List.getElem?_eq_none (by omega)]
      rfl)
    go_upto_region 2 with fail
    go_quiet (fail)
    go_wp2
    go_ret
    exact ⟨by rw [H0.out]; rfl, HS.out, HG.out.trans ⟨rfl, rfl, rfl, Nat.le_refl _, fun _ _ _ => rfl⟩⟩
  · obtain ⟨ad, x, rfl, HX, hx, x0⟩ := HT.out.at (k := k) (by have := HKE.out; omega)
    have H0 : Hid (R = x) := Lib.hid (by rw [HR.out, HX.out]; rfl)
    have hkn : (k : Int) < (nt : Int) := by omega
    go_upto_region 2 with fail
    go_quiet (fail)
    go_upto_region 4 with fail
    go_quiet (fail)
    go_wp2
    go_ret
    exact ⟨by rw [H0.out]; rfl, HS.out, HG.out.trans ⟨rfl, rfl, rfl, Nat.le_refl _, fun _ _ _ => rfl⟩⟩
set_option maxRecDepth 100000 in
set_option maxHeartbeats 2000000 in
theorem two_tk (w0 W : World) (g : Nat) (T : Option Addr) (nt ct k : Nat) (l : List Nat) (hB : Below w0.heap.size w0 W) (ht : RdB w0 T nt l) (htc : nt ≤ ct) (htc2 : ct ≤ 9223372036854775807) (hg : w0.heap.size ≤ g) (hb : TkB W g T nt ct k) (hk : k ≤ 999999) :
    Calls Try.prog 61 #[.pointer (some ⟨g, 0, none⟩)] W fun e w' => e = .returned (.int .i64 (tk2 l k : Nat)) ∧ TkB w' g T nt ct (k + 2) ∧ W.grownBy w' (some g) := by
  have C1 := Lib.hid (one_tk w0 W g T nt ct k l hB ht htc htc2 hg hb (by omega))
  have C2 : Hid (∀ w9, TkB w9 g T nt ct (k + 1) → W.grownBy w9 (some g) → Calls Try.prog 60 #[.pointer (some ⟨g, 0, none⟩)] w9 fun e w' => e = .returned (.int .i64 (tk1 l (k + 1) : Nat)) ∧ TkB w' g T nt ct (k + 1 + 1) ∧ w9.grownBy w' (some g)) := Lib.hid fun w9 h9 hg9 =>
    one_tk w0 w9 g T nt ct (k + 1) l (hB.grown hg9 hB.size (fun j hj => by cases hj; exact hg)) ht htc htc2 hg h9 (by omega)
  obtain ⟨a, ha⟩ : ∃ a, a = tk1 l k := ⟨_, rfl⟩
  obtain ⟨b, hb'⟩ : ∃ b, b = tk1 l (k + 1) := ⟨_, rfl⟩
  have ha8 : a < 256 := by rw [ha]; exact tk1_lt ht.byt k
  have hb8 : b < 256 := by rw [hb']; exact tk1_lt ht.byt _
  have HT : Hid (tk2 l k = 256 * a + b) := Lib.hid (by rw [ha, hb']; rfl)
  rw [← ha] at C1
  rw [← hb'] at C2
  have hmul : IntKind.i64.wrap (256 * (a : Int)) = ((256 * a : Nat) : Int) := by rw [IntKind.wrap_i64]; omega
  obtain ⟨P, hP⟩ : ∃ P, P = 256 * a := ⟨_, rfl⟩
  rw [← hP] at hmul
  have hP2 : P ≤ 65280 := by omega
  have HP := Lib.hid hP
  clear ha hb' hB ht hb hP
  go_enter Try.func61, Try.ntmps61
  go_wp2_with fail
  refine C1.out.mono ?_
  rintro e w1 ⟨rfl, h1, hg1⟩
  have HG1 := Lib.hid hg1
  have C3 := Lib.hid (C2.out w1 h1 hg1)
  clear C1 C2 h1 hg1
  go_wp2_with fail
  refine C3.out.mono ?_
  rintro e w2 ⟨rfl, h2, hg2⟩
  have HH := Lib.hid h2
  have HG2 := Lib.hid (HG1.out.trans hg2)
  clear C3 h2 hg2
  go_wp2
  go_ret
  exact ⟨by rw [HT.out, ← HP.out]; simp, HH.out, HG2.out⟩

/-- What is read of a form. -/
def foR (l : List Nat) (k : Nat) : Fo := ((tk2 l k : Nat), (tk2 l (k + 2) : Nat), ((tk1 l (k + 4) : Nat) : Int) + 1)
def fosR (l : List Nat) (k n : Nat) : List Fo := (List.range n).map fun i => foR l (k + 5 * i)
def stR (l : List Nat) (k n : Nat) : List Nat := (List.range n).map fun i => tk1 l (k + i)
def stsR (l : List Nat) (k : Nat) : Nat → List ByteArray × Nat
  | 0 => ([], k)
  | j + 1 => ((stsR l k j).1 ++ [strL (stR l ((stsR l k j).2 + 1) (tk1 l (stsR l k j).2))], (stsR l k j).2 + 1 + tk1 l (stsR l k j).2)
def prsR (l : List Nat) : Cf := ⟨fosR l 2 (tk1 l 1), (stsR l (3 + 5 * tk1 l 1) (tk1 l (2 + 5 * tk1 l 1))).1, (tk1 l 0 : Nat)⟩
theorem fosR_succ (l : List Nat) (k n : Nat) : fosR l k (n + 1) = fosR l k n ++ [foR l (k + 5 * n)] := by simp [fosR, List.range_succ]
theorem stR_succ (l : List Nat) (k n : Nat) : stR l k (n + 1) = stR l k n ++ [tk1 l (k + n)] := by simp [stR, List.range_succ]
theorem fosR_len (l : List Nat) (k n : Nat) : (fosR l k n).length = n := by simp [fosR]
theorem stR_len (l : List Nat) (k n : Nat) : (stR l k n).length = n := by simp [stR]
theorem stsR_len (l : List Nat) (k : Nat) : ∀ j, (stsR l k j).1.length = j
  | 0 => rfl
  | j + 1 => by simp [stsR, stsR_len l k j]
theorem stsR_at {l : List Nat} (hb : Byt l) (k : Nat) : ∀ j, (stsR l k j).2 ≤ k + 256 * j
  | 0 => by simp [stsR]
  | j + 1 => by
    have h1 := stsR_at hb k j
    have h2 := tk1_lt hb (stsR l k j).2
    simp only [stsR]
    omega
theorem stR_byt {l : List Nat} (hb : Byt l) (k n : Nat) : Byt (stR l k n) := by
  intro x hx
  simp only [stR, List.mem_map] at hx
  obtain ⟨i, _, rfl⟩ := hx
  exact tk1_lt hb _
theorem stsR_sz {l : List Nat} (hb : Byt l) (k : Nat) : ∀ j, ∀ x ∈ (stsR l k j).1, x.size ≤ 255
  | 0, x, hx => by simp [stsR] at hx
  | j + 1, x, hx => by
    simp only [stsR, List.mem_append, List.mem_singleton] at hx
    rcases hx with hx | rfl
    · exact stsR_sz hb k j x hx
    · rw [strL_size, stR_len]
      have := tk1_lt hb (stsR l k j).2
      omega
theorem fosR_wf {l : List Nat} (hb : Byt l) (k n : Nat) : wfT (fosR l k n) := by
  intro x hx
  simp only [fosR, List.mem_map] at hx
  obtain ⟨i, _, rfl⟩ := hx
  have a1 := tk2_lt hb (k + 5 * i)
  have a2 := tk2_lt hb (k + 5 * i + 2)
  have a3 := tk1_lt hb (k + 5 * i + 4)
  unfold foR
  refine ⟨⟨?_, ?_⟩, ⟨?_, ?_⟩, ?_, ?_⟩ <;> simp only <;> omega
theorem tk1_mid (A B : List Nat) (i : Nat) : tk1 (A ++ B) (A.length + i) = tk1 B i := by
  unfold tk1
  rw [List.getD_eq_getElem?_getD, List.getD_eq_getElem?_getD, List.getElem?_append_right (by omega), Nat.add_sub_cancel_left]
theorem tk1_fst (A B : List Nat) (x : Nat) : tk1 (A ++ x :: B) A.length = x := by
  have := tk1_mid A (x :: B) 0
  rw [Nat.add_zero] at this
  rw [this]; rfl
theorem foR_fmF {x : Fo} (h : gd x) (A B : List Nat) : foR (A ++ (fmF x ++ B)) A.length = x := by
  have hr := gd_rng h
  obtain ⟨p, hp⟩ : ∃ p : Nat, x.1 = (p : Int) := ⟨x.1.toNat, by omega⟩
  obtain ⟨q, hq⟩ : ∃ q : Nat, x.2.1 = (q : Int) := ⟨x.2.1.toNat, by omega⟩
  obtain ⟨r, hr2⟩ : ∃ r : Nat, x.2.2 = (r : Int) + 1 := ⟨(x.2.2 - 1).toNat, by have := h.1; omega⟩
  have hf : fmF x ++ B = [p / 256 % 256, p % 256, q / 256 % 256, q % 256, r] ++ B := by
    unfold fmF
    rw [hp, hq, hr2]
    simp [be]
  rw [hf]
  have t0 := tk1_mid A ([p / 256 % 256, p % 256, q / 256 % 256, q % 256, r] ++ B) 0
  have t1 := tk1_mid A ([p / 256 % 256, p % 256, q / 256 % 256, q % 256, r] ++ B) 1
  have t2 := tk1_mid A ([p / 256 % 256, p % 256, q / 256 % 256, q % 256, r] ++ B) 2
  have t3 := tk1_mid A ([p / 256 % 256, p % 256, q / 256 % 256, q % 256, r] ++ B) 3
  have t4 := tk1_mid A ([p / 256 % 256, p % 256, q / 256 % 256, q % 256, r] ++ B) 4
  simp only [tk1, List.cons_append, List.nil_append, List.getD_cons_succ, List.getD_cons_zero, Nat.add_zero] at t0 t1 t2 t3 t4
  obtain ⟨a, b, c⟩ := x
  simp only at hp hq hr2 hr
  unfold foR tk2 tk1
  simp only [List.cons_append, List.nil_append, Nat.add_assoc, Nat.reduceAdd]
  rw [t0, t1, t2, t3, t4, hp, hq, hr2]
  refine Prod.ext ?_ (Prod.ext ?_ rfl)
  · simp only; omega
  · simp only; omega
theorem fosR_form (fo : List Fo) (hg : ∀ x ∈ fo, gd x) : ∀ (A B : List Nat), fosR (A ++ (fo.flatMap fmF ++ B)) A.length fo.length = fo := by
  intro A B
  refine List.ext_getElem (fosR_len _ _ _) fun i h1 h2 => ?_
  have hl : ∀ L : List Fo, (L.flatMap fmF).length = 5 * L.length := fun L => by
    induction L with
    | nil => rfl
    | cons a L ih => rw [List.flatMap_cons, List.length_append, fmF_len, ih, List.length_cons]; omega
  simp only [fosR, List.getElem_map, List.getElem_range]
  have hs : fo.flatMap fmF = (fo.take i).flatMap fmF ++ (fmF fo[i] ++ (fo.drop (i + 1)).flatMap fmF) := by
    rw [← List.flatMap_cons, ← List.drop_eq_getElem_cons h2, ← List.flatMap_append, List.take_append_drop]
  have h3 := foR_fmF (hg _ (List.getElem_mem h2)) (A ++ (fo.take i).flatMap fmF) ((fo.drop (i + 1)).flatMap fmF ++ B)
  rw [List.length_append, hl, List.length_take, Nat.min_eq_left (by omega)] at h3
  rw [hs]
  simpa [List.append_assoc] using h3
theorem stR_fmS (s : ByteArray) (A B : List Nat) : strL (stR (A ++ (fmS s ++ B)) (A.length + 1) (tk1 (A ++ (fmS s ++ B)) A.length)) = s ∧ tk1 (A ++ (fmS s ++ B)) A.length = s.size := by
  have h0 : tk1 (A ++ (fmS s ++ B)) A.length = s.size := by
    unfold fmS
    rw [List.cons_append, tk1_fst]
  refine ⟨?_, h0⟩
  rw [h0]
  have : stR (A ++ (fmS s ++ B)) (A.length + 1) s.size = bsL s := by
    refine List.ext_getElem (by rw [stR_len, bsL_len]) fun i h1 h2 => ?_
    simp only [stR, List.getElem_map, List.getElem_range]
    rw [Nat.add_assoc, tk1_mid]
    unfold fmS tk1
    rw [List.cons_append, Nat.add_comm 1 i, List.getD_cons_succ, List.getD_eq_getElem?_getD, List.getElem?_append_left h2, List.getElem?_eq_getElem h2]
    rfl
  rw [this, bsL_str]
theorem stsR_form (st : List ByteArray) : ∀ (A B : List Nat) (j : Nat), j ≤ st.length → stsR (A ++ (st.flatMap fmS ++ B)) A.length j = (st.take j, A.length + ((st.take j).flatMap fmS).length)
  | A, B, 0, _ => by simp [stsR]
  | A, B, j + 1, hj => by
    have ih := stsR_form st A B j (by omega)
    have hl : j < st.length := by omega
    have hs : st.flatMap fmS = (st.take j).flatMap fmS ++ (fmS st[j] ++ (st.drop (j + 1)).flatMap fmS) := by
      rw [← List.flatMap_cons, ← List.drop_eq_getElem_cons hl, ← List.flatMap_append, List.take_append_drop]
    have h3 := stR_fmS st[j] (A ++ (st.take j).flatMap fmS) ((st.drop (j + 1)).flatMap fmS ++ B)
    have he : A ++ (st.flatMap fmS ++ B) = (A ++ (st.take j).flatMap fmS) ++ (fmS st[j] ++ ((st.drop (j + 1)).flatMap fmS ++ B)) := by rw [hs]; simp [List.append_assoc]
    rw [← he, List.length_append] at h3
    unfold stsR
    rw [ih]
    simp only
    rw [h3.1, h3.2, List.take_succ_eq_append_getElem hl, List.flatMap_append, List.length_append]
    simp only [List.flatMap_cons, List.flatMap_nil, List.append_nil, Prod.mk.injEq, true_and]
    rw [show (fmS st[j]).length = st[j].size + 1 from by simp [fmS, bsL_len]]
    omega
theorem prsR_form {cf : Cf} (hm : mayC cf) : prsR (fmtC cf) = cf := by
  have hgd : ∀ x ∈ cf.fo, gd x := fun x hx => by
    obtain ⟨i, hi, rfl⟩ := List.mem_iff_getElem.1 hx
    exact (hm.1.2.1 i hi).1
  have hl : ∀ L : List Fo, (L.flatMap fmF).length = 5 * L.length := fun L => by
    induction L with
    | nil => rfl
    | cons a L ih => rw [List.flatMap_cons, List.length_append, fmF_len, ih, List.length_cons]; omega
  have hc : ((cf.cap.toNat : Nat) : Int) = cf.cap := by have := hm.2.1; omega
  have e1 : fmtC cf = [cf.cap.toNat, cf.fo.length] ++ (cf.fo.flatMap fmF ++ ([cf.st.length] ++ cf.st.flatMap fmS)) := by simp [fmtC]
  have e2 : fmtC cf = ([cf.cap.toNat, cf.fo.length] ++ cf.fo.flatMap fmF) ++ (cf.st.length :: cf.st.flatMap fmS) := by simp [fmtC]
  have e3 : fmtC cf = ([cf.cap.toNat, cf.fo.length] ++ cf.fo.flatMap fmF ++ [cf.st.length]) ++ (cf.st.flatMap fmS ++ []) := by simp [fmtC]
  have t0 : tk1 (fmtC cf) 0 = cf.cap.toNat := by rw [e1]; rfl
  have t1 : tk1 (fmtC cf) 1 = cf.fo.length := by rw [e1]; rfl
  have t2 : tk1 (fmtC cf) (2 + 5 * cf.fo.length) = cf.st.length := by
    have := tk1_fst ([cf.cap.toNat, cf.fo.length] ++ cf.fo.flatMap fmF) (cf.st.flatMap fmS) cf.st.length
    rw [← e2, List.length_append, hl] at this
    exact this
  have f1 := fosR_form cf.fo hgd [cf.cap.toNat, cf.fo.length] ([cf.st.length] ++ cf.st.flatMap fmS)
  rw [← e1] at f1
  have f2 := stsR_form cf.st ([cf.cap.toNat, cf.fo.length] ++ cf.fo.flatMap fmF ++ [cf.st.length]) [] cf.st.length (Nat.le_refl _)
  rw [← e3, List.length_append, List.length_append, hl, List.take_length] at f2
  unfold prsR
  rw [t0, t1, t2, hc]
  have g1 : fosR (fmtC cf) 2 cf.fo.length = cf.fo := f1
  have g2 : (stsR (fmtC cf) (3 + 5 * cf.fo.length) cf.st.length).1 = cf.st := by
    have e : 3 + 5 * cf.fo.length = [cf.cap.toNat, cf.fo.length].length + 5 * cf.fo.length + [cf.st.length].length := by simp; omega
    rw [e, f2]
  rw [g1, g2]
open Classical in
noncomputable def parR (l : List Nat) : Cf × Int := if bytX (prsR l) = (l, 0) then (prsR l, 0) else (⟨[], [], 0⟩, 140)
theorem bytX_form {cf : Cf} {l : List Nat} (h : bytX cf = (l, 0)) : mayC cf ∧ (fmtC cf).length ≤ 240 ∧ l = fmtC cf := by
  have h1 := bytX_ok (show (bytX cf).2 = 0 by rw [h])
  exact ⟨h1.1, h1.2.1, by rw [← h1.2.2, h]⟩
theorem parR_eq (l : List Nat) : parR l = parX l := by
  by_cases h : ∃ cf, bytX cf = (l, 0)
  · obtain ⟨cf, h⟩ := h
    obtain ⟨h1, h2, rfl⟩ := bytX_form h
    rw [parX_form h1 h2]
    unfold parR
    rw [prsR_form h1, if_pos h]
  · unfold parR parX
    rw [if_neg (fun h1 => h ⟨_, h1⟩), if_neg (fun h1 => h ⟨_, h1.2⟩)]
end Go.Proofs.Ytbmdjmnjbflfeaa

/- A way's form, by the document. -/
namespace Go.Proofs.Ytbmdjmnjbflfeaa
open Go.RowKit Go.Shelf
set_option linter.unusedVariables false
set_option linter.unusedSimpArgs false

/-- Cells of another type stay where a row is written. -/
theorem keep_ty {W W' : World} {k : Nat} {C : Array Value} {t e : TypeId} {fr : Nat × Nat} {v : Value} (h : W.heap[k]? = some (.cells C t fr)) (ho : ∀ j, v.ownBlock = some j → ∃ C' fr', W.heap[j]? = some (.cells C' e fr')) (hg : W.grownBy W' v.ownBlock) (hne : t ≠ e) : W'.heap[k]? = some (.cells C t fr) := by
  refine (hg.block k (Array.getElem?_eq_some_iff.1 h).1 fun e1 => ?_).trans h
  obtain ⟨C', fr', h2⟩ := ho k e1.symm
  rw [h] at h2
  injection h2 with h2
  injection h2 with _ h3 _
  exact hne h3
theorem keep_ty' {W W' : World} {k : Nat} {o : Obj} {e : TypeId} {v : Value} (h : W.heap[k]? = some o) (ho : ∀ j, v.ownBlock = some j → ∃ C' fr', W.heap[j]? = some (.cells C' e fr')) (hg : W.grownBy W' v.ownBlock) (hne : ∀ C fr, o ≠ .cells C e fr) : W'.heap[k]? = some o := by
  refine (hg.block k (Array.getElem?_eq_some_iff.1 h).1 fun e1 => ?_).trans h
  obtain ⟨C', fr', h2⟩ := ho k e1.symm
  rw [h] at h2
  injection h2 with h2
  exact hne _ _ h2
theorem sep_step {W W' : World} {v v' r : Value} {o : Obj} (h : ∃ k : Nat, r = .slice (some ⟨k, 0, none⟩) 1 1 ∧ W.heap[k]? = some o ∧ v.ownBlock ≠ some k) (hg : W.grownBy W' v.ownBlock) (hpl : v'.ownBlock = v.ownBlock ∨ ∃ j, v'.ownBlock = some j ∧ W.heap.size ≤ j) :
    ∃ k : Nat, r = .slice (some ⟨k, 0, none⟩) 1 1 ∧ W'.heap[k]? = some o ∧ v'.ownBlock ≠ some k := by
  obtain ⟨k, e, hk, hne⟩ := h
  refine ⟨k, e, (hg.block k (Array.getElem?_eq_some_iff.1 hk).1 (Ne.symm hne)).trans hk, fun e2 => ?_⟩
  rcases hpl with h1 | ⟨j, h1, h2⟩
  · exact hne (h1 ▸ e2)
  · rw [h1] at e2
    injection e2 with e2
    have := (Array.getElem?_eq_some_iff.1 hk).1
    omega
set_option maxRecDepth 100000 in
set_option maxHeartbeats 2000000 in
theorem two_any {b0 : Nat} {v : Value} {l : List Nat} (n : Nat) (w : World) (ho : OwnB w b0 v l) (hb : b0 ≤ w.heap.size) (hn : n < 65536) (hl : l.length ≤ 100000000) :
    Calls Try.prog 59 #[v, .int .i64 (n : Nat)] w fun e w' => ∃ r, e = .returned r ∧ OwnB w' b0 r (l ++ be 2 n) ∧ w.grownBy w' v.ownBlock ∧ (r.ownBlock = v.ownBlock ∨ ∃ j, r.ownBlock = some j ∧ w.heap.size ≤ j) := by
  have hdiv : (n : Int).tdiv 256 = ((n / 256 : Nat) : Int) := by
    have : (256 : Int) = ((256 : Nat) : Int) := rfl
    rw [this, Int.ofNat_tdiv]
  have hmod : (n : Int).tmod 256 = ((n % 256 : Nat) : Int) := by
    have : (256 : Int) = ((256 : Nat) : Int) := rfl
    rw [this, Int.ofNat_tmod]
  obtain ⟨x, hx⟩ : ∃ x, x = n / 256 := ⟨_, rfl⟩
  obtain ⟨y, hy⟩ : ∃ y, y = n % 256 := ⟨_, rfl⟩
  have hx8 : x < 256 := by omega
  have hy8 : y < 256 := by omega
  rw [← hx] at hdiv
  rw [← hy] at hmod
  have hwx : IntKind.u8.wrap (x : Int) = (x : Int) := by rw [IntKind.wrap_u8]; omega
  have hwy : IntKind.u8.wrap (y : Int) = (y : Int) := by rw [IntKind.wrap_u8]; omega
  have HBE : Hid (be 2 n = [x, y]) := Lib.hid (by
    have : n / 256 % 256 = x := by omega
    simp [be, this, hy])
  obtain ⟨A1, c1, rfl, h1, h2, h3⟩ := OwnL.rd ho.1
  obtain ⟨N, hN⟩ : ∃ N, N = l.length := ⟨_, rfl⟩
  have hbw : Below w.heap.size w (w.alloc (.cells #[.int .u8 (x : Nat), .int .u8 (y : Nat)] 5)) := (Below.refl _ _).alloc (Nat.le_refl _) _
  have hrd := Rd.new w 5 [x, y] #[.int .u8 (x : Nat), .int .u8 (y : Nat)] 2 (0, 0) (enc := encB) rfl rfl (by decide)
  obtain ⟨v1, w1, r1, o1, g1, a1⟩ := run_append_rd (P := Try.prog) (c := 2) b0 26 26 5 (.int .u8 0) 1 Try.underlying26 infoB rfl (by decide) encB_one (ho.1.below hbw) hrd (by omega) (by simp; omega)
  have HX : Hid (OwnB w1 b0 v1 (l ++ be 2 n) ∧ w.grownBy w1 (Value.slice A1 l.length c1).ownBlock ∧ (v1.ownBlock = (Value.slice A1 l.length c1).ownBlock ∨ ∃ j, v1.ownBlock = some j ∧ w.heap.size ≤ j)) := Lib.hid (by
    rw [HBE.out]
    refine ⟨⟨o1, Byt.append ho.2 (by intro z hz; simp at hz; omega)⟩, (grown_below hbw _).trans g1, ?_⟩
    rcases a1 with h | h
    · exact .inl h
    · exact .inr ⟨_, h, by simp⟩)
  rw [← hN] at r1 HX h1 ⊢
  clear ho h3 hbw hrd o1 g1 a1 hx hy hN
  go_enter Try.func59, Try.ntmps59
  go_wp2_with (at_builtin; refine wpl_append_run rfl _ _ _ rfl rfl rfl r1 ?_)
  go_ret
  exact ⟨_, rfl, HX.out⟩
structure B9 (w : World) (b0 g7 p q zz : Nat) (gc : Nat) (cfo : Obj) (Ab : Option Addr) (nb cb : Nat) (l : List Nat) (S : Nat → Prop) (r : Nat → Value) (W : World) : Prop where
  v0 : S 0 → r 0 = .slice Ab nb cb
  v1 : S 1 → r 1 = .pointer (some ⟨g7, 0, none⟩)
  v2 : S 2 → r 2 = .int .i32 (p : Nat)
  v3 : S 3 → r 3 = .int .i64 (p : Nat)
  v5 : S 5 → r 5 = .pointer (some ⟨g7, 1, none⟩)
  v6 : S 6 → r 6 = .int .i32 (q : Nat)
  v7 : S 7 → r 7 = .int .i64 (q : Nat)
  v9 : S 9 → r 9 = .pointer (some ⟨g7, 2, none⟩)
  v10 : S 10 → r 10 = .int .i64 ((zz : Int) + 1)
  v11 : S 11 → r 11 = .int .i64 (zz : Nat)
  v12 : S 12 → r 12 = .int .u8 (zz : Nat)
  f_bx : W.heap[g7]? = some (.cells #[.int .i32 (p : Nat), .int .i32 (q : Nat), .int .i64 ((zz : Int) + 1)] 84 (0, 0))
  f_cb : W.heap[gc]? = some cfo
  f_be : Below w.heap.size w W
  f_sz : b0 ≤ W.heap.size
  o0 : ¬ S 4 → OwnB W b0 (.slice Ab nb cb) (l)
  o4 : S 4 → ¬ S 8 → OwnB W b0 (r 4) (l ++ be 2 p)
  o8 : S 8 → ¬ S 14 → OwnB W b0 (r 8) (l ++ be 2 p ++ be 2 q)
  o14 : S 14 → OwnB W b0 (r 14) (l ++ be 2 p ++ be 2 q ++ [zz])
  s0 : S 13 → ¬ S 4 → ∃ k : Nat, (r 13) = .slice (some ⟨k, 0, none⟩) 1 1 ∧ W.heap[k]? = some (.cells #[.int .u8 (zz : Nat)] 5 (0, 0)) ∧ (.slice Ab nb cb : Value).ownBlock ≠ some k
  s4 : S 13 → S 4 → ¬ S 8 → ∃ k : Nat, (r 13) = .slice (some ⟨k, 0, none⟩) 1 1 ∧ W.heap[k]? = some (.cells #[.int .u8 (zz : Nat)] 5 (0, 0)) ∧ (r 4).ownBlock ≠ some k
  s8 : S 13 → S 8 → ¬ S 14 → ∃ k : Nat, (r 13) = .slice (some ⟨k, 0, none⟩) 1 1 ∧ W.heap[k]? = some (.cells #[.int .u8 (zz : Nat)] 5 (0, 0)) ∧ (r 8).ownBlock ≠ some k
  o15 : S 15 → r 15 = r 14
structure B14 (w : World) (b0 g m jx : Nat) (vF : Value) (cp : Int) (ad : Addr) (d : Nat) (s : ByteArray) (Ab : Option Addr) (nb cb : Nat) (L : List Nat) (S : Nat → Prop) (r : Nat → Value) (W : World) : Prop where
  v0 : S 0 → r 0 = .slice Ab nb cb
  v1 : S 1 → r 1 = .pointer (some ⟨g, 1, none⟩)
  v2 : S 2 → r 2 = .slice (some ad) m d
  v3 : S 3 → r 3 = .int .i64 (jx : Nat)
  v4 : S 4 → r 4 = .pointer (some (ad.add jx))
  v5 : S 5 → r 5 = .string s
  v6 : S 6 → r 6 = .int .i64 (s.size : Nat)
  v7 : S 7 → r 7 = .int .u8 ((s.size % 256 : Nat) : Int)
  v10 : S 10 → r 10 = .pointer (some ⟨g, 1, none⟩)
  v11 : S 11 → r 11 = .slice (some ad) m d
  v12 : S 12 → r 12 = .int .i64 (jx : Nat)
  v13 : S 13 → r 13 = .pointer (some (ad.add jx))
  v14 : S 14 → r 14 = .string s
  f_cf : W.heap[g]? = some (.cells #[vF, .slice (some ad) m d, .int .i64 cp] 25 (0, 0))
  f_st : W.cell? (ad.add jx) = some (.string s)
  f_be : Below w.heap.size w W
  f_sz : b0 ≤ W.heap.size
  o0 : ¬ S 9 → OwnB W b0 (.slice Ab nb cb) (L)
  o9 : S 9 → ¬ S 15 → OwnB W b0 (r 9) (L ++ [s.size % 256])
  o15 : S 15 → OwnB W b0 (r 15) (L ++ [s.size % 256] ++ bsL s)
  s0 : S 8 → ¬ S 9 → ∃ k : Nat, (r 8) = .slice (some ⟨k, 0, none⟩) 1 1 ∧ W.heap[k]? = some (.cells #[.int .u8 ((s.size % 256 : Nat) : Int)] 5 (0, 0))
  o16 : S 16 → r 16 = r 15

theorem keep_low {w W W' : World} {a : Addr} {v : Value} {row : Option Nat} (h : W.cell? a = some v) (hb : Below w.heap.size w W) (hl : a.block < w.heap.size) (hg : W.grownBy W' row) (hr : ∀ k, row = some k → w.heap.size ≤ k) : W'.cell? a = some v := by
  rw [grown_cell hg (by have := hb.size; omega) (fun e => by have := hr _ e.symm; omega)]
  exact h

theorem wrap_mod (k : Nat) (hk : k ≤ 9223372036854775807) : IntKind.u8.wrap (k : Int) = ((k % 256 : Nat) : Int) := by rw [IntKind.wrap_u8]; omega
/-- A stop's form, its length cut to a byte. -/
def fmG (s : ByteArray) : List Nat := s.size % 256 :: bsL s
theorem fmG_len (st : List ByteArray) : (st.flatMap fmG).length = (st.flatMap fmS).length := by
  induction st with
  | nil => rfl
  | cons a st ih => rw [List.flatMap_cons, List.flatMap_cons, List.length_append, List.length_append, ih]; simp [fmG, fmS]
theorem fmG_eq {st : List ByteArray} (h : ∀ s ∈ st, s.size ≤ 255) : st.flatMap fmG = st.flatMap fmS := by
  induction st with
  | nil => rfl
  | cons a st ih =>
    rw [List.flatMap_cons, List.flatMap_cons, ih (fun s hs => h s (by simp [hs]))]
    have := h a (by simp)
    simp only [fmG, fmS]
    rw [Nat.mod_eq_of_lt (by omega)]
theorem fmG_byt (s : ByteArray) : Byt (fmG s) := by
  intro x hx
  simp only [fmG, List.mem_cons] at hx
  rcases hx with rfl | hx
  · omega
  · exact bsL_byt s x hx
theorem strCells_bsL (s : ByteArray) : Lib.strCells s = (bsL s).map encB := by
  unfold Lib.strCells bsL
  simp [Function.comp_def]
theorem run_append_s {w : World} {b0 : Nat} {v : Value} {l : List Nat} (s : ByteArray) (ho : OwnB w b0 v l) (hl : l.length + s.size ≤ 140737488355328) (hb : b0 ≤ w.heap.size) :
    ∃ v' w', (Builtin.append_ #[26, 9] 26 #[v, .string s]).run Try.prog w = .ok v' w' ∧ OwnB w' b0 v' (l ++ bsL s) ∧ w.grownBy w' v.ownBlock := by
  obtain ⟨i, hi, h1, h2, h3⟩ : ∃ i, Try.prog.info? 5 = some i ∧ i.zero = some (.int .u8 0) ∧ i.size = 1 ∧ i.bytes = 1 := by
    have h := infoB
    cases hi : Try.prog.info? 5 with
    | none => rw [hi] at h; cases h
    | some i =>
      rw [hi] at h
      simp only [Option.map_some, Option.some.injEq, Prod.mk.injEq] at h
      exact ⟨i, rfl, h.1, h.2.1, h.2.2⟩
  obtain ⟨v', w', r, o, g, _⟩ := Lib.run_append_own_string (P := Try.prog) w b0 26 9 26 5 i Try.underlying26 Try.underlying9 hi h1 h2 h3 v l.length (l.map encB) ho.1 s (by unfold maxLen; omega) hl hb
  refine ⟨v', w', r, ⟨?_, ho.2.append (bsL_byt s)⟩, g⟩
  unfold OwnL
  rw [List.length_append, bsL_len, List.map_append, ← strCells_bsL]
  exact o
set_option maxRecDepth 100000 in
set_option maxHeartbeats 8000000 in
theorem refBytesW_any (A : Option Addr) (n c : Nat) (B : Option Addr) (m d : Nat) (cf : Cf) (w : World) (h : RdC w A n c B m d cf) (hmx : m ≤ 1000000) :
    Calls Try.prog 28 #[confV A n c B m d cf.cap] w fun e w' => ∃ r, e = .returned (.tuple #[r, .int .i64 (bytX cf).2]) ∧ OwnB w' w.heap.size r (bytX cf).1 ∧ Below w.heap.size w w' := by
  have hbx := (Below.refl w.heap.size w).alloc (Nat.le_refl _) (.cells #[.slice A n c, .slice B m d, .int .i64 cf.cap] 25)
  have hcell := World.alloc_heap_new w (.cells #[.slice A n c, .slice B m d, .int .i64 cf.cap] 25)
  obtain ⟨g, hg⟩ : ∃ g, g = w.heap.size := ⟨_, rfl⟩
  rw [← hg] at hcell
  obtain ⟨w1, hw1⟩ : ∃ w1, w1 = w.alloc (.cells #[.slice A n c, .slice B m d, .int .i64 cf.cap] 25) := ⟨_, rfl⟩
  rw [← hw1] at hbx hcell
  obtain ⟨cp, hcp⟩ : ∃ cp, cp = cf.cap := ⟨_, rfl⟩
  have HR := Lib.hid h
  have C1 := Lib.hid (refCkW_any A n c B m d cf w1 (h.below hbx))
  obtain ⟨c0, c1, c2⟩ := cells3 hcell
  rw [← hcp] at c2 C1 hw1 hcell
  rw [← hcp]
  rw [hw1, hg] at c0 c1 c2
  have HW1 := Lib.hid hw1
  have HG := Lib.hid hg
  have HB1 := Lib.hid hbx
  have HC1 := Lib.hid hcell
  have HCP := Lib.hid hcp
  clear h hbx hcell hw1 hcp hg
  go_enter Try.func28, Try.ntmps28
  go_wp2_with fail
  rw [← HW1.out, ← HG.out]
  refine C1.out.mono ?_
  rintro e w2 ⟨rfl, hb⟩
  have HB2 := Lib.hid (Below.thn HB1.out hb)
  have HC2 := Lib.hid ((hb.block g (Array.getElem?_eq_some_iff.1 HC1.out).1).trans HC1.out)
  clear hb C1 c0 c1 c2 HW1 HC1 HB1
  by_cases hm : mayC cf
  case neg =>
    have HX : Hid (bytX cf = ([], 140)) := Lib.hid (by unfold bytX; rw [if_neg hm])
    rw [may_no hm]
    clear hm
    go_wp2
    refine bodyPost_ret (v := .tuple #[.slice none 0 0, .int .i64 140]) (by simp [results, Try.results28, go_sem]) rfl ⟨_, by rw [HX.out], ?_, HB2.out⟩
    rw [HX.out]
    exact OwnB.nil _ _
  rw [may_yes hm]
  have HM := Lib.hid hm
  have hcp1 : 1 ≤ cp ∧ cp ≤ 12 := by rw [HCP.out]; exact ⟨hm.2.1, hm.2.2.1⟩
  have hn8 : n ≤ 8 := by rw [← HR.out.fo.len]; exact hm.1.1
  have hm32 : m ≤ 32 := by rw [← HR.out.st.len]; exact hm.2.2.2.1
  obtain ⟨cN, hcN⟩ : ∃ cN : Nat, cp = (cN : Int) := ⟨cp.toNat, by omega⟩
  subst hcN
  have HCN : Hid (cf.cap.toNat = cN) := Lib.hid (by rw [← HCP.out]; simp)
  have hcN1 : cN ≤ 12 := by omega
  have hwc : IntKind.u8.wrap (cN : Int) = (cN : Int) := by rw [IntKind.wrap_u8]; omega
  have hwn : IntKind.u8.wrap (n : Int) = (n : Int) := by rw [IntKind.wrap_u8]; omega
  have hwm : IntKind.u8.wrap (m : Int) = (m : Int) := by rw [IntKind.wrap_u8]; omega
  obtain ⟨c0, c1, c2⟩ := cells3 HC2.out
  have hl0 := OwnB.lit w2 [cN, n] #[.int .u8 (cN : Nat), .int .u8 (n : Nat)] 2 rfl rfl (by intro x hx; simp at hx; omega) (by decide)
  have hbL : Below w2.heap.size w2 (w2.alloc (.cells #[.int .u8 (cN : Nat), .int .u8 (n : Nat)] 5)) := (Below.refl _ _).alloc (Nat.le_refl _) _
  obtain ⟨w3, hw3⟩ : ∃ w3, w3 = w2.alloc (.cells #[.int .u8 (cN : Nat), .int .u8 (n : Nat)] 5) := ⟨_, rfl⟩
  rw [← hw3] at hl0 hbL
  have HW3 := Lib.hid hw3
  have HC3 : Hid (w3.heap[g]? = some (.cells #[.slice A n c, .slice B m d, .int .i64 (cN : Nat)] 25 (0, 0))) := Lib.hid ((hbL.block g (Array.getElem?_eq_some_iff.1 HC2.out).1).trans HC2.out)
  have HI3 : Hid (Below w.heap.size w w3 ∧ OwnB w3 w.heap.size (.slice (some ⟨w2.heap.size, 0, none⟩) 2 2) ([cN, n] ++ (cf.fo.take 0).flatMap fmF)) := Lib.hid ⟨Below.thn HB2.out hbL, by simpa using hl0.mono HB2.out.size⟩
  have HML := Lib.hid HR.out.fo.len
  have HSL := Lib.hid HR.out.st.len
  clear hm hcp1 hl0 hbL hw3
  go_wp2_with fail
  rw [← HW3.out]
  clear HW3 c0 c1 c2
  go_loopw [5, 6, 7] (fun x y z wr => ∃ ix : Nat, ix ≤ n ∧ y = .int .i64 (ix : Nat) ∧ (∃ (Ab : Option Addr) (nb cb : Nat), x = .slice Ab nb cb ∧ Hid (OwnB wr w.heap.size (.slice Ab nb cb) ([cN, n] ++ (cf.fo.take ix).flatMap fmF))) ∧ Hid (wr.heap[g]? = some (.cells #[.slice A n c, .slice B m d, .int .i64 (cN : Nat)] 25 (0, 0))) ∧ Hid (Below w.heap.size w wr)) (fun _ y _ _ => n - (intOf y).toNat)
  case atStart => exact ⟨0, Nat.zero_le _, rfl, ⟨_, _, _, rfl, Lib.hid HI3.out.2⟩, HC3, Lib.hid HI3.out.1⟩
  case round =>
    obtain ⟨ix, hi, rfl, ⟨Ab, nb, cb, rfl, HO⟩, HC, HB⟩ := hrel
    obtain ⟨c0, c1, c2⟩ := cells3 HC.out
    by_cases hlt : (ix : Int) < (n : Int)
    · obtain ⟨ad, x, rfl, HX, x0, x1, x2⟩ := (HR.out.fo.below HB.out).k.at3 (k := ix) (by omega)
      have hgd : gd x := by
        obtain ⟨hl, rfl⟩ := HX.out
        exact (HM.out.1.2.1 ix hl).1
      have hrg := gd_rng hgd
      obtain ⟨p, hp⟩ : ∃ p : Nat, x.1 = (p : Int) := ⟨x.1.toNat, by omega⟩
      obtain ⟨q, hq⟩ : ∃ q : Nat, x.2.1 = (q : Int) := ⟨x.2.1.toNat, by omega⟩
      obtain ⟨zz, hr⟩ : ∃ r : Nat, x.2.2 = (r : Int) + 1 := ⟨(x.2.2 - 1).toNat, by have := hgd.1; omega⟩
      have hr255 : zz ≤ 255 := by have := hgd.2.1; omega
      have hwp2 : p < 65536 := by omega
      have hwq2 : q < 65536 := by omega
      have HFM : Hid (fmF x = be 2 p ++ be 2 q ++ [zz]) := Lib.hid (by
        unfold fmF
        rw [hp, hq, hr]
        simp)
      have HL1 : Hid (([cN, n] ++ (cf.fo.take (ix + 1)).flatMap fmF) = ([cN, n] ++ (cf.fo.take ix).flatMap fmF) ++ be 2 p ++ be 2 q ++ [zz]) := Lib.hid (by
        rw [flat_take HX.out, HFM.out]
        simp)
      rw [hp] at x0
      rw [hq] at x1
      rw [hr] at x2
      have hwp : IntKind.i64.wrap (p : Int) = (p : Int) := by rw [IntKind.wrap_i64]; omega
      have hwq : IntKind.i64.wrap (q : Int) = (q : Int) := by rw [IntKind.wrap_i64]; omega
      have hwr : IntKind.u8.wrap (zz : Int) = (zz : Int) := by rw [IntKind.wrap_u8]; omega
      have hwx : IntKind.i64.wrap (zz : Int) = (zz : Int) := by rw [IntKind.wrap_i64]; omega
      have hsub : (zz : Int) + 1 - 1 = (zz : Int) := by omega
      obtain ⟨l, hl⟩ : ∃ l, l = [cN, n] ++ (cf.fo.take ix).flatMap fmF := ⟨_, rfl⟩
      have hll : l.length ≤ 50 := by
        have h1 : ∀ L : List Fo, (L.flatMap fmF).length = 5 * L.length := fun L => by
          induction L with
          | nil => rfl
          | cons a L ih => rw [List.flatMap_cons, List.length_append, fmF_len, ih, List.length_cons]; omega
        rw [hl, List.length_append, h1, List.length_take]
        simp
        omega
      rw [← hl] at HO HL1
      have hbx : Below wr.heap.size wr (wr.alloc (.cells #[.int .i32 (p : Nat), .int .i32 (q : Nat), .int .i64 ((zz : Int) + 1)] 84)) := (Below.refl _ _).alloc (Nat.le_refl _) _
      have hcx := World.alloc_heap_new wr (.cells #[.int .i32 (p : Nat), .int .i32 (q : Nat), .int .i64 ((zz : Int) + 1)] 84)
      obtain ⟨wX, hwX⟩ : ∃ wX, wX = wr.alloc (.cells #[.int .i32 (p : Nat), .int .i32 (q : Nat), .int .i64 ((zz : Int) + 1)] 84) := ⟨_, rfl⟩
      rw [← hwX] at hbx hcx
      obtain ⟨g7, hg7⟩ : ∃ g7, g7 = wr.heap.size := ⟨_, rfl⟩
      rw [← hg7] at hcx
      have HOX := Lib.hid (HO.out.below hbx)
      have HCX := Lib.hid ((hbx.block g (Array.getElem?_eq_some_iff.1 HC.out).1).trans HC.out)
      have HBX := Lib.hid (Below.thn HB.out hbx)
      have HWX := Lib.hid hwX
      have HG7 := Lib.hid hg7
      have HX7 := Lib.hid hcx
      clear hgd hrg hp hq hr hl hbx hcx hwX hg7
      go_wp2_with fail
      rw [← HWX.out, ← HG7.out]
      have hwb : w.heap.size ≤ w.heap.size := Nat.le_refl _
      have hcf : ∀ (C : Array Value) (fr : Nat × Nat), (Obj.cells #[.slice (some ad) n c, .slice B m d, .int .i64 (cN : Nat)] 25 (0, 0)) ≠ .cells C 5 fr := fun C fr e => by injection e with _ e _; exact absurd e (by decide)
      clear x0 x1 x2 c0 c1 c2 HWX
      refine wp_region_flowG (by kernel_rfl) (B9 w w.heap.size g7 p q zz g (Obj.cells #[.slice (some ad) n c, .slice B m d, .int .i64 (cN : Nat)] 25 (0, 0)) Ab nb cb l) (fun r => ⟨fun h => h.elim, fun h => h.elim, fun h => h.elim, fun h => h.elim, fun h => h.elim, fun h => h.elim, fun h => h.elim, fun h => h.elim, fun h => h.elim, fun h => h.elim, fun h => h.elim, HX7.out, HCX.out, HBX.out.trans (Below.drew (Below.refl _ _)), HBX.out.size, fun _ => HOX.out.below (Below.drew (Below.refl _ _)), fun h => h.elim, fun h => h.elim, fun h => h.elim, fun h => h.elim, fun h => h.elim, fun h => h.elim, fun h => h.elim⟩) (by kernel_rfl) (by kernel_rfl) ?_ ?_
      case refine_1 =>
        intro i o ho ρ y w2 S r hJ hnS hneeds hcl hreg hn hf hyb hyn
        have hi := (Array.getElem?_eq_some_iff.1 ho).1
        rcases Nat.lt_or_ge i 16 with hi2 | hi2
        case inr => simp at hi; omega
        obtain rfl | rfl | rfl | rfl | rfl | rfl | rfl | rfl | rfl | rfl | rfl | rfl | rfl | rfl | rfl | rfl : i = 0 ∨ i = 1 ∨ i = 2 ∨ i = 3 ∨ i = 4 ∨ i = 5 ∨ i = 6 ∨ i = 7 ∨ i = 8 ∨ i = 9 ∨ i = 10 ∨ i = 11 ∨ i = 12 ∨ i = 13 ∨ i = 14 ∨ i = 15 := by omega
        · cases ho
          rw [if_pos (show Region.wanted _ y = true from rfl)]
          have f5 : ρ (.tmp 5) = .slice Ab nb cb := hf 5 (by kernel_rfl)
          refine does_move ?_
          rw [f5]
          exact ⟨fun _ => rfl, fun x => hJ.v1 (x.resolve_left (by decide)), fun x => hJ.v2 (x.resolve_left (by decide)), fun x => hJ.v3 (x.resolve_left (by decide)), fun x => hJ.v5 (x.resolve_left (by decide)), fun x => hJ.v6 (x.resolve_left (by decide)), fun x => hJ.v7 (x.resolve_left (by decide)), fun x => hJ.v9 (x.resolve_left (by decide)), fun x => hJ.v10 (x.resolve_left (by decide)), fun x => hJ.v11 (x.resolve_left (by decide)), fun x => hJ.v12 (x.resolve_left (by decide)), hJ.f_bx , hJ.f_cb , hJ.f_be , hJ.f_sz , fun n4 => hJ.o0 (fun x => n4 (.inr x)), fun x4 n8 => absurd (hcl 4 _ rfl (x4.resolve_left (by decide)) 0 (by kernel_rfl)) hnS, fun x8 n14 => absurd (hcl 4 _ rfl (hcl 8 _ rfl (x8.resolve_left (by decide)) 4 (by kernel_rfl)) 0 (by kernel_rfl)) hnS, fun x14 => absurd (hcl 4 _ rfl (hcl 8 _ rfl (hcl 14 _ rfl (x14.resolve_left (by decide)) 8 (by kernel_rfl)) 4 (by kernel_rfl)) 0 (by kernel_rfl)) hnS, fun x13 n4 => hJ.s0 (x13.resolve_left (by decide)) (fun x => n4 (.inr x)), fun x13 x4 n8 => absurd (hcl 4 _ rfl (x4.resolve_left (by decide)) 0 (by kernel_rfl)) hnS, fun x13 x8 n14 => absurd (hcl 4 _ rfl (hcl 8 _ rfl (x8.resolve_left (by decide)) 4 (by kernel_rfl)) 0 (by kernel_rfl)) hnS, fun x15 => absurd (hcl 15 _ rfl (x15.resolve_left (by decide)) 0 (by kernel_rfl)) hnS⟩
        · cases ho
          rw [if_pos (show Region.wanted _ y = true from rfl)]
          have f7 : ρ (.tmp 7) = .pointer (some ⟨g7, 0, none⟩) := hf 7 (by kernel_rfl)
          exact does_ok (v := .pointer (some ⟨g7, 0, none⟩)) (w' := w2) (by simp [go_sem, hreg.const, f7]) ⟨fun x => hJ.v0 (x.resolve_left (by decide)), fun _ => rfl, fun x => hJ.v2 (x.resolve_left (by decide)), fun x => hJ.v3 (x.resolve_left (by decide)), fun x => hJ.v5 (x.resolve_left (by decide)), fun x => hJ.v6 (x.resolve_left (by decide)), fun x => hJ.v7 (x.resolve_left (by decide)), fun x => hJ.v9 (x.resolve_left (by decide)), fun x => hJ.v10 (x.resolve_left (by decide)), fun x => hJ.v11 (x.resolve_left (by decide)), fun x => hJ.v12 (x.resolve_left (by decide)), hJ.f_bx , hJ.f_cb , hJ.f_be , hJ.f_sz , fun n4 => hJ.o0 (fun x => n4 (.inr x)), fun x4 n8 => absurd (hcl 2 _ rfl (hcl 3 _ rfl (hcl 4 _ rfl (x4.resolve_left (by decide)) 3 (by kernel_rfl)) 2 (by kernel_rfl)) 1 (by kernel_rfl)) hnS, fun x8 n14 => absurd (hcl 2 _ rfl (hcl 3 _ rfl (hcl 4 _ rfl (hcl 8 _ rfl (x8.resolve_left (by decide)) 4 (by kernel_rfl)) 3 (by kernel_rfl)) 2 (by kernel_rfl)) 1 (by kernel_rfl)) hnS, fun x14 => absurd (hcl 2 _ rfl (hcl 3 _ rfl (hcl 4 _ rfl (hcl 8 _ rfl (hcl 14 _ rfl (x14.resolve_left (by decide)) 8 (by kernel_rfl)) 4 (by kernel_rfl)) 3 (by kernel_rfl)) 2 (by kernel_rfl)) 1 (by kernel_rfl)) hnS, fun x13 n4 => hJ.s0 (x13.resolve_left (by decide)) (fun x => n4 (.inr x)), fun x13 x4 n8 => absurd (hcl 2 _ rfl (hcl 3 _ rfl (hcl 4 _ rfl (x4.resolve_left (by decide)) 3 (by kernel_rfl)) 2 (by kernel_rfl)) 1 (by kernel_rfl)) hnS, fun x13 x8 n14 => absurd (hcl 2 _ rfl (hcl 3 _ rfl (hcl 4 _ rfl (hcl 8 _ rfl (x8.resolve_left (by decide)) 4 (by kernel_rfl)) 3 (by kernel_rfl)) 2 (by kernel_rfl)) 1 (by kernel_rfl)) hnS, fun x15 => absurd (hcl 15 _ rfl (x15.resolve_left (by decide)) 1 (by kernel_rfl)) hnS⟩
        · cases ho
          rw [if_pos (show Region.wanted _ y = true from rfl)]
          have f35 : ρ (.tmp 35) = .pointer (some ⟨g7, 0, none⟩) := (hn 1 _ 35 rfl (by kernel_rfl) rfl).trans (hJ.v1 (hneeds 1 (by kernel_rfl)))
          obtain ⟨k0, k1, k2⟩ := cells3 hJ.f_bx
          exact does_ok (v := .int .i32 (p : Nat)) (w' := w2) (by simp [go_sem, hreg.const, f35, k0]) ⟨fun x => hJ.v0 (x.resolve_left (by decide)), fun x => hJ.v1 (x.resolve_left (by decide)), fun _ => rfl, fun x => hJ.v3 (x.resolve_left (by decide)), fun x => hJ.v5 (x.resolve_left (by decide)), fun x => hJ.v6 (x.resolve_left (by decide)), fun x => hJ.v7 (x.resolve_left (by decide)), fun x => hJ.v9 (x.resolve_left (by decide)), fun x => hJ.v10 (x.resolve_left (by decide)), fun x => hJ.v11 (x.resolve_left (by decide)), fun x => hJ.v12 (x.resolve_left (by decide)), hJ.f_bx , hJ.f_cb , hJ.f_be , hJ.f_sz , fun n4 => hJ.o0 (fun x => n4 (.inr x)), fun x4 n8 => absurd (hcl 3 _ rfl (hcl 4 _ rfl (x4.resolve_left (by decide)) 3 (by kernel_rfl)) 2 (by kernel_rfl)) hnS, fun x8 n14 => absurd (hcl 3 _ rfl (hcl 4 _ rfl (hcl 8 _ rfl (x8.resolve_left (by decide)) 4 (by kernel_rfl)) 3 (by kernel_rfl)) 2 (by kernel_rfl)) hnS, fun x14 => absurd (hcl 3 _ rfl (hcl 4 _ rfl (hcl 8 _ rfl (hcl 14 _ rfl (x14.resolve_left (by decide)) 8 (by kernel_rfl)) 4 (by kernel_rfl)) 3 (by kernel_rfl)) 2 (by kernel_rfl)) hnS, fun x13 n4 => hJ.s0 (x13.resolve_left (by decide)) (fun x => n4 (.inr x)), fun x13 x4 n8 => absurd (hcl 3 _ rfl (hcl 4 _ rfl (x4.resolve_left (by decide)) 3 (by kernel_rfl)) 2 (by kernel_rfl)) hnS, fun x13 x8 n14 => absurd (hcl 3 _ rfl (hcl 4 _ rfl (hcl 8 _ rfl (x8.resolve_left (by decide)) 4 (by kernel_rfl)) 3 (by kernel_rfl)) 2 (by kernel_rfl)) hnS, fun x15 => absurd (hcl 15 _ rfl (x15.resolve_left (by decide)) 2 (by kernel_rfl)) hnS⟩
        · cases ho
          rw [if_pos (show Region.wanted _ y = true from rfl)]
          have f36 : ρ (.tmp 36) = .int .i32 (p : Nat) := (hn 2 _ 36 rfl (by kernel_rfl) rfl).trans (hJ.v2 (hneeds 2 (by kernel_rfl)))
          exact does_ok (v := .int .i64 (p : Nat)) (w' := w2) (by simp [go_sem, hreg.const, f36, hwp]) ⟨fun x => hJ.v0 (x.resolve_left (by decide)), fun x => hJ.v1 (x.resolve_left (by decide)), fun x => hJ.v2 (x.resolve_left (by decide)), fun _ => rfl, fun x => hJ.v5 (x.resolve_left (by decide)), fun x => hJ.v6 (x.resolve_left (by decide)), fun x => hJ.v7 (x.resolve_left (by decide)), fun x => hJ.v9 (x.resolve_left (by decide)), fun x => hJ.v10 (x.resolve_left (by decide)), fun x => hJ.v11 (x.resolve_left (by decide)), fun x => hJ.v12 (x.resolve_left (by decide)), hJ.f_bx , hJ.f_cb , hJ.f_be , hJ.f_sz , fun n4 => hJ.o0 (fun x => n4 (.inr x)), fun x4 n8 => absurd (hcl 4 _ rfl (x4.resolve_left (by decide)) 3 (by kernel_rfl)) hnS, fun x8 n14 => absurd (hcl 4 _ rfl (hcl 8 _ rfl (x8.resolve_left (by decide)) 4 (by kernel_rfl)) 3 (by kernel_rfl)) hnS, fun x14 => absurd (hcl 4 _ rfl (hcl 8 _ rfl (hcl 14 _ rfl (x14.resolve_left (by decide)) 8 (by kernel_rfl)) 4 (by kernel_rfl)) 3 (by kernel_rfl)) hnS, fun x13 n4 => hJ.s0 (x13.resolve_left (by decide)) (fun x => n4 (.inr x)), fun x13 x4 n8 => absurd (hcl 4 _ rfl (x4.resolve_left (by decide)) 3 (by kernel_rfl)) hnS, fun x13 x8 n14 => absurd (hcl 4 _ rfl (hcl 8 _ rfl (x8.resolve_left (by decide)) 4 (by kernel_rfl)) 3 (by kernel_rfl)) hnS, fun x15 => absurd (hcl 15 _ rfl (x15.resolve_left (by decide)) 3 (by kernel_rfl)) hnS⟩
        · cases ho
          rw [if_pos (show Region.wanted _ y = true from rfl)]
          have f34 : ρ (.tmp 34) = .slice Ab nb cb := (hn 0 _ 34 rfl (by kernel_rfl) rfl).trans (hJ.v0 (hneeds 0 (by kernel_rfl)))
          have f37 : ρ (.tmp 37) = .int .i64 (p : Nat) := (hn 3 _ 37 rfl (by kernel_rfl) rfl).trans (hJ.v3 (hneeds 3 (by kernel_rfl)))
          have o := hJ.o0 hnS
          refine does_enter (f := 59) (args := #[.slice Ab nb cb, .int .i64 (p : Nat)]) (w' := w2) (by simp [go_sem, hreg.func, hreg.const, f34, f37]) ?_
          refine (two_any p w2 o hJ.f_sz hwp2 (by omega)).mono ?_
          rintro e w' ⟨r', rfl, h, hg, hpl⟩
          exact ⟨_, rfl, ⟨fun x => hJ.v0 (x.resolve_left (by decide)), fun x => hJ.v1 (x.resolve_left (by decide)), fun x => hJ.v2 (x.resolve_left (by decide)), fun x => hJ.v3 (x.resolve_left (by decide)), fun x => hJ.v5 (x.resolve_left (by decide)), fun x => hJ.v6 (x.resolve_left (by decide)), fun x => hJ.v7 (x.resolve_left (by decide)), fun x => hJ.v9 (x.resolve_left (by decide)), fun x => hJ.v10 (x.resolve_left (by decide)), fun x => hJ.v11 (x.resolve_left (by decide)), fun x => hJ.v12 (x.resolve_left (by decide)), keep_ty hJ.f_bx (own_cell o.1) hg (by decide), keep_ty' hJ.f_cb (own_cell o.1) hg hcf, hJ.f_be.grown hg hJ.f_be.size (fun k hk => Nat.le_trans hwb (OwnL.base o.1 k hk).1), Nat.le_trans hJ.f_sz hg.size, fun n4 => absurd (.inl rfl) n4, fun x4 n8 => (fun _ m8 => h) () (fun x => n8 (.inr x)), fun x8 n14 => absurd (hcl 8 _ rfl (x8.resolve_left (by decide)) 4 (by kernel_rfl)) hnS, fun x14 => absurd (hcl 8 _ rfl (hcl 14 _ rfl (x14.resolve_left (by decide)) 8 (by kernel_rfl)) 4 (by kernel_rfl)) hnS, fun x13 n4 => absurd (.inl rfl) n4, fun x13 x4 n8 => (fun s13 _ m8 => sep_step (hJ.s0 s13 (fun z => hnS z)) hg hpl) (x13.resolve_left (by decide)) () (fun x => n8 (.inr x)), fun x13 x8 n14 => absurd (hcl 8 _ rfl (x8.resolve_left (by decide)) 4 (by kernel_rfl)) hnS, fun x15 => absurd (hcl 15 _ rfl (x15.resolve_left (by decide)) 4 (by kernel_rfl)) hnS⟩⟩
        · cases ho
          rw [if_pos (show Region.wanted _ y = true from rfl)]
          have f7 : ρ (.tmp 7) = .pointer (some ⟨g7, 0, none⟩) := hf 7 (by kernel_rfl)
          exact does_ok (v := .pointer (some ⟨g7, 1, none⟩)) (w' := w2) (by simp [go_sem, hreg.const, f7]) ⟨fun x => hJ.v0 (x.resolve_left (by decide)), fun x => hJ.v1 (x.resolve_left (by decide)), fun x => hJ.v2 (x.resolve_left (by decide)), fun x => hJ.v3 (x.resolve_left (by decide)), fun _ => rfl, fun x => hJ.v6 (x.resolve_left (by decide)), fun x => hJ.v7 (x.resolve_left (by decide)), fun x => hJ.v9 (x.resolve_left (by decide)), fun x => hJ.v10 (x.resolve_left (by decide)), fun x => hJ.v11 (x.resolve_left (by decide)), fun x => hJ.v12 (x.resolve_left (by decide)), hJ.f_bx , hJ.f_cb , hJ.f_be , hJ.f_sz , fun n4 => hJ.o0 (fun x => n4 (.inr x)), fun x4 n8 => hJ.o4 (x4.resolve_left (by decide)) (fun x => n8 (.inr x)), fun x8 n14 => absurd (hcl 6 _ rfl (hcl 7 _ rfl (hcl 8 _ rfl (x8.resolve_left (by decide)) 7 (by kernel_rfl)) 6 (by kernel_rfl)) 5 (by kernel_rfl)) hnS, fun x14 => absurd (hcl 6 _ rfl (hcl 7 _ rfl (hcl 8 _ rfl (hcl 14 _ rfl (x14.resolve_left (by decide)) 8 (by kernel_rfl)) 7 (by kernel_rfl)) 6 (by kernel_rfl)) 5 (by kernel_rfl)) hnS, fun x13 n4 => hJ.s0 (x13.resolve_left (by decide)) (fun x => n4 (.inr x)), fun x13 x4 n8 => hJ.s4 (x13.resolve_left (by decide)) (x4.resolve_left (by decide)) (fun x => n8 (.inr x)), fun x13 x8 n14 => absurd (hcl 6 _ rfl (hcl 7 _ rfl (hcl 8 _ rfl (x8.resolve_left (by decide)) 7 (by kernel_rfl)) 6 (by kernel_rfl)) 5 (by kernel_rfl)) hnS, fun x15 => absurd (hcl 15 _ rfl (x15.resolve_left (by decide)) 5 (by kernel_rfl)) hnS⟩
        · cases ho
          rw [if_pos (show Region.wanted _ y = true from rfl)]
          have f39 : ρ (.tmp 39) = .pointer (some ⟨g7, 1, none⟩) := (hn 5 _ 39 rfl (by kernel_rfl) rfl).trans (hJ.v5 (hneeds 5 (by kernel_rfl)))
          obtain ⟨k0, k1, k2⟩ := cells3 hJ.f_bx
          exact does_ok (v := .int .i32 (q : Nat)) (w' := w2) (by simp [go_sem, hreg.const, f39, k1]) ⟨fun x => hJ.v0 (x.resolve_left (by decide)), fun x => hJ.v1 (x.resolve_left (by decide)), fun x => hJ.v2 (x.resolve_left (by decide)), fun x => hJ.v3 (x.resolve_left (by decide)), fun x => hJ.v5 (x.resolve_left (by decide)), fun _ => rfl, fun x => hJ.v7 (x.resolve_left (by decide)), fun x => hJ.v9 (x.resolve_left (by decide)), fun x => hJ.v10 (x.resolve_left (by decide)), fun x => hJ.v11 (x.resolve_left (by decide)), fun x => hJ.v12 (x.resolve_left (by decide)), hJ.f_bx , hJ.f_cb , hJ.f_be , hJ.f_sz , fun n4 => hJ.o0 (fun x => n4 (.inr x)), fun x4 n8 => hJ.o4 (x4.resolve_left (by decide)) (fun x => n8 (.inr x)), fun x8 n14 => absurd (hcl 7 _ rfl (hcl 8 _ rfl (x8.resolve_left (by decide)) 7 (by kernel_rfl)) 6 (by kernel_rfl)) hnS, fun x14 => absurd (hcl 7 _ rfl (hcl 8 _ rfl (hcl 14 _ rfl (x14.resolve_left (by decide)) 8 (by kernel_rfl)) 7 (by kernel_rfl)) 6 (by kernel_rfl)) hnS, fun x13 n4 => hJ.s0 (x13.resolve_left (by decide)) (fun x => n4 (.inr x)), fun x13 x4 n8 => hJ.s4 (x13.resolve_left (by decide)) (x4.resolve_left (by decide)) (fun x => n8 (.inr x)), fun x13 x8 n14 => absurd (hcl 7 _ rfl (hcl 8 _ rfl (x8.resolve_left (by decide)) 7 (by kernel_rfl)) 6 (by kernel_rfl)) hnS, fun x15 => absurd (hcl 15 _ rfl (x15.resolve_left (by decide)) 6 (by kernel_rfl)) hnS⟩
        · cases ho
          rw [if_pos (show Region.wanted _ y = true from rfl)]
          have f40 : ρ (.tmp 40) = .int .i32 (q : Nat) := (hn 6 _ 40 rfl (by kernel_rfl) rfl).trans (hJ.v6 (hneeds 6 (by kernel_rfl)))
          exact does_ok (v := .int .i64 (q : Nat)) (w' := w2) (by simp [go_sem, hreg.const, f40, hwq]) ⟨fun x => hJ.v0 (x.resolve_left (by decide)), fun x => hJ.v1 (x.resolve_left (by decide)), fun x => hJ.v2 (x.resolve_left (by decide)), fun x => hJ.v3 (x.resolve_left (by decide)), fun x => hJ.v5 (x.resolve_left (by decide)), fun x => hJ.v6 (x.resolve_left (by decide)), fun _ => rfl, fun x => hJ.v9 (x.resolve_left (by decide)), fun x => hJ.v10 (x.resolve_left (by decide)), fun x => hJ.v11 (x.resolve_left (by decide)), fun x => hJ.v12 (x.resolve_left (by decide)), hJ.f_bx , hJ.f_cb , hJ.f_be , hJ.f_sz , fun n4 => hJ.o0 (fun x => n4 (.inr x)), fun x4 n8 => hJ.o4 (x4.resolve_left (by decide)) (fun x => n8 (.inr x)), fun x8 n14 => absurd (hcl 8 _ rfl (x8.resolve_left (by decide)) 7 (by kernel_rfl)) hnS, fun x14 => absurd (hcl 8 _ rfl (hcl 14 _ rfl (x14.resolve_left (by decide)) 8 (by kernel_rfl)) 7 (by kernel_rfl)) hnS, fun x13 n4 => hJ.s0 (x13.resolve_left (by decide)) (fun x => n4 (.inr x)), fun x13 x4 n8 => hJ.s4 (x13.resolve_left (by decide)) (x4.resolve_left (by decide)) (fun x => n8 (.inr x)), fun x13 x8 n14 => absurd (hcl 8 _ rfl (x8.resolve_left (by decide)) 7 (by kernel_rfl)) hnS, fun x15 => absurd (hcl 15 _ rfl (x15.resolve_left (by decide)) 7 (by kernel_rfl)) hnS⟩
        · cases ho
          rw [if_pos (show Region.wanted _ y = true from rfl)]
          have f38 : ρ (.tmp 38) = r 4 := hn 4 _ 38 rfl (by kernel_rfl) rfl
          have f41 : ρ (.tmp 41) = .int .i64 (q : Nat) := (hn 7 _ 41 rfl (by kernel_rfl) rfl).trans (hJ.v7 (hneeds 7 (by kernel_rfl)))
          have s4 := hneeds 4 (by kernel_rfl)
          have o := hJ.o4 s4 hnS
          refine does_enter (f := 59) (args := #[r 4, .int .i64 (q : Nat)]) (w' := w2) (by simp [go_sem, hreg.func, hreg.const, f38, f41]) ?_
          refine (two_any q w2 o hJ.f_sz hwq2 (by simp [be_length]; omega)).mono ?_
          rintro e w' ⟨r', rfl, h, hg, hpl⟩
          exact ⟨_, rfl, ⟨fun x => hJ.v0 (x.resolve_left (by decide)), fun x => hJ.v1 (x.resolve_left (by decide)), fun x => hJ.v2 (x.resolve_left (by decide)), fun x => hJ.v3 (x.resolve_left (by decide)), fun x => hJ.v5 (x.resolve_left (by decide)), fun x => hJ.v6 (x.resolve_left (by decide)), fun x => hJ.v7 (x.resolve_left (by decide)), fun x => hJ.v9 (x.resolve_left (by decide)), fun x => hJ.v10 (x.resolve_left (by decide)), fun x => hJ.v11 (x.resolve_left (by decide)), fun x => hJ.v12 (x.resolve_left (by decide)), keep_ty hJ.f_bx (own_cell o.1) hg (by decide), keep_ty' hJ.f_cb (own_cell o.1) hg hcf, hJ.f_be.grown hg hJ.f_be.size (fun k hk => Nat.le_trans hwb (OwnL.base o.1 k hk).1), Nat.le_trans hJ.f_sz hg.size, fun n4 => absurd (.inr (hneeds 4 (by kernel_rfl))) n4, fun x4 n8 => absurd (.inl rfl) n8, fun x8 n14 => (fun _ m14 => h) () (fun x => n14 (.inr x)), fun x14 => absurd (hcl 14 _ rfl (x14.resolve_left (by decide)) 8 (by kernel_rfl)) hnS, fun x13 n4 => absurd (.inr (hneeds 4 (by kernel_rfl))) n4, fun x13 x4 n8 => absurd (.inl rfl) n8, fun x13 x8 n14 => (fun s13 _ m14 => sep_step (hJ.s4 s13 s4 (fun z => hnS z)) hg hpl) (x13.resolve_left (by decide)) () (fun x => n14 (.inr x)), fun x15 => absurd (hcl 15 _ rfl (x15.resolve_left (by decide)) 8 (by kernel_rfl)) hnS⟩⟩
        · cases ho
          rw [if_pos (show Region.wanted _ y = true from rfl)]
          have f7 : ρ (.tmp 7) = .pointer (some ⟨g7, 0, none⟩) := hf 7 (by kernel_rfl)
          exact does_ok (v := .pointer (some ⟨g7, 2, none⟩)) (w' := w2) (by simp [go_sem, hreg.const, f7]) ⟨fun x => hJ.v0 (x.resolve_left (by decide)), fun x => hJ.v1 (x.resolve_left (by decide)), fun x => hJ.v2 (x.resolve_left (by decide)), fun x => hJ.v3 (x.resolve_left (by decide)), fun x => hJ.v5 (x.resolve_left (by decide)), fun x => hJ.v6 (x.resolve_left (by decide)), fun x => hJ.v7 (x.resolve_left (by decide)), fun _ => rfl, fun x => hJ.v10 (x.resolve_left (by decide)), fun x => hJ.v11 (x.resolve_left (by decide)), fun x => hJ.v12 (x.resolve_left (by decide)), hJ.f_bx , hJ.f_cb , hJ.f_be , hJ.f_sz , fun n4 => hJ.o0 (fun x => n4 (.inr x)), fun x4 n8 => hJ.o4 (x4.resolve_left (by decide)) (fun x => n8 (.inr x)), fun x8 n14 => hJ.o8 (x8.resolve_left (by decide)) (fun x => n14 (.inr x)), fun x14 => absurd (hcl 10 _ rfl (hcl 11 _ rfl (hcl 12 _ rfl (hcl 13 _ rfl (hcl 14 _ rfl (x14.resolve_left (by decide)) 13 (by kernel_rfl)) 12 (by kernel_rfl)) 11 (by kernel_rfl)) 10 (by kernel_rfl)) 9 (by kernel_rfl)) hnS, fun x13 n4 => absurd (hcl 10 _ rfl (hcl 11 _ rfl (hcl 12 _ rfl (hcl 13 _ rfl (x13.resolve_left (by decide)) 12 (by kernel_rfl)) 11 (by kernel_rfl)) 10 (by kernel_rfl)) 9 (by kernel_rfl)) hnS, fun x13 x4 n8 => absurd (hcl 10 _ rfl (hcl 11 _ rfl (hcl 12 _ rfl (hcl 13 _ rfl (x13.resolve_left (by decide)) 12 (by kernel_rfl)) 11 (by kernel_rfl)) 10 (by kernel_rfl)) 9 (by kernel_rfl)) hnS, fun x13 x8 n14 => absurd (hcl 10 _ rfl (hcl 11 _ rfl (hcl 12 _ rfl (hcl 13 _ rfl (x13.resolve_left (by decide)) 12 (by kernel_rfl)) 11 (by kernel_rfl)) 10 (by kernel_rfl)) 9 (by kernel_rfl)) hnS, fun x15 => absurd (hcl 15 _ rfl (x15.resolve_left (by decide)) 9 (by kernel_rfl)) hnS⟩
        · cases ho
          rw [if_pos (show Region.wanted _ y = true from rfl)]
          have f43 : ρ (.tmp 43) = .pointer (some ⟨g7, 2, none⟩) := (hn 9 _ 43 rfl (by kernel_rfl) rfl).trans (hJ.v9 (hneeds 9 (by kernel_rfl)))
          obtain ⟨k0, k1, k2⟩ := cells3 hJ.f_bx
          exact does_ok (v := .int .i64 ((zz : Int) + 1)) (w' := w2) (by simp [go_sem, hreg.const, f43, k2]) ⟨fun x => hJ.v0 (x.resolve_left (by decide)), fun x => hJ.v1 (x.resolve_left (by decide)), fun x => hJ.v2 (x.resolve_left (by decide)), fun x => hJ.v3 (x.resolve_left (by decide)), fun x => hJ.v5 (x.resolve_left (by decide)), fun x => hJ.v6 (x.resolve_left (by decide)), fun x => hJ.v7 (x.resolve_left (by decide)), fun x => hJ.v9 (x.resolve_left (by decide)), fun _ => rfl, fun x => hJ.v11 (x.resolve_left (by decide)), fun x => hJ.v12 (x.resolve_left (by decide)), hJ.f_bx , hJ.f_cb , hJ.f_be , hJ.f_sz , fun n4 => hJ.o0 (fun x => n4 (.inr x)), fun x4 n8 => hJ.o4 (x4.resolve_left (by decide)) (fun x => n8 (.inr x)), fun x8 n14 => hJ.o8 (x8.resolve_left (by decide)) (fun x => n14 (.inr x)), fun x14 => absurd (hcl 11 _ rfl (hcl 12 _ rfl (hcl 13 _ rfl (hcl 14 _ rfl (x14.resolve_left (by decide)) 13 (by kernel_rfl)) 12 (by kernel_rfl)) 11 (by kernel_rfl)) 10 (by kernel_rfl)) hnS, fun x13 n4 => absurd (hcl 11 _ rfl (hcl 12 _ rfl (hcl 13 _ rfl (x13.resolve_left (by decide)) 12 (by kernel_rfl)) 11 (by kernel_rfl)) 10 (by kernel_rfl)) hnS, fun x13 x4 n8 => absurd (hcl 11 _ rfl (hcl 12 _ rfl (hcl 13 _ rfl (x13.resolve_left (by decide)) 12 (by kernel_rfl)) 11 (by kernel_rfl)) 10 (by kernel_rfl)) hnS, fun x13 x8 n14 => absurd (hcl 11 _ rfl (hcl 12 _ rfl (hcl 13 _ rfl (x13.resolve_left (by decide)) 12 (by kernel_rfl)) 11 (by kernel_rfl)) 10 (by kernel_rfl)) hnS, fun x15 => absurd (hcl 15 _ rfl (x15.resolve_left (by decide)) 10 (by kernel_rfl)) hnS⟩
        · cases ho
          rw [if_pos (show Region.wanted _ y = true from rfl)]
          have f44 : ρ (.tmp 44) = .int .i64 ((zz : Int) + 1) := (hn 10 _ 44 rfl (by kernel_rfl) rfl).trans (hJ.v10 (hneeds 10 (by kernel_rfl)))
          exact does_ok (v := .int .i64 (zz : Nat)) (w' := w2) (by simp [go_sem, hreg.const, f44, hsub, hwx]) ⟨fun x => hJ.v0 (x.resolve_left (by decide)), fun x => hJ.v1 (x.resolve_left (by decide)), fun x => hJ.v2 (x.resolve_left (by decide)), fun x => hJ.v3 (x.resolve_left (by decide)), fun x => hJ.v5 (x.resolve_left (by decide)), fun x => hJ.v6 (x.resolve_left (by decide)), fun x => hJ.v7 (x.resolve_left (by decide)), fun x => hJ.v9 (x.resolve_left (by decide)), fun x => hJ.v10 (x.resolve_left (by decide)), fun _ => rfl, fun x => hJ.v12 (x.resolve_left (by decide)), hJ.f_bx , hJ.f_cb , hJ.f_be , hJ.f_sz , fun n4 => hJ.o0 (fun x => n4 (.inr x)), fun x4 n8 => hJ.o4 (x4.resolve_left (by decide)) (fun x => n8 (.inr x)), fun x8 n14 => hJ.o8 (x8.resolve_left (by decide)) (fun x => n14 (.inr x)), fun x14 => absurd (hcl 12 _ rfl (hcl 13 _ rfl (hcl 14 _ rfl (x14.resolve_left (by decide)) 13 (by kernel_rfl)) 12 (by kernel_rfl)) 11 (by kernel_rfl)) hnS, fun x13 n4 => absurd (hcl 12 _ rfl (hcl 13 _ rfl (x13.resolve_left (by decide)) 12 (by kernel_rfl)) 11 (by kernel_rfl)) hnS, fun x13 x4 n8 => absurd (hcl 12 _ rfl (hcl 13 _ rfl (x13.resolve_left (by decide)) 12 (by kernel_rfl)) 11 (by kernel_rfl)) hnS, fun x13 x8 n14 => absurd (hcl 12 _ rfl (hcl 13 _ rfl (x13.resolve_left (by decide)) 12 (by kernel_rfl)) 11 (by kernel_rfl)) hnS, fun x15 => absurd (hcl 15 _ rfl (x15.resolve_left (by decide)) 11 (by kernel_rfl)) hnS⟩
        · cases ho
          rw [if_pos (show Region.wanted _ y = true from rfl)]
          have f45 : ρ (.tmp 45) = .int .i64 (zz : Nat) := (hn 11 _ 45 rfl (by kernel_rfl) rfl).trans (hJ.v11 (hneeds 11 (by kernel_rfl)))
          exact does_ok (v := .int .u8 (zz : Nat)) (w' := w2) (by simp [go_sem, hreg.const, f45, hwr]) ⟨fun x => hJ.v0 (x.resolve_left (by decide)), fun x => hJ.v1 (x.resolve_left (by decide)), fun x => hJ.v2 (x.resolve_left (by decide)), fun x => hJ.v3 (x.resolve_left (by decide)), fun x => hJ.v5 (x.resolve_left (by decide)), fun x => hJ.v6 (x.resolve_left (by decide)), fun x => hJ.v7 (x.resolve_left (by decide)), fun x => hJ.v9 (x.resolve_left (by decide)), fun x => hJ.v10 (x.resolve_left (by decide)), fun x => hJ.v11 (x.resolve_left (by decide)), fun _ => rfl, hJ.f_bx , hJ.f_cb , hJ.f_be , hJ.f_sz , fun n4 => hJ.o0 (fun x => n4 (.inr x)), fun x4 n8 => hJ.o4 (x4.resolve_left (by decide)) (fun x => n8 (.inr x)), fun x8 n14 => hJ.o8 (x8.resolve_left (by decide)) (fun x => n14 (.inr x)), fun x14 => absurd (hcl 13 _ rfl (hcl 14 _ rfl (x14.resolve_left (by decide)) 13 (by kernel_rfl)) 12 (by kernel_rfl)) hnS, fun x13 n4 => absurd (hcl 13 _ rfl (x13.resolve_left (by decide)) 12 (by kernel_rfl)) hnS, fun x13 x4 n8 => absurd (hcl 13 _ rfl (x13.resolve_left (by decide)) 12 (by kernel_rfl)) hnS, fun x13 x8 n14 => absurd (hcl 13 _ rfl (x13.resolve_left (by decide)) 12 (by kernel_rfl)) hnS, fun x15 => absurd (hcl 15 _ rfl (x15.resolve_left (by decide)) 12 (by kernel_rfl)) hnS⟩
        · cases ho
          rw [if_pos (show Region.wanted _ y = true from rfl)]
          have f46 : ρ (.tmp 46) = .int .u8 (zz : Nat) := (hn 12 _ 46 rfl (by kernel_rfl) rfl).trans (hJ.v12 (hneeds 12 (by kernel_rfl)))
          have hbw : Below w2.heap.size w2 (w2.alloc (.cells #[.int .u8 (zz : Nat)] 5)) := (Below.refl _ _).alloc (Nat.le_refl _) _
          have hnew := World.alloc_heap_new w2 (.cells #[.int .u8 (zz : Nat)] 5)
          exact does_ok (v := .slice (some ⟨w2.heap.size, 0, none⟩) 1 1) (w' := w2.alloc (.cells #[.int .u8 (zz : Nat)] 5)) (by simp [go_sem, hreg.const, f46]) ⟨fun x => hJ.v0 (x.resolve_left (by decide)), fun x => hJ.v1 (x.resolve_left (by decide)), fun x => hJ.v2 (x.resolve_left (by decide)), fun x => hJ.v3 (x.resolve_left (by decide)), fun x => hJ.v5 (x.resolve_left (by decide)), fun x => hJ.v6 (x.resolve_left (by decide)), fun x => hJ.v7 (x.resolve_left (by decide)), fun x => hJ.v9 (x.resolve_left (by decide)), fun x => hJ.v10 (x.resolve_left (by decide)), fun x => hJ.v11 (x.resolve_left (by decide)), fun x => hJ.v12 (x.resolve_left (by decide)), (hbw.block _ (Array.getElem?_eq_some_iff.1 hJ.f_bx).1).trans hJ.f_bx, (hbw.block _ (Array.getElem?_eq_some_iff.1 hJ.f_cb).1).trans hJ.f_cb, Below.thn hJ.f_be hbw, Nat.le_trans hJ.f_sz hbw.size, fun n4 => (fun m4 => (hJ.o0 m4).below hbw) (fun x => n4 (.inr x)), fun x4 n8 => (fun s4 m8 => (hJ.o4 s4 m8).below hbw) (x4.resolve_left (by decide)) (fun x => n8 (.inr x)), fun x8 n14 => (fun s8 m14 => (hJ.o8 s8 m14).below hbw) (x8.resolve_left (by decide)) (fun x => n14 (.inr x)), fun x14 => absurd (hcl 14 _ rfl (x14.resolve_left (by decide)) 13 (by kernel_rfl)) hnS, fun x13 n4 => (fun _ m4 => ⟨w2.heap.size, rfl, hnew, fun e => absurd ((OwnL.base (hJ.o0 m4).1 _ e).2) (Nat.lt_irrefl _)⟩) () (fun x => n4 (.inr x)), fun x13 x4 n8 => (fun _ s4 m8 => ⟨w2.heap.size, rfl, hnew, fun e => absurd ((OwnL.base (hJ.o4 s4 m8).1 _ e).2) (Nat.lt_irrefl _)⟩) () (x4.resolve_left (by decide)) (fun x => n8 (.inr x)), fun x13 x8 n14 => (fun _ s8 m14 => ⟨w2.heap.size, rfl, hnew, fun e => absurd ((OwnL.base (hJ.o8 s8 m14).1 _ e).2) (Nat.lt_irrefl _)⟩) () (x8.resolve_left (by decide)) (fun x => n14 (.inr x)), fun x15 => absurd (hcl 15 _ rfl (x15.resolve_left (by decide)) 13 (by kernel_rfl)) hnS⟩
        · cases ho
          rw [if_pos (show Region.wanted _ y = true from rfl)]
          have f42 : ρ (.tmp 42) = r 8 := hn 8 _ 42 rfl (by kernel_rfl) rfl
          have f47 : ρ (.tmp 47) = r 13 := hn 13 _ 47 rfl (by kernel_rfl) rfl
          have s8 := hneeds 8 (by kernel_rfl)
          have s13 := hneeds 13 (by kernel_rfl)
          have o := hJ.o8 s8 hnS
          obtain ⟨k, e13, hk, hne⟩ := hJ.s8 s13 s8 hnS
          have hrd : Rd encB w2 (some ⟨k, 0, none⟩) 1 [zz] := ⟨rfl, by decide, fun _ => ⟨_, rfl, fun j hj => by
            obtain rfl : j = 0 := by simp at hj; omega
            rw [add_lit0]
            simp [World.cell?, hk]⟩⟩
          obtain ⟨v48, w48, r48, o48, hg, _⟩ := run_append_rd (P := Try.prog) (c := 1) _ 26 26 5 (.int .u8 0) 1 Try.underlying26 infoB rfl (by decide) encB_one o.1 hrd (by simp [be_length]; omega) hJ.f_sz
          rw [e13] at f47
          obtain ⟨A8, c8, e8, _⟩ := OwnL.rd o.1
          rw [e8] at r48 f42
          exact does_ok (v := v48) (w' := w48) (by simp only [execOp, List.getElem_toArray, List.getElem_cons_succ, List.getElem_cons_zero, resolve, invoke, builtin, Sem.run_bind, Sem.run_pure, Result.andThen_ok, List.map_toArray, List.map_cons, List.map_nil, f42, f47, r48]) ⟨fun x => hJ.v0 (x.resolve_left (by decide)), fun x => hJ.v1 (x.resolve_left (by decide)), fun x => hJ.v2 (x.resolve_left (by decide)), fun x => hJ.v3 (x.resolve_left (by decide)), fun x => hJ.v5 (x.resolve_left (by decide)), fun x => hJ.v6 (x.resolve_left (by decide)), fun x => hJ.v7 (x.resolve_left (by decide)), fun x => hJ.v9 (x.resolve_left (by decide)), fun x => hJ.v10 (x.resolve_left (by decide)), fun x => hJ.v11 (x.resolve_left (by decide)), fun x => hJ.v12 (x.resolve_left (by decide)), keep_ty hJ.f_bx (own_cell o.1) hg (by decide), keep_ty' hJ.f_cb (own_cell o.1) hg hcf, hJ.f_be.grown hg hJ.f_be.size (fun k hk => Nat.le_trans hwb (OwnL.base o.1 k hk).1), Nat.le_trans hJ.f_sz hg.size, fun n4 => absurd (.inr (hcl 8 _ rfl (hneeds 8 (by kernel_rfl)) 4 (by kernel_rfl))) n4, fun x4 n8 => absurd (.inr (hneeds 8 (by kernel_rfl))) n8, fun x8 n14 => absurd (.inl rfl) n14, fun x14 => (fun _ => ⟨o48, Byt.append o.2 (by intro y hy; simp at hy; omega)⟩) (), fun x13 n4 => absurd (.inr (hcl 8 _ rfl (hneeds 8 (by kernel_rfl)) 4 (by kernel_rfl))) n4, fun x13 x4 n8 => absurd (.inr (hneeds 8 (by kernel_rfl))) n8, fun x13 x8 n14 => absurd (.inl rfl) n14, fun x15 => absurd (hcl 15 _ rfl (x15.resolve_left (by decide)) 14 (by kernel_rfl)) hnS⟩
        · cases ho
          rw [if_pos (show Region.wanted _ y = true from rfl)]
          have f48 : ρ (.tmp 48) = r 14 := hn 14 _ 48 rfl (by kernel_rfl) rfl
          refine does_assign ?_
          rw [f48]
          exact ⟨fun x => hJ.v0 (x.resolve_left (by decide)), fun x => hJ.v1 (x.resolve_left (by decide)), fun x => hJ.v2 (x.resolve_left (by decide)), fun x => hJ.v3 (x.resolve_left (by decide)), fun x => hJ.v5 (x.resolve_left (by decide)), fun x => hJ.v6 (x.resolve_left (by decide)), fun x => hJ.v7 (x.resolve_left (by decide)), fun x => hJ.v9 (x.resolve_left (by decide)), fun x => hJ.v10 (x.resolve_left (by decide)), fun x => hJ.v11 (x.resolve_left (by decide)), fun x => hJ.v12 (x.resolve_left (by decide)), hJ.f_bx , hJ.f_cb , hJ.f_be , hJ.f_sz , fun n4 => absurd (.inr (hneeds 4 (by kernel_rfl))) n4, fun x4 n8 => absurd (.inr (hneeds 8 (by kernel_rfl))) n8, fun x8 n14 => absurd (.inr (hneeds 14 (by kernel_rfl))) n14, fun x14 => hJ.o14 (x14.resolve_left (by decide)), fun x13 n4 => absurd (.inr (hneeds 4 (by kernel_rfl))) n4, fun x13 x4 n8 => absurd (.inr (hneeds 8 (by kernel_rfl))) n8, fun x13 x8 n14 => absurd (.inr (hneeds 14 (by kernel_rfl))) n14, fun x15 => (fun _ => rfl) ()⟩
      case refine_2 =>
        intro a w2 S r hJ hall hd hs hfacts hrest
        have hO := hJ.o14 (hall 14 (by decide))
        obtain ⟨v, hv⟩ : ∃ v, v = r 14 := ⟨_, rfl⟩
        rw [← hv] at hO
        have k5 : r 15 = v := (hJ.o15 (hall 15 (by decide))).trans hv.symm
        have q5 : a.tmps.getD 5 undef = v := (hfacts 15 _ 5 rfl rfl).trans k5
        have ha := frame_of hd hs hrest [5, 34, 35, 36, 37, 38, 39, 40, 41, 42, 43, 44, 45, 46, 47, 48] (by kernel_rfl)
        simp only [q5, List.foldl, List.setIfInBounds_toArray, List.set_cons_succ, List.set_cons_zero] at ha
        clear q5 hd hs hfacts hrest
        generalize a.tmps.getD = gg at ha
        subst ha
        obtain ⟨A8, c8, rfl, h81, h82, _⟩ := OwnL.rd hO.1
        obtain ⟨N8, hN8⟩ : ∃ N8, N8 = (l ++ be 2 p ++ be 2 q ++ [zz]).length := ⟨_, rfl⟩
        rw [← hN8] at h81 hO ⊢
        have HN : Hid (OwnB w2 w.heap.size (.slice A8 N8 c8) ([cN, n] ++ (cf.fo.take (ix + 1)).flatMap fmF)) := Lib.hid (by rw [HL1.out]; exact hO)
        have HNC := Lib.hid hJ.f_cb
        have HNB := Lib.hid hJ.f_be
        clear hJ hO hN8 hall hcf hv
        go_wp2
        exact ⟨⟨ix + 1, by omega, by simp; try go_num, ⟨A8, N8, c8, rfl, HN⟩, HNC, HNB⟩, by simp [intOf]; try omega⟩
    · -- how many stops
      obtain ⟨l, hl⟩ : ∃ l, l = [cN, n] ++ cf.fo.flatMap fmF := ⟨_, rfl⟩
      have HO1 : Hid (OwnB wr w.heap.size (.slice Ab nb cb) l) := Lib.hid (by
        have := HO.out
        rw [List.take_of_length_le (by have := HML.out; omega)] at this
        rw [hl]
        exact this)
      have hll : l.length ≤ 50 := by
        have h1 : ∀ L : List Fo, (L.flatMap fmF).length = 5 * L.length := fun L => by
          induction L with
          | nil => rfl
          | cons a L ih => rw [List.flatMap_cons, List.length_append, fmF_len, ih, List.length_cons]; omega
        rw [hl, List.length_append, h1]
        have := HML.out
        simp
        omega
      have HLE := Lib.hid hl
      have hbT : Below wr.heap.size wr (wr.alloc (.cells #[.int .u8 (m : Nat)] 5)) := (Below.refl _ _).alloc (Nat.le_refl _) _
      have hA := OwnB.below HO1.out hbT
      have hrd := Rd.new wr 5 [m] #[.int .u8 (m : Nat)] 1 (0, 0) (enc := encB) rfl rfl (by decide)
      obtain ⟨v51, w51, r51, o51, g51, _⟩ := run_append_rd (P := Try.prog) (c := 1) w.heap.size 26 26 5 (.int .u8 0) 1 Try.underlying26 infoB rfl (by decide) encB_one hA.1 hrd (by omega) (by have := HB.out.size; simp; omega)
      have hb51 : Below w.heap.size w w51 := ((HB.out.trans (hbT.mono HB.out.size))).grown g51 (by have := HB.out.size; simp; omega) (fun j hj => (OwnL.base hA.1 j hj).1)
      obtain ⟨Ad, cd, ed, ld, md, _⟩ := OwnL.rd o51
      obtain ⟨n5, hn5⟩ : ∃ n5, n5 = (l ++ [m]).length := ⟨_, rfl⟩
      rw [← hn5] at ed ld
      subst ed
      have HC5 : Hid (w51.heap[g]? = some (.cells #[.slice A n c, .slice B m d, .int .i64 (cN : Nat)] 25 (0, 0))) := Lib.hid (keep_ty ((hbT.block g (Array.getElem?_eq_some_iff.1 HC.out).1).trans HC.out) (own_cell hA.1) g51 (by decide))
      have HI5 : Hid (Below w.heap.size w w51 ∧ OwnB w51 w.heap.size (.slice Ad n5 cd) (l ++ [m] ++ (cf.st.take 0).flatMap fmG) ∧ (l ++ [m] ++ (cf.st.take 0).flatMap fmG).length ≤ 100 + 1000001 * 0) := Lib.hid ⟨hb51, by
        have h1 : Byt (l ++ [m]) := Byt.append HO1.out.2 (by intro x hx; simp at hx; omega)
        rw [List.take_zero, List.flatMap_nil, List.append_nil]
        exact ⟨o51, h1⟩, by simp; omega⟩
      try simp only [World.size_alloc] at r51
      clear hbT hA hrd o51 g51 hb51 hn5 hl
      go_wp2_with (at_builtin; refine wpl_append_run rfl _ _ _ rfl rfl rfl r51 ?_)
      clear c0 c1 c2 r51
      go_loopw [5, 8] (fun x y wz => ∃ jx : Nat, jx ≤ m ∧ y = .int .i64 (jx : Nat) ∧ (∃ (Ae : Option Addr) (ne ce : Nat), x = .slice Ae ne ce ∧ Hid (Below w.heap.size w wz ∧ OwnB wz w.heap.size (.slice Ae ne ce) (l ++ [m] ++ (cf.st.take jx).flatMap fmG) ∧ (l ++ [m] ++ (cf.st.take jx).flatMap fmG).length ≤ 100 + 1000001 * jx)) ∧ Hid (wz.heap[g]? = some (.cells #[.slice A n c, .slice B m d, .int .i64 (cN : Nat)] 25 (0, 0)))) (fun _ y _ => m - (intOf y).toNat)
      case atStart => exact ⟨0, Nat.zero_le _, rfl, ⟨_, _, _, rfl, HI5⟩, HC5⟩
      case round =>
        obtain ⟨jx, hj, rfl, ⟨Ab, nb, cb, rfl, HJ⟩, HC9⟩ := hrel
        obtain ⟨c0, c1, c2⟩ := cells3 HC9.out
        by_cases hjl : (jx : Int) < (m : Int)
        · obtain ⟨ad, s, rfl, HS, e0⟩ := rdS_at (HR.out.st.below HJ.out.1) (k := jx) (by omega)
          obtain ⟨ad2, s2, e2, HS2, e3⟩ := rdS_at HR.out.st (k := jx) (by omega)
          cases e2
          have hlow : (ad.add jx).block < w.heap.size := cell_lt' e3
          have HSM : Hid (s ∈ cf.st) := Lib.hid (by
            obtain ⟨hl, e⟩ := HS.out
            rw [← e]
            exact List.getElem_mem hl)
          have hsz6 : s.size ≤ 1000000 := HR.out.sz s HSM.out
          have hws := wrap_mod s.size (by omega)
          have len_str := len_str s
          have hj1 : (jx : Int) < (m : Int) := hjl
          have hj2 : jx < m := by omega
          have hwb : w.heap.size ≤ w.heap.size := Nat.le_refl _
          obtain ⟨L, hL⟩ : ∃ L, L = l ++ [m] ++ (cf.st.take jx).flatMap fmG := ⟨_, rfl⟩
          have hl9 : L.length ≤ 100 + 1000001 * jx := by rw [hL]; exact HJ.out.2.2
          have HJO : Hid (OwnB wr w.heap.size (.slice Ab nb cb) L) := Lib.hid (by rw [hL]; exact HJ.out.2.1)
          have HNX : Hid (l ++ [m] ++ (cf.st.take (jx + 1)).flatMap fmG = L ++ [s.size % 256] ++ bsL s) := Lib.hid (by rw [hL, flat_take HS.out]; simp only [List.append_assoc]; rfl)
          have HBJ := Lib.hid HJ.out.1
          clear e3 HS2 hL
          have HE0 := Lib.hid e0
          clear e0
          go_wp2_with fail
          clear c0 c1 c2
          refine wp_region_flowG (by kernel_rfl) (B14 w w.heap.size g m jx (.slice A n c) (cN : Nat) ad d s Ab nb cb L) (fun r => ⟨fun h => h.elim, fun h => h.elim, fun h => h.elim, fun h => h.elim, fun h => h.elim, fun h => h.elim, fun h => h.elim, fun h => h.elim, fun h => h.elim, fun h => h.elim, fun h => h.elim, fun h => h.elim, fun h => h.elim, HC9.out, HE0.out, HBJ.out.trans (Below.drew (Below.refl _ _)), HBJ.out.size, fun _ => HJO.out.below (Below.drew (Below.refl _ _)), fun h => h.elim, fun h => h.elim, fun h => h.elim, fun h => h.elim⟩) (by kernel_rfl) (by kernel_rfl) ?_ ?_
          case refine_1 =>
            intro i o ho ρ y w2 S r hJ hnS hneeds hcl hreg hn hf hyb hyn
            have hi := (Array.getElem?_eq_some_iff.1 ho).1
            rcases Nat.lt_or_ge i 17 with hi2 | hi2
            case inr => simp at hi; omega
            obtain rfl | rfl | rfl | rfl | rfl | rfl | rfl | rfl | rfl | rfl | rfl | rfl | rfl | rfl | rfl | rfl | rfl : i = 0 ∨ i = 1 ∨ i = 2 ∨ i = 3 ∨ i = 4 ∨ i = 5 ∨ i = 6 ∨ i = 7 ∨ i = 8 ∨ i = 9 ∨ i = 10 ∨ i = 11 ∨ i = 12 ∨ i = 13 ∨ i = 14 ∨ i = 15 ∨ i = 16 := by omega
            · cases ho
              rw [if_pos (show Region.wanted _ y = true from rfl)]
              have f5 : ρ (.tmp 5) = .slice Ab nb cb := hf 5 (by kernel_rfl)
              refine does_move ?_
              rw [f5]
              exact ⟨fun _ => rfl, fun x => hJ.v1 (x.resolve_left (by decide)), fun x => hJ.v2 (x.resolve_left (by decide)), fun x => hJ.v3 (x.resolve_left (by decide)), fun x => hJ.v4 (x.resolve_left (by decide)), fun x => hJ.v5 (x.resolve_left (by decide)), fun x => hJ.v6 (x.resolve_left (by decide)), fun x => hJ.v7 (x.resolve_left (by decide)), fun x => hJ.v10 (x.resolve_left (by decide)), fun x => hJ.v11 (x.resolve_left (by decide)), fun x => hJ.v12 (x.resolve_left (by decide)), fun x => hJ.v13 (x.resolve_left (by decide)), fun x => hJ.v14 (x.resolve_left (by decide)), hJ.f_cf , hJ.f_st , hJ.f_be , hJ.f_sz , fun n9 => hJ.o0 (fun x => n9 (.inr x)), fun x9 n15 => absurd (hcl 9 _ rfl (x9.resolve_left (by decide)) 0 (by kernel_rfl)) hnS, fun x15 => absurd (hcl 9 _ rfl (hcl 15 _ rfl (x15.resolve_left (by decide)) 9 (by kernel_rfl)) 0 (by kernel_rfl)) hnS, fun x8 n9 => hJ.s0 (x8.resolve_left (by decide)) (fun x => n9 (.inr x)), fun x16 => absurd (hcl 16 _ rfl (x16.resolve_left (by decide)) 0 (by kernel_rfl)) hnS⟩
            · cases ho
              rw [if_pos (show Region.wanted _ y = true from rfl)]
              have f1 : ρ (.tmp 1) = .pointer (some ⟨g, 0, none⟩) := hf 1 (by kernel_rfl)
              exact does_ok (v := .pointer (some ⟨g, 1, none⟩)) (w' := w2) (by simp [go_sem, hreg.const, f1]) ⟨fun x => hJ.v0 (x.resolve_left (by decide)), fun _ => rfl, fun x => hJ.v2 (x.resolve_left (by decide)), fun x => hJ.v3 (x.resolve_left (by decide)), fun x => hJ.v4 (x.resolve_left (by decide)), fun x => hJ.v5 (x.resolve_left (by decide)), fun x => hJ.v6 (x.resolve_left (by decide)), fun x => hJ.v7 (x.resolve_left (by decide)), fun x => hJ.v10 (x.resolve_left (by decide)), fun x => hJ.v11 (x.resolve_left (by decide)), fun x => hJ.v12 (x.resolve_left (by decide)), fun x => hJ.v13 (x.resolve_left (by decide)), fun x => hJ.v14 (x.resolve_left (by decide)), hJ.f_cf , hJ.f_st , hJ.f_be , hJ.f_sz , fun n9 => hJ.o0 (fun x => n9 (.inr x)), fun x9 n15 => absurd (hcl 2 _ rfl (hcl 4 _ rfl (hcl 5 _ rfl (hcl 6 _ rfl (hcl 7 _ rfl (hcl 8 _ rfl (hcl 9 _ rfl (x9.resolve_left (by decide)) 8 (by kernel_rfl)) 7 (by kernel_rfl)) 6 (by kernel_rfl)) 5 (by kernel_rfl)) 4 (by kernel_rfl)) 2 (by kernel_rfl)) 1 (by kernel_rfl)) hnS, fun x15 => absurd (hcl 2 _ rfl (hcl 4 _ rfl (hcl 5 _ rfl (hcl 6 _ rfl (hcl 7 _ rfl (hcl 8 _ rfl (hcl 9 _ rfl (hcl 15 _ rfl (x15.resolve_left (by decide)) 9 (by kernel_rfl)) 8 (by kernel_rfl)) 7 (by kernel_rfl)) 6 (by kernel_rfl)) 5 (by kernel_rfl)) 4 (by kernel_rfl)) 2 (by kernel_rfl)) 1 (by kernel_rfl)) hnS, fun x8 n9 => absurd (hcl 2 _ rfl (hcl 4 _ rfl (hcl 5 _ rfl (hcl 6 _ rfl (hcl 7 _ rfl (hcl 8 _ rfl (x8.resolve_left (by decide)) 7 (by kernel_rfl)) 6 (by kernel_rfl)) 5 (by kernel_rfl)) 4 (by kernel_rfl)) 2 (by kernel_rfl)) 1 (by kernel_rfl)) hnS, fun x16 => absurd (hcl 16 _ rfl (x16.resolve_left (by decide)) 1 (by kernel_rfl)) hnS⟩
            · cases ho
              rw [if_pos (show Region.wanted _ y = true from rfl)]
              have f64 : ρ (.tmp 64) = .pointer (some ⟨g, 1, none⟩) := (hn 1 _ 64 rfl (by kernel_rfl) rfl).trans (hJ.v1 (hneeds 1 (by kernel_rfl)))
              obtain ⟨k0, k1, k2⟩ := cells3 hJ.f_cf
              exact does_ok (v := .slice (some ad) m d) (w' := w2) (by simp [go_sem, hreg.const, f64, k1]) ⟨fun x => hJ.v0 (x.resolve_left (by decide)), fun x => hJ.v1 (x.resolve_left (by decide)), fun _ => rfl, fun x => hJ.v3 (x.resolve_left (by decide)), fun x => hJ.v4 (x.resolve_left (by decide)), fun x => hJ.v5 (x.resolve_left (by decide)), fun x => hJ.v6 (x.resolve_left (by decide)), fun x => hJ.v7 (x.resolve_left (by decide)), fun x => hJ.v10 (x.resolve_left (by decide)), fun x => hJ.v11 (x.resolve_left (by decide)), fun x => hJ.v12 (x.resolve_left (by decide)), fun x => hJ.v13 (x.resolve_left (by decide)), fun x => hJ.v14 (x.resolve_left (by decide)), hJ.f_cf , hJ.f_st , hJ.f_be , hJ.f_sz , fun n9 => hJ.o0 (fun x => n9 (.inr x)), fun x9 n15 => absurd (hcl 4 _ rfl (hcl 5 _ rfl (hcl 6 _ rfl (hcl 7 _ rfl (hcl 8 _ rfl (hcl 9 _ rfl (x9.resolve_left (by decide)) 8 (by kernel_rfl)) 7 (by kernel_rfl)) 6 (by kernel_rfl)) 5 (by kernel_rfl)) 4 (by kernel_rfl)) 2 (by kernel_rfl)) hnS, fun x15 => absurd (hcl 4 _ rfl (hcl 5 _ rfl (hcl 6 _ rfl (hcl 7 _ rfl (hcl 8 _ rfl (hcl 9 _ rfl (hcl 15 _ rfl (x15.resolve_left (by decide)) 9 (by kernel_rfl)) 8 (by kernel_rfl)) 7 (by kernel_rfl)) 6 (by kernel_rfl)) 5 (by kernel_rfl)) 4 (by kernel_rfl)) 2 (by kernel_rfl)) hnS, fun x8 n9 => absurd (hcl 4 _ rfl (hcl 5 _ rfl (hcl 6 _ rfl (hcl 7 _ rfl (hcl 8 _ rfl (x8.resolve_left (by decide)) 7 (by kernel_rfl)) 6 (by kernel_rfl)) 5 (by kernel_rfl)) 4 (by kernel_rfl)) 2 (by kernel_rfl)) hnS, fun x16 => absurd (hcl 16 _ rfl (x16.resolve_left (by decide)) 2 (by kernel_rfl)) hnS⟩
            · cases ho
              rw [if_pos (show Region.wanted _ y = true from rfl)]
              have f8 : ρ (.tmp 8) = .int .i64 (jx : Nat) := hf 8 (by kernel_rfl)
              refine does_move ?_
              rw [f8]
              exact ⟨fun x => hJ.v0 (x.resolve_left (by decide)), fun x => hJ.v1 (x.resolve_left (by decide)), fun x => hJ.v2 (x.resolve_left (by decide)), fun _ => rfl, fun x => hJ.v4 (x.resolve_left (by decide)), fun x => hJ.v5 (x.resolve_left (by decide)), fun x => hJ.v6 (x.resolve_left (by decide)), fun x => hJ.v7 (x.resolve_left (by decide)), fun x => hJ.v10 (x.resolve_left (by decide)), fun x => hJ.v11 (x.resolve_left (by decide)), fun x => hJ.v12 (x.resolve_left (by decide)), fun x => hJ.v13 (x.resolve_left (by decide)), fun x => hJ.v14 (x.resolve_left (by decide)), hJ.f_cf , hJ.f_st , hJ.f_be , hJ.f_sz , fun n9 => hJ.o0 (fun x => n9 (.inr x)), fun x9 n15 => absurd (hcl 4 _ rfl (hcl 5 _ rfl (hcl 6 _ rfl (hcl 7 _ rfl (hcl 8 _ rfl (hcl 9 _ rfl (x9.resolve_left (by decide)) 8 (by kernel_rfl)) 7 (by kernel_rfl)) 6 (by kernel_rfl)) 5 (by kernel_rfl)) 4 (by kernel_rfl)) 3 (by kernel_rfl)) hnS, fun x15 => absurd (hcl 4 _ rfl (hcl 5 _ rfl (hcl 6 _ rfl (hcl 7 _ rfl (hcl 8 _ rfl (hcl 9 _ rfl (hcl 15 _ rfl (x15.resolve_left (by decide)) 9 (by kernel_rfl)) 8 (by kernel_rfl)) 7 (by kernel_rfl)) 6 (by kernel_rfl)) 5 (by kernel_rfl)) 4 (by kernel_rfl)) 3 (by kernel_rfl)) hnS, fun x8 n9 => absurd (hcl 4 _ rfl (hcl 5 _ rfl (hcl 6 _ rfl (hcl 7 _ rfl (hcl 8 _ rfl (x8.resolve_left (by decide)) 7 (by kernel_rfl)) 6 (by kernel_rfl)) 5 (by kernel_rfl)) 4 (by kernel_rfl)) 3 (by kernel_rfl)) hnS, fun x16 => absurd (hcl 16 _ rfl (x16.resolve_left (by decide)) 3 (by kernel_rfl)) hnS⟩
            · cases ho
              rw [if_pos (show Region.wanted _ y = true from rfl)]
              have f65 : ρ (.tmp 65) = .slice (some ad) m d := (hn 2 _ 65 rfl (by kernel_rfl) rfl).trans (hJ.v2 (hneeds 2 (by kernel_rfl)))
              have f66 : ρ (.tmp 66) = .int .i64 (jx : Nat) := (hn 3 _ 66 rfl (by kernel_rfl) rfl).trans (hJ.v3 (hneeds 3 (by kernel_rfl)))
              exact does_ok (v := .pointer (some (ad.add jx))) (w' := w2) (by simp [go_sem, hreg.const, f65, f66, hj1, hj2]) ⟨fun x => hJ.v0 (x.resolve_left (by decide)), fun x => hJ.v1 (x.resolve_left (by decide)), fun x => hJ.v2 (x.resolve_left (by decide)), fun x => hJ.v3 (x.resolve_left (by decide)), fun _ => rfl, fun x => hJ.v5 (x.resolve_left (by decide)), fun x => hJ.v6 (x.resolve_left (by decide)), fun x => hJ.v7 (x.resolve_left (by decide)), fun x => hJ.v10 (x.resolve_left (by decide)), fun x => hJ.v11 (x.resolve_left (by decide)), fun x => hJ.v12 (x.resolve_left (by decide)), fun x => hJ.v13 (x.resolve_left (by decide)), fun x => hJ.v14 (x.resolve_left (by decide)), hJ.f_cf , hJ.f_st , hJ.f_be , hJ.f_sz , fun n9 => hJ.o0 (fun x => n9 (.inr x)), fun x9 n15 => absurd (hcl 5 _ rfl (hcl 6 _ rfl (hcl 7 _ rfl (hcl 8 _ rfl (hcl 9 _ rfl (x9.resolve_left (by decide)) 8 (by kernel_rfl)) 7 (by kernel_rfl)) 6 (by kernel_rfl)) 5 (by kernel_rfl)) 4 (by kernel_rfl)) hnS, fun x15 => absurd (hcl 5 _ rfl (hcl 6 _ rfl (hcl 7 _ rfl (hcl 8 _ rfl (hcl 9 _ rfl (hcl 15 _ rfl (x15.resolve_left (by decide)) 9 (by kernel_rfl)) 8 (by kernel_rfl)) 7 (by kernel_rfl)) 6 (by kernel_rfl)) 5 (by kernel_rfl)) 4 (by kernel_rfl)) hnS, fun x8 n9 => absurd (hcl 5 _ rfl (hcl 6 _ rfl (hcl 7 _ rfl (hcl 8 _ rfl (x8.resolve_left (by decide)) 7 (by kernel_rfl)) 6 (by kernel_rfl)) 5 (by kernel_rfl)) 4 (by kernel_rfl)) hnS, fun x16 => absurd (hcl 16 _ rfl (x16.resolve_left (by decide)) 4 (by kernel_rfl)) hnS⟩
            · cases ho
              rw [if_pos (show Region.wanted _ y = true from rfl)]
              have f67 : ρ (.tmp 67) = .pointer (some (ad.add jx)) := (hn 4 _ 67 rfl (by kernel_rfl) rfl).trans (hJ.v4 (hneeds 4 (by kernel_rfl)))
              have k0 := hJ.f_st
              exact does_ok (v := .string s) (w' := w2) (by simp [go_sem, hreg.const, f67, k0]) ⟨fun x => hJ.v0 (x.resolve_left (by decide)), fun x => hJ.v1 (x.resolve_left (by decide)), fun x => hJ.v2 (x.resolve_left (by decide)), fun x => hJ.v3 (x.resolve_left (by decide)), fun x => hJ.v4 (x.resolve_left (by decide)), fun _ => rfl, fun x => hJ.v6 (x.resolve_left (by decide)), fun x => hJ.v7 (x.resolve_left (by decide)), fun x => hJ.v10 (x.resolve_left (by decide)), fun x => hJ.v11 (x.resolve_left (by decide)), fun x => hJ.v12 (x.resolve_left (by decide)), fun x => hJ.v13 (x.resolve_left (by decide)), fun x => hJ.v14 (x.resolve_left (by decide)), hJ.f_cf , hJ.f_st , hJ.f_be , hJ.f_sz , fun n9 => hJ.o0 (fun x => n9 (.inr x)), fun x9 n15 => absurd (hcl 6 _ rfl (hcl 7 _ rfl (hcl 8 _ rfl (hcl 9 _ rfl (x9.resolve_left (by decide)) 8 (by kernel_rfl)) 7 (by kernel_rfl)) 6 (by kernel_rfl)) 5 (by kernel_rfl)) hnS, fun x15 => absurd (hcl 6 _ rfl (hcl 7 _ rfl (hcl 8 _ rfl (hcl 9 _ rfl (hcl 15 _ rfl (x15.resolve_left (by decide)) 9 (by kernel_rfl)) 8 (by kernel_rfl)) 7 (by kernel_rfl)) 6 (by kernel_rfl)) 5 (by kernel_rfl)) hnS, fun x8 n9 => absurd (hcl 6 _ rfl (hcl 7 _ rfl (hcl 8 _ rfl (x8.resolve_left (by decide)) 7 (by kernel_rfl)) 6 (by kernel_rfl)) 5 (by kernel_rfl)) hnS, fun x16 => absurd (hcl 16 _ rfl (x16.resolve_left (by decide)) 5 (by kernel_rfl)) hnS⟩
            · cases ho
              rw [if_pos (show Region.wanted _ y = true from rfl)]
              have f68 : ρ (.tmp 68) = .string s := (hn 5 _ 68 rfl (by kernel_rfl) rfl).trans (hJ.v5 (hneeds 5 (by kernel_rfl)))
              exact does_ok (v := .int .i64 (s.size : Nat)) (w' := w2) (by simp [go_sem, hreg.const, f68, len_str]) ⟨fun x => hJ.v0 (x.resolve_left (by decide)), fun x => hJ.v1 (x.resolve_left (by decide)), fun x => hJ.v2 (x.resolve_left (by decide)), fun x => hJ.v3 (x.resolve_left (by decide)), fun x => hJ.v4 (x.resolve_left (by decide)), fun x => hJ.v5 (x.resolve_left (by decide)), fun _ => rfl, fun x => hJ.v7 (x.resolve_left (by decide)), fun x => hJ.v10 (x.resolve_left (by decide)), fun x => hJ.v11 (x.resolve_left (by decide)), fun x => hJ.v12 (x.resolve_left (by decide)), fun x => hJ.v13 (x.resolve_left (by decide)), fun x => hJ.v14 (x.resolve_left (by decide)), hJ.f_cf , hJ.f_st , hJ.f_be , hJ.f_sz , fun n9 => hJ.o0 (fun x => n9 (.inr x)), fun x9 n15 => absurd (hcl 7 _ rfl (hcl 8 _ rfl (hcl 9 _ rfl (x9.resolve_left (by decide)) 8 (by kernel_rfl)) 7 (by kernel_rfl)) 6 (by kernel_rfl)) hnS, fun x15 => absurd (hcl 7 _ rfl (hcl 8 _ rfl (hcl 9 _ rfl (hcl 15 _ rfl (x15.resolve_left (by decide)) 9 (by kernel_rfl)) 8 (by kernel_rfl)) 7 (by kernel_rfl)) 6 (by kernel_rfl)) hnS, fun x8 n9 => absurd (hcl 7 _ rfl (hcl 8 _ rfl (x8.resolve_left (by decide)) 7 (by kernel_rfl)) 6 (by kernel_rfl)) hnS, fun x16 => absurd (hcl 16 _ rfl (x16.resolve_left (by decide)) 6 (by kernel_rfl)) hnS⟩
            · cases ho
              rw [if_pos (show Region.wanted _ y = true from rfl)]
              have f69 : ρ (.tmp 69) = .int .i64 (s.size : Nat) := (hn 6 _ 69 rfl (by kernel_rfl) rfl).trans (hJ.v6 (hneeds 6 (by kernel_rfl)))
              exact does_ok (v := .int .u8 ((s.size % 256 : Nat) : Int)) (w' := w2) (by simp [go_sem, hreg.const, f69, hws]) ⟨fun x => hJ.v0 (x.resolve_left (by decide)), fun x => hJ.v1 (x.resolve_left (by decide)), fun x => hJ.v2 (x.resolve_left (by decide)), fun x => hJ.v3 (x.resolve_left (by decide)), fun x => hJ.v4 (x.resolve_left (by decide)), fun x => hJ.v5 (x.resolve_left (by decide)), fun x => hJ.v6 (x.resolve_left (by decide)), fun _ => rfl, fun x => hJ.v10 (x.resolve_left (by decide)), fun x => hJ.v11 (x.resolve_left (by decide)), fun x => hJ.v12 (x.resolve_left (by decide)), fun x => hJ.v13 (x.resolve_left (by decide)), fun x => hJ.v14 (x.resolve_left (by decide)), hJ.f_cf , hJ.f_st , hJ.f_be , hJ.f_sz , fun n9 => hJ.o0 (fun x => n9 (.inr x)), fun x9 n15 => absurd (hcl 8 _ rfl (hcl 9 _ rfl (x9.resolve_left (by decide)) 8 (by kernel_rfl)) 7 (by kernel_rfl)) hnS, fun x15 => absurd (hcl 8 _ rfl (hcl 9 _ rfl (hcl 15 _ rfl (x15.resolve_left (by decide)) 9 (by kernel_rfl)) 8 (by kernel_rfl)) 7 (by kernel_rfl)) hnS, fun x8 n9 => absurd (hcl 8 _ rfl (x8.resolve_left (by decide)) 7 (by kernel_rfl)) hnS, fun x16 => absurd (hcl 16 _ rfl (x16.resolve_left (by decide)) 7 (by kernel_rfl)) hnS⟩
            · cases ho
              rw [if_pos (show Region.wanted _ y = true from rfl)]
              have f70 : ρ (.tmp 70) = .int .u8 ((s.size % 256 : Nat) : Int) := (hn 7 _ 70 rfl (by kernel_rfl) rfl).trans (hJ.v7 (hneeds 7 (by kernel_rfl)))
              have hbw : Below w2.heap.size w2 (w2.alloc (.cells #[.int .u8 ((s.size % 256 : Nat) : Int)] 5)) := (Below.refl _ _).alloc (Nat.le_refl _) _
              have hnew := World.alloc_heap_new w2 (.cells #[.int .u8 ((s.size % 256 : Nat) : Int)] 5)
              exact does_ok (v := .slice (some ⟨w2.heap.size, 0, none⟩) 1 1) (w' := w2.alloc (.cells #[.int .u8 ((s.size % 256 : Nat) : Int)] 5)) (by simp [go_sem, hreg.const, f70]) ⟨fun x => hJ.v0 (x.resolve_left (by decide)), fun x => hJ.v1 (x.resolve_left (by decide)), fun x => hJ.v2 (x.resolve_left (by decide)), fun x => hJ.v3 (x.resolve_left (by decide)), fun x => hJ.v4 (x.resolve_left (by decide)), fun x => hJ.v5 (x.resolve_left (by decide)), fun x => hJ.v6 (x.resolve_left (by decide)), fun x => hJ.v7 (x.resolve_left (by decide)), fun x => hJ.v10 (x.resolve_left (by decide)), fun x => hJ.v11 (x.resolve_left (by decide)), fun x => hJ.v12 (x.resolve_left (by decide)), fun x => hJ.v13 (x.resolve_left (by decide)), fun x => hJ.v14 (x.resolve_left (by decide)), (hbw.block _ (Array.getElem?_eq_some_iff.1 hJ.f_cf).1).trans hJ.f_cf, cell_keep hbw hJ.f_st, Below.thn hJ.f_be hbw, Nat.le_trans hJ.f_sz hbw.size, fun n9 => (fun m9 => (hJ.o0 m9).below hbw) (fun x => n9 (.inr x)), fun x9 n15 => absurd (hcl 9 _ rfl (x9.resolve_left (by decide)) 8 (by kernel_rfl)) hnS, fun x15 => absurd (hcl 9 _ rfl (hcl 15 _ rfl (x15.resolve_left (by decide)) 9 (by kernel_rfl)) 8 (by kernel_rfl)) hnS, fun x8 n9 => (fun _ m9 => ⟨w2.heap.size, rfl, hnew⟩) () (fun x => n9 (.inr x)), fun x16 => absurd (hcl 16 _ rfl (x16.resolve_left (by decide)) 8 (by kernel_rfl)) hnS⟩
            · cases ho
              rw [if_pos (show Region.wanted _ y = true from rfl)]
              have f63 : ρ (.tmp 63) = .slice Ab nb cb := (hn 0 _ 63 rfl (by kernel_rfl) rfl).trans (hJ.v0 (hneeds 0 (by kernel_rfl)))
              have f71 : ρ (.tmp 71) = r 8 := hn 8 _ 71 rfl (by kernel_rfl) rfl
              have s8 := hneeds 8 (by kernel_rfl)
              have o := hJ.o0 hnS
              obtain ⟨k, e8, hk⟩ := hJ.s0 s8 hnS
              have hrd : Rd encB w2 (some ⟨k, 0, none⟩) 1 [s.size % 256] := ⟨rfl, by decide, fun _ => ⟨_, rfl, fun j hj => by
                obtain rfl : j = 0 := by simp at hj; omega
                rw [add_lit0]
                simp [World.cell?, hk]⟩⟩
              obtain ⟨v72, w72, r72, o72, hg, _⟩ := run_append_rd (P := Try.prog) (c := 1) _ 26 26 5 (.int .u8 0) 1 Try.underlying26 infoB rfl (by decide) encB_one o.1 hrd (by omega) hJ.f_sz
              rw [e8] at f71
              obtain ⟨A8, c8, e9, _⟩ := OwnL.rd o.1
              rw [e9] at r72 f63
              exact does_ok (v := v72) (w' := w72) (by simp only [execOp, List.getElem_toArray, List.getElem_cons_succ, List.getElem_cons_zero, resolve, invoke, builtin, Sem.run_bind, Sem.run_pure, Result.andThen_ok, List.map_toArray, List.map_cons, List.map_nil, f63, f71, r72]) ⟨fun x => hJ.v0 (x.resolve_left (by decide)), fun x => hJ.v1 (x.resolve_left (by decide)), fun x => hJ.v2 (x.resolve_left (by decide)), fun x => hJ.v3 (x.resolve_left (by decide)), fun x => hJ.v4 (x.resolve_left (by decide)), fun x => hJ.v5 (x.resolve_left (by decide)), fun x => hJ.v6 (x.resolve_left (by decide)), fun x => hJ.v7 (x.resolve_left (by decide)), fun x => hJ.v10 (x.resolve_left (by decide)), fun x => hJ.v11 (x.resolve_left (by decide)), fun x => hJ.v12 (x.resolve_left (by decide)), fun x => hJ.v13 (x.resolve_left (by decide)), fun x => hJ.v14 (x.resolve_left (by decide)), keep_ty hJ.f_cf (own_cell o.1) hg (by decide), keep_low hJ.f_st hJ.f_be hlow hg (fun k hk => Nat.le_trans hwb (OwnL.base o.1 k hk).1), hJ.f_be.grown hg hJ.f_be.size (fun k hk => Nat.le_trans hwb (OwnL.base o.1 k hk).1), Nat.le_trans hJ.f_sz hg.size, fun n9 => absurd (.inl rfl) n9, fun x9 n15 => (fun _ m15 => ⟨o72, Byt.append o.2 (by intro y hy; simp at hy; omega)⟩) () (fun x => n15 (.inr x)), fun x15 => absurd (hcl 15 _ rfl (x15.resolve_left (by decide)) 9 (by kernel_rfl)) hnS, fun x8 n9 => absurd (.inl rfl) n9, fun x16 => absurd (hcl 16 _ rfl (x16.resolve_left (by decide)) 9 (by kernel_rfl)) hnS⟩
            · cases ho
              rw [if_pos (show Region.wanted _ y = true from rfl)]
              have f1 : ρ (.tmp 1) = .pointer (some ⟨g, 0, none⟩) := hf 1 (by kernel_rfl)
              exact does_ok (v := .pointer (some ⟨g, 1, none⟩)) (w' := w2) (by simp [go_sem, hreg.const, f1]) ⟨fun x => hJ.v0 (x.resolve_left (by decide)), fun x => hJ.v1 (x.resolve_left (by decide)), fun x => hJ.v2 (x.resolve_left (by decide)), fun x => hJ.v3 (x.resolve_left (by decide)), fun x => hJ.v4 (x.resolve_left (by decide)), fun x => hJ.v5 (x.resolve_left (by decide)), fun x => hJ.v6 (x.resolve_left (by decide)), fun x => hJ.v7 (x.resolve_left (by decide)), fun _ => rfl, fun x => hJ.v11 (x.resolve_left (by decide)), fun x => hJ.v12 (x.resolve_left (by decide)), fun x => hJ.v13 (x.resolve_left (by decide)), fun x => hJ.v14 (x.resolve_left (by decide)), hJ.f_cf , hJ.f_st , hJ.f_be , hJ.f_sz , fun n9 => hJ.o0 (fun x => n9 (.inr x)), fun x9 n15 => hJ.o9 (x9.resolve_left (by decide)) (fun x => n15 (.inr x)), fun x15 => absurd (hcl 11 _ rfl (hcl 13 _ rfl (hcl 14 _ rfl (hcl 15 _ rfl (x15.resolve_left (by decide)) 14 (by kernel_rfl)) 13 (by kernel_rfl)) 11 (by kernel_rfl)) 10 (by kernel_rfl)) hnS, fun x8 n9 => hJ.s0 (x8.resolve_left (by decide)) (fun x => n9 (.inr x)), fun x16 => absurd (hcl 16 _ rfl (x16.resolve_left (by decide)) 10 (by kernel_rfl)) hnS⟩
            · cases ho
              rw [if_pos (show Region.wanted _ y = true from rfl)]
              have f73 : ρ (.tmp 73) = .pointer (some ⟨g, 1, none⟩) := (hn 10 _ 73 rfl (by kernel_rfl) rfl).trans (hJ.v10 (hneeds 10 (by kernel_rfl)))
              obtain ⟨k0, k1, k2⟩ := cells3 hJ.f_cf
              exact does_ok (v := .slice (some ad) m d) (w' := w2) (by simp [go_sem, hreg.const, f73, k1]) ⟨fun x => hJ.v0 (x.resolve_left (by decide)), fun x => hJ.v1 (x.resolve_left (by decide)), fun x => hJ.v2 (x.resolve_left (by decide)), fun x => hJ.v3 (x.resolve_left (by decide)), fun x => hJ.v4 (x.resolve_left (by decide)), fun x => hJ.v5 (x.resolve_left (by decide)), fun x => hJ.v6 (x.resolve_left (by decide)), fun x => hJ.v7 (x.resolve_left (by decide)), fun x => hJ.v10 (x.resolve_left (by decide)), fun _ => rfl, fun x => hJ.v12 (x.resolve_left (by decide)), fun x => hJ.v13 (x.resolve_left (by decide)), fun x => hJ.v14 (x.resolve_left (by decide)), hJ.f_cf , hJ.f_st , hJ.f_be , hJ.f_sz , fun n9 => hJ.o0 (fun x => n9 (.inr x)), fun x9 n15 => hJ.o9 (x9.resolve_left (by decide)) (fun x => n15 (.inr x)), fun x15 => absurd (hcl 13 _ rfl (hcl 14 _ rfl (hcl 15 _ rfl (x15.resolve_left (by decide)) 14 (by kernel_rfl)) 13 (by kernel_rfl)) 11 (by kernel_rfl)) hnS, fun x8 n9 => hJ.s0 (x8.resolve_left (by decide)) (fun x => n9 (.inr x)), fun x16 => absurd (hcl 16 _ rfl (x16.resolve_left (by decide)) 11 (by kernel_rfl)) hnS⟩
            · cases ho
              rw [if_pos (show Region.wanted _ y = true from rfl)]
              have f8 : ρ (.tmp 8) = .int .i64 (jx : Nat) := hf 8 (by kernel_rfl)
              refine does_move ?_
              rw [f8]
              exact ⟨fun x => hJ.v0 (x.resolve_left (by decide)), fun x => hJ.v1 (x.resolve_left (by decide)), fun x => hJ.v2 (x.resolve_left (by decide)), fun x => hJ.v3 (x.resolve_left (by decide)), fun x => hJ.v4 (x.resolve_left (by decide)), fun x => hJ.v5 (x.resolve_left (by decide)), fun x => hJ.v6 (x.resolve_left (by decide)), fun x => hJ.v7 (x.resolve_left (by decide)), fun x => hJ.v10 (x.resolve_left (by decide)), fun x => hJ.v11 (x.resolve_left (by decide)), fun _ => rfl, fun x => hJ.v13 (x.resolve_left (by decide)), fun x => hJ.v14 (x.resolve_left (by decide)), hJ.f_cf , hJ.f_st , hJ.f_be , hJ.f_sz , fun n9 => hJ.o0 (fun x => n9 (.inr x)), fun x9 n15 => hJ.o9 (x9.resolve_left (by decide)) (fun x => n15 (.inr x)), fun x15 => absurd (hcl 13 _ rfl (hcl 14 _ rfl (hcl 15 _ rfl (x15.resolve_left (by decide)) 14 (by kernel_rfl)) 13 (by kernel_rfl)) 12 (by kernel_rfl)) hnS, fun x8 n9 => hJ.s0 (x8.resolve_left (by decide)) (fun x => n9 (.inr x)), fun x16 => absurd (hcl 16 _ rfl (x16.resolve_left (by decide)) 12 (by kernel_rfl)) hnS⟩
            · cases ho
              rw [if_pos (show Region.wanted _ y = true from rfl)]
              have f74 : ρ (.tmp 74) = .slice (some ad) m d := (hn 11 _ 74 rfl (by kernel_rfl) rfl).trans (hJ.v11 (hneeds 11 (by kernel_rfl)))
              have f75 : ρ (.tmp 75) = .int .i64 (jx : Nat) := (hn 12 _ 75 rfl (by kernel_rfl) rfl).trans (hJ.v12 (hneeds 12 (by kernel_rfl)))
              exact does_ok (v := .pointer (some (ad.add jx))) (w' := w2) (by simp [go_sem, hreg.const, f74, f75, hj1, hj2]) ⟨fun x => hJ.v0 (x.resolve_left (by decide)), fun x => hJ.v1 (x.resolve_left (by decide)), fun x => hJ.v2 (x.resolve_left (by decide)), fun x => hJ.v3 (x.resolve_left (by decide)), fun x => hJ.v4 (x.resolve_left (by decide)), fun x => hJ.v5 (x.resolve_left (by decide)), fun x => hJ.v6 (x.resolve_left (by decide)), fun x => hJ.v7 (x.resolve_left (by decide)), fun x => hJ.v10 (x.resolve_left (by decide)), fun x => hJ.v11 (x.resolve_left (by decide)), fun x => hJ.v12 (x.resolve_left (by decide)), fun _ => rfl, fun x => hJ.v14 (x.resolve_left (by decide)), hJ.f_cf , hJ.f_st , hJ.f_be , hJ.f_sz , fun n9 => hJ.o0 (fun x => n9 (.inr x)), fun x9 n15 => hJ.o9 (x9.resolve_left (by decide)) (fun x => n15 (.inr x)), fun x15 => absurd (hcl 14 _ rfl (hcl 15 _ rfl (x15.resolve_left (by decide)) 14 (by kernel_rfl)) 13 (by kernel_rfl)) hnS, fun x8 n9 => hJ.s0 (x8.resolve_left (by decide)) (fun x => n9 (.inr x)), fun x16 => absurd (hcl 16 _ rfl (x16.resolve_left (by decide)) 13 (by kernel_rfl)) hnS⟩
            · cases ho
              rw [if_pos (show Region.wanted _ y = true from rfl)]
              have f76 : ρ (.tmp 76) = .pointer (some (ad.add jx)) := (hn 13 _ 76 rfl (by kernel_rfl) rfl).trans (hJ.v13 (hneeds 13 (by kernel_rfl)))
              have k0 := hJ.f_st
              exact does_ok (v := .string s) (w' := w2) (by simp [go_sem, hreg.const, f76, k0]) ⟨fun x => hJ.v0 (x.resolve_left (by decide)), fun x => hJ.v1 (x.resolve_left (by decide)), fun x => hJ.v2 (x.resolve_left (by decide)), fun x => hJ.v3 (x.resolve_left (by decide)), fun x => hJ.v4 (x.resolve_left (by decide)), fun x => hJ.v5 (x.resolve_left (by decide)), fun x => hJ.v6 (x.resolve_left (by decide)), fun x => hJ.v7 (x.resolve_left (by decide)), fun x => hJ.v10 (x.resolve_left (by decide)), fun x => hJ.v11 (x.resolve_left (by decide)), fun x => hJ.v12 (x.resolve_left (by decide)), fun x => hJ.v13 (x.resolve_left (by decide)), fun _ => rfl, hJ.f_cf , hJ.f_st , hJ.f_be , hJ.f_sz , fun n9 => hJ.o0 (fun x => n9 (.inr x)), fun x9 n15 => hJ.o9 (x9.resolve_left (by decide)) (fun x => n15 (.inr x)), fun x15 => absurd (hcl 15 _ rfl (x15.resolve_left (by decide)) 14 (by kernel_rfl)) hnS, fun x8 n9 => hJ.s0 (x8.resolve_left (by decide)) (fun x => n9 (.inr x)), fun x16 => absurd (hcl 16 _ rfl (x16.resolve_left (by decide)) 14 (by kernel_rfl)) hnS⟩
            · cases ho
              rw [if_pos (show Region.wanted _ y = true from rfl)]
              have f72 : ρ (.tmp 72) = r 9 := hn 9 _ 72 rfl (by kernel_rfl) rfl
              have f77 : ρ (.tmp 77) = .string s := (hn 14 _ 77 rfl (by kernel_rfl) rfl).trans (hJ.v14 (hneeds 14 (by kernel_rfl)))
              have s9 := hneeds 9 (by kernel_rfl)
              have o := hJ.o9 s9 hnS
              obtain ⟨v78, w78, r78, o78, hg⟩ := run_append_s s o (by simp; omega) hJ.f_sz
              obtain ⟨A8, c8, e9, _⟩ := OwnL.rd o.1
              rw [e9] at r78 f72
              exact does_ok (v := v78) (w' := w78) (by simp only [execOp, List.getElem_toArray, List.getElem_cons_succ, List.getElem_cons_zero, resolve, invoke, builtin, Sem.run_bind, Sem.run_pure, Result.andThen_ok, List.map_toArray, List.map_cons, List.map_nil, f72, f77, r78]) ⟨fun x => hJ.v0 (x.resolve_left (by decide)), fun x => hJ.v1 (x.resolve_left (by decide)), fun x => hJ.v2 (x.resolve_left (by decide)), fun x => hJ.v3 (x.resolve_left (by decide)), fun x => hJ.v4 (x.resolve_left (by decide)), fun x => hJ.v5 (x.resolve_left (by decide)), fun x => hJ.v6 (x.resolve_left (by decide)), fun x => hJ.v7 (x.resolve_left (by decide)), fun x => hJ.v10 (x.resolve_left (by decide)), fun x => hJ.v11 (x.resolve_left (by decide)), fun x => hJ.v12 (x.resolve_left (by decide)), fun x => hJ.v13 (x.resolve_left (by decide)), fun x => hJ.v14 (x.resolve_left (by decide)), keep_ty hJ.f_cf (own_cell o.1) hg (by decide), keep_low hJ.f_st hJ.f_be hlow hg (fun k hk => Nat.le_trans hwb (OwnL.base o.1 k hk).1), hJ.f_be.grown hg hJ.f_be.size (fun k hk => Nat.le_trans hwb (OwnL.base o.1 k hk).1), Nat.le_trans hJ.f_sz hg.size, fun n9 => absurd (.inr (hneeds 9 (by kernel_rfl))) n9, fun x9 n15 => absurd (.inl rfl) n15, fun x15 => (fun _ => o78) (), fun x8 n9 => absurd (.inr (hneeds 9 (by kernel_rfl))) n9, fun x16 => absurd (hcl 16 _ rfl (x16.resolve_left (by decide)) 15 (by kernel_rfl)) hnS⟩
            · cases ho
              rw [if_pos (show Region.wanted _ y = true from rfl)]
              have f78 : ρ (.tmp 78) = r 15 := hn 15 _ 78 rfl (by kernel_rfl) rfl
              refine does_assign ?_
              rw [f78]
              exact ⟨fun x => hJ.v0 (x.resolve_left (by decide)), fun x => hJ.v1 (x.resolve_left (by decide)), fun x => hJ.v2 (x.resolve_left (by decide)), fun x => hJ.v3 (x.resolve_left (by decide)), fun x => hJ.v4 (x.resolve_left (by decide)), fun x => hJ.v5 (x.resolve_left (by decide)), fun x => hJ.v6 (x.resolve_left (by decide)), fun x => hJ.v7 (x.resolve_left (by decide)), fun x => hJ.v10 (x.resolve_left (by decide)), fun x => hJ.v11 (x.resolve_left (by decide)), fun x => hJ.v12 (x.resolve_left (by decide)), fun x => hJ.v13 (x.resolve_left (by decide)), fun x => hJ.v14 (x.resolve_left (by decide)), hJ.f_cf , hJ.f_st , hJ.f_be , hJ.f_sz , fun n9 => absurd (.inr (hneeds 9 (by kernel_rfl))) n9, fun x9 n15 => absurd (.inr (hneeds 15 (by kernel_rfl))) n15, fun x15 => hJ.o15 (x15.resolve_left (by decide)), fun x8 n9 => absurd (.inr (hneeds 9 (by kernel_rfl))) n9, fun x16 => (fun _ => rfl) ()⟩
          case refine_2 =>
            intro a w2 S r hJ hall hd hs hfacts hrest
            have hO := hJ.o15 (hall 15 (by decide))
            obtain ⟨v, hv⟩ : ∃ v, v = r 15 := ⟨_, rfl⟩
            rw [← hv] at hO
            have k5 : r 16 = v := (hJ.o16 (hall 16 (by decide))).trans hv.symm
            have q5 : a.tmps.getD 5 undef = v := (hfacts 16 _ 5 rfl rfl).trans k5
            have ha := frame_of hd hs hrest [5, 63, 64, 65, 66, 67, 68, 69, 70, 71, 72, 73, 74, 75, 76, 77, 78] (by kernel_rfl)
            simp only [q5, List.foldl, List.setIfInBounds_toArray, List.set_cons_succ, List.set_cons_zero] at ha
            clear q5 hd hs hfacts hrest
            generalize a.tmps.getD = gg at ha
            subst ha
            obtain ⟨A8, c8, rfl, h81, h82, _⟩ := OwnL.rd hO.1
            obtain ⟨N8, hN8⟩ : ∃ N8, N8 = (L ++ [s.size % 256] ++ bsL s).length := ⟨_, rfl⟩
            rw [← hN8] at h81 hO ⊢
            have HN : Hid (Below w.heap.size w w2 ∧ OwnB w2 w.heap.size (.slice A8 N8 c8) (l ++ [m] ++ (cf.st.take (jx + 1)).flatMap fmG) ∧ (l ++ [m] ++ (cf.st.take (jx + 1)).flatMap fmG).length ≤ 100 + 1000001 * (jx + 1)) := Lib.hid (by
              rw [HNX.out]
              refine ⟨hJ.f_be, hO, ?_⟩
              rw [List.length_append, List.length_append, bsL_len]
              simp
              omega)
            have HNC := Lib.hid hJ.f_cf
            clear hJ hO hN8 hall hv
            go_wp2
            exact ⟨⟨jx + 1, by omega, by simp; try go_num, ⟨A8, N8, c8, rfl, HN⟩, HNC⟩, by simp [intOf]; try omega⟩
        · obtain ⟨L, hL⟩ : ∃ L, L = l ++ [m] ++ (cf.st.take jx).flatMap fmG := ⟨_, rfl⟩
          have HJO : Hid (OwnB wr w.heap.size (.slice Ab nb cb) L) := Lib.hid (by rw [hL]; exact HJ.out.2.1)
          have HBF : Hid (L.length = (fmtC cf).length ∧ (L.length ≤ 240 → L = fmtC cf)) := Lib.hid (by
            have e1 : L.length = (fmtC cf).length := by
              rw [hL, List.take_of_length_le (by have := HSL.out; omega)]
              unfold fmtC
              rw [HLE.out, HCN.out, HML.out, HSL.out, List.length_append, List.length_append (bs := cf.st.flatMap fmS), fmG_len]
            refine ⟨e1, fun hle => ?_⟩
            have hsz : ∀ s ∈ cf.st, s.size ≤ 255 := fun s hs => by
              rcases Nat.lt_or_ge 255 s.size with h | h
              · have := fmt_long hs h
                omega
              · exact h
            rw [hL, List.take_of_length_le (by have := HSL.out; omega), fmG_eq hsz]
            unfold fmtC
            rw [HLE.out, HCN.out, HML.out, HSL.out])
          have HNE : Hid (nb = L.length) := Lib.hid (by
            obtain ⟨A9, c9, e9, _⟩ := OwnL.rd HJO.out.1
            injection e9)
          have HBJ := Lib.hid HJ.out.1
          clear hL
          by_cases h240 : (240 : Int) < (nb : Int)
          · have HX : Hid (bytX cf = ([], 3)) := Lib.hid (by unfold bytX; rw [if_pos HM.out, if_pos (by rw [← HBF.out.1, ← HNE.out]; omega)])
            go_wp2
            refine bodyPost_ret (v := .tuple #[.slice none 0 0, .int .i64 3]) (by simp [results, Try.results28, go_sem]) rfl ⟨_, by rw [HX.out], ?_, HBJ.out⟩
            rw [HX.out]
            exact OwnB.nil _ _
          · have HX : Hid (bytX cf = (fmtC cf, 0)) := Lib.hid (by unfold bytX; rw [if_pos HM.out, if_neg (by rw [← HBF.out.1, ← HNE.out]; omega)])
            have HLF : Hid (L = fmtC cf) := Lib.hid (HBF.out.2 (by rw [← HNE.out]; omega))
            go_wp2
            refine bodyPost_ret (v := .tuple #[.slice Ab nb cb, .int .i64 0]) (by simp [results, Try.results28, go_sem]) rfl ⟨_, by rw [HX.out], ?_, HBJ.out⟩
            rw [HX.out, ← HLF.out]
            exact HJO.out
end Go.Proofs.Ytbmdjmnjbflfeaa

/- A way, read of its form, by the document. -/
namespace Go.Proofs.Ytbmdjmnjbflfeaa
open Go.RowKit Go.Shelf
set_option linter.unusedVariables false
set_option linter.unusedSimpArgs false

/-- The taker, the way that is being read, its rows, the result's box. -/
structure PT (w : World) (g gc gr b1 : Nat) (T : Option Addr) (nt ct k : Nat) (vF vS : Value) (cap : Int) (LF : List Fo) (LS : List ByteArray) (W : World) : Prop where
  tk : TkB W g T nt ct k
  bx : W.heap[gc]? = some (.cells #[vF, vS, .int .i64 cap] 25 (0, 0))
  br : W.heap[gr]? = some (.cells #[.slice none 0 0, .slice none 0 0, .int .i64 0] 25 (0, 0))
  oF : OwnK encF 3 84 W b1 vF LF
  oS : OwnL encS 9 W b1 vS LS
  be : Below w.heap.size w W
  o1 : w.heap.size ≤ gr ∧ gr < g ∧ g < gc ∧ gc < b1 ∧ b1 ≤ W.heap.size
section
variable {w : World} {g gc gr b1 : Nat} {T : Option Addr} {nt ct k : Nat} {vF vS : Value} {cap : Int} {LF : List Fo} {LS : List ByteArray} {W W' : World}
theorem PT.below (h : PT w g gc gr b1 T nt ct k vF vS cap LF LS W) (hb : Below W.heap.size W W') : PT w g gc gr b1 T nt ct k vF vS cap LF LS W' :=
  ⟨(hb.block _ (Array.getElem?_eq_some_iff.1 h.tk).1).trans h.tk, (hb.block _ (Array.getElem?_eq_some_iff.1 h.bx).1).trans h.bx, (hb.block _ (Array.getElem?_eq_some_iff.1 h.br).1).trans h.br, OwnK.below h.oF hb, h.oS.below hb, Below.thn h.be hb, by have := h.o1; have := hb.size; omega⟩
theorem PT.read {j : Nat} (h : PT w g gc gr b1 T nt ct k vF vS cap LF LS W) (hr : TkB W' g T nt ct j) (hg : W.grownBy W' (some g)) : PT w g gc gr b1 T nt ct j vF vS cap LF LS W' := by
  have o := h.o1
  have hs := hg.size
  refine ⟨hr, (hg.block _ (Array.getElem?_eq_some_iff.1 h.bx).1 (fun e => by cases e; omega)).trans h.bx, (hg.block _ (Array.getElem?_eq_some_iff.1 h.br).1 (fun e => by cases e; omega)).trans h.br, OwnK.kept h.oF hg (rowK_ne h.oF (by omega)), h.oS.kept hg (rowL_ne h.oS (by omega)), h.be.grown hg h.be.size (fun k hk => by cases hk; omega), by omega⟩
/-- Where another row of the call's own is written. -/
theorem PT.row (h : PT w g gc gr b1 T nt ct k vF vS cap LF LS W) {row : Option Nat} (hg : W.grownBy W' row) (hb : ∀ j, row = some j → b1 ≤ j) (h1 : vF.ownBlock = none ∨ vF.ownBlock ≠ row) (h2 : vS.ownBlock = none ∨ vS.ownBlock ≠ row) : PT w g gc gr b1 T nt ct k vF vS cap LF LS W' := by
  have o := h.o1
  have hs := hg.size
  have ne : ∀ j, j < b1 → some j ≠ row := fun j hj e => by have := hb j e.symm; omega
  exact ⟨(hg.block _ (Array.getElem?_eq_some_iff.1 h.tk).1 (ne _ (by omega))).trans h.tk, (hg.block _ (Array.getElem?_eq_some_iff.1 h.bx).1 (ne _ (by omega))).trans h.bx, (hg.block _ (Array.getElem?_eq_some_iff.1 h.br).1 (ne _ (by omega))).trans h.br, OwnK.kept h.oF hg h1, h.oS.kept hg h2,
    h.be.grown hg h.be.size (fun j hj => by have := hb j hj; omega), by omega⟩
theorem PT.putF (h : PT w g gc gr b1 T nt ct k vF vS cap LF LS W) {v1 : Value} {LF' : List Fo} (ho : OwnK encF 3 84 W' b1 v1 LF') (hg : W.grownBy W' vF.ownBlock) (hsep : ∀ k, vS.ownBlock = some k → vF.ownBlock ≠ some k) :
    PT w g gc gr b1 T nt ct k v1 vS cap LF' LS (W'.setCell ⟨gc, 0, none⟩ v1) := by
  have o := h.o1
  have hs := hg.size
  have hb : ∀ k, vF.ownBlock = some k → b1 ≤ k := fun k hk => (OwnK.base h.oF k hk).1
  have ne : ∀ j, j < b1 → some j ≠ vF.ownBlock := fun j hj e => by have := hb j e.symm; omega
  have htk := (hg.block g (Array.getElem?_eq_some_iff.1 h.tk).1 (ne _ (by omega))).trans h.tk
  have hbx := (hg.block gc (Array.getElem?_eq_some_iff.1 h.bx).1 (ne _ (by omega))).trans h.bx
  have hbr := (hg.block gr (Array.getElem?_eq_some_iff.1 h.br).1 (ne _ (by omega))).trans h.br
  have hoS : OwnL encS 9 W' b1 vS LS := h.oS.kept hg (by
    cases hv : vS.ownBlock with
    | none => exact .inl rfl
    | some j => exact .inr fun e => hsep j hv e.symm)
  have hbe : Below w.heap.size w W' := h.be.grown hg h.be.size (fun k hk => by have := hb k hk; omega)
  have hset : W'.grownBy (W'.setCell ⟨gc, 0, none⟩ v1) (some gc) := grown_setCell W' ⟨gc, 0, none⟩ v1
  refine ⟨(hset.block g (Array.getElem?_eq_some_iff.1 htk).1 (fun e => by cases e; omega)).trans htk, ?_, (hset.block gr (Array.getElem?_eq_some_iff.1 hbr).1 (fun e => by cases e; omega)).trans hbr, OwnK.kept ho hset (rowK_ne ho (by omega)), hoS.kept hset (rowL_ne hoS (by omega)), hbe.setCell (p := ⟨gc, 0, none⟩) (by show w.heap.size ≤ gc; omega) _, by rw [World.size_setCell]; omega⟩
  have hlt := (Array.getElem?_eq_some_iff.1 hbx).1
  simp [World.setCell, Array.getElem?_modify, hbx]
theorem PT.putS (h : PT w g gc gr b1 T nt ct k vF vS cap LF LS W) {v1 : Value} {LS' : List ByteArray} (ho : OwnL encS 9 W' b1 v1 LS') (hg : W.grownBy W' vS.ownBlock) :
    PT w g gc gr b1 T nt ct k vF v1 cap LF LS' (W'.setCell ⟨gc, 1, none⟩ v1) := by
  have o := h.o1
  have hs := hg.size
  have hb : ∀ k, vS.ownBlock = some k → b1 ≤ k := fun k hk => (OwnL.base h.oS k hk).1
  have ne : ∀ j, j < b1 → some j ≠ vS.ownBlock := fun j hj e => by have := hb j e.symm; omega
  have htk := (hg.block g (Array.getElem?_eq_some_iff.1 h.tk).1 (ne _ (by omega))).trans h.tk
  have hbx := (hg.block gc (Array.getElem?_eq_some_iff.1 h.bx).1 (ne _ (by omega))).trans h.bx
  have hbr := (hg.block gr (Array.getElem?_eq_some_iff.1 h.br).1 (ne _ (by omega))).trans h.br
  have hoF : OwnK encF 3 84 W' b1 vF LF := OwnK.kept h.oF hg (by
    cases hv : vF.ownBlock with
    | none => exact .inl rfl
    | some j => exact .inr fun e => rows_sep h.oF h.oS (by decide) j hv e.symm)
  have hbe : Below w.heap.size w W' := h.be.grown hg h.be.size (fun k hk => by have := hb k hk; omega)
  have hset : W'.grownBy (W'.setCell ⟨gc, 1, none⟩ v1) (some gc) := grown_setCell W' ⟨gc, 1, none⟩ v1
  refine ⟨(hset.block g (Array.getElem?_eq_some_iff.1 htk).1 (fun e => by cases e; omega)).trans htk, ?_, (hset.block gr (Array.getElem?_eq_some_iff.1 hbr).1 (fun e => by cases e; omega)).trans hbr, OwnK.kept hoF hset (rowK_ne hoF (by omega)), ho.kept hset (rowL_ne ho (by omega)), hbe.setCell (p := ⟨gc, 1, none⟩) (by show w.heap.size ≤ gc; omega) _, by rw [World.size_setCell]; omega⟩
  have hlt := (Array.getElem?_eq_some_iff.1 hbx).1
  simp [World.setCell, Array.getElem?_modify, hbx]
theorem PT.setx (h : PT w g gc gr b1 T nt ct k vF vS cap LF LS W) (j i : Nat) (u : Value) (hk : b1 ≤ j) (hF : vF.ownBlock ≠ some j) (hS : vS.ownBlock ≠ some j) : PT w g gc gr b1 T nt ct k vF vS cap LF LS (W.setCell ⟨j, i, none⟩ u) :=
  h.row (grown_setCell W ⟨j, i, none⟩ u) (fun i hi => by cases hi; exact hk) (.inr hF) (.inr hS)
theorem PT.one {l : List Nat} (h : PT w g gc gr b1 T nt ct k vF vS cap LF LS W) (ht : RdB w T nt l) (htc : nt ≤ ct) (htc2 : ct ≤ 9223372036854775807) (hk : k ≤ 999999) : Calls Try.prog 60 #[.pointer (some ⟨g, 0, none⟩)] W fun e w' => e = .returned (.int .i64 (tk1 l k : Nat)) ∧ PT w g gc gr b1 T nt ct (k + 1) vF vS cap LF LS w' ∧ W.grownBy w' (some g) := by
  have o := h.o1
  refine (one_tk w W g T nt ct k l h.be ht htc htc2 (by omega) h.tk (by omega)).mono ?_
  rintro e w' ⟨rfl, hr, hg⟩
  exact ⟨rfl, h.read hr hg, hg⟩
theorem PT.two {l : List Nat} (h : PT w g gc gr b1 T nt ct k vF vS cap LF LS W) (ht : RdB w T nt l) (htc : nt ≤ ct) (htc2 : ct ≤ 9223372036854775807) (hk : k ≤ 999999) : Calls Try.prog 61 #[.pointer (some ⟨g, 0, none⟩)] W fun e w' => e = .returned (.int .i64 (tk2 l k : Nat)) ∧ PT w g gc gr b1 T nt ct (k + 2) vF vS cap LF LS w' ∧ W.grownBy w' (some g) := by
  have o := h.o1
  refine (two_tk w W g T nt ct k l h.be ht htc htc2 (by omega) h.tk (by omega)).mono ?_
  rintro e w' ⟨rfl, hr, hg⟩
  exact ⟨rfl, h.read hr hg, hg⟩
/-- The way that was read, read. -/
theorem PT.rdc (h : PT w g gc gr b1 T nt ct k vF vS cap LF LS W) (hw : wfT LF) (hs : ∀ x ∈ LS, x.size ≤ 255) : ∃ (A : Option Addr) (n c : Nat) (B : Option Addr) (m d : Nat), vF = .slice A n c ∧ vS = .slice B m d ∧ RdC W A n c B m d ⟨LF, LS, cap⟩ ∧ m = LS.length := by
  obtain ⟨A, c, e1, h1, h2, h3⟩ := OwnK.rd encF_len h.oF
  obtain ⟨B, d, e2, k1, k2, k3⟩ := OwnL.rd h.oS
  exact ⟨A, _, c, B, _, d, e1, e2, ⟨RdK.t h3, k3, h1, h2, k1, k2, hw, fun s hs' => Nat.le_trans (hs s hs') (by decide)⟩, rfl⟩
theorem PT.rdc_set {A B : Option Addr} {n c m d : Nat} (h : PT w g gc gr b1 T nt ct k (.slice A n c) (.slice B m d) cap LF LS W) {W' : World} (hg : W.grownBy W' (some gr)) (hw : wfT LF) (hs : ∀ x ∈ LS, x.size ≤ 255) : RdC W' A n c B m d ⟨LF, LS, cap⟩ := by
  have o := h.o1
  obtain ⟨A1, c1, e1, h1, h2, h3⟩ := OwnK.rd encF_len (OwnK.kept h.oF hg (rowK_ne h.oF (by omega)))
  obtain ⟨B1, d1, e2, k1, k2, k3⟩ := OwnL.rd (h.oS.kept hg (rowL_ne h.oS (by omega)))
  injection e1 with e3 e4 e5
  injection e2 with e6 e7 e8
  subst e3 e4 e5 e6 e7 e8
  exact ⟨RdK.t h3, k3, h1, h2, k1, k2, hw, fun s hs' => Nat.le_trans (hs s hs') (by decide)⟩
end
set_option maxRecDepth 100000 in
set_option maxHeartbeats 8000000 in
theorem refParse_any (A : Option Addr) (n c : Nat) (l : List Nat) (w : World) (hl : RdB w A n l) (hc : n ≤ c) (hc2 : c ≤ 9223372036854775807) :
    Calls Try.prog 29 #[.slice A n c] w fun e w' => ∃ (A' : Option Addr) (n' c' : Nat) (B' : Option Addr) (m' d' : Nat), e = .returned (.tuple #[confV A' n' c' B' m' d' (parX l).1.cap, .int .i64 (parX l).2]) ∧ RdC w' A' n' c' B' m' d' (parX l).1 ∧ Below w.heap.size w w' := by
  have hz : ∀ (W : World) (d : Int), (Instr.build 25 #[(2, .int .i64 d)]).run Try.prog W = .ok (.agg #[.slice none 0 0, .slice none 0 0, .int .i64 d]) W := fun W d => run_build W 25 _ _ (by kernel_rfl)
  have hz2 : ∀ (W : World) (a b : Int), (Instr.build 84 #[(0, .int .i32 a), (1, .int .i32 b)]).run Try.prog W = .ok (.agg #[.int .i32 a, .int .i32 b, .int .i64 0]) W := fun W a b => run_build W 84 _ _ (by kernel_rfl)
  have hz3 : ∀ (W : World) (a : Value), (Instr.build 97 #[(0, .slice A n c)]).run Try.prog W = .ok (.agg #[.slice A n c, .int .i64 0]) W := fun W a => run_build W 97 _ _ (by kernel_rfl)
  obtain ⟨gr, hgr⟩ : ∃ gr, gr = w.heap.size := ⟨_, rfl⟩
  obtain ⟨w2, hw2⟩ : ∃ w2, w2 = (w.alloc (.cells #[.slice none 0 0, .slice none 0 0, .int .i64 0] 25)).alloc (.cells #[.slice A n c, .int .i64 0] 97) := ⟨_, rfl⟩
  have hb2 : Below w.heap.size w w2 := by rw [hw2]; exact ((Below.refl _ _).alloc (Nat.le_refl _) _).alloc (by simp) _
  have hr2 : w2.heap[gr]? = some (.cells #[.slice none 0 0, .slice none 0 0, .int .i64 0] 25 (0, 0)) := by rw [hw2, hgr]; exact (Lib.alloc_old _ _ _ (by simp)).trans (World.alloc_heap_new w _)
  have ht2 : TkB w2 (gr + 1) A n c 0 := by
    have := World.alloc_heap_new (w.alloc (.cells #[.slice none 0 0, .slice none 0 0, .int .i64 0] 25)) (.cells #[.slice A n c, .int .i64 ((0 : Nat) : Int)] 97)
    rw [World.size_alloc] at this
    rw [hw2, hgr]
    exact this
  obtain ⟨g, hg⟩ : ∃ g, g = gr + 1 := ⟨_, rfl⟩
  rw [← hg] at ht2
  have HT := Lib.hid hl
  have HBT := Lib.hid hl.byt
  have C1 := Lib.hid (one_tk w w2 g A n c 0 l hb2 hl hc hc2 (by omega) ht2 (by decide))
  obtain ⟨cN, hcN⟩ : ∃ cN, cN = tk1 l 0 := ⟨_, rfl⟩
  rw [← hcN] at C1
  have HW2 := Lib.hid hw2
  have HB2 := Lib.hid hb2
  have HR2 := Lib.hid hr2
  have HCN := Lib.hid hcN
  have HG := Lib.hid hg
  have HG2 : Hid (g = w.heap.size + 1) := Lib.hid (by rw [hg, hgr])
  have HGR := Lib.hid hgr
  have HS2 : Hid (w2.heap.size = g + 1) := Lib.hid (by rw [hw2, hg, hgr]; simp)
  have hcN8 : cN < 256 := by rw [hcN]; exact tk1_lt hl.byt _
  clear hw2 hb2 hr2 ht2 hcN hg hgr hl
  go_enter Try.func29, Try.ntmps29
  go_wp2_with fail
  rw [← HW2.out, ← HG2.out, ← HGR.out]
  refine C1.out.mono ?_
  rintro e w3 ⟨rfl, ht3, hg3⟩
  clear C1
  have hr3 := (hg3.block gr (Array.getElem?_eq_some_iff.1 HR2.out).1 (fun e => by cases e; have := HG.out; omega)).trans HR2.out
  have hb3 : Below w.heap.size w w3 := HB2.out.grown hg3 HB2.out.size (fun k hk => by cases hk; have := HG.out; have := HGR.out; omega)
  have hs3 : g < w3.heap.size := by have := hg3.size; have := HS2.out; omega
  obtain ⟨gc, hgc⟩ : ∃ gc, gc = w3.heap.size := ⟨_, rfl⟩
  have hbx : Below w3.heap.size w3 (w3.alloc (.cells #[.slice none 0 0, .slice none 0 0, .int .i64 (cN : Nat)] 25)) := (Below.refl _ _).alloc (Nat.le_refl _) _
  have hcx := World.alloc_heap_new w3 (.cells #[.slice none 0 0, .slice none 0 0, .int .i64 (cN : Nat)] 25)
  obtain ⟨w4, hw4⟩ : ∃ w4, w4 = w3.alloc (.cells #[.slice none 0 0, .slice none 0 0, .int .i64 (cN : Nat)] 25) := ⟨_, rfl⟩
  have hs4 : w4.heap.size = gc + 1 := by rw [hw4, hgc]; simp
  rw [← hw4] at hbx hcx
  rw [← hgc] at hcx
  obtain ⟨b1, hb1⟩ : ∃ b1, b1 = gc + 1 := ⟨_, rfl⟩
  have HP4 : Hid (PT w g gc gr b1 A n c 1 (.slice none 0 0) (.slice none 0 0) (cN : Nat) [] [] w4) := Lib.hid
    ⟨(hbx.block _ (Array.getElem?_eq_some_iff.1 ht3).1).trans ht3, hcx, (hbx.block _ (Array.getElem?_eq_some_iff.1 hr3).1).trans hr3, World.ownsRow_nil _ _ _ _, OwnL.nil _ _ _ _, Below.thn hb3 hbx, by have := HG.out; have := HGR.out; omega⟩
  have HW4 := Lib.hid hw4
  have HGC := Lib.hid hgc
  clear hbx hcx hw4 hs4 hgc ht3 hg3 hr3 hb3 hs3 hb1 HW2 HG2
  go_wp2_with fail
  rw [← HW4.out, ← HGC.out]
  clear HW4 HGC
  refine (HP4.out.one HT.out hc hc2 (by decide)).mono ?_
  rintro e w5 ⟨rfl, hp5, _⟩
  obtain ⟨N, hN⟩ : ∃ N, N = tk1 l 1 := ⟨_, rfl⟩
  have hN256 : N < 256 := by rw [hN]; exact tk1_lt HBT.out _
  rw [← hN]
  have HP5 : Hid (PT w g gc gr b1 A n c (2 + 5 * 0) (.slice none 0 0) (.slice none 0 0) (cN : Nat) (fosR l 2 0) [] w5) := Lib.hid hp5
  have HN := Lib.hid hN
  clear hp5 hN HP4
  go_wp2_with fail
  go_loopw [6, 7] (fun y z wr => ∃ k r : Nat, Hid (k + r = N) ∧ k ≤ 255 ∧ r ≤ 255 ∧ y = .int .i64 (r : Nat) ∧ ∃ (Af : Option Addr) (nf cf' : Nat), Hid (PT w g gc gr b1 A n c (2 + 5 * k) (.slice Af nf cf') (.slice none 0 0) (cN : Nat) (fosR l 2 k) [] wr)) (fun y _ _ => (intOf y).toNat)
  case atStart => exact ⟨0, N, Lib.hid (Nat.zero_add _), by decide, by omega, rfl, none, 0, 0, HP5⟩
  case round =>
    obtain ⟨k, r, HKR, hk, hr, rfl, Af, nf, cf', HP⟩ := hrel
    by_cases hlt : (r : Int) > 0
    · obtain ⟨kk, hkk⟩ : ∃ kk, kk = 2 + 5 * k := ⟨_, rfl⟩
      obtain ⟨LF, hLF⟩ : ∃ LF, LF = fosR l 2 k := ⟨_, rfl⟩
      have hkb : kk ≤ 2000 := by omega
      rw [← hkk, ← hLF] at HP
      have HKK := Lib.hid hkk
      have HLF := Lib.hid hLF
      clear hkk hLF
      have CA := Lib.hid (HP.out.two HT.out hc hc2 (by omega))
      go_wp2_with fail
      refine CA.out.mono ?_
      rintro e w6 ⟨rfl, hp6, _⟩
      obtain ⟨p, hp⟩ : ∃ p, p = tk2 l kk := ⟨_, rfl⟩
      have hp16 : p < 65536 := by rw [hp]; exact tk2_lt HBT.out _
      have hwp : IntKind.i32.wrap (p : Int) = (p : Int) := by rw [IntKind.wrap_i32]; omega
      rw [← hp]
      have HPE := Lib.hid hp
      have HP6 := Lib.hid hp6
      have CB := Lib.hid (HP6.out.two HT.out hc hc2 (by omega))
      clear hp hp6 CA
      go_wp2_with fail
      refine CB.out.mono ?_
      rintro e w7 ⟨rfl, hp7, _⟩
      obtain ⟨q, hq⟩ : ∃ q, q = tk2 l (kk + 2) := ⟨_, rfl⟩
      have hq16 : q < 65536 := by rw [hq]; exact tk2_lt HBT.out _
      have hwq : IntKind.i32.wrap (q : Int) = (q : Int) := by rw [IntKind.wrap_i32]; omega
      rw [← hq]
      have HQE := Lib.hid hq
      have HP7 := Lib.hid hp7
      clear hq hp7 CB
      -- the range's box
      obtain ⟨gx, hgx⟩ : ∃ gx, gx = w7.heap.size := ⟨_, rfl⟩
      have hbx : Below w7.heap.size w7 (w7.alloc (.cells #[.int .i32 (p : Nat), .int .i32 (q : Nat), .int .i64 0] 84)) := (Below.refl _ _).alloc (Nat.le_refl _) _
      have hcx := World.alloc_heap_new w7 (.cells #[.int .i32 (p : Nat), .int .i32 (q : Nat), .int .i64 0] 84)
      obtain ⟨w8, hw8⟩ : ∃ w8, w8 = w7.alloc (.cells #[.int .i32 (p : Nat), .int .i32 (q : Nat), .int .i64 0] 84) := ⟨_, rfl⟩
      rw [← hw8] at hbx hcx
      rw [← hgx] at hcx
      have HP8 := Lib.hid (HP7.out.below hbx)
      have HX8 := Lib.hid hcx
      have HW8 := Lib.hid hw8
      have HGX := Lib.hid hgx
      have CC := Lib.hid (HP8.out.one HT.out hc hc2 (by omega))
      clear hbx hcx hw8 hgx
      go_wp2_with fail
      rw [← HW8.out, ← HGX.out]
      clear HW8
      refine CC.out.mono ?_
      rintro e w9 ⟨rfl, hp9, hg9⟩
      obtain ⟨x, hx⟩ : ∃ x, x = tk1 l (kk + 2 + 2) := ⟨_, rfl⟩
      have hx8 : x < 256 := by rw [hx]; exact tk1_lt HBT.out _
      rw [← hx]
      have HXE := Lib.hid hx
      have hgb : b1 ≤ gx := by have := HP7.out.o1; have := HGX.out; omega
      have hx9 : w9.heap[gx]? = some (.cells #[.int .i32 (p : Nat), .int .i32 (q : Nat), .int .i64 0] 84 (0, 0)) := (hg9.block gx (Array.getElem?_eq_some_iff.1 HX8.out).1 (fun e => by cases e; have := HP7.out.o1; omega)).trans HX8.out
      have HNE : Hid ((Value.slice Af nf cf').ownBlock ≠ some gx) := Lib.hid (fun e => by
        have := (OwnK.base HP7.out.oF gx e).2
        have := HGX.out
        omega)
      have HP10 := Lib.hid (hp9.setx gx 2 (.int .i64 ((x : Int) + 1)) hgb HNE.out (by simp [Value.ownBlock]))
      have hx10 : (w9.setCell ⟨gx, 2, none⟩ (.int .i64 ((x : Int) + 1))).heap[gx]? = some (.cells #[.int .i32 (p : Nat), .int .i32 (q : Nat), .int .i64 ((x : Int) + 1)] 84 (0, 0)) := by simp [World.setCell, Array.getElem?_modify, hx9]
      obtain ⟨x0, x1, x2⟩ := cells3 hx9
      have xf : w9.frozen? ⟨gx, 2, none⟩ = false := by simp [World.frozen?, hx9]
      obtain ⟨y0, y1, y2⟩ := cells3 hx10
      obtain ⟨z0, z1, z2⟩ := cells3 HP10.out.bx
      obtain ⟨wS, hwS⟩ : ∃ wS, wS = w9.setCell ⟨gx, 2, none⟩ (.int .i64 ((x : Int) + 1)) := ⟨_, rfl⟩
      rw [← hwS] at HP10
      have hbT : Below wS.heap.size wS (wS.alloc (.cells #[.int .i32 (p : Nat), .int .i32 (q : Nat), .int .i64 ((x : Int) + 1)] 84)) := (Below.refl _ _).alloc (Nat.le_refl _) _
      have HP11 := Lib.hid (HP10.out.below hbT)
      obtain ⟨A7, c7, e7, l7, m7, _⟩ := OwnK.rd encF_len HP10.out.oF
      have hnl : nf = LF.length := by injection e7
      have hlk : LF.length = k := by rw [HLF.out]; exact fosR_len _ _ _
      have hrd := RdK.one (enc := encF) (sz := 3) wS 84 ((p : Nat), (q : Nat), (x : Int) + 1) #[.int .i32 (p : Nat), .int .i32 (q : Nat), .int .i64 ((x : Int) + 1)] (0, 0) rfl rfl
      obtain ⟨v35, w12, r35, o35, g35, _⟩ := run_append_rdK (P := Try.prog) (c := 1) b1 22 22 84 (.agg #[.int .i32 0, .int .i32 0, .int .i64 0]) 16 Try.underlying22 infoF rfl (by decide) (by decide) encF_len (fun x u h => encF_one x u h) HP11.out.oF hrd (by omega) (by have := HP11.out.o1; omega)
      obtain ⟨A8, c8, e8, l8, m8, _⟩ := OwnK.rd encF_len o35
      have hl8 : (LF ++ [(((p : Nat) : Int), ((q : Nat) : Int), (x : Int) + 1)]).length = k + 1 := by rw [List.length_append, hlk]; rfl
      rw [hl8] at e8 l8
      subst e8
      have HPN := Lib.hid (HP11.out.putF o35 g35 (fun k hk => by simp [Value.ownBlock] at hk))
      have hbx12 : w12.heap[gc]? = some (.cells #[.slice Af nf cf', .slice none 0 0, .int .i64 (cN : Nat)] 25 (0, 0)) := (g35.block gc (Array.getElem?_eq_some_iff.1 HP11.out.bx).1 (fun e => by have := (OwnK.base HP11.out.oF gc e.symm).1; have := HP11.out.o1; omega)).trans HP11.out.bx
      obtain ⟨q0, q1, q2⟩ := cells3 hbx12
      have qf : w12.frozen? ⟨gc, 0, none⟩ = false := by simp [World.frozen?, hbx12]
      have HPZ : Hid (PT w g gc gr b1 A n c (2 + 5 * (k + 1)) (.slice A8 (k + 1) c8) (.slice none 0 0) (cN : Nat) (fosR l 2 (k + 1)) [] (w12.setCell ⟨gc, 0, none⟩ (.slice A8 (k + 1) c8))) := Lib.hid (by
        have e1 : fosR l 2 (k + 1) = LF ++ [(((p : Nat) : Int), ((q : Nat) : Int), (x : Int) + 1)] := by
          rw [fosR_succ, HLF.out, HPE.out, HQE.out, HXE.out, HKK.out]
          rfl
        have e2 : 2 + 5 * (k + 1) = kk + 2 + 2 + 1 := by rw [HKK.out]; omega
        rw [e1, e2]
        exact HPN.out)
      rw [hwS] at r35
      try simp only [World.size_alloc, World.size_setCell] at r35
      clear hx hgb hx9 hp9 hg9 hx10 hwS hbT e7 hnl hlk hrd o35 g35 hl8 hbx12 CC
      have hr1 : ((r - 1 : Nat) : Int) = (r : Int) - 1 := by omega
      go_wp2_with (at_builtin; refine wpl_append_run rfl _ _ _ rfl rfl rfl r35 ?_)
      exact ⟨⟨k + 1, r - 1, Lib.hid (by have := HKR.out; omega), by have := HKR.out; omega, by omega, by simp; try go_num, A8, k + 1, c8, HPZ⟩, by simp [intOf]; try omega⟩
    · have HKN : Hid (k = N) := Lib.hid (by have := HKR.out; omega)
      obtain ⟨P0, hP0⟩ : ∃ P0, P0 = 2 + 5 * k := ⟨_, rfl⟩
      obtain ⟨LF, hLF⟩ : ∃ LF, LF = fosR l 2 k := ⟨_, rfl⟩
      have hP0b : P0 ≤ 2000 := by omega
      rw [← hP0, ← hLF] at HP
      have HP0 := Lib.hid hP0
      have HLF := Lib.hid hLF
      have HWF := Lib.hid (show wfT LF by rw [hLF]; exact fosR_wf HBT.out _ _)
      clear hP0 hLF hz2 hz3
      have CM := Lib.hid (HP.out.one HT.out hc hc2 (by omega))
      go_wp2_with fail
      refine CM.out.mono ?_
      rintro e w6 ⟨rfl, hp6, _⟩
      obtain ⟨M, hM⟩ : ∃ M, M = tk1 l P0 := ⟨_, rfl⟩
      have hM256 : M < 256 := by rw [hM]; exact tk1_lt HBT.out _
      rw [← hM]
      have HM := Lib.hid hM
      obtain ⟨p3, hp3⟩ : ∃ p3, p3 = P0 + 1 := ⟨_, rfl⟩
      have hp3b : p3 ≤ 2001 := by omega
      rw [← hp3] at hp6
      have HP3 := Lib.hid hp3
      have HP6 : Hid (PT w g gc gr b1 A n c (stsR l p3 0).2 (.slice Af nf cf') (.slice none 0 0) (cN : Nat) LF (stsR l p3 0).1 w6) := Lib.hid hp6
      clear hM hp6 hp3 CM
      go_wp2_with fail
      go_loopw [8, 9, 10] (fun y z1 z2 wr => ∃ j r : Nat, Hid (j + r = M) ∧ j ≤ 255 ∧ r ≤ 255 ∧ y = .int .i64 (r : Nat) ∧ ∃ (As : Option Addr) (ns cs : Nat), Hid (PT w g gc gr b1 A n c (stsR l p3 j).2 (.slice Af nf cf') (.slice As ns cs) (cN : Nat) LF (stsR l p3 j).1 wr)) (fun y _ _ _ => (intOf y).toNat)
      case atStart => exact ⟨0, M, Lib.hid (Nat.zero_add _), by decide, by omega, rfl, none, 0, 0, HP6⟩
      case round =>
        obtain ⟨j, r, HJR, hj, hr, rfl, As, ns, cs, HQ⟩ := hrel
        by_cases hjl : (r : Int) > 0
        · obtain ⟨ps, hps⟩ : ∃ ps, ps = (stsR l p3 j).2 := ⟨_, rfl⟩
          obtain ⟨LS, hLS⟩ : ∃ LS, LS = (stsR l p3 j).1 := ⟨_, rfl⟩
          have hpsb : ps ≤ 70000 := by rw [hps]; have := stsR_at HBT.out p3 j; omega
          have hlsl : LS.length = j := by rw [hLS]; exact stsR_len _ _ _
          rw [← hps, ← hLS] at HQ
          have HPS := Lib.hid hps
          have HLS := Lib.hid hLS
          have HLL := Lib.hid hlsl
          clear hps hLS hlsl
          have CK := Lib.hid (HQ.out.one HT.out hc hc2 (by omega))
          go_wp2_with fail
          refine CK.out.mono ?_
          rintro e w7 ⟨rfl, hp7, _⟩
          obtain ⟨K, hK⟩ : ∃ K, K = tk1 l ps := ⟨_, rfl⟩
          have hK256 : K < 256 := by rw [hK]; exact tk1_lt HBT.out _
          rw [← hK]
          have HKE := Lib.hid hK
          have HI7 : Hid (PT w g gc gr b1 A n c (ps + 1 + 0) (.slice Af nf cf') (.slice As ns cs) (cN : Nat) LF LS w7 ∧ OwnB w7 b1 (.slice none 0 0) (stR l (ps + 1) 0)) := Lib.hid ⟨hp7, OwnB.nil _ _⟩
          clear hK hp7 CK
          go_wp2_with fail
          go_loopw [9, 10] (fun z y wq => ∃ i r2 : Nat, Hid (i + r2 = K) ∧ i ≤ 255 ∧ r2 ≤ 255 ∧ y = .int .i64 (r2 : Nat) ∧ ∃ (Ab : Option Addr) (nb cb : Nat), z = .slice Ab nb cb ∧ Hid (PT w g gc gr b1 A n c (ps + 1 + i) (.slice Af nf cf') (.slice As ns cs) (cN : Nat) LF LS wq ∧ OwnB wq b1 (.slice Ab nb cb) (stR l (ps + 1) i))) (fun _ y _ => (intOf y).toNat)
          case atStart => exact ⟨0, K, Lib.hid (Nat.zero_add _), by decide, by omega, rfl, none, 0, 0, rfl, HI7⟩
          case round =>
            obtain ⟨i, r2, HIR, hi, hr2, rfl, Ab, nb, cb, rfl, HI⟩ := hrel
            by_cases hil : (r2 : Int) > 0
            · have CX := Lib.hid (HI.out.1.one HT.out hc hc2 (by omega))
              go_wp2_with fail
              refine CX.out.mono ?_
              rintro e w8 ⟨rfl, hp8, hg8⟩
              obtain ⟨x, hx⟩ : ∃ x, x = tk1 l (ps + 1 + i) := ⟨_, rfl⟩
              have hx8 : x < 256 := by rw [hx]; exact tk1_lt HBT.out _
              have hwx : IntKind.u8.wrap (x : Int) = (x : Int) := by rw [IntKind.wrap_u8]; omega
              rw [← hx]
              have hO8 : OwnL encB 5 w8 b1 (.slice Ab nb cb) (stR l (ps + 1) i) := HI.out.2.1.kept hg8 (rowL_ne HI.out.2.1 (by have := HI.out.1.o1; omega))
              have hbT : Below w8.heap.size w8 (w8.alloc (.cells #[.int .u8 (x : Nat)] 5)) := (Below.refl _ _).alloc (Nat.le_refl _) _
              have hA := hO8.below hbT
              have hrd := Rd.new w8 5 [x] #[.int .u8 (x : Nat)] 1 (0, 0) (enc := encB) rfl rfl (by decide)
              have hln : (stR l (ps + 1) i).length = i := stR_len _ _ _
              obtain ⟨v51, w51, r51, o51, g51, _⟩ := run_append_rd (P := Try.prog) (c := 1) b1 26 26 5 (.int .u8 0) 1 Try.underlying26 infoB rfl (by decide) encB_one hA hrd (by omega) (by have := hp8.o1; simp; omega)
              have hPT := (hp8.below hbT).row g51 (fun j hj => (OwnL.base hA j hj).1) (rows_apart (hp8.below hbT).oF hA (by decide)) (rows_apart (hp8.below hbT).oS hA (by decide))
              obtain ⟨Ad, cd, ed, ld, md, _⟩ := OwnL.rd o51
              have hn5 : (stR l (ps + 1) i ++ [x]).length = i + 1 := by rw [List.length_append, hln]; rfl
              rw [hn5] at ed ld
              subst ed
              have HN : Hid (PT w g gc gr b1 A n c (ps + 1 + (i + 1)) (.slice Af nf cf') (.slice As ns cs) (cN : Nat) LF LS w51 ∧ OwnB w51 b1 (.slice Ad (i + 1) cd) (stR l (ps + 1) (i + 1))) := Lib.hid ⟨hPT, by
                rw [stR_succ, ← hx]
                exact ⟨o51, HI.out.2.2.append (by intro y hy; simp at hy; omega)⟩⟩
              try simp only [World.size_alloc] at r51
              have hr1 : ((r2 - 1 : Nat) : Int) = (r2 : Int) - 1 := by omega
              clear hx hO8 hbT hA hrd hln o51 g51 hPT hn5 hp8 hg8 CX
              go_wp2_with (at_builtin; refine wpl_append_run rfl _ _ _ rfl rfl rfl r51 ?_)
              exact ⟨⟨i + 1, r2 - 1, Lib.hid (by have := HIR.out; omega), by have := HIR.out; omega, by omega, by simp; try go_num, Ad, i + 1, cd, rfl, HN⟩, by simp [intOf]; try omega⟩
            · have HIK : Hid (i = K) := Lib.hid (by have := HIR.out; omega)
              obtain ⟨bs, hbs⟩ : ∃ bs, bs = stR l (ps + 1) i := ⟨_, rfl⟩
              have hO := HI.out.2
              have hPQ := HI.out.1
              rw [← hbs] at hO
              obtain ⟨Ab2, cb2, eb2, lb2, mb2, hrd2⟩ := OwnL.rd hO.1
              have hln : bs.length = i := by rw [hbs]; exact stR_len _ _ _
              rw [hln] at eb2 lb2 hrd2
              cases eb2
              have hstr := run_str wr Ab i cb bs ⟨hrd2, hO.2⟩ lb2
              have hbT : Below wr.heap.size wr (wr.alloc (.cells #[.string (strL bs)] 9)) := (Below.refl _ _).alloc (Nat.le_refl _) _
              have HP11 := Lib.hid (hPQ.below hbT)
              have hrd := Rd.new wr 9 [strL bs] #[.string (strL bs)] 1 (0, 0) (enc := encS) rfl rfl (by decide)
              obtain ⟨v65, w65, r65, o65, g65, _⟩ := run_append_rd (P := Try.prog) (c := 1) b1 23 23 9 (.string .empty) 16 Try.underlying23 infoS1 rfl (by decide) encS_one HP11.out.oS hrd (by have := HLL.out; omega) (by have := HP11.out.o1; omega)
              obtain ⟨A8, c8, e8, l8, m8, _⟩ := OwnL.rd o65
              have hl8 : (LS ++ [strL bs]).length = j + 1 := by rw [List.length_append, HLL.out]; rfl
              rw [hl8] at e8 l8
              subst e8
              have HPN := Lib.hid (HP11.out.putS o65 g65)
              obtain ⟨z0, z1, z2⟩ := cells3 hPQ.bx
              have hbx12 : w65.heap[gc]? = some (.cells #[.slice Af nf cf', .slice As ns cs, .int .i64 (cN : Nat)] 25 (0, 0)) := (g65.block gc (Array.getElem?_eq_some_iff.1 HP11.out.bx).1 (fun e => by have := (OwnL.base HP11.out.oS gc e.symm).1; have := HP11.out.o1; omega)).trans HP11.out.bx
              obtain ⟨q0, q1, q2⟩ := cells3 hbx12
              have qf : w65.frozen? ⟨gc, 1, none⟩ = false := by simp [World.frozen?, hbx12]
              have HPZ : Hid (PT w g gc gr b1 A n c (stsR l p3 (j + 1)).2 (.slice Af nf cf') (.slice A8 (j + 1) c8) (cN : Nat) LF (stsR l p3 (j + 1)).1 (w65.setCell ⟨gc, 1, none⟩ (.slice A8 (j + 1) c8))) := Lib.hid (by
                have e1 : stsR l p3 (j + 1) = (LS ++ [strL bs], ps + 1 + i) := by
                  show ((stsR l p3 j).1 ++ [_], _) = _
                  rw [← HLS.out, ← HPS.out, ← HKE.out, ← HIK.out, hbs]
                rw [e1]
                exact HPN.out)
              obtain ⟨ss, hss⟩ : ∃ ss, ss = strL bs := ⟨_, rfl⟩
              rw [← hss] at r65 hstr
              try simp only [World.size_alloc] at r65
              have hr1 : ((r - 1 : Nat) : Int) = (r : Int) - 1 := by omega
              clear hO hPQ hbs hrd2 hln hbT hrd o65 g65 hl8 hbx12 hss
              go_wp2_with (at_builtin; refine wpl_append_run rfl _ _ _ rfl rfl rfl r65 ?_)
              exact ⟨⟨j + 1, r - 1, Lib.hid (by have := HJR.out; omega), by have := HJR.out; omega, by omega, by simp; try go_num, A8, j + 1, c8, HPZ⟩, by simp [intOf]; try omega⟩
        · have HJM : Hid (j = M) := Lib.hid (by have := HJR.out; omega)
          obtain ⟨ps, hps⟩ : ∃ ps, ps = (stsR l p3 j).2 := ⟨_, rfl⟩
          obtain ⟨LS, hLS⟩ : ∃ LS, LS = (stsR l p3 j).1 := ⟨_, rfl⟩
          rw [← hps, ← hLS] at HQ
          have HSZ := Lib.hid (show ∀ x ∈ LS, x.size ≤ 255 by rw [hLS]; exact stsR_sz HBT.out _ _)
          have HPR : Hid (prsR l = ⟨LF, LS, (cN : Nat)⟩) := Lib.hid (by
            unfold prsR
            rw [← HN.out, ← HCN.out]
            have e1 : 2 + 5 * N = P0 := by rw [HP0.out, HKN.out]
            have e2 : 3 + 5 * N = p3 := by rw [HP3.out, ← e1]; omega
            rw [e1, e2, ← HM.out, ← HJM.out, ← hLS, HLF.out, HKN.out])
          clear hps hLS
          obtain ⟨A1, m1, c1, B1, m2, d1, e1, e2, hrc, hml⟩ := HQ.out.rdc HWF.out HSZ.out
          injection e1 with e3 e4 e5
          injection e2 with e6 e7 e8
          subst e3 e4 e5 e6 e7 e8
          have hz0 : ∀ (W : World), (Instr.build 25 #[]).run Try.prog W = .ok (.agg #[.slice none 0 0, .slice none 0 0, .int .i64 0]) W := fun W => run_build W 25 _ _ (by kernel_rfl)
          have HRC := Lib.hid hrc
          have hns : ns ≤ 1000000 := by
            have : ns = j := by
              obtain ⟨A9, c9, e9, _⟩ := OwnL.rd HQ.out.oS
              injection e9 with _ e9 _
              rw [e9]
              have := HPR.out
              unfold prsR at this
              injection this with _ h2 _
              rw [← h2, stsR_len, ← HN.out]
              have e1 : 2 + 5 * N = P0 := by rw [HP0.out, HKN.out]
              rw [e1, ← HM.out, HJM.out]
            omega
          have CB := Lib.hid (refBytesW_any Af nf cf' As ns cs ⟨LF, LS, (cN : Nat)⟩ wr hrc hns)
          obtain ⟨X, hX⟩ : ∃ X, X = bytX ⟨LF, LS, (cN : Nat)⟩ := ⟨_, rfl⟩
          rw [← hX] at CB
          have HXE := Lib.hid hX
          obtain ⟨xs, xe⟩ := X
          obtain ⟨y0, y1, y2⟩ := cells3 HQ.out.bx
          clear hrc hX hml hns
          go_wp2_with fail
          refine CB.out.mono ?_
          rintro e w8 ⟨rv, rfl, ho, hb⟩
          have HB8 := Lib.hid (Below.thn HQ.out.be hb)
          have HR8 := Lib.hid ((hb.block gr (Array.getElem?_eq_some_iff.1 HQ.out.br).1).trans HQ.out.br)
          have HC8 := Lib.hid ((hb.block gc (Array.getElem?_eq_some_iff.1 HQ.out.bx).1).trans HQ.out.bx)
          have HQ8 := Lib.hid (HQ.out.below hb)
          obtain ⟨Ar, cr, er, lr, mr, hr7⟩ := OwnL.rd ho.1
          obtain ⟨nr, hnr⟩ : ∃ nr, nr = xs.length := ⟨_, rfl⟩
          rw [← hnr] at er lr hr7
          subst er
          have s1 := run_str w8 Ar nr cr xs ⟨hr7, ho.2⟩ lr
          have s2 := run_str w8 A n c l (HT.out.below HB8.out) hc
          have HBX := Lib.hid ho.2
          clear ho hb CB hr7 hnr y0 y1 y2
          obtain ⟨z0, z1, z2⟩ := cells3 HR8.out
          obtain ⟨y0, y1, y2⟩ := cells3 HC8.out
          have zf0 : w8.frozen? ⟨gr, 0, none⟩ = false := by simp [World.frozen?, HR8.out]
          have zf1 : w8.frozen? ⟨gr, 1, none⟩ = false := by simp [World.frozen?, HR8.out]
          have zf2 : w8.frozen? ⟨gr, 2, none⟩ = false := by simp [World.frozen?, HR8.out]
          obtain ⟨S1, hS1⟩ : ∃ S1, S1 = strL xs := ⟨_, rfl⟩
          obtain ⟨S2, hS2⟩ : ∃ S2, S2 = strL l := ⟨_, rfl⟩
          rw [← hS1] at s1
          rw [← hS2] at s2
          have HPX := Lib.hid (parR_eq l)
          by_cases hok : xe = 0 ∧ xs = l
          · obtain ⟨rfl, heq⟩ := hok
            have hq : (S1.toList == S2.toList) = true := by rw [hS1, hS2, heq]; simp
            have HX : Hid (parX l = (⟨LF, LS, (cN : Nat)⟩, 0)) := Lib.hid (by
              rw [← HPX.out]
              unfold parR
              rw [HPR.out, if_pos (by rw [← HXE.out, heq])])
            have hs3 := set3 HR8.out (.slice Af nf cf') (.slice As ns cs) (.int .i64 (cN : Nat))
            obtain ⟨r0, r1, r2⟩ := cells3 hs3.1
            have HBe := Lib.hid (HB8.out.grown hs3.2 HB8.out.size (fun k hk => by cases hk; have := HQ.out.o1; omega))
            have HGR2 := Lib.hid hs3.2
            clear heq hs3 hS1 hS2
            go_wp2_with fail
            refine bodyPost_ret (v := .tuple #[confV Af nf cf' As ns cs (cN : Nat), .int .i64 0]) (by simp [results, Try.results29, go_sem, r0, r1, r2]) rfl ⟨Af, nf, cf', As, ns, cs, by rw [HX.out], ?_, HBe.out⟩
            rw [HX.out]
            exact HQ8.out.rdc_set HGR2.out HWF.out HSZ.out
          · have HX : Hid (parX l = (⟨[], [], 0⟩, 140)) := Lib.hid (by
              rw [← HPX.out]
              unfold parR
              rw [HPR.out, if_neg (fun h => hok (by rw [← HXE.out] at h; injection h with h1 h2; exact ⟨h2, h1⟩))])
            have hs3 := set3 HR8.out (.slice none 0 0) (.slice none 0 0) (.int .i64 0)
            obtain ⟨r0, r1, r2⟩ := cells3 hs3.1
            have HBe := Lib.hid (HB8.out.grown hs3.2 HB8.out.size (fun k hk => by cases hk; have := HQ.out.o1; omega))
            clear hs3
            by_cases hxe : xe = 0
            · have hq : (S1.toList == S2.toList) = false := by
                rw [str_eqB, hS1, hS2]
                exact decide_eq_false fun h => hok ⟨hxe, (strL_eq HBX.out HT.out.byt).1 h⟩
              subst hxe
              clear hok hS1 hS2
              go_wp2_with fail
              refine bodyPost_ret (v := .tuple #[.agg #[.slice none 0 0, .slice none 0 0, .int .i64 0], .int .i64 140]) (by simp [results, Try.results29, go_sem, r0, r1, r2]) rfl ⟨none, 0, 0, none, 0, 0, by rw [HX.out], ?_, HBe.out⟩
              rw [HX.out]
              exact rdc_nil _
            · have hxf : (xe == 0) = false := by simpa using hxe
              have hxg : (xe != 0) = true := by simpa using hxe
              clear hok hxe hS1 hS2
              go_wp2_with fail
              refine bodyPost_ret (v := .tuple #[.agg #[.slice none 0 0, .slice none 0 0, .int .i64 0], .int .i64 140]) (by simp [results, Try.results29, go_sem, r0, r1, r2]) rfl ⟨none, 0, 0, none, 0, 0, by rw [HX.out], ?_, HBe.out⟩
              rw [HX.out]
              exact rdc_nil _
end Go.Proofs.Ytbmdjmnjbflfeaa
