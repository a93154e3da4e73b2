/- Two rows put together. -/
import Derived.Test.YtaaddckhldccjaaRefAN
import Derived.Test.YtaaddckhldccjaaRegG
namespace Go.Proofs.Ytaaddckhldccjaa
open Go.RowKit Go.Shelf
set_option linter.unusedVariables false
set_option linter.unusedSimpArgs false

theorem keep_low {w W W' : World} {a : Addr} {v : Value} {row : Option Nat} (h : W.cell? a = some v) (hb : Below w.heap.size w W) (hl : a.block < w.heap.size) (hg : W.grownBy W' row) (hr : ∀ k, row = some k → w.heap.size ≤ k) : W'.cell? a = some v := by
  have h1 := hg.block a.block (by have := hb.size; omega) (fun e => by have := hr _ e.symm; omega)
  unfold World.cell? at h ⊢
  rw [h1]
  exact h
theorem push_u1 {w w1 : World} {v : Value} {L : List Nat} (x k : Nat) (h : OwnU w1 w.heap.size v L) (hb : Below w.heap.size w w1) (hk : w1.heap[k]? = some (.cells #[.int .u32 (x : Nat)] 30 (0, 0))) (hx : x ≤ 4294967295) (hl : L.length ≤ 100000000) :
    ∃ A' c' w', (Builtin.append_ #[38, 38] 38 #[v, .slice (some ⟨k, 0, none⟩) 1 1]).run Try.prog w1 = .ok (.slice A' (L.length + 1) c') w' ∧
      OwnU w' w.heap.size (.slice A' (L.length + 1) c') (L ++ [x]) ∧ L.length + 1 ≤ c' ∧ c' ≤ 9223372036854775807 ∧ w1.grownBy w' v.ownBlock := by
  have hrd : Rd encU w1 (some ⟨k, 0, none⟩) 1 [x] := ⟨rfl, by decide, fun _ => ⟨_, rfl, fun j hj => by
    obtain rfl : j = 0 := by simp at hj; omega
    rw [add_lit0]
    simp [World.cell?, hk]⟩⟩
  obtain ⟨v1, w', r, o, g, _⟩ := run_append_rd (P := Try.prog) (c := 1) w.heap.size 38 38 30 (.int .u32 0) 4 Try.underlying38 infoU rfl (by decide) encU_one h.1 hrd (by omega) hb.size
  obtain ⟨A', c', e, h1, h2, _⟩ := OwnL.rd o
  have hlen : (L ++ [x]).length = L.length + 1 := by simp
  rw [hlen] at e h1
  subst e
  exact ⟨A', c', w', r, ⟨o, h.2.append (U32.one (by omega))⟩, h1, h2, g⟩
/-- Both, put together. -/
def eitherL : List Nat → List Nat → List Nat
  | [], b => b
  | a, [] => a
  | x :: a, y :: b => if x < y then x :: eitherL a (y :: b) else if y < x then y :: eitherL (x :: a) b else x :: eitherL a b
termination_by a b => a.length + b.length
theorem either_nil (b : List Nat) : eitherL [] b = b := by unfold eitherL; rfl
theorem either_nil' (a : List Nat) : eitherL a [] = a := by cases a <;> (unfold eitherL; rfl)
theorem either_cons (x y : Nat) (a b : List Nat) : eitherL (x :: a) (y :: b) = if x < y then x :: eitherL a (y :: b) else if y < x then y :: eitherL (x :: a) b else x :: eitherL a b := by
  conv => lhs; unfold eitherL
theorem either_mem : ∀ (n : Nat) (a b : List Nat), a.length + b.length ≤ n → ∀ d, d ∈ eitherL a b ↔ (d ∈ a ∨ d ∈ b)
  | n, [], b, _, d => by rw [either_nil]; simp
  | n, a, [], _, d => by rw [either_nil']; simp
  | 0, x :: a, y :: b, h, d => by simp at h
  | n + 1, x :: a, y :: b, h, d => by
    simp only [List.length_cons] at h
    have h1 := either_mem n a (y :: b) (by simp only [List.length_cons]; omega) d
    have h2 := either_mem n (x :: a) b (by simp only [List.length_cons]; omega) d
    have h3 := either_mem n a b (by omega) d
    rw [either_cons]
    split
    · rw [List.mem_cons, h1]
      simp only [List.mem_cons]
      grind
    · split
      · rw [List.mem_cons, h2]
        simp only [List.mem_cons]
        grind
      · have e : x = y := by omega
        subst e
        rw [List.mem_cons, h3]
        simp only [List.mem_cons]
        grind
theorem either_up : ∀ (n : Nat) (a b : List Nat), a.length + b.length ≤ n → Up a → Up b → Up (eitherL a b)
  | n, [], b, _, _, hb => by rw [either_nil]; exact hb
  | n, a, [], _, ha, _ => by rw [either_nil']; exact ha
  | 0, x :: a, y :: b, h, _, _ => by simp at h
  | n + 1, x :: a, y :: b, h, ha, hb => by
    simp only [List.length_cons] at h
    have ha' := List.pairwise_cons.1 ha
    have hb' := List.pairwise_cons.1 hb
    rw [either_cons]
    split
    · rename_i hlt
      refine List.pairwise_cons.2 ⟨fun d hd => ?_, either_up n a (y :: b) (by simp only [List.length_cons]; omega) ha'.2 hb⟩
      rcases (either_mem _ a (y :: b) (Nat.le_refl _) d).1 hd with h1 | h1
      · exact ha'.1 d h1
      · rcases List.mem_cons.1 h1 with h2 | h2
        · omega
        · have := hb'.1 d h2; omega
    · split
      · rename_i h1 hlt
        refine List.pairwise_cons.2 ⟨fun d hd => ?_, either_up n (x :: a) b (by simp only [List.length_cons]; omega) ha hb'.2⟩
        rcases (either_mem _ (x :: a) b (Nat.le_refl _) d).1 hd with h1 | h1
        · rcases List.mem_cons.1 h1 with h2 | h2
          · omega
          · have := ha'.1 d h2; omega
        · exact hb'.1 d h1
      · have e : x = y := by omega
        subst e
        refine List.pairwise_cons.2 ⟨fun d hd => ?_, either_up n a b (by omega) ha'.2 hb'.2⟩
        rcases (either_mem _ a b (Nat.le_refl _) d).1 hd with h1 | h1
        · exact ha'.1 d h1
        · exact hb'.1 d h1
theorem either_len : ∀ (n : Nat) (a b : List Nat), a.length + b.length ≤ n → (eitherL a b).length ≤ a.length + b.length
  | n, [], b, _ => by rw [either_nil]; simp
  | n, a, [], _ => by rw [either_nil']; simp
  | 0, x :: a, y :: b, h => by simp at h
  | n + 1, x :: a, y :: b, h => by
    simp only [List.length_cons] at h
    have h1 := either_len n a (y :: b) (by simp only [List.length_cons]; omega)
    have h2 := either_len n (x :: a) b (by simp only [List.length_cons]; omega)
    have h3 := either_len n a b (by omega)
    rw [either_cons]
    simp only [List.length_cons] at h1 h2 ⊢
    split
    · simp only [List.length_cons]; omega
    · split
      · simp only [List.length_cons]; omega
      · simp only [List.length_cons]; omega
def vlen : Value → Nat
  | .slice _ n _ => n
  | _ => 0
theorem makeU (N : Nat) (h : N ≤ 1000000000) (W : World) : (Instr.makeSlice 38 (.int .i64 0) (.int .i64 (N : Int))).run Try.prog W = .ok (.slice (some ⟨W.heap.size, 0, none⟩) 0 N) (W.alloc (.cells (madeCells #[.int .u32 0] N) 30)) := by
  obtain ⟨i, hi, hz⟩ := Option.map_eq_some_iff.1 infoU
  simp only [Prod.mk.injEq] at hz
  have := run_make W 38 30 i (.int .u32 0) Try.underlying38 hi hz.1 .i64 .i64 0 (N : Int) (by omega) (by omega) (by rw [hz.2.2]; omega) (by omega)
  rw [this, hz.2.1]
  simp [Value.cells]
theorem madeU (w : World) (N : Nat) (hN : N ≤ 1000000000) : OwnU (w.alloc (.cells (madeCells #[.int .u32 0] N) 30)) w.heap.size (.slice (some ⟨w.heap.size, 0, none⟩) 0 N) [] :=
  ⟨⟨rfl, .inr ⟨w.heap.size, N, _, rfl, Nat.le_refl _, World.alloc_heap_new w _, Nat.zero_le _, by unfold maxLen; omega, by simp [madeCells], by simp⟩⟩, U32.nil⟩
theorem cutU (A : Option Addr) (n c k : Nat) (hk : k ≤ n) (hc : n ≤ c) : ∃ A' : Option Addr,
    (∀ W : World, (Instr.slice 38 (.slice A n c) (some (.int .i64 (k : Int))) none none).run Try.prog W = .ok (.slice A' (n - k) (c - k)) W) ∧
      ∀ (w : World) (l : List Nat), RdU w A n l → RdU w A' (n - k) (l.drop k) := by
  obtain ⟨A', h1, _, h3⟩ := cut_rd (P := Try.prog) encU 38 30 Try.underlying38 infoU A n c k hk hc
  exact ⟨A', h1, fun w l h => ⟨h3 w l h.rd, fun x hx => h.lt x (List.mem_of_mem_drop hx)⟩⟩
structure E5 (w : World) (Ao : Option Addr) (no co : Nat) (ad : Addr) (na ca : Nat) (ae : Addr) (nb cb : Nat) (A2 : Option Addr) (m2 c2 : Nat) (B2 : Option Addr) (k2 d2 : Nat) (x : Nat) (L : List Nat) (S : Nat → Prop) (r : Nat → Value) (W : World) : Prop where
  v0 : S 0 → r 0 = .slice Ao no co
  v1 : S 1 → r 1 = .slice (some ad) na ca
  v2 : S 2 → r 2 = .pointer (some ad)
  v3 : S 3 → r 3 = .int .u32 (x : Nat)
  v6 : S 6 → r 6 = .slice (some ad) na ca
  v7 : S 7 → r 7 = .slice A2 m2 c2
  v9 : S 9 → r 9 = .slice A2 m2 c2
  f_st : W.cell? ad = some (.int .u32 (x : Nat))
  f_be : Below w.heap.size w W
  o0 : ¬ S 5 → OwnU W w.heap.size (.slice Ao no co) L
  o5 : S 5 → ∃ A' c', (r 5) = .slice A' (L.length + 1) c' ∧ OwnU W w.heap.size (.slice A' (L.length + 1) c') (L ++ [x]) ∧ L.length + 1 ≤ c' ∧ c' ≤ 9223372036854775807
  s0 : S 4 → ¬ S 5 → ∃ k : Nat, (r 4) = .slice (some ⟨k, 0, none⟩) 1 1 ∧ W.heap[k]? = some (.cells #[.int .u32 (x : Nat)] 30 (0, 0))
  o9 : S 8 → r 8 = r 5
structure E7 (w : World) (Ao : Option Addr) (no co : Nat) (ad : Addr) (na ca : Nat) (ae : Addr) (nb cb : Nat) (A2 : Option Addr) (m2 c2 : Nat) (B2 : Option Addr) (k2 d2 : Nat) (yy : Nat) (L : List Nat) (S : Nat → Prop) (r : Nat → Value) (W : World) : Prop where
  v0 : S 0 → r 0 = .slice Ao no co
  v1 : S 1 → r 1 = .slice (some ae) nb cb
  v2 : S 2 → r 2 = .pointer (some ae)
  v3 : S 3 → r 3 = .int .u32 (yy : Nat)
  v6 : S 6 → r 6 = .slice (some ae) nb cb
  v7 : S 7 → r 7 = .slice B2 k2 d2
  v9 : S 9 → r 9 = .slice B2 k2 d2
  f_st : W.cell? ae = some (.int .u32 (yy : Nat))
  f_be : Below w.heap.size w W
  o0 : ¬ S 5 → OwnU W w.heap.size (.slice Ao no co) L
  o5 : S 5 → ∃ A' c', (r 5) = .slice A' (L.length + 1) c' ∧ OwnU W w.heap.size (.slice A' (L.length + 1) c') (L ++ [yy]) ∧ L.length + 1 ≤ c' ∧ c' ≤ 9223372036854775807
  s0 : S 4 → ¬ S 5 → ∃ k : Nat, (r 4) = .slice (some ⟨k, 0, none⟩) 1 1 ∧ W.heap[k]? = some (.cells #[.int .u32 (yy : Nat)] 30 (0, 0))
  o9 : S 8 → r 8 = r 5
structure E3 (w : World) (Ao : Option Addr) (no co : Nat) (ad : Addr) (na ca : Nat) (ae : Addr) (nb cb : Nat) (A2 : Option Addr) (m2 c2 : Nat) (B2 : Option Addr) (k2 d2 : Nat) (x : Nat) (L : List Nat) (S : Nat → Prop) (r : Nat → Value) (W : World) : Prop where
  v0 : S 0 → r 0 = .slice Ao no co
  v1 : S 1 → r 1 = .slice (some ad) na ca
  v2 : S 2 → r 2 = .pointer (some ad)
  v3 : S 3 → r 3 = .int .u32 (x : Nat)
  v6 : S 6 → r 6 = .slice (some ad) na ca
  v7 : S 7 → r 7 = .slice A2 m2 c2
  v8 : S 8 → r 8 = .slice (some ae) nb cb
  v9 : S 9 → r 9 = .slice B2 k2 d2
  v11 : S 11 → r 11 = .slice A2 m2 c2
  v12 : S 12 → r 12 = .slice B2 k2 d2
  f_st : W.cell? ad = some (.int .u32 (x : Nat))
  f_be : Below w.heap.size w W
  o0 : ¬ S 5 → OwnU W w.heap.size (.slice Ao no co) L
  o5 : S 5 → ∃ A' c', (r 5) = .slice A' (L.length + 1) c' ∧ OwnU W w.heap.size (.slice A' (L.length + 1) c') (L ++ [x]) ∧ L.length + 1 ≤ c' ∧ c' ≤ 9223372036854775807
  s0 : S 4 → ¬ S 5 → ∃ k : Nat, (r 4) = .slice (some ⟨k, 0, none⟩) 1 1 ∧ W.heap[k]? = some (.cells #[.int .u32 (x : Nat)] 30 (0, 0))
  o9 : S 10 → r 10 = r 5

/-- What stands as two are put together. -/
structure EtI (w : World) (la lb : List Nat) (O ra rb : List Nat) (A : Option Addr) (m c : Nat) (B : Option Addr) (k d : Nat) (o : Value) (W : World) : Prop where
  a : RdU w A m ra
  b : RdU w B k rb
  mc : m ≤ c ∧ c ≤ 9223372036854775807
  kd : k ≤ d ∧ d ≤ 9223372036854775807
  o : OwnU W w.heap.size o O
  be : Below w.heap.size w W
  eq : O ++ eitherL ra rb = eitherL la lb
  len : O.length + m + k ≤ la.length + lb.length
set_option maxRecDepth 100000 in
set_option maxHeartbeats 8000000 in
theorem either_any (A : Option Addr) (na c : Nat) (la : List Nat) (B : Option Addr) (nb d : Nat) (lb : List Nat) (w : World) (hl : RdU w A na la) (hm : RdU w B nb lb) (hc : na ≤ c) (hc2 : c ≤ 9223372036854775807) (hd : nb ≤ d) (hd2 : d ≤ 9223372036854775807) (hn : na ≤ 40000000) (hn2 : nb ≤ 40000000) :
    Calls Try.prog 53 #[.slice A na c, .slice B nb d] w fun e w' => ∃ v, e = .returned v ∧ OwnU w' w.heap.size v (eitherL la lb) ∧ Below w.heap.size w w' := by
  have HLE := Lib.hid (show la.length + lb.length ≤ 80000000 by rw [hl.len, hm.len]; omega)
  obtain ⟨N, hN⟩ : ∃ N, N = na + nb := ⟨_, rfl⟩
  have hsum : (na : Int) + (nb : Int) = (N : Int) := by omega
  have hN9 : N ≤ 1000000000 := by omega
  have hmk := makeU N hN9
  have hbA : Below w.heap.size w (w.alloc (.cells (madeCells #[.int .u32 0] N) 30)) := (Below.refl _ _).alloc (Nat.le_refl _) _
  have HI0 : Hid (EtI w la lb [] la lb A na c B nb d (.slice (some ⟨w.heap.size, 0, none⟩) 0 N) (w.alloc (.cells (madeCells #[.int .u32 0] N) 30))) := Lib.hid
    ⟨hl, hm, ⟨hc, hc2⟩, ⟨hd, hd2⟩, madeU w N hN9, hbA, rfl, by rw [hl.len, hm.len]; simp⟩
  clear hl hm hc hc2 hd hd2 hN hbA
  go_enter Try.func53, Try.ntmps53
  go_wp2_with fail
  go_loopw [0, 1, 5] (fun y z o wr => ∃ (ra rb O : List Nat) (A' : Option Addr) (m c' : Nat) (B' : Option Addr) (k d' : Nat), y = .slice A' m c' ∧ z = .slice B' k d' ∧ Hid (EtI w la lb O ra rb A' m c' B' k d' o wr)) (fun y z _ _ => vlen y + vlen z)
  case atStart => exact ⟨la, lb, [], A, na, c, B, nb, d, rfl, rfl, HI0⟩
  case round =>
    obtain ⟨ra, rb, L, A', na, ca, B', nb, cb, rfl, rfl, HI⟩ := hrel
    have hL : L.length ≤ 100000000 := by have := HI.out.len; have := HLE.out; omega
    have hmx1 : na ≤ 9223372036854775807 := HI.out.a.max
    have hmx2 : nb ≤ 9223372036854775807 := HI.out.b.max
    by_cases hboth : 0 < na ∧ 0 < nb
    · have hax1 : (0 : Int) < (na : Int) := by omega
      have hax2 : 0 < na := hboth.1
      have hbx1 : (0 : Int) < (nb : Int) := by omega
      have hbx2 : 0 < nb := hboth.2
      clear hboth
      obtain ⟨ad, x, rfl, HX, hx, x0⟩ := (HI.out.a.below HI.out.be).at (k := 0) (by omega)
      obtain ⟨ae, yy, rfl, HY, hyy, y0⟩ := (HI.out.b.below HI.out.be).at (k := 0) (by omega)
      rw [Addr.add_zero'] at x0 y0
      have hlow1 : ad.block < w.heap.size := by
        obtain ⟨ad', x', e, _, _, k0⟩ := HI.out.a.at (k := 0) (by omega)
        cases e
        rw [Addr.add_zero'] at k0
        exact cell_lt' k0
      have hlow2 : ae.block < w.heap.size := by
        obtain ⟨ad', x', e, _, _, k0⟩ := HI.out.b.at (k := 0) (by omega)
        cases e
        rw [Addr.add_zero'] at k0
        exact cell_lt' k0
      have HRA : Hid (ra = x :: ra.drop 1) := Lib.hid (by
        obtain ⟨hl, rfl⟩ := HX.out
        have := List.drop_eq_getElem_cons hl
        rwa [List.drop_zero] at this)
      have HRB : Hid (rb = yy :: rb.drop 1) := Lib.hid (by
        obtain ⟨hl, rfl⟩ := HY.out
        have := List.drop_eq_getElem_cons hl
        rwa [List.drop_zero] at this)
      have HEQ : Hid (eitherL ra rb = if x < yy then x :: eitherL (ra.drop 1) rb else if yy < x then yy :: eitherL ra (rb.drop 1) else x :: eitherL (ra.drop 1) (rb.drop 1)) := Lib.hid (by
        have e1 := HRA.out
        have e2 := HRB.out
        obtain ⟨ra', hra'⟩ : ∃ q, q = ra.drop 1 := ⟨_, rfl⟩
        obtain ⟨rb', hrb'⟩ : ∃ q, q = rb.drop 1 := ⟨_, rfl⟩
        rw [← hra'] at e1 ⊢
        rw [← hrb'] at e2 ⊢
        rw [e1, e2, either_cons])
      obtain ⟨A2, hcA, hrA⟩ := cutU (some ad) na ca 1 (by omega) HI.out.mc.1
      obtain ⟨B2, hcB, hrB⟩ := cutU (some ae) nb cb 1 (by omega) HI.out.kd.1
      have HRA2 := Lib.hid (hrA w ra HI.out.a)
      have HRB2 := Lib.hid (hrB w rb HI.out.b)
      have hcuta : ∀ W : World, (Instr.slice 38 (.slice (some ad) na ca) (some (.int .i64 1)) none none).run Try.prog W = .ok (.slice A2 (na - 1) (ca - 1)) W := hcA
      have hcutb : ∀ W : World, (Instr.slice 38 (.slice (some ae) nb cb) (some (.int .i64 1)) none none).run Try.prog W = .ok (.slice B2 (nb - 1) (cb - 1)) W := hcB
      obtain ⟨m2, hm2⟩ : ∃ m, m = na - 1 := ⟨_, rfl⟩
      obtain ⟨c2, hc2⟩ : ∃ m, m = ca - 1 := ⟨_, rfl⟩
      obtain ⟨k2, hk2⟩ : ∃ m, m = nb - 1 := ⟨_, rfl⟩
      obtain ⟨d2, hd2⟩ : ∃ m, m = cb - 1 := ⟨_, rfl⟩
      rw [← hm2] at hcuta HRA2
      rw [← hk2] at hcutb HRB2
      rw [← hc2] at hcuta
      rw [← hd2] at hcutb
      have hmm : m2 + 1 = na := by omega
      have hkk : k2 + 1 = nb := by omega
      have HNM : Hid (m2 + 1 = na ∧ k2 + 1 = nb ∧ c2 + 1 = ca ∧ d2 + 1 = cb) := Lib.hid (by have := HI.out.mc; have := HI.out.kd; omega)
      have HO : Hid (OwnU _ w.heap.size _ L) := Lib.hid HI.out.o
      have HBs := Lib.hid HI.out.be
      obtain ⟨Ao, co, ho, lo, mo, _⟩ := OwnL.rd HI.out.o.1
      obtain ⟨no, hno⟩ : ∃ no, no = L.length := ⟨_, rfl⟩
      rw [← hno] at ho lo
      subst ho
      have X0 := Lib.hid x0
      have Y0 := Lib.hid y0
      have HNO := Lib.hid hno
      clear hcA hcB hrA hrB hm2 hc2 hk2 hd2 hmm hkk hno
      by_cases hxy : (x : Int) < (yy : Int)
      · have HE : Hid (eitherL ra rb = x :: eitherL (ra.drop 1) rb) := Lib.hid (by rw [HEQ.out, if_pos (by omega)])
        have hlow := hlow1
        go_upto_region 4 with fail
        go_quiet (fail)
        go_wp2_with fail
        obtain ⟨wq, hwq⟩ : ∃ wq, wq = wr.drewN nq := ⟨_, rfl⟩
        rw [← hwq]
        have hbq : Below wr.heap.size wr wq := by rw [hwq]; exact below_drewN (Below.refl _ _) nq
        clear hwq x0 y0 hxy
        refine wp_region_flowG (by kernel_rfl) (E5 w Ao no co ad na ca ae nb cb A2 m2 c2 B2 k2 d2 x L) (fun r => ⟨fun h => h.elim, fun h => h.elim, fun h => h.elim, fun h => h.elim, fun h => h.elim, fun h => h.elim, fun h => h.elim, cell_keep hbq X0.out, (Below.thn HBs.out hbq).trans (Below.drew (Below.refl _ _)), fun _ => (HO.out.below hbq).below (Below.drew (Below.refl _ _)), fun h => h.elim, fun h => h.elim, fun h => h.elim⟩) (by kernel_rfl) (by kernel_rfl) ?_ ?_
        case refine_1 =>
          intro i o ho ρ y w2 S r hJ hnS hneeds hcl hreg hn hf hyb hyn
          have hi := (Array.getElem?_eq_some_iff.1 ho).1
          rcases Nat.lt_or_ge i 10 with hi2 | hi2
          case inr => simp at hi; omega
          obtain rfl | rfl | rfl | rfl | rfl | rfl | rfl | rfl | rfl | rfl : i = 0 ∨ i = 1 ∨ i = 2 ∨ i = 3 ∨ i = 4 ∨ i = 5 ∨ i = 6 ∨ i = 7 ∨ i = 8 ∨ i = 9 := by omega
          · cases ho
            rw [if_pos (show Region.wanted _ y = true from rfl)]
            have f5 : ρ (.tmp 5) = .slice Ao no co := hf 5 (by kernel_rfl)
            refine does_move ?_
            rw [f5]
            exact ⟨fun _ => rfl, fun x => hJ.v1 (x.resolve_left (by decide)), fun x => hJ.v2 (x.resolve_left (by decide)), fun x => hJ.v3 (x.resolve_left (by decide)), fun x => hJ.v6 (x.resolve_left (by decide)), fun x => hJ.v7 (x.resolve_left (by decide)), fun x => hJ.v9 (x.resolve_left (by decide)), hJ.f_st , hJ.f_be , fun n5 => hJ.o0 (fun x => n5 (.inr x)), fun x5 => absurd (hcl 5 _ rfl (x5.resolve_left (by decide)) 0 (by kernel_rfl)) hnS, fun x4 n5 => hJ.s0 (x4.resolve_left (by decide)) (fun x => n5 (.inr x)), fun x8 => absurd (hcl 8 _ rfl (x8.resolve_left (by decide)) 0 (by kernel_rfl)) hnS⟩
          · cases ho
            rw [if_pos (show Region.wanted _ y = true from rfl)]
            have f0 : ρ (.tmp 0) = .slice (some ad) na ca := hf 0 (by kernel_rfl)
            refine does_move ?_
            rw [f0]
            exact ⟨fun x => hJ.v0 (x.resolve_left (by decide)), fun _ => rfl, fun x => hJ.v2 (x.resolve_left (by decide)), fun x => hJ.v3 (x.resolve_left (by decide)), fun x => hJ.v6 (x.resolve_left (by decide)), fun x => hJ.v7 (x.resolve_left (by decide)), fun x => hJ.v9 (x.resolve_left (by decide)), hJ.f_st , hJ.f_be , fun n5 => hJ.o0 (fun x => n5 (.inr x)), fun x5 => absurd (hcl 2 _ rfl (hcl 3 _ rfl (hcl 4 _ rfl (hcl 5 _ rfl (x5.resolve_left (by decide)) 4 (by kernel_rfl)) 3 (by kernel_rfl)) 2 (by kernel_rfl)) 1 (by kernel_rfl)) hnS, fun x4 n5 => absurd (hcl 2 _ rfl (hcl 3 _ rfl (hcl 4 _ rfl (x4.resolve_left (by decide)) 3 (by kernel_rfl)) 2 (by kernel_rfl)) 1 (by kernel_rfl)) hnS, fun x8 => absurd (hcl 8 _ rfl (x8.resolve_left (by decide)) 1 (by kernel_rfl)) hnS⟩
          · cases ho
            rw [if_pos (show Region.wanted _ y = true from rfl)]
            have f39 : ρ (.tmp 39) = .slice (some ad) na ca := (hn 1 _ 39 rfl (by kernel_rfl) rfl).trans (hJ.v1 (hneeds 1 (by kernel_rfl)))
            exact does_ok (v := .pointer (some ad)) (w' := w2) (by simp [go_sem, hreg.const, f39, hax1, hax2]) ⟨fun x => hJ.v0 (x.resolve_left (by decide)), fun x => hJ.v1 (x.resolve_left (by decide)), fun _ => rfl, fun x => hJ.v3 (x.resolve_left (by decide)), fun x => hJ.v6 (x.resolve_left (by decide)), fun x => hJ.v7 (x.resolve_left (by decide)), fun x => hJ.v9 (x.resolve_left (by decide)), hJ.f_st , hJ.f_be , fun n5 => hJ.o0 (fun x => n5 (.inr x)), fun x5 => absurd (hcl 3 _ rfl (hcl 4 _ rfl (hcl 5 _ rfl (x5.resolve_left (by decide)) 4 (by kernel_rfl)) 3 (by kernel_rfl)) 2 (by kernel_rfl)) hnS, fun x4 n5 => absurd (hcl 3 _ rfl (hcl 4 _ rfl (x4.resolve_left (by decide)) 3 (by kernel_rfl)) 2 (by kernel_rfl)) hnS, fun x8 => absurd (hcl 8 _ rfl (x8.resolve_left (by decide)) 2 (by kernel_rfl)) hnS⟩
          · cases ho
            rw [if_pos (show Region.wanted _ y = true from rfl)]
            have f40 : ρ (.tmp 40) = .pointer (some ad) := (hn 2 _ 40 rfl (by kernel_rfl) rfl).trans (hJ.v2 (hneeds 2 (by kernel_rfl)))
            have k0 := hJ.f_st
            exact does_ok (v := .int .u32 (x : Nat)) (w' := w2) (by simp [go_sem, hreg.const, f40, k0]) ⟨fun x => hJ.v0 (x.resolve_left (by decide)), fun x => hJ.v1 (x.resolve_left (by decide)), fun x => hJ.v2 (x.resolve_left (by decide)), fun _ => rfl, fun x => hJ.v6 (x.resolve_left (by decide)), fun x => hJ.v7 (x.resolve_left (by decide)), fun x => hJ.v9 (x.resolve_left (by decide)), hJ.f_st , hJ.f_be , fun n5 => hJ.o0 (fun x => n5 (.inr x)), fun x5 => absurd (hcl 4 _ rfl (hcl 5 _ rfl (x5.resolve_left (by decide)) 4 (by kernel_rfl)) 3 (by kernel_rfl)) hnS, fun x4 n5 => absurd (hcl 4 _ rfl (x4.resolve_left (by decide)) 3 (by kernel_rfl)) hnS, fun x8 => absurd (hcl 8 _ rfl (x8.resolve_left (by decide)) 3 (by kernel_rfl)) hnS⟩
          · cases ho
            rw [if_pos (show Region.wanted _ y = true from rfl)]
            have f41 : ρ (.tmp 41) = .int .u32 (x : Nat) := (hn 3 _ 41 rfl (by kernel_rfl) rfl).trans (hJ.v3 (hneeds 3 (by kernel_rfl)))
            have hbw : Below w2.heap.size w2 (w2.alloc (.cells #[.int .u32 (x : Nat)] 30)) := (Below.refl _ _).alloc (Nat.le_refl _) _
            have hnew := World.alloc_heap_new w2 (.cells #[.int .u32 (x : Nat)] 30)
            exact does_ok (v := .slice (some ⟨w2.heap.size, 0, none⟩) 1 1) (w' := w2.alloc (.cells #[.int .u32 (x : Nat)] 30)) (by simp [go_sem, hreg.const, f41]) ⟨fun x => hJ.v0 (x.resolve_left (by decide)), fun x => hJ.v1 (x.resolve_left (by decide)), fun x => hJ.v2 (x.resolve_left (by decide)), fun x => hJ.v3 (x.resolve_left (by decide)), fun x => hJ.v6 (x.resolve_left (by decide)), fun x => hJ.v7 (x.resolve_left (by decide)), fun x => hJ.v9 (x.resolve_left (by decide)), cell_keep hbw hJ.f_st, Below.thn hJ.f_be hbw, fun n5 => (fun m5 => (hJ.o0 m5).below hbw) (fun x => n5 (.inr x)), fun x5 => absurd (hcl 5 _ rfl (x5.resolve_left (by decide)) 4 (by kernel_rfl)) hnS, fun x4 n5 => (fun _ m5 => ⟨w2.heap.size, rfl, hnew⟩) () (fun x => n5 (.inr x)), fun x8 => absurd (hcl 8 _ rfl (x8.resolve_left (by decide)) 4 (by kernel_rfl)) hnS⟩
          · cases ho
            rw [if_pos (show Region.wanted _ y = true from rfl)]
            have f38 : ρ (.tmp 38) = .slice Ao no co := (hn 0 _ 38 rfl (by kernel_rfl) rfl).trans (hJ.v0 (hneeds 0 (by kernel_rfl)))
            have f42 : ρ (.tmp 42) = r 4 := hn 4 _ 42 rfl (by kernel_rfl) rfl
            have s4 := hneeds 4 (by kernel_rfl)
            have o := hJ.o0 hnS
            obtain ⟨k, e4, hk⟩ := hJ.s0 s4 hnS
            obtain ⟨A', c', w5, r5, o5, hc1, hc2, hg⟩ := push_u1 x k o hJ.f_be hk hx hL
            rw [e4] at f42
            exact does_ok (v := .slice A' (L.length + 1) c') (w' := w5) (by simp only [execOp, List.getElem_toArray, List.getElem_cons_succ, List.getElem_cons_zero, resolve, invoke, builtin, Sem.run_bind, Sem.run_pure, Result.andThen_ok, List.map_toArray, List.map_cons, List.map_nil, f38, f42, r5]) ⟨fun x => hJ.v0 (x.resolve_left (by decide)), fun x => hJ.v1 (x.resolve_left (by decide)), fun x => hJ.v2 (x.resolve_left (by decide)), fun x => hJ.v3 (x.resolve_left (by decide)), fun x => hJ.v6 (x.resolve_left (by decide)), fun x => hJ.v7 (x.resolve_left (by decide)), fun x => hJ.v9 (x.resolve_left (by decide)), keep_low hJ.f_st hJ.f_be hlow hg (fun k hk => (OwnL.base o.1 k hk).1), hJ.f_be.grown hg hJ.f_be.size (fun k hk => (OwnL.base o.1 k hk).1), fun n5 => absurd (.inl rfl) n5, fun x5 => (fun _ => ⟨A', c', rfl, o5, hc1, hc2⟩) (), fun x4 n5 => absurd (.inl rfl) n5, fun x8 => absurd (hcl 8 _ rfl (x8.resolve_left (by decide)) 5 (by kernel_rfl)) hnS⟩
          · cases ho
            rw [if_pos (show Region.wanted _ y = true from rfl)]
            have f0 : ρ (.tmp 0) = .slice (some ad) na ca := hf 0 (by kernel_rfl)
            refine does_move ?_
            rw [f0]
            exact ⟨fun x => hJ.v0 (x.resolve_left (by decide)), fun x => hJ.v1 (x.resolve_left (by decide)), fun x => hJ.v2 (x.resolve_left (by decide)), fun x => hJ.v3 (x.resolve_left (by decide)), fun _ => rfl, fun x => hJ.v7 (x.resolve_left (by decide)), fun x => hJ.v9 (x.resolve_left (by decide)), hJ.f_st , hJ.f_be , fun n5 => hJ.o0 (fun x => n5 (.inr x)), fun x5 => hJ.o5 (x5.resolve_left (by decide)), fun x4 n5 => hJ.s0 (x4.resolve_left (by decide)) (fun x => n5 (.inr x)), fun x8 => hJ.o9 (x8.resolve_left (by decide))⟩
          · cases ho
            rw [if_pos (show Region.wanted _ y = true from rfl)]
            have f44 : ρ (.tmp 44) = .slice (some ad) na ca := (hn 6 _ 44 rfl (by kernel_rfl) rfl).trans (hJ.v6 (hneeds 6 (by kernel_rfl)))
            exact does_ok (v := .slice A2 m2 c2) (w' := w2) (by simp [go_sem, hreg.const, f44, hcuta]) ⟨fun x => hJ.v0 (x.resolve_left (by decide)), fun x => hJ.v1 (x.resolve_left (by decide)), fun x => hJ.v2 (x.resolve_left (by decide)), fun x => hJ.v3 (x.resolve_left (by decide)), fun x => hJ.v6 (x.resolve_left (by decide)), fun _ => rfl, fun x => hJ.v9 (x.resolve_left (by decide)), hJ.f_st , hJ.f_be , fun n5 => hJ.o0 (fun x => n5 (.inr x)), fun x5 => hJ.o5 (x5.resolve_left (by decide)), fun x4 n5 => hJ.s0 (x4.resolve_left (by decide)) (fun x => n5 (.inr x)), fun x8 => hJ.o9 (x8.resolve_left (by decide))⟩
          · cases ho
            rw [if_pos (show Region.wanted _ y = true from rfl)]
            have f43 : ρ (.tmp 43) = r 5 := hn 5 _ 43 rfl (by kernel_rfl) rfl
            refine does_assign ?_
            rw [f43]
            exact ⟨fun x => hJ.v0 (x.resolve_left (by decide)), fun x => hJ.v1 (x.resolve_left (by decide)), fun x => hJ.v2 (x.resolve_left (by decide)), fun x => hJ.v3 (x.resolve_left (by decide)), fun x => hJ.v6 (x.resolve_left (by decide)), fun x => hJ.v7 (x.resolve_left (by decide)), fun x => hJ.v9 (x.resolve_left (by decide)), hJ.f_st , hJ.f_be , fun n5 => absurd (.inr (hneeds 5 (by kernel_rfl))) n5, fun x5 => hJ.o5 (x5.resolve_left (by decide)), fun x4 n5 => absurd (.inr (hneeds 5 (by kernel_rfl))) n5, fun x8 => (fun _ => rfl) ()⟩
          · cases ho
            rw [if_pos (show Region.wanted _ y = true from rfl)]
            have f45 : ρ (.tmp 45) = .slice A2 m2 c2 := (hn 7 _ 45 rfl (by kernel_rfl) rfl).trans (hJ.v7 (hneeds 7 (by kernel_rfl)))
            refine does_assign ?_
            rw [f45]
            exact ⟨fun x => hJ.v0 (x.resolve_left (by decide)), fun x => hJ.v1 (x.resolve_left (by decide)), fun x => hJ.v2 (x.resolve_left (by decide)), fun x => hJ.v3 (x.resolve_left (by decide)), fun x => hJ.v6 (x.resolve_left (by decide)), fun x => hJ.v7 (x.resolve_left (by decide)), fun _ => rfl, hJ.f_st , hJ.f_be , fun n5 => absurd (.inr (hneeds 5 (by kernel_rfl))) n5, fun x5 => hJ.o5 (x5.resolve_left (by decide)), fun x4 n5 => absurd (.inr (hneeds 5 (by kernel_rfl))) n5, fun x8 => hJ.o9 (x8.resolve_left (by decide))⟩
        case refine_2 =>
          intro a w2 S r hJ hall hd hs hfacts hrest
          obtain ⟨A', c', e5, hO, hc1, hc2⟩ := hJ.o5 (hall 5 (by decide))
          have k5 : r 8 = .slice A' (L.length + 1) c' := (hJ.o9 (hall 8 (by decide))).trans e5
          have q5 : a.tmps.getD 5 undef = Value.slice A' (L.length + 1) c' := (hfacts 8 _ 5 rfl rfl).trans k5
          have q0 : a.tmps.getD 0 undef = Value.slice A2 m2 c2 := (hfacts 9 _ 0 rfl rfl).trans (hJ.v9 (hall 9 (by decide)))
          have ha := frame_of hd hs hrest [0, 5, 38, 39, 40, 41, 42, 43, 44, 45] (by kernel_rfl)
          simp only [q5, q0, List.foldl, List.setIfInBounds_toArray, List.set_cons_succ, List.set_cons_zero] at ha
          clear q5 q0 hd hs hfacts hrest
          generalize a.tmps.getD = gg at ha
          subst ha
          have HN : Hid (EtI w la lb (L ++ [x]) (ra.drop 1) rb A2 m2 c2 (some ae) nb cb (.slice A' (L.length + 1) c') w2) := Lib.hid
            ⟨HRA2.out, HI.out.b, (by have := HI.out.mc; have := HNM.out; omega), HI.out.kd, hO, hJ.f_be, by rw [List.append_assoc]; rw [show [x] ++ eitherL (ra.drop 1) rb = eitherL ra rb from HE.out.symm]; exact HI.out.eq, by have := HI.out.len; have := HNM.out; rw [List.length_append]; simp only [List.length_singleton]; omega⟩
          obtain ⟨n9, hn9⟩ : ∃ n9, n9 = L.length + 1 := ⟨_, rfl⟩
          rw [← hn9] at HN ⊢
          clear hJ hall hO hn9 e5
          have hdec1 : m2 + 1 = na := HNM.out.1
          have hdec2 : k2 + 1 = nb := HNM.out.2.1
          go_wp2
          exact ⟨⟨(ra.drop 1), rb, L ++ [x], A2, m2, c2, some ae, nb, cb, rfl, rfl, HN⟩, by simp [vlen]; try omega⟩
      · have hlow := hlow2
        go_upto_region 4 with fail
        go_quiet (fail)
        obtain ⟨wp, hwp⟩ : ∃ wp, wp = wr.drewN nq := ⟨_, rfl⟩
        rw [← hwp]
        have hbp : Below wr.heap.size wr wp := by rw [hwp]; exact below_drewN (Below.refl _ _) nq
        have x0 := cell_keep hbp x0
        have y0 := cell_keep hbp y0
        clear hwp
        by_cases hyx : (x : Int) > (yy : Int)
        · have HE : Hid (eitherL ra rb = yy :: eitherL ra (rb.drop 1)) := Lib.hid (by rw [HEQ.out, if_neg (by omega), if_pos (by omega)])
          go_upto_region 6 with fail
          go_quiet (fail)
          go_wp2_with fail
          obtain ⟨wq, hwq⟩ : ∃ wq, wq = wp.drewN nq := ⟨_, rfl⟩
          rw [← hwq]
          have hbq : Below wr.heap.size wr wq := Below.thn hbp (by rw [hwq]; exact below_drewN (Below.refl _ _) nq)
          clear hwq x0 y0 hxy hyx
          refine wp_region_flowG (by kernel_rfl) (E7 w Ao no co ad na ca ae nb cb A2 m2 c2 B2 k2 d2 yy L) (fun r => ⟨fun h => h.elim, fun h => h.elim, fun h => h.elim, fun h => h.elim, fun h => h.elim, fun h => h.elim, fun h => h.elim, cell_keep hbq Y0.out, (Below.thn HBs.out hbq).trans (Below.drew (Below.refl _ _)), fun _ => (HO.out.below hbq).below (Below.drew (Below.refl _ _)), fun h => h.elim, fun h => h.elim, fun h => h.elim⟩) (by kernel_rfl) (by kernel_rfl) ?_ ?_
          case refine_1 =>
            intro i o ho ρ y w2 S r hJ hnS hneeds hcl hreg hn hf hyb hyn
            have hi := (Array.getElem?_eq_some_iff.1 ho).1
            rcases Nat.lt_or_ge i 10 with hi2 | hi2
            case inr => simp at hi; omega
            obtain rfl | rfl | rfl | rfl | rfl | rfl | rfl | rfl | rfl | rfl : i = 0 ∨ i = 1 ∨ i = 2 ∨ i = 3 ∨ i = 4 ∨ i = 5 ∨ i = 6 ∨ i = 7 ∨ i = 8 ∨ i = 9 := by omega
            · cases ho
              rw [if_pos (show Region.wanted _ y = true from rfl)]
              have f5 : ρ (.tmp 5) = .slice Ao no co := hf 5 (by kernel_rfl)
              refine does_move ?_
              rw [f5]
              exact ⟨fun _ => rfl, fun x => hJ.v1 (x.resolve_left (by decide)), fun x => hJ.v2 (x.resolve_left (by decide)), fun x => hJ.v3 (x.resolve_left (by decide)), fun x => hJ.v6 (x.resolve_left (by decide)), fun x => hJ.v7 (x.resolve_left (by decide)), fun x => hJ.v9 (x.resolve_left (by decide)), hJ.f_st , hJ.f_be , fun n5 => hJ.o0 (fun x => n5 (.inr x)), fun x5 => absurd (hcl 5 _ rfl (x5.resolve_left (by decide)) 0 (by kernel_rfl)) hnS, fun x4 n5 => hJ.s0 (x4.resolve_left (by decide)) (fun x => n5 (.inr x)), fun x8 => absurd (hcl 8 _ rfl (x8.resolve_left (by decide)) 0 (by kernel_rfl)) hnS⟩
            · cases ho
              rw [if_pos (show Region.wanted _ y = true from rfl)]
              have f1 : ρ (.tmp 1) = .slice (some ae) nb cb := hf 1 (by kernel_rfl)
              refine does_move ?_
              rw [f1]
              exact ⟨fun x => hJ.v0 (x.resolve_left (by decide)), fun _ => rfl, fun x => hJ.v2 (x.resolve_left (by decide)), fun x => hJ.v3 (x.resolve_left (by decide)), fun x => hJ.v6 (x.resolve_left (by decide)), fun x => hJ.v7 (x.resolve_left (by decide)), fun x => hJ.v9 (x.resolve_left (by decide)), hJ.f_st , hJ.f_be , fun n5 => hJ.o0 (fun x => n5 (.inr x)), fun x5 => absurd (hcl 2 _ rfl (hcl 3 _ rfl (hcl 4 _ rfl (hcl 5 _ rfl (x5.resolve_left (by decide)) 4 (by kernel_rfl)) 3 (by kernel_rfl)) 2 (by kernel_rfl)) 1 (by kernel_rfl)) hnS, fun x4 n5 => absurd (hcl 2 _ rfl (hcl 3 _ rfl (hcl 4 _ rfl (x4.resolve_left (by decide)) 3 (by kernel_rfl)) 2 (by kernel_rfl)) 1 (by kernel_rfl)) hnS, fun x8 => absurd (hcl 8 _ rfl (x8.resolve_left (by decide)) 1 (by kernel_rfl)) hnS⟩
            · cases ho
              rw [if_pos (show Region.wanted _ y = true from rfl)]
              have f55 : ρ (.tmp 55) = .slice (some ae) nb cb := (hn 1 _ 55 rfl (by kernel_rfl) rfl).trans (hJ.v1 (hneeds 1 (by kernel_rfl)))
              exact does_ok (v := .pointer (some ae)) (w' := w2) (by simp [go_sem, hreg.const, f55, hbx1, hbx2]) ⟨fun x => hJ.v0 (x.resolve_left (by decide)), fun x => hJ.v1 (x.resolve_left (by decide)), fun _ => rfl, fun x => hJ.v3 (x.resolve_left (by decide)), fun x => hJ.v6 (x.resolve_left (by decide)), fun x => hJ.v7 (x.resolve_left (by decide)), fun x => hJ.v9 (x.resolve_left (by decide)), hJ.f_st , hJ.f_be , fun n5 => hJ.o0 (fun x => n5 (.inr x)), fun x5 => absurd (hcl 3 _ rfl (hcl 4 _ rfl (hcl 5 _ rfl (x5.resolve_left (by decide)) 4 (by kernel_rfl)) 3 (by kernel_rfl)) 2 (by kernel_rfl)) hnS, fun x4 n5 => absurd (hcl 3 _ rfl (hcl 4 _ rfl (x4.resolve_left (by decide)) 3 (by kernel_rfl)) 2 (by kernel_rfl)) hnS, fun x8 => absurd (hcl 8 _ rfl (x8.resolve_left (by decide)) 2 (by kernel_rfl)) hnS⟩
            · cases ho
              rw [if_pos (show Region.wanted _ y = true from rfl)]
              have f56 : ρ (.tmp 56) = .pointer (some ae) := (hn 2 _ 56 rfl (by kernel_rfl) rfl).trans (hJ.v2 (hneeds 2 (by kernel_rfl)))
              have k0 := hJ.f_st
              exact does_ok (v := .int .u32 (yy : Nat)) (w' := w2) (by simp [go_sem, hreg.const, f56, k0]) ⟨fun x => hJ.v0 (x.resolve_left (by decide)), fun x => hJ.v1 (x.resolve_left (by decide)), fun x => hJ.v2 (x.resolve_left (by decide)), fun _ => rfl, fun x => hJ.v6 (x.resolve_left (by decide)), fun x => hJ.v7 (x.resolve_left (by decide)), fun x => hJ.v9 (x.resolve_left (by decide)), hJ.f_st , hJ.f_be , fun n5 => hJ.o0 (fun x => n5 (.inr x)), fun x5 => absurd (hcl 4 _ rfl (hcl 5 _ rfl (x5.resolve_left (by decide)) 4 (by kernel_rfl)) 3 (by kernel_rfl)) hnS, fun x4 n5 => absurd (hcl 4 _ rfl (x4.resolve_left (by decide)) 3 (by kernel_rfl)) hnS, fun x8 => absurd (hcl 8 _ rfl (x8.resolve_left (by decide)) 3 (by kernel_rfl)) hnS⟩
            · cases ho
              rw [if_pos (show Region.wanted _ y = true from rfl)]
              have f57 : ρ (.tmp 57) = .int .u32 (yy : Nat) := (hn 3 _ 57 rfl (by kernel_rfl) rfl).trans (hJ.v3 (hneeds 3 (by kernel_rfl)))
              have hbw : Below w2.heap.size w2 (w2.alloc (.cells #[.int .u32 (yy : Nat)] 30)) := (Below.refl _ _).alloc (Nat.le_refl _) _
              have hnew := World.alloc_heap_new w2 (.cells #[.int .u32 (yy : Nat)] 30)
              exact does_ok (v := .slice (some ⟨w2.heap.size, 0, none⟩) 1 1) (w' := w2.alloc (.cells #[.int .u32 (yy : Nat)] 30)) (by simp [go_sem, hreg.const, f57]) ⟨fun x => hJ.v0 (x.resolve_left (by decide)), fun x => hJ.v1 (x.resolve_left (by decide)), fun x => hJ.v2 (x.resolve_left (by decide)), fun x => hJ.v3 (x.resolve_left (by decide)), fun x => hJ.v6 (x.resolve_left (by decide)), fun x => hJ.v7 (x.resolve_left (by decide)), fun x => hJ.v9 (x.resolve_left (by decide)), cell_keep hbw hJ.f_st, Below.thn hJ.f_be hbw, fun n5 => (fun m5 => (hJ.o0 m5).below hbw) (fun x => n5 (.inr x)), fun x5 => absurd (hcl 5 _ rfl (x5.resolve_left (by decide)) 4 (by kernel_rfl)) hnS, fun x4 n5 => (fun _ m5 => ⟨w2.heap.size, rfl, hnew⟩) () (fun x => n5 (.inr x)), fun x8 => absurd (hcl 8 _ rfl (x8.resolve_left (by decide)) 4 (by kernel_rfl)) hnS⟩
            · cases ho
              rw [if_pos (show Region.wanted _ y = true from rfl)]
              have f54 : ρ (.tmp 54) = .slice Ao no co := (hn 0 _ 54 rfl (by kernel_rfl) rfl).trans (hJ.v0 (hneeds 0 (by kernel_rfl)))
              have f58 : ρ (.tmp 58) = r 4 := hn 4 _ 58 rfl (by kernel_rfl) rfl
              have s4 := hneeds 4 (by kernel_rfl)
              have o := hJ.o0 hnS
              obtain ⟨k, e4, hk⟩ := hJ.s0 s4 hnS
              obtain ⟨A', c', w5, r5, o5, hc1, hc2, hg⟩ := push_u1 yy k o hJ.f_be hk hyy hL
              rw [e4] at f58
              exact does_ok (v := .slice A' (L.length + 1) c') (w' := w5) (by simp only [execOp, List.getElem_toArray, List.getElem_cons_succ, List.getElem_cons_zero, resolve, invoke, builtin, Sem.run_bind, Sem.run_pure, Result.andThen_ok, List.map_toArray, List.map_cons, List.map_nil, f54, f58, r5]) ⟨fun x => hJ.v0 (x.resolve_left (by decide)), fun x => hJ.v1 (x.resolve_left (by decide)), fun x => hJ.v2 (x.resolve_left (by decide)), fun x => hJ.v3 (x.resolve_left (by decide)), fun x => hJ.v6 (x.resolve_left (by decide)), fun x => hJ.v7 (x.resolve_left (by decide)), fun x => hJ.v9 (x.resolve_left (by decide)), keep_low hJ.f_st hJ.f_be hlow hg (fun k hk => (OwnL.base o.1 k hk).1), hJ.f_be.grown hg hJ.f_be.size (fun k hk => (OwnL.base o.1 k hk).1), fun n5 => absurd (.inl rfl) n5, fun x5 => (fun _ => ⟨A', c', rfl, o5, hc1, hc2⟩) (), fun x4 n5 => absurd (.inl rfl) n5, fun x8 => absurd (hcl 8 _ rfl (x8.resolve_left (by decide)) 5 (by kernel_rfl)) hnS⟩
            · cases ho
              rw [if_pos (show Region.wanted _ y = true from rfl)]
              have f1 : ρ (.tmp 1) = .slice (some ae) nb cb := hf 1 (by kernel_rfl)
              refine does_move ?_
              rw [f1]
              exact ⟨fun x => hJ.v0 (x.resolve_left (by decide)), fun x => hJ.v1 (x.resolve_left (by decide)), fun x => hJ.v2 (x.resolve_left (by decide)), fun x => hJ.v3 (x.resolve_left (by decide)), fun _ => rfl, fun x => hJ.v7 (x.resolve_left (by decide)), fun x => hJ.v9 (x.resolve_left (by decide)), hJ.f_st , hJ.f_be , fun n5 => hJ.o0 (fun x => n5 (.inr x)), fun x5 => hJ.o5 (x5.resolve_left (by decide)), fun x4 n5 => hJ.s0 (x4.resolve_left (by decide)) (fun x => n5 (.inr x)), fun x8 => hJ.o9 (x8.resolve_left (by decide))⟩
            · cases ho
              rw [if_pos (show Region.wanted _ y = true from rfl)]
              have f60 : ρ (.tmp 60) = .slice (some ae) nb cb := (hn 6 _ 60 rfl (by kernel_rfl) rfl).trans (hJ.v6 (hneeds 6 (by kernel_rfl)))
              exact does_ok (v := .slice B2 k2 d2) (w' := w2) (by simp [go_sem, hreg.const, f60, hcutb]) ⟨fun x => hJ.v0 (x.resolve_left (by decide)), fun x => hJ.v1 (x.resolve_left (by decide)), fun x => hJ.v2 (x.resolve_left (by decide)), fun x => hJ.v3 (x.resolve_left (by decide)), fun x => hJ.v6 (x.resolve_left (by decide)), fun _ => rfl, fun x => hJ.v9 (x.resolve_left (by decide)), hJ.f_st , hJ.f_be , fun n5 => hJ.o0 (fun x => n5 (.inr x)), fun x5 => hJ.o5 (x5.resolve_left (by decide)), fun x4 n5 => hJ.s0 (x4.resolve_left (by decide)) (fun x => n5 (.inr x)), fun x8 => hJ.o9 (x8.resolve_left (by decide))⟩
            · cases ho
              rw [if_pos (show Region.wanted _ y = true from rfl)]
              have f59 : ρ (.tmp 59) = r 5 := hn 5 _ 59 rfl (by kernel_rfl) rfl
              refine does_assign ?_
              rw [f59]
              exact ⟨fun x => hJ.v0 (x.resolve_left (by decide)), fun x => hJ.v1 (x.resolve_left (by decide)), fun x => hJ.v2 (x.resolve_left (by decide)), fun x => hJ.v3 (x.resolve_left (by decide)), fun x => hJ.v6 (x.resolve_left (by decide)), fun x => hJ.v7 (x.resolve_left (by decide)), fun x => hJ.v9 (x.resolve_left (by decide)), hJ.f_st , hJ.f_be , fun n5 => absurd (.inr (hneeds 5 (by kernel_rfl))) n5, fun x5 => hJ.o5 (x5.resolve_left (by decide)), fun x4 n5 => absurd (.inr (hneeds 5 (by kernel_rfl))) n5, fun x8 => (fun _ => rfl) ()⟩
            · cases ho
              rw [if_pos (show Region.wanted _ y = true from rfl)]
              have f61 : ρ (.tmp 61) = .slice B2 k2 d2 := (hn 7 _ 61 rfl (by kernel_rfl) rfl).trans (hJ.v7 (hneeds 7 (by kernel_rfl)))
              refine does_assign ?_
              rw [f61]
              exact ⟨fun x => hJ.v0 (x.resolve_left (by decide)), fun x => hJ.v1 (x.resolve_left (by decide)), fun x => hJ.v2 (x.resolve_left (by decide)), fun x => hJ.v3 (x.resolve_left (by decide)), fun x => hJ.v6 (x.resolve_left (by decide)), fun x => hJ.v7 (x.resolve_left (by decide)), fun _ => rfl, hJ.f_st , hJ.f_be , fun n5 => absurd (.inr (hneeds 5 (by kernel_rfl))) n5, fun x5 => hJ.o5 (x5.resolve_left (by decide)), fun x4 n5 => absurd (.inr (hneeds 5 (by kernel_rfl))) n5, fun x8 => hJ.o9 (x8.resolve_left (by decide))⟩
          case refine_2 =>
            intro a w2 S r hJ hall hd hs hfacts hrest
            obtain ⟨A', c', e5, hO, hc1, hc2⟩ := hJ.o5 (hall 5 (by decide))
            have k5 : r 8 = .slice A' (L.length + 1) c' := (hJ.o9 (hall 8 (by decide))).trans e5
            have q5 : a.tmps.getD 5 undef = Value.slice A' (L.length + 1) c' := (hfacts 8 _ 5 rfl rfl).trans k5
            have q1 : a.tmps.getD 1 undef = Value.slice B2 k2 d2 := (hfacts 9 _ 1 rfl rfl).trans (hJ.v9 (hall 9 (by decide)))
            have ha := frame_of hd hs hrest [1, 5, 54, 55, 56, 57, 58, 59, 60, 61] (by kernel_rfl)
            simp only [q5, q1, List.foldl, List.setIfInBounds_toArray, List.set_cons_succ, List.set_cons_zero] at ha
            clear q5 q1 hd hs hfacts hrest
            generalize a.tmps.getD = gg at ha
            subst ha
            have HN : Hid (EtI w la lb (L ++ [yy]) ra (rb.drop 1) (some ad) na ca B2 k2 d2 (.slice A' (L.length + 1) c') w2) := Lib.hid
              ⟨HI.out.a, HRB2.out, HI.out.mc, (by have := HI.out.kd; have := HNM.out; omega), hO, hJ.f_be, by rw [List.append_assoc]; rw [show [yy] ++ eitherL ra (rb.drop 1) = eitherL ra rb from HE.out.symm]; exact HI.out.eq, by have := HI.out.len; have := HNM.out; rw [List.length_append]; simp only [List.length_singleton]; omega⟩
            obtain ⟨n9, hn9⟩ : ∃ n9, n9 = L.length + 1 := ⟨_, rfl⟩
            rw [← hn9] at HN ⊢
            clear hJ hall hO hn9 e5
            have hdec1 : m2 + 1 = na := HNM.out.1
            have hdec2 : k2 + 1 = nb := HNM.out.2.1
            go_wp2
            exact ⟨⟨ra, (rb.drop 1), L ++ [yy], some ad, na, ca, B2, k2, d2, rfl, rfl, HN⟩, by simp [vlen]; try omega⟩
        · have HE : Hid (eitherL ra rb = x :: eitherL (ra.drop 1) (rb.drop 1)) := Lib.hid (by rw [HEQ.out, if_neg (by omega), if_neg (by omega)])
          have hlow := hlow1
          go_upto_region 6 with fail
          go_quiet (fail)
          go_wp2_with fail
          obtain ⟨wq, hwq⟩ : ∃ wq, wq = wp.drewN nq := ⟨_, rfl⟩
          rw [← hwq]
          have hbq : Below wr.heap.size wr wq := Below.thn hbp (by rw [hwq]; exact below_drewN (Below.refl _ _) nq)
          clear hwq x0 y0 hxy hyx
          refine wp_region_flowG (by kernel_rfl) (E3 w Ao no co ad na ca ae nb cb A2 m2 c2 B2 k2 d2 x L) (fun r => ⟨fun h => h.elim, fun h => h.elim, fun h => h.elim, fun h => h.elim, fun h => h.elim, fun h => h.elim, fun h => h.elim, fun h => h.elim, fun h => h.elim, fun h => h.elim, cell_keep hbq X0.out, (Below.thn HBs.out hbq).trans (Below.drew (Below.refl _ _)), fun _ => (HO.out.below hbq).below (Below.drew (Below.refl _ _)), fun h => h.elim, fun h => h.elim, fun h => h.elim⟩) (by kernel_rfl) (by kernel_rfl) ?_ ?_
          case refine_1 =>
            intro i o ho ρ y w2 S r hJ hnS hneeds hcl hreg hn hf hyb hyn
            have hi := (Array.getElem?_eq_some_iff.1 ho).1
            rcases Nat.lt_or_ge i 13 with hi2 | hi2
            case inr => simp at hi; omega
            obtain rfl | rfl | rfl | rfl | rfl | rfl | rfl | rfl | rfl | rfl | rfl | rfl | rfl : i = 0 ∨ i = 1 ∨ i = 2 ∨ i = 3 ∨ i = 4 ∨ i = 5 ∨ i = 6 ∨ i = 7 ∨ i = 8 ∨ i = 9 ∨ i = 10 ∨ i = 11 ∨ i = 12 := by omega
            · cases ho
              rw [if_pos (show Region.wanted _ y = true from rfl)]
              have f5 : ρ (.tmp 5) = .slice Ao no co := hf 5 (by kernel_rfl)
              refine does_move ?_
              rw [f5]
              exact ⟨fun _ => rfl, fun x => hJ.v1 (x.resolve_left (by decide)), fun x => hJ.v2 (x.resolve_left (by decide)), fun x => hJ.v3 (x.resolve_left (by decide)), fun x => hJ.v6 (x.resolve_left (by decide)), fun x => hJ.v7 (x.resolve_left (by decide)), fun x => hJ.v8 (x.resolve_left (by decide)), fun x => hJ.v9 (x.resolve_left (by decide)), fun x => hJ.v11 (x.resolve_left (by decide)), fun x => hJ.v12 (x.resolve_left (by decide)), hJ.f_st , hJ.f_be , fun n5 => hJ.o0 (fun x => n5 (.inr x)), fun x5 => absurd (hcl 5 _ rfl (x5.resolve_left (by decide)) 0 (by kernel_rfl)) hnS, fun x4 n5 => hJ.s0 (x4.resolve_left (by decide)) (fun x => n5 (.inr x)), fun x10 => absurd (hcl 10 _ rfl (x10.resolve_left (by decide)) 0 (by kernel_rfl)) hnS⟩
            · cases ho
              rw [if_pos (show Region.wanted _ y = true from rfl)]
              have f0 : ρ (.tmp 0) = .slice (some ad) na ca := hf 0 (by kernel_rfl)
              refine does_move ?_
              rw [f0]
              exact ⟨fun x => hJ.v0 (x.resolve_left (by decide)), fun _ => rfl, fun x => hJ.v2 (x.resolve_left (by decide)), fun x => hJ.v3 (x.resolve_left (by decide)), fun x => hJ.v6 (x.resolve_left (by decide)), fun x => hJ.v7 (x.resolve_left (by decide)), fun x => hJ.v8 (x.resolve_left (by decide)), fun x => hJ.v9 (x.resolve_left (by decide)), fun x => hJ.v11 (x.resolve_left (by decide)), fun x => hJ.v12 (x.resolve_left (by decide)), hJ.f_st , hJ.f_be , fun n5 => hJ.o0 (fun x => n5 (.inr x)), fun x5 => absurd (hcl 2 _ rfl (hcl 3 _ rfl (hcl 4 _ rfl (hcl 5 _ rfl (x5.resolve_left (by decide)) 4 (by kernel_rfl)) 3 (by kernel_rfl)) 2 (by kernel_rfl)) 1 (by kernel_rfl)) hnS, fun x4 n5 => absurd (hcl 2 _ rfl (hcl 3 _ rfl (hcl 4 _ rfl (x4.resolve_left (by decide)) 3 (by kernel_rfl)) 2 (by kernel_rfl)) 1 (by kernel_rfl)) hnS, fun x10 => absurd (hcl 10 _ rfl (x10.resolve_left (by decide)) 1 (by kernel_rfl)) hnS⟩
            · cases ho
              rw [if_pos (show Region.wanted _ y = true from rfl)]
              have f21 : ρ (.tmp 21) = .slice (some ad) na ca := (hn 1 _ 21 rfl (by kernel_rfl) rfl).trans (hJ.v1 (hneeds 1 (by kernel_rfl)))
              exact does_ok (v := .pointer (some ad)) (w' := w2) (by simp [go_sem, hreg.const, f21, hax1, hax2]) ⟨fun x => hJ.v0 (x.resolve_left (by decide)), fun x => hJ.v1 (x.resolve_left (by decide)), fun _ => rfl, fun x => hJ.v3 (x.resolve_left (by decide)), fun x => hJ.v6 (x.resolve_left (by decide)), fun x => hJ.v7 (x.resolve_left (by decide)), fun x => hJ.v8 (x.resolve_left (by decide)), fun x => hJ.v9 (x.resolve_left (by decide)), fun x => hJ.v11 (x.resolve_left (by decide)), fun x => hJ.v12 (x.resolve_left (by decide)), hJ.f_st , hJ.f_be , fun n5 => hJ.o0 (fun x => n5 (.inr x)), fun x5 => absurd (hcl 3 _ rfl (hcl 4 _ rfl (hcl 5 _ rfl (x5.resolve_left (by decide)) 4 (by kernel_rfl)) 3 (by kernel_rfl)) 2 (by kernel_rfl)) hnS, fun x4 n5 => absurd (hcl 3 _ rfl (hcl 4 _ rfl (x4.resolve_left (by decide)) 3 (by kernel_rfl)) 2 (by kernel_rfl)) hnS, fun x10 => absurd (hcl 10 _ rfl (x10.resolve_left (by decide)) 2 (by kernel_rfl)) hnS⟩
            · cases ho
              rw [if_pos (show Region.wanted _ y = true from rfl)]
              have f22 : ρ (.tmp 22) = .pointer (some ad) := (hn 2 _ 22 rfl (by kernel_rfl) rfl).trans (hJ.v2 (hneeds 2 (by kernel_rfl)))
              have k0 := hJ.f_st
              exact does_ok (v := .int .u32 (x : Nat)) (w' := w2) (by simp [go_sem, hreg.const, f22, k0]) ⟨fun x => hJ.v0 (x.resolve_left (by decide)), fun x => hJ.v1 (x.resolve_left (by decide)), fun x => hJ.v2 (x.resolve_left (by decide)), fun _ => rfl, fun x => hJ.v6 (x.resolve_left (by decide)), fun x => hJ.v7 (x.resolve_left (by decide)), fun x => hJ.v8 (x.resolve_left (by decide)), fun x => hJ.v9 (x.resolve_left (by decide)), fun x => hJ.v11 (x.resolve_left (by decide)), fun x => hJ.v12 (x.resolve_left (by decide)), hJ.f_st , hJ.f_be , fun n5 => hJ.o0 (fun x => n5 (.inr x)), fun x5 => absurd (hcl 4 _ rfl (hcl 5 _ rfl (x5.resolve_left (by decide)) 4 (by kernel_rfl)) 3 (by kernel_rfl)) hnS, fun x4 n5 => absurd (hcl 4 _ rfl (x4.resolve_left (by decide)) 3 (by kernel_rfl)) hnS, fun x10 => absurd (hcl 10 _ rfl (x10.resolve_left (by decide)) 3 (by kernel_rfl)) hnS⟩
            · cases ho
              rw [if_pos (show Region.wanted _ y = true from rfl)]
              have f23 : ρ (.tmp 23) = .int .u32 (x : Nat) := (hn 3 _ 23 rfl (by kernel_rfl) rfl).trans (hJ.v3 (hneeds 3 (by kernel_rfl)))
              have hbw : Below w2.heap.size w2 (w2.alloc (.cells #[.int .u32 (x : Nat)] 30)) := (Below.refl _ _).alloc (Nat.le_refl _) _
              have hnew := World.alloc_heap_new w2 (.cells #[.int .u32 (x : Nat)] 30)
              exact does_ok (v := .slice (some ⟨w2.heap.size, 0, none⟩) 1 1) (w' := w2.alloc (.cells #[.int .u32 (x : Nat)] 30)) (by simp [go_sem, hreg.const, f23]) ⟨fun x => hJ.v0 (x.resolve_left (by decide)), fun x => hJ.v1 (x.resolve_left (by decide)), fun x => hJ.v2 (x.resolve_left (by decide)), fun x => hJ.v3 (x.resolve_left (by decide)), fun x => hJ.v6 (x.resolve_left (by decide)), fun x => hJ.v7 (x.resolve_left (by decide)), fun x => hJ.v8 (x.resolve_left (by decide)), fun x => hJ.v9 (x.resolve_left (by decide)), fun x => hJ.v11 (x.resolve_left (by decide)), fun x => hJ.v12 (x.resolve_left (by decide)), cell_keep hbw hJ.f_st, Below.thn hJ.f_be hbw, fun n5 => (fun m5 => (hJ.o0 m5).below hbw) (fun x => n5 (.inr x)), fun x5 => absurd (hcl 5 _ rfl (x5.resolve_left (by decide)) 4 (by kernel_rfl)) hnS, fun x4 n5 => (fun _ m5 => ⟨w2.heap.size, rfl, hnew⟩) () (fun x => n5 (.inr x)), fun x10 => absurd (hcl 10 _ rfl (x10.resolve_left (by decide)) 4 (by kernel_rfl)) hnS⟩
            · cases ho
              rw [if_pos (show Region.wanted _ y = true from rfl)]
              have f20 : ρ (.tmp 20) = .slice Ao no co := (hn 0 _ 20 rfl (by kernel_rfl) rfl).trans (hJ.v0 (hneeds 0 (by kernel_rfl)))
              have f24 : ρ (.tmp 24) = r 4 := hn 4 _ 24 rfl (by kernel_rfl) rfl
              have s4 := hneeds 4 (by kernel_rfl)
              have o := hJ.o0 hnS
              obtain ⟨k, e4, hk⟩ := hJ.s0 s4 hnS
              obtain ⟨A', c', w5, r5, o5, hc1, hc2, hg⟩ := push_u1 x k o hJ.f_be hk hx hL
              rw [e4] at f24
              exact does_ok (v := .slice A' (L.length + 1) c') (w' := w5) (by simp only [execOp, List.getElem_toArray, List.getElem_cons_succ, List.getElem_cons_zero, resolve, invoke, builtin, Sem.run_bind, Sem.run_pure, Result.andThen_ok, List.map_toArray, List.map_cons, List.map_nil, f20, f24, r5]) ⟨fun x => hJ.v0 (x.resolve_left (by decide)), fun x => hJ.v1 (x.resolve_left (by decide)), fun x => hJ.v2 (x.resolve_left (by decide)), fun x => hJ.v3 (x.resolve_left (by decide)), fun x => hJ.v6 (x.resolve_left (by decide)), fun x => hJ.v7 (x.resolve_left (by decide)), fun x => hJ.v8 (x.resolve_left (by decide)), fun x => hJ.v9 (x.resolve_left (by decide)), fun x => hJ.v11 (x.resolve_left (by decide)), fun x => hJ.v12 (x.resolve_left (by decide)), keep_low hJ.f_st hJ.f_be hlow hg (fun k hk => (OwnL.base o.1 k hk).1), hJ.f_be.grown hg hJ.f_be.size (fun k hk => (OwnL.base o.1 k hk).1), fun n5 => absurd (.inl rfl) n5, fun x5 => (fun _ => ⟨A', c', rfl, o5, hc1, hc2⟩) (), fun x4 n5 => absurd (.inl rfl) n5, fun x10 => absurd (hcl 10 _ rfl (x10.resolve_left (by decide)) 5 (by kernel_rfl)) hnS⟩
            · cases ho
              rw [if_pos (show Region.wanted _ y = true from rfl)]
              have f0 : ρ (.tmp 0) = .slice (some ad) na ca := hf 0 (by kernel_rfl)
              refine does_move ?_
              rw [f0]
              exact ⟨fun x => hJ.v0 (x.resolve_left (by decide)), fun x => hJ.v1 (x.resolve_left (by decide)), fun x => hJ.v2 (x.resolve_left (by decide)), fun x => hJ.v3 (x.resolve_left (by decide)), fun _ => rfl, fun x => hJ.v7 (x.resolve_left (by decide)), fun x => hJ.v8 (x.resolve_left (by decide)), fun x => hJ.v9 (x.resolve_left (by decide)), fun x => hJ.v11 (x.resolve_left (by decide)), fun x => hJ.v12 (x.resolve_left (by decide)), hJ.f_st , hJ.f_be , fun n5 => hJ.o0 (fun x => n5 (.inr x)), fun x5 => hJ.o5 (x5.resolve_left (by decide)), fun x4 n5 => hJ.s0 (x4.resolve_left (by decide)) (fun x => n5 (.inr x)), fun x10 => hJ.o9 (x10.resolve_left (by decide))⟩
            · cases ho
              rw [if_pos (show Region.wanted _ y = true from rfl)]
              have f26 : ρ (.tmp 26) = .slice (some ad) na ca := (hn 6 _ 26 rfl (by kernel_rfl) rfl).trans (hJ.v6 (hneeds 6 (by kernel_rfl)))
              exact does_ok (v := .slice A2 m2 c2) (w' := w2) (by simp [go_sem, hreg.const, f26, hcuta]) ⟨fun x => hJ.v0 (x.resolve_left (by decide)), fun x => hJ.v1 (x.resolve_left (by decide)), fun x => hJ.v2 (x.resolve_left (by decide)), fun x => hJ.v3 (x.resolve_left (by decide)), fun x => hJ.v6 (x.resolve_left (by decide)), fun _ => rfl, fun x => hJ.v8 (x.resolve_left (by decide)), fun x => hJ.v9 (x.resolve_left (by decide)), fun x => hJ.v11 (x.resolve_left (by decide)), fun x => hJ.v12 (x.resolve_left (by decide)), hJ.f_st , hJ.f_be , fun n5 => hJ.o0 (fun x => n5 (.inr x)), fun x5 => hJ.o5 (x5.resolve_left (by decide)), fun x4 n5 => hJ.s0 (x4.resolve_left (by decide)) (fun x => n5 (.inr x)), fun x10 => hJ.o9 (x10.resolve_left (by decide))⟩
            · cases ho
              rw [if_pos (show Region.wanted _ y = true from rfl)]
              have f1 : ρ (.tmp 1) = .slice (some ae) nb cb := hf 1 (by kernel_rfl)
              refine does_move ?_
              rw [f1]
              exact ⟨fun x => hJ.v0 (x.resolve_left (by decide)), fun x => hJ.v1 (x.resolve_left (by decide)), fun x => hJ.v2 (x.resolve_left (by decide)), fun x => hJ.v3 (x.resolve_left (by decide)), fun x => hJ.v6 (x.resolve_left (by decide)), fun x => hJ.v7 (x.resolve_left (by decide)), fun _ => rfl, fun x => hJ.v9 (x.resolve_left (by decide)), fun x => hJ.v11 (x.resolve_left (by decide)), fun x => hJ.v12 (x.resolve_left (by decide)), hJ.f_st , hJ.f_be , fun n5 => hJ.o0 (fun x => n5 (.inr x)), fun x5 => hJ.o5 (x5.resolve_left (by decide)), fun x4 n5 => hJ.s0 (x4.resolve_left (by decide)) (fun x => n5 (.inr x)), fun x10 => hJ.o9 (x10.resolve_left (by decide))⟩
            · cases ho
              rw [if_pos (show Region.wanted _ y = true from rfl)]
              have f28 : ρ (.tmp 28) = .slice (some ae) nb cb := (hn 8 _ 28 rfl (by kernel_rfl) rfl).trans (hJ.v8 (hneeds 8 (by kernel_rfl)))
              exact does_ok (v := .slice B2 k2 d2) (w' := w2) (by simp [go_sem, hreg.const, f28, hcutb]) ⟨fun x => hJ.v0 (x.resolve_left (by decide)), fun x => hJ.v1 (x.resolve_left (by decide)), fun x => hJ.v2 (x.resolve_left (by decide)), fun x => hJ.v3 (x.resolve_left (by decide)), fun x => hJ.v6 (x.resolve_left (by decide)), fun x => hJ.v7 (x.resolve_left (by decide)), fun x => hJ.v8 (x.resolve_left (by decide)), fun _ => rfl, fun x => hJ.v11 (x.resolve_left (by decide)), fun x => hJ.v12 (x.resolve_left (by decide)), hJ.f_st , hJ.f_be , fun n5 => hJ.o0 (fun x => n5 (.inr x)), fun x5 => hJ.o5 (x5.resolve_left (by decide)), fun x4 n5 => hJ.s0 (x4.resolve_left (by decide)) (fun x => n5 (.inr x)), fun x10 => hJ.o9 (x10.resolve_left (by decide))⟩
            · cases ho
              rw [if_pos (show Region.wanted _ y = true from rfl)]
              have f25 : ρ (.tmp 25) = r 5 := hn 5 _ 25 rfl (by kernel_rfl) rfl
              refine does_assign ?_
              rw [f25]
              exact ⟨fun x => hJ.v0 (x.resolve_left (by decide)), fun x => hJ.v1 (x.resolve_left (by decide)), fun x => hJ.v2 (x.resolve_left (by decide)), fun x => hJ.v3 (x.resolve_left (by decide)), fun x => hJ.v6 (x.resolve_left (by decide)), fun x => hJ.v7 (x.resolve_left (by decide)), fun x => hJ.v8 (x.resolve_left (by decide)), fun x => hJ.v9 (x.resolve_left (by decide)), fun x => hJ.v11 (x.resolve_left (by decide)), fun x => hJ.v12 (x.resolve_left (by decide)), hJ.f_st , hJ.f_be , fun n5 => absurd (.inr (hneeds 5 (by kernel_rfl))) n5, fun x5 => hJ.o5 (x5.resolve_left (by decide)), fun x4 n5 => absurd (.inr (hneeds 5 (by kernel_rfl))) n5, fun x10 => (fun _ => rfl) ()⟩
            · cases ho
              rw [if_pos (show Region.wanted _ y = true from rfl)]
              have f27 : ρ (.tmp 27) = .slice A2 m2 c2 := (hn 7 _ 27 rfl (by kernel_rfl) rfl).trans (hJ.v7 (hneeds 7 (by kernel_rfl)))
              refine does_assign ?_
              rw [f27]
              exact ⟨fun x => hJ.v0 (x.resolve_left (by decide)), fun x => hJ.v1 (x.resolve_left (by decide)), fun x => hJ.v2 (x.resolve_left (by decide)), fun x => hJ.v3 (x.resolve_left (by decide)), fun x => hJ.v6 (x.resolve_left (by decide)), fun x => hJ.v7 (x.resolve_left (by decide)), fun x => hJ.v8 (x.resolve_left (by decide)), fun x => hJ.v9 (x.resolve_left (by decide)), fun _ => rfl, fun x => hJ.v12 (x.resolve_left (by decide)), hJ.f_st , hJ.f_be , fun n5 => absurd (.inr (hneeds 5 (by kernel_rfl))) n5, fun x5 => hJ.o5 (x5.resolve_left (by decide)), fun x4 n5 => absurd (.inr (hneeds 5 (by kernel_rfl))) n5, fun x10 => hJ.o9 (x10.resolve_left (by decide))⟩
            · cases ho
              rw [if_pos (show Region.wanted _ y = true from rfl)]
              have f29 : ρ (.tmp 29) = .slice B2 k2 d2 := (hn 9 _ 29 rfl (by kernel_rfl) rfl).trans (hJ.v9 (hneeds 9 (by kernel_rfl)))
              refine does_assign ?_
              rw [f29]
              exact ⟨fun x => hJ.v0 (x.resolve_left (by decide)), fun x => hJ.v1 (x.resolve_left (by decide)), fun x => hJ.v2 (x.resolve_left (by decide)), fun x => hJ.v3 (x.resolve_left (by decide)), fun x => hJ.v6 (x.resolve_left (by decide)), fun x => hJ.v7 (x.resolve_left (by decide)), fun x => hJ.v8 (x.resolve_left (by decide)), fun x => hJ.v9 (x.resolve_left (by decide)), fun x => hJ.v11 (x.resolve_left (by decide)), fun _ => rfl, hJ.f_st , hJ.f_be , fun n5 => absurd (.inr (hneeds 5 (by kernel_rfl))) n5, fun x5 => hJ.o5 (x5.resolve_left (by decide)), fun x4 n5 => absurd (.inr (hneeds 5 (by kernel_rfl))) n5, fun x10 => hJ.o9 (x10.resolve_left (by decide))⟩
          case refine_2 =>
            intro a w2 S r hJ hall hd hs hfacts hrest
            obtain ⟨A', c', e5, hO, hc1, hc2⟩ := hJ.o5 (hall 5 (by decide))
            have k5 : r 10 = .slice A' (L.length + 1) c' := (hJ.o9 (hall 10 (by decide))).trans e5
            have q5 : a.tmps.getD 5 undef = Value.slice A' (L.length + 1) c' := (hfacts 10 _ 5 rfl rfl).trans k5
            have q0 : a.tmps.getD 0 undef = Value.slice A2 m2 c2 := (hfacts 11 _ 0 rfl rfl).trans (hJ.v11 (hall 11 (by decide)))
            have q1 : a.tmps.getD 1 undef = Value.slice B2 k2 d2 := (hfacts 12 _ 1 rfl rfl).trans (hJ.v12 (hall 12 (by decide)))
            have ha := frame_of hd hs hrest [0, 1, 5, 20, 21, 22, 23, 24, 25, 26, 27, 28, 29] (by kernel_rfl)
            simp only [q5, q0, q1, List.foldl, List.setIfInBounds_toArray, List.set_cons_succ, List.set_cons_zero] at ha
            clear q5 q0 q1 hd hs hfacts hrest
            generalize a.tmps.getD = gg at ha
            subst ha
            have HN : Hid (EtI w la lb (L ++ [x]) (ra.drop 1) (rb.drop 1) A2 m2 c2 B2 k2 d2 (.slice A' (L.length + 1) c') w2) := Lib.hid
              ⟨HRA2.out, HRB2.out, (by have := HI.out.mc; have := HNM.out; omega), (by have := HI.out.kd; have := HNM.out; omega), hO, hJ.f_be, by rw [List.append_assoc]; rw [show [x] ++ eitherL (ra.drop 1) (rb.drop 1) = eitherL ra rb from HE.out.symm]; exact HI.out.eq, by have := HI.out.len; have := HNM.out; rw [List.length_append]; simp only [List.length_singleton]; omega⟩
            obtain ⟨n9, hn9⟩ : ∃ n9, n9 = L.length + 1 := ⟨_, rfl⟩
            rw [← hn9] at HN ⊢
            clear hJ hall hO hn9 e5
            have hdec1 : m2 + 1 = na := HNM.out.1
            have hdec2 : k2 + 1 = nb := HNM.out.2.1
            go_wp2
            exact ⟨⟨(ra.drop 1), (rb.drop 1), L ++ [x], A2, m2, c2, B2, k2, d2, rfl, rfl, HN⟩, by simp [vlen]; try omega⟩
    · obtain ⟨Ao, co, ho, lo, mo, _⟩ := OwnL.rd HI.out.o.1
      obtain ⟨no, hno⟩ : ∃ no, no = L.length := ⟨_, rfl⟩
      rw [← hno] at ho lo
      subst ho
      have hlen := HI.out.len
      have hlen2 := HLE.out
      have h1 := run_append_rd (P := Try.prog) (c := ca) w.heap.size 38 38 30 (.int .u32 0) 4 Try.underlying38 infoU rfl (by decide) encU_one HI.out.o.1 (HI.out.a.below HI.out.be).rd (by omega) HI.out.be.size
      obtain ⟨v1, w1, r1, o1, g1, _⟩ := h1
      have hb1 : Below w.heap.size w w1 := HI.out.be.grown g1 HI.out.be.size (fun j hj => (OwnL.base HI.out.o.1 j hj).1)
      obtain ⟨A1, c1, e1, l1, m1, _⟩ := OwnL.rd o1
      have hln1 : (L ++ ra).length = L.length + na := by rw [List.length_append, HI.out.a.len]
      have h2 := run_append_rd (P := Try.prog) (c := cb) w.heap.size 38 38 30 (.int .u32 0) 4 Try.underlying38 infoU rfl (by decide) encU_one o1 (HI.out.b.below hb1).rd (by omega) hb1.size
      obtain ⟨v2, w2, r2, o2, g2, _⟩ := h2
      have hb2 : Below w.heap.size w w2 := hb1.grown g2 hb1.size (fun j hj => (OwnL.base o1 j hj).1)
      have HF : Hid (OwnU w2 w.heap.size v2 (eitherL la lb) ∧ Below w.heap.size w w2) := Lib.hid ⟨by
        have e : L ++ ra ++ rb = eitherL la lb := by
          rw [← HI.out.eq, List.append_assoc]
          congr 1
          rcases Nat.eq_zero_or_pos na with h | h
          · rw [List.eq_nil_of_length_eq_zero (l := ra) (by rw [HI.out.a.len, h]), either_nil]; rfl
          · have h0 : nb = 0 := by omega
            rw [List.eq_nil_of_length_eq_zero (l := rb) (by rw [HI.out.b.len, h0]), either_nil']; simp
        rw [← e]
        exact ⟨o2, (HI.out.o.2.append HI.out.a.lt).append HI.out.b.lt⟩, hb2⟩
      obtain ⟨N1, hN1⟩ : ∃ N1, N1 = (L ++ ra).length := ⟨_, rfl⟩
      rw [← hN1] at e1 l1
      subst e1
      obtain ⟨A2, c2, e2, l2, m2, _⟩ := OwnL.rd HF.out.1.1
      obtain ⟨N2, hN2⟩ : ∃ N2, N2 = (eitherL la lb).length := ⟨_, rfl⟩
      rw [← hN2] at e2 l2
      subst e2
      clear o1 g1 hb1 hln1 o2 g2 hb2 hlen hlen2 hN1 hN2 hno
      by_cases hna : (0 : Int) < (na : Int)
      · have hnb : ¬ (0 : Int) < (nb : Int) := by omega
        have hna2 : 0 < na := by omega
        have hnb2 : ¬ 0 < nb := by omega
        go_wp2_with (first | (at_builtin; refine wpl_append_run rfl _ _ _ rfl rfl rfl r1 ?_) | (at_builtin; refine wpl_append_run rfl _ _ _ rfl rfl rfl r2 ?_))
        go_ret
        exact ⟨_, rfl, HF.out.1, HF.out.2⟩
      · have hna2 : ¬ 0 < na := by omega
        go_wp2_with (first | (at_builtin; refine wpl_append_run rfl _ _ _ rfl rfl rfl r1 ?_) | (at_builtin; refine wpl_append_run rfl _ _ _ rfl rfl rfl r2 ?_))
        go_ret
        exact ⟨_, rfl, HF.out.1, HF.out.2⟩
end Go.Proofs.Ytaaddckhldccjaa
