/- A row of rows, two by two. -/
import Derived.Test.YtaaddckhldccjaaEit
import Derived.Sort.CutIn
import Derived.Sort.QuietTacIn
import Derived.Sort.BigQuietIn
namespace Go.Proofs.Ytaaddckhldccjaa
open Go.RowKit Go.Shelf
set_option linter.unusedVariables false
set_option linter.unusedSimpArgs false

/-- A piece: its value, what it reads as. -/
structure CK where
  A : Option Addr
  m : Nat
  ls : List UV
abbrev encCK : CK → Array Value := fun x => #[.slice x.A x.m x.m]
def ckAt (ad : Addr) (n : Nat) (ls : List UV) (t : Nat) : CK := ⟨some (ad.add (2 * t)), min 2 (n - 2 * t), (ls.drop (2 * t)).take (min 2 (n - 2 * t))⟩
def chunks (ad : Addr) (n : Nat) (ls : List UV) : List CK := (List.range ((n + 1) / 2)).map (ckAt ad n ls)
theorem chunks_len (ad : Addr) (n : Nat) (ls : List UV) : (chunks ad n ls).length = (n + 1) / 2 := by simp [chunks]
theorem chunks_take {ad : Addr} {n : Nat} {ls : List UV} {t : Nat} (h : 2 * t < n) : (chunks ad n ls).take t ++ [ckAt ad n ls t] = (chunks ad n ls).take (t + 1) := by
  have hl : t < (chunks ad n ls).length := by rw [chunks_len]; omega
  rw [List.take_succ_eq_append_getElem hl]
  simp [chunks]
theorem cut3UV (ad : Addr) (n c i e : Nat) (he : i + e ≤ c) (hi : i < c) (W : World) (h0 : 0 < e) : (Instr.slice 43 (.slice (some ad) n c) (some (.int .i64 (i : Int))) (some (.int .i64 ((i + e : Nat) : Int))) (some (.int .i64 ((i + e : Nat) : Int)))).run Try.prog W = .ok (.slice (some (ad.add i)) e e) W := by
  have hs : ∀ W : World, (sizeOf 38).run Try.prog W = .ok 1 W := fun W => by kernel_rfl
  rw [run_slice_lhm W 43 (some ad) n c (by rw [show Try.prog.elem 43 = 38 by kernel_rfl]; exact Try.underlying43) .i64 .i64 .i64 (i : Int) ((i + e : Nat) : Int) ((i + e : Nat) : Int) (Int.natCast_nonneg _) (by omega) (by omega) (by omega), show Try.prog.elem 43 = 38 by kernel_rfl, hs]
  have h1 : i + e - i = e := by omega
  simp [sliced, h1]
  omega
theorem chunk_any (A : Option Addr) (n c : Nat) (w : World) :
    Calls Try.prog 52 #[.slice A n c, .int .i64 2] w fun e w' => e = .returned (.func (.func 73) #[] #[.pointer (some ⟨w.heap.size, 0, none⟩), .pointer (some ⟨w.heap.size + 1, 0, none⟩)]) ∧
      w' = (w.alloc (.cells #[.slice A n c] 43)).alloc (.cells #[.int .i64 2] 3) := by
  have c1 : ((w.alloc (.cells #[.slice A n c] 43)).alloc (.cells #[.int .i64 2] 3)).cell? ⟨w.heap.size + 1, 0, none⟩ = some (.int .i64 2) := by
    have := World.cell?_alloc_mark (w.alloc (.cells #[.slice A n c] 43)) #[.int .i64 2] 3 (0, 0) 0
    rwa [World.size_alloc] at this
  go_enter Try.func52, Try.ntmps52
  go_wp2
  go_ret
  exact ⟨rfl, rfl⟩
set_option maxRecDepth 100000 in
set_option maxHeartbeats 8000000 in
theorem chunk_seq (q Ba Bb : Nat) (hq : 1 ≤ q) (ad : Addr) (n c : Nat) (ls : List UV) (b : Nat) (S : Nat → TypeId → Bool) (w0 w : World)
    (hBa : w0.heap[Ba]? = some (.cells #[.slice (some ad) n c] 43 (0, 0))) (hBb : w0.heap[Bb]? = some (.cells #[.int .i64 2] 3 (0, 0))) (hb0 : Below w0.heap.size w0 w) (hSa : S Ba 43 = false) (hSb : S Bb 3 = false) (hn : n ≤ c) (hc : c ≤ 9223372036854775807) (hn2 : n ≤ 1000000) :
    SeqQ Fence.wide q Try.prog 73 #[.pointer (some ⟨Ba, 0, none⟩), .pointer (some ⟨Bb, 0, none⟩)] encCK b S (chunks ad n ls) w := fun L J Jx W hW hJ hJx hY h0 => by
  have HJ : Hid (Firm W.heap.size S J) := hJ
  have HY := Lib.hid hY
  have HS := Lib.hid (And.intro hSa hSb)
  have hCa := (hW.block Ba (by have := hb0.size; have := (Array.getElem?_eq_some_iff.1 hBa).1; omega)).trans ((hb0.block Ba (Array.getElem?_eq_some_iff.1 hBa).1).trans hBa)
  have hCb := (hW.block Bb (by have := hb0.size; have := (Array.getElem?_eq_some_iff.1 hBb).1; omega)).trans ((hb0.block Bb (Array.getElem?_eq_some_iff.1 hBb).1).trans hBb)
  have HC := Lib.hid (And.intro hCa hCb)
  have HJ0 : Hid (J ((chunks ad n ls).take 0) W) := Lib.hid h0
  clear hb0 hW hJ hJx hY hBa hBb h0 hSa hSb hCa hCb
  refine callsIn_of_wp Try.func73 rfl trivial ?_ rfl
  simp only [Try.ntmps73, List.size_toArray, List.length_cons, List.length_nil, Nat.reduceAdd, Nat.reduceSub, Array.replicate_succ, Array.replicate_zero, List.push_toArray, List.append_toArray, List.nil_append, List.cons_append]
  gi_wp2_with fail
  gi_loopw [4, 5] (fun x _ wr => ∃ t : Nat, x = .int .i64 ((2 * t : Nat) : Int) ∧ 2 * t ≤ n + 1 ∧ Hid (J ((chunks ad n ls).take t) wr) ∧ Hid (wr.heap[Ba]? = some (.cells #[.slice (some ad) n c] 43 (0, 0)) ∧ wr.heap[Bb]? = some (.cells #[.int .i64 2] 3 (0, 0)) ∧ W.heap.size ≤ wr.heap.size)) (fun x _ _ => n + 2 - (intOf x).toNat)
  case atStart => exact ⟨0, rfl, by omega, HJ0, Lib.hid ⟨HC.out.1, HC.out.2, Nat.le_refl _⟩⟩
  case round =>
    obtain ⟨t, rfl, ht, HJs, HCs⟩ := hrel
    have c0 : wr.cell? ⟨Ba, 0, none⟩ = some (.slice (some ad) n c) := by simp [World.cell?, HCs.out.1]
    have c1 : wr.cell? ⟨Bb, 0, none⟩ = some (.int .i64 2) := by simp [World.cell?, HCs.out.2.1]
    obtain ⟨i, hi⟩ : ∃ i, i = 2 * t := ⟨_, rfl⟩
    rw [← hi]
    by_cases hlt : (i : Int) < (n : Int)
    · obtain ⟨A', hcut, _⟩ := cutUV (some ad) n c i (by omega) hn
      obtain ⟨e, he⟩ : ∃ e, e = min 2 (n - i) := ⟨_, rfl⟩
      have he0 : 0 < e := by omega
      have he2 : e ≤ 2 := by omega
      have hie : i + e ≤ n := by omega
      have hc3 : ∀ W : World, (Instr.slice 43 (.slice (some ad) n c) (some (.int .i64 (i : Int))) (some (.int .i64 ((i : Int) + (e : Int)))) (some (.int .i64 ((i : Int) + (e : Int))))).run Try.prog W = .ok (.slice (some (ad.add i)) e e) W := fun W => by
        have := cut3UV ad n c i e (by omega) (by omega) W he0
        rwa [Int.natCast_add] at this
      obtain ⟨r, hr⟩ : ∃ r, r = n - i := ⟨_, rfl⟩
      obtain ⟨cr, hcr⟩ : ∃ cr, cr = c - i := ⟨_, rfl⟩
      rw [← hr, ← hcr] at hcut
      rw [← hr] at he
      have HI := Lib.hid hi
      have HE := Lib.hid he
      have HR := Lib.hid hr
      by_cases hr2 : (r : Int) < 2
      · obtain rfl : e = r := by omega
        clear hi he hr hcr
        gi_upto_region 3 with fail
        gi_big_quiet_th (fail)
        obtain ⟨wd, hwd⟩ : ∃ wd, wd = wr.drewN nq := ⟨_, rfl⟩
        rw [← hwd]
        have hbd : Below wr.heap.size wr wd := by rw [hwd]; exact below_drewN (Below.refl _ _) nq
        have hCa := (hbd.block Ba (Array.getElem?_eq_some_iff.1 HCs.out.1).1).trans HCs.out.1
        have hCb := (hbd.block Bb (Array.getElem?_eq_some_iff.1 HCs.out.2.1).1).trans HCs.out.2.1
        have HCD := Lib.hid (And.intro hCa (And.intro hCb (Nat.le_trans HCs.out.2.2 hbd.size)))
        have HJD := Lib.hid (HJ.out _ _ _ HJs.out (Step.below (B := W.heap.size) hbd))
        have d0 : wd.cell? ⟨Ba, 0, none⟩ = some (.slice (some ad) n c) := by simp [World.cell?, hCa]
        have d1 : wd.cell? ⟨Bb, 0, none⟩ = some (.int .i64 2) := by simp [World.cell?, hCb]
        clear hwd hbd hCa hCb c0 c1 hcut
        have HTK := Lib.hid (chunks_take (ad := ad) (n := n) (ls := ls) (t := t) (by rw [← HI.out]; omega))
        have hex := HY.out ((chunks ad n ls).take t) (ckAt ad n ls t) wd (by rw [HTK.out]; exact List.take_prefix _ _) HJD.out
        have hce : encCK (ckAt ad n ls t) = #[.slice (some (ad.add i)) e e] := by
          have h1 := HE.out
          have h2 := HR.out
          have h3 := HI.out
          show #[Value.slice (some (ad.add (2 * t))) (min 2 (n - 2 * t)) (min 2 (n - 2 * t))] = _
          rw [← h3, ← h2, ← h1]
        rw [hce] at hex
        obtain ⟨fn, tmps, assign, body, hy, hRd⟩ := hex
        clear hce
        gi_wp2_with fail
        refine hRd.mono ?_
        rintro e' W5 (⟨rfl, hJ5, hk5⟩ | ⟨rfl, hJx5, _⟩)
        · have HN : Hid (J ((chunks ad n ls).take (t + 1)) W5) := Lib.hid (by rw [← HTK.out]; exact hJ5)
          have HCN : Hid (W5.heap[Ba]? = some (.cells #[.slice (some ad) n c] 43 (0, 0)) ∧ W5.heap[Bb]? = some (.cells #[.int .i64 2] 3 (0, 0)) ∧ W.heap.size ≤ W5.heap.size) := Lib.hid ⟨hk5.own Ba _ _ _ HS.out.1 HCD.out.1, hk5.own Bb _ _ _ HS.out.2 HCD.out.2.1, Nat.le_trans HCD.out.2.2 hk5.size⟩
          have e1 : W5.cell? ⟨Bb, 0, none⟩ = some (.int .i64 2) := by simp [World.cell?, HCN.out.2.1]
          clear hJ5 hk5 d0 d1 hc3
          gi_wp2
          go_roundw
          case rel => exact ⟨t + 1, by have := HI.out; simp; try go_num, by have := HI.out; omega, HN, HCN⟩
          case measure => have := HI.out; simp [intOf]; omega
        · have HX5 := Lib.hid hJx5
          clear hJx5 d0 d1 hc3
          gi_wp2
          refine bodyPost_ret (results_none rfl _ _ _) rfl ?_
          exact ⟨⟨_, rfl⟩, .inr ⟨_, by rw [HTK.out]; exact List.take_prefix _ _, HX5.out⟩⟩
      · obtain rfl : e = 2 := by omega
        clear hi he hr hcr
        gi_upto_region 3 with fail
        gi_big_quiet_th (fail)
        obtain ⟨wd, hwd⟩ : ∃ wd, wd = wr.drewN nq := ⟨_, rfl⟩
        rw [← hwd]
        have hbd : Below wr.heap.size wr wd := by rw [hwd]; exact below_drewN (Below.refl _ _) nq
        have hCa := (hbd.block Ba (Array.getElem?_eq_some_iff.1 HCs.out.1).1).trans HCs.out.1
        have hCb := (hbd.block Bb (Array.getElem?_eq_some_iff.1 HCs.out.2.1).1).trans HCs.out.2.1
        have HCD := Lib.hid (And.intro hCa (And.intro hCb (Nat.le_trans HCs.out.2.2 hbd.size)))
        have HJD := Lib.hid (HJ.out _ _ _ HJs.out (Step.below (B := W.heap.size) hbd))
        have d0 : wd.cell? ⟨Ba, 0, none⟩ = some (.slice (some ad) n c) := by simp [World.cell?, hCa]
        have d1 : wd.cell? ⟨Bb, 0, none⟩ = some (.int .i64 2) := by simp [World.cell?, hCb]
        clear hwd hbd hCa hCb c0 c1 hcut
        have HTK := Lib.hid (chunks_take (ad := ad) (n := n) (ls := ls) (t := t) (by rw [← HI.out]; omega))
        have hex := HY.out ((chunks ad n ls).take t) (ckAt ad n ls t) wd (by rw [HTK.out]; exact List.take_prefix _ _) HJD.out
        have hce : encCK (ckAt ad n ls t) = #[.slice (some (ad.add i)) 2 2] := by
          have h1 := HE.out
          have h2 := HR.out
          have h3 := HI.out
          show #[Value.slice (some (ad.add (2 * t))) (min 2 (n - 2 * t)) (min 2 (n - 2 * t))] = _
          rw [← h3, ← h2, ← h1]
        rw [hce] at hex
        obtain ⟨fn, tmps, assign, body, hy, hRd⟩ := hex
        clear hce
        gi_wp2_with fail
        refine hRd.mono ?_
        rintro e' W5 (⟨rfl, hJ5, hk5⟩ | ⟨rfl, hJx5, _⟩)
        · have HN : Hid (J ((chunks ad n ls).take (t + 1)) W5) := Lib.hid (by rw [← HTK.out]; exact hJ5)
          have HCN : Hid (W5.heap[Ba]? = some (.cells #[.slice (some ad) n c] 43 (0, 0)) ∧ W5.heap[Bb]? = some (.cells #[.int .i64 2] 3 (0, 0)) ∧ W.heap.size ≤ W5.heap.size) := Lib.hid ⟨hk5.own Ba _ _ _ HS.out.1 HCD.out.1, hk5.own Bb _ _ _ HS.out.2 HCD.out.2.1, Nat.le_trans HCD.out.2.2 hk5.size⟩
          have e1 : W5.cell? ⟨Bb, 0, none⟩ = some (.int .i64 2) := by simp [World.cell?, HCN.out.2.1]
          clear hJ5 hk5 d0 d1 hc3
          gi_wp2
          go_roundw
          case rel => exact ⟨t + 1, by have := HI.out; simp; try go_num, by have := HI.out; omega, HN, HCN⟩
          case measure => have := HI.out; simp [intOf]; omega
        · have HX5 := Lib.hid hJx5
          clear hJx5 d0 d1 hc3
          gi_wp2
          refine bodyPost_ret (results_none rfl _ _ _) rfl ?_
          exact ⟨⟨_, rfl⟩, .inr ⟨_, by rw [HTK.out]; exact List.take_prefix _ _, HX5.out⟩⟩
    · have HE : Hid ((chunks ad n ls).take t = chunks ad n ls) := Lib.hid (List.take_of_length_le (by rw [chunks_len]; omega))
      clear hi
      gi_wp2
      exact ⟨rfl, _, results_none rfl _ _ _, ⟨_, rfl⟩, .inl (by have := HJs.out; rwa [HE.out] at this)⟩
end Go.Proofs.Ytaaddckhldccjaa
