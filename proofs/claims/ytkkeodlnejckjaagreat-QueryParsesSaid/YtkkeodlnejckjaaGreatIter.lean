/- The iterator over runes; how many they are. -/
import Derived.RangeFuncNested
import Derived.RangeFuncBound
import Derived.RangeFuncCalls
import Derived.RangeFuncLeaves
import Derived.Shelf.Abstract
import Derived.Shelf.RegionOpen
import Derived.OwnWalkIn
import Derived.TacticsInMore
import Derived.LoopNIn
import Derived.LoopIn
import Derived.Lib.OthersKept
import Derived.Laws.RangeString
import Derived.Laws.BytesArg
import Derived.Test.YtkkeodlnejckjaaGreatUtf
namespace Go.Proofs.YtkkeodlnejckjaaGreat
open Go.RowKit Go.Shelf
set_option linter.unusedVariables false
set_option linter.unusedSimpArgs false
attribute [local go_sem] Oper.semAt_some

/-- string(b) of a slice that is read. -/
theorem run_str (w : World) (A : Option Addr) (n c : Nat) (l : List Nat) (h : RdB w A n l) (hc : n ≤ c) :
    (convert 26 9 (.slice A n c)).run Tryz.prog w = .ok (.string (strL l)) w := by
  have hu8 : Tryz.prog.underlying 5 = some (.int .u8) := Tryz.underlying5
  rcases Nat.eq_zero_or_pos n with h0 | h0
  · subst h0
    obtain rfl : l = [] := List.eq_nil_of_length_eq_zero h.len
    rw [run_convert_bytes_string w _ _ 5 _ _ _ Tryz.underlying26 hu8 Tryz.underlying9]
    cases A with
    | none => rfl
    | some a =>
      rw [run_bytesToString w a 0 c [] (by rfl)]
      rfl
  · obtain ⟨ad, rfl, hcl⟩ := h.rd.cell h0
    have hl : (loadCells ad n).run Tryz.prog w = .ok ((l.map (fun x : Nat => (x : Int))).map (Value.int .u8)).toArray w := by
      have := run_loadCells_list (P := Tryz.prog) w ad (l.map encB) (fun j v hj => by
        have hjl : j < l.length := by
          rcases Nat.lt_or_ge j l.length with h | h
          · exact h
          · simp [List.getElem?_eq_none (show (l.map encB).length ≤ j by simpa using h)] at hj
        rw [hcl j hjl]
        simp [List.getElem?_eq_getElem hjl] at hj
        rw [hj])
      rw [List.map_map]
      simpa [h.len, Function.comp_def] using this
    rw [run_convert_bytes_string w _ _ 5 _ _ _ Tryz.underlying26 hu8 Tryz.underlying9, run_bytesToString w ad n c _ hl, foldl_push_bytes]
    simp [strL, ByteArray.empty, ByteArray.emptyWithCapacity, Function.comp_def]
    rfl

abbrev encM : Nat × Nat → Array Value := fun x => #[.int .i64 (x.1 : Int), .int .i32 (x.2 : Int)]

set_option maxRecDepth 100000 in
set_option maxHeartbeats 2000000 in
/-- fold.Runes' closure: the marks. -/
theorem runes_stops (n Bs : Nat) (hn : 1 ≤ n) (A : Option Addr) (m c : Nat) (l : List Nat) (w : World) (hBs : w.cell? ⟨Bs, 0, none⟩ = some (.slice A m c)) (hl : RdB w A m l) (hc : m ≤ c) :
    SeqStopsK Fence.wide n Tryz.prog 125 #[.pointer (some ⟨Bs, 0, none⟩)] encM KeepsWalks (fun ys => ys = marksL l) (fun pre => pre <+: marksL l) (marksL l).length w := fun L J Jx W hW hJ hJx hY h0 => by
  have hcell := (hW.cell (p := ⟨Bs, 0, none⟩) (World.block_lt_of_cell? w _ hBs)).trans hBs
  have hL := hl.below hW
  have hbyt := hl.byt
  have hstr := run_str W A m c l hL hc
  clear hL hl hBs
  refine callsIn_of_wp Tryz.func125 rfl trivial ?_ rfl
  simp only [Tryz.ntmps125, List.size_toArray, List.length_cons, List.length_nil, Nat.reduceAdd, Nat.reduceSub, Array.replicate_succ, Array.replicate_zero, List.push_toArray, List.append_toArray, List.nil_append, List.cons_append]
  gi_wp2
  obtain ⟨R, hR⟩ : ∃ R, R = W.heap.size := ⟨_, rfl⟩
  obtain ⟨S, hS⟩ : ∃ S, S = strL l := ⟨_, rfl⟩
  have hSs : S.size = l.length := by rw [hS, strL_size]
  have hW0 : (W.iter S 0).heap[R]? = some (.stringIter S 0) := by rw [hR]; exact World.iter_heap W S 0
  have hJ0 : J [] (W.iter S 0) := hJ [] W _ none h0 (World.grownBy_alloc W _ none) (fun r e => by cases e)
  rw [← hR] at hJ
  rw [← hS, ← hR]
  have hdec := fun pos => decode_strL l hbyt pos
  rw [← hS] at hdec
  have HS := Lib.hid hS
  have HR := Lib.hid hR
  have HJ : Hid (AbidesFrom R J) := hJ
  have HY := Lib.hid hY
  have HD := Lib.hid hdec
  have HSs := Lib.hid hSs
  clear hS hR hJ hJx hW hY hdec hcell hstr hSs h0
  gi_loopw [3] (fun _ wr => ∃ (pre : List (Nat × Nat)) (pos : Nat), Hid (marksL l = pre ++ mkAt pos (l.drop pos)) ∧ wr.heap[R]? = some (.stringIter S pos) ∧ Hid (J pre wr)) (fun _ wr => S.size - wr.iterPos R)
  case atStart => exact ⟨[], 0, Lib.hid rfl, hW0, Lib.hid hJ0⟩
  case round =>
    obtain ⟨pre, pos, HM, hk, HJs⟩ := hrel
    have hlen := HSs.out
    by_cases hp : pos < S.size
    · have hne : l.drop pos ≠ [] := by
        intro h
        have := congrArg List.length h
        simp at this
        omega
      have hnx := fun ty => Lib.run_next_any_at (P := Tryz.prog) wr R S pos ty hk hp
      rw [HD.out pos] at hnx
      have hM2 := HM.out
      rw [mkAt_step pos _ hne, List.drop_drop] at hM2
      have hw := dec_w (l.drop pos)
      obtain ⟨d, hd⟩ : ∃ d, d = dec (l.drop pos) := ⟨_, rfl⟩
      rw [← hd] at hnx hM2 hw
      obtain ⟨r, v⟩ := d
      simp only at hnx hM2 hw
      have hk2 := Lib.iterAt_heap wr R S pos (pos + v) hk
      have hJ2 : J pre (wr.iterAt R S (pos + v)) := HJ.out pre wr _ (some R) HJs.out (grownBy_putObj' wr R _) (fun r' e => by cases e; exact ⟨Nat.le_refl _, _, hk, rfl⟩)
      obtain ⟨W2, hW2⟩ : ∃ W2, W2 = wr.iterAt R S (pos + v) := ⟨_, rfl⟩
      rw [← hW2] at hnx hk2 hJ2
      obtain ⟨fn, tmps, assign, body, hy, hRd⟩ := HY.out pre (pos, r) W2 hJ2 (by rw [hM2]; simp)
      dsimp only [encM] at hy
      have HM2 := Lib.hid hM2
      have hip : wr.iterPos R = pos := by simp [World.iterPos, hk]
      have HIP := Lib.hid hip
      have hn1 : 1 ≤ n - 1 + 1 := by omega
      clear hM2 hW2 hJ2 hd hne hip
      gi_wp2
      refine hRd.mono ?_
      rintro e W3 (⟨rfl, hJ3, hk3⟩ | ⟨rfl, hJx3⟩)
      · have hk4 := hk3.same R _ hk2 rfl
        have HJ3 := Lib.hid hJ3
        have HK4 := Lib.hid hk4
        clear hk3 hJ3 hk4
        gi_wp2
        go_roundw
        case rel => exact ⟨pre ++ [(pos, r)], pos + v, Lib.hid (by rw [HM2.out]; simp), HK4.out, HJ3⟩
        case measure =>
          have e1 := HIP.out
          have hk4 := HK4.out
          have e2 : W3.iterPos R = pos + v := by simp [World.iterPos, hk4]
          rw [e2, e1]
          omega
      · have HJx3 := Lib.hid hJx3
        clear hJx3
        gi_wp2
        refine bodyPost_ret (results_none rfl _ _ _) rfl ?_
        exact ⟨⟨_, rfl⟩, .inr ⟨_, by rw [HM2.out]; exact ⟨mkAt (pos + v) (l.drop (pos + v)), by simp⟩, HJx3.out⟩⟩
    · have hnx := fun ty => Lib.run_next_end_at (P := Tryz.prog) wr R S pos ty hk hp
      have hM : Hid (marksL l = pre) := Lib.hid <| by
        have := HM.out
        rw [List.drop_of_length_le (by omega), mkAt_nil, List.append_nil] at this
        exact this
      gi_wp2
      go_end0
      exact ⟨⟨_, rfl⟩, .inl ⟨_, hM.out.symm, HJs.out⟩⟩

set_option maxHeartbeats 1000000 in
theorem Runes_any (A : Option Addr) (n c : Nat) (w : World) : Calls Tryz.prog 119 #[.slice A n c] w fun e w' => e = .returned (.func (.func 125) #[] #[.pointer (some ⟨w.heap.size, 0, none⟩)]) ∧ w' = w.alloc (.cells #[.slice A n c] 26) := by
  go_enter Tryz.func119, Tryz.ntmps119
  go_wp2
  go_ret
  exact ⟨rfl, rfl⟩
end Go.Proofs.YtkkeodlnejckjaaGreat
