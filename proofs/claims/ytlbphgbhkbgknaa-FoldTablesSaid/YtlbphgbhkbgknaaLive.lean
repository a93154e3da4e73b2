/- The law's own measure: some text is folded. -/
import Derived.Test.YtlbphgbhkbgknaaText
import Derived.Lib.SlBytesConst
namespace Go.Proofs.Ytlbphgbhkbgknaa
open Go.RowKit
set_option linter.unusedVariables false
set_option linter.unusedSimpArgs false

def ltrB (x : Fo) (k : Int) : Bool := letB x.1 && letB x.2.1 && letB (x.1 + k) && letB (x.2.1 + k)
def okB (l : List Fo) : Bool := decide (l.length ≤ 8) && (List.range l.length).all fun i =>
  let x := l.getD i (0, 0, 0)
  let z := l.getD (i - 1) (0, 0, 0)
  decide (1 ≤ x.2.2 ∧ x.2.2 ≤ 256) && ((List.range x.2.2.toNat).all fun k => ltrB x k && decide (fnd l (x.2.1 + k) = none)) && (i == 0 || decide (z.1 + z.2.2 - 1 < x.1))
theorem okB_ok {l : List Fo} (h : okB l = true) : okTb l := by
  unfold okB at h
  rw [Bool.and_eq_true, decide_eq_true_eq, List.all_eq_true] at h
  obtain ⟨h8, h⟩ := h
  have key : ∀ (i : Nat) (hi : i < l.length), (1 ≤ l[i].2.2 ∧ l[i].2.2 ≤ 256) ∧ (∀ k : Nat, (k : Int) < l[i].2.2 → Ltr l[i] k ∧ fnd l (l[i].2.1 + k) = none) ∧ asc l i := by
    intro i hi
    have h1 := h i (List.mem_range.2 hi)
    have e : l.getD i (0, 0, 0) = l[i] := by rw [List.getD_eq_getElem?_getD, List.getElem?_eq_getElem hi]; rfl
    simp only [Bool.and_eq_true, decide_eq_true_eq, List.all_eq_true, Bool.or_eq_true, beq_iff_eq] at h1
    obtain ⟨⟨h2, h3⟩, h4⟩ := h1
    rw [e] at h2 h3
    refine ⟨h2, fun k hk => ?_, fun h0 => ?_⟩
    · have h5 := h3 k (List.mem_range.2 (by omega))
      unfold ltrB at h5
      simp only [Bool.and_eq_true] at h5
      exact ⟨⟨h5.1.1.1.1, h5.1.1.1.2, h5.1.1.2, h5.1.2⟩, h5.2⟩
    · exact h4.resolve_left (by omega)
  exact ⟨h8, fun i hi => ⟨⟨(key i hi).1.1, (key i hi).1.2, fun k hk => ((key i hi).2.1 k hk).1⟩, (key i hi).2.2⟩, fun i hi k hk => ((key i hi).2.1 k hk).2⟩
def plainT : List Fo := [(65, 97, 26), (192, 224, 23), (216, 248, 7), (913, 945, 17), (931, 963, 7), (1040, 1072, 32)]
theorem plain_ok : okTb plainT := okB_ok (by decide +kernel)

/-- A table in memory that one holds oneself. -/
def cellsT (l : List Fo) : List Value := l.flatMap fun x => [.int .i32 x.1, .int .i32 x.2.1, .int .i64 x.2.2]
theorem cellsT_at : ∀ (l : List Fo) (j : Nat) (h : j < l.length), (cellsT l)[j * 3]? = some (.int .i32 l[j].1) ∧ (cellsT l)[j * 3 + 1]? = some (.int .i32 l[j].2.1) ∧ (cellsT l)[j * 3 + 2]? = some (.int .i64 l[j].2.2)
  | x :: l, 0, _ => by simp [cellsT]
  | x :: l, j + 1, h => by
    have := cellsT_at l j (by simpa using h)
    have e : (j + 1) * 3 = j * 3 + 3 := by omega
    simp only [cellsT, List.flatMap_cons] at this ⊢
    simpa [e] using this
theorem RdT.new {w : World} {g : Nat} {C : Array Value} {t : TypeId} {fr : Nat × Nat} {l : List Fo} (h : w.heap[g]? = some (.cells C t fr)) (hC : C = (cellsT l).toArray) (hm : l.length ≤ 9223372036854775807) : RdT w (some ⟨g, 0, none⟩) l.length l :=
  ⟨rfl, hm, fun _ => ⟨_, rfl, fun j hj => by
    obtain ⟨h1, h2, h3⟩ := cellsT_at l j hj
    rw [add_lit0]
    subst hC
    refine ⟨?_, ?_, ?_⟩ <;> simp [World.cell?, h, h1, h2, h3]⟩⟩

set_option maxRecDepth 100000 in
set_option maxHeartbeats 1000000 in
theorem Plain_any (w : World) : Calls Try.prog 27 #[] w fun e w' => e = .returned (.slice (some ⟨w.heap.size, 0, none⟩) 6 6) ∧ RdT w' (some ⟨w.heap.size, 0, none⟩) 6 plainT ∧ Below w.heap.size w w' := by
  go_enter Try.func27, Try.ntmps27
  go_wp2
  go_ret
  refine ⟨rfl, RdT.new (l := plainT) (World.alloc_heap_new w _) (by rfl) (by decide), (Below.refl _ w).alloc (Nat.le_refl _) _⟩

theorem live_text : textL plainT [65, 195, 137, 255] = [97, 195, 169, 239, 191, 189] := by
  unfold textL
  rw [eff_yes plain_ok]
  decide +kernel
theorem live_count : (marksL [195, 169, 97]).length = 2 := by decide +kernel
set_option maxRecDepth 100000 in
set_option maxHeartbeats 1000000 in
theorem live_any (w : World) : Calls Try.prog 8 #[] w fun e w' => e = .returned (.bool true) ∧ Below w.heap.size w w' := by
  have k1 : letB 122 = true := by decide
  have k2 : letB 45 = false := by decide
  have kc := fun (w : World) (C : Array Value) (n c : Nat) => Lib.run_convert_bytes_const (P := Try.prog) w 23 5 C n c Try.underlying23 Try.underlying5
  go_enter Try.func8, Try.ntmps8
  go_wp2_with fail
  refine (Plain_any _).mono ?_
  rintro e w1 ⟨rfl, ht, hb⟩
  have HT := Lib.hid ht
  have HB := Lib.hid hb
  clear ht hb
  go_wp2_with fail
  have HL : Hid (RdB (w1.alloc (.cells #[.int .u8 65, .int .u8 195, .int .u8 137, .int .u8 255] 5 (4, 5))) (some ⟨w1.heap.size, 0, none⟩) 4 [65, 195, 137, 255]) := Lib.hid ⟨Rd.new w1 _ _ _ _ _ (by rfl) (by rfl) (by decide), by intro c hc; simp at hc; omega⟩
  have HB1 := Lib.hid (HB.out.alloc HB.out.size (.cells #[.int .u8 65, .int .u8 195, .int .u8 137, .int .u8 255] 5 (4, 5)))
  have HT1 := Lib.hid (HT.out.below ((Below.refl w1.heap.size w1).alloc (Nat.le_refl _) (.cells #[.int .u8 65, .int .u8 195, .int .u8 137, .int .u8 255] 5 (4, 5))))
  have C := Lib.hid (Text_any _ 6 6 plainT _ 4 4 _ _ HT1.out HL.out (by omega) (by omega))
  rw [live_text] at C
  refine C.out.mono ?_
  rintro e w2 ⟨rfl, hb⟩
  have HB2 := Lib.hid (Below.thn HB1.out hb)
  clear hb C
  have ks : strL [97, 195, 169, 239, 191, 189] = ⟨#[97, 195, 169, 239, 191, 189]⟩ := by rfl
  rw [ks]
  clear ks
  go_wp2_with fail
  refine (Letter_any 122 _).mono ?_
  rintro e w3 ⟨rfl, rfl⟩
  rw [k1]
  go_wp2_with fail
  refine (Letter_any 45 _).mono ?_
  rintro e w3 ⟨rfl, rfl⟩
  rw [k2]
  go_wp2_with fail
  have HL2 : Hid (RdB (w2.alloc (.cells #[.int .u8 195, .int .u8 169, .int .u8 97] 5 (3, 4))) (some ⟨w2.heap.size, 0, none⟩) 3 [195, 169, 97]) := Lib.hid ⟨Rd.new w2 _ _ _ _ _ (by rfl) (by rfl) (by decide), by intro c hc; simp at hc; omega⟩
  have HB3 := Lib.hid (HB2.out.alloc HB2.out.size (.cells #[.int .u8 195, .int .u8 169, .int .u8 97] 5 (3, 4)))
  have C2 := Lib.hid (Count_any _ 3 3 _ _ HL2.out (by omega))
  rw [live_count] at C2
  refine C2.out.mono ?_
  rintro e w4 ⟨rfl, hb⟩
  have HB4 := Lib.hid (Below.thn HB3.out hb)
  clear hb C2
  go_wp2
  go_ret
  exact ⟨rfl, HB4.out⟩
end Go.Proofs.Ytlbphgbhkbgknaa
