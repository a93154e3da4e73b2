/- The law's own measure: postings are written, and read. How many may be gone through. -/
import Derived.Test.YtmonlookmnlgnaaLiveMath
import Derived.Lib.SlBytesConst
namespace Go.Proofs.Ytmonlookmnlgnaa
open Go.RowKit
set_option linter.unusedVariables false
set_option linter.unusedSimpArgs false

theorem lv_rd {w : World} {g1 g2 g3 : Nat} (h1 : w.heap[g1]? = some (.cells #[.int .i64 0, .int .i64 5] 3 (0, 0))) (h2 : w.heap[g2]? = some (.cells #[.int .i64 7] 3 (0, 0)))
    (h3 : w.heap[g3]? = some (.cells #[.int .u32 3, .slice (some ⟨g1, 0, none⟩) 2 2, .int .u32 300, .slice (some ⟨g2, 0, none⟩) 1 1] 32 (0, 0))) : RdPo w (some ⟨g3, 0, none⟩) 2 lvL := by
  refine ⟨rfl, by decide, fun _ => ⟨_, rfl, fun j hj => ?_⟩⟩
  rcases (show j = 0 ∨ j = 1 by simp [lvL] at hj; omega) with rfl | rfl
  · refine ⟨some ⟨g1, 0, none⟩, 2, 2, ?_, ?_, by omega, by omega, ⟨rfl, by decide, fun _ => ⟨_, rfl, fun i hi => ?_⟩⟩, by simp [lvL]⟩
    · simp [World.cell?, Addr.add, h3, lvL]
    · simp [World.cell?, Addr.add, h3, lvL]
    · rcases (show i = 0 ∨ i = 1 by simp [lvL] at hi; omega) with rfl | rfl <;> simp [World.cell?, Addr.add, h1, lvL]
  · refine ⟨some ⟨g2, 0, none⟩, 1, 1, ?_, ?_, by omega, by omega, ⟨rfl, by decide, fun _ => ⟨_, rfl, fun i hi => ?_⟩⟩, by simp [lvL]⟩
    · simp [World.cell?, Addr.add, h3, lvL]
    · simp [World.cell?, Addr.add, h3, lvL]
    · rcases (show i = 0 by simp [lvL] at hi; omega) with rfl
      simp [World.cell?, Addr.add, h2, lvL]
set_option maxRecDepth 100000 in
set_option maxHeartbeats 4000000 in
theorem live_any (w : World) : Calls Try.prog 9 #[] w fun e w' => e = .returned (.bool true) ∧ Below w.heap.size w w' := by
  go_enter Try.func9, Try.ntmps9
  go_wp2_with fail
  obtain ⟨w1, hw1⟩ : ∃ w1, w1 = ((w.alloc (.cells #[.int .i64 0, .int .i64 5] 3)).alloc (.cells #[.int .i64 7] 3)).alloc (.cells #[.int .u32 3, .slice (some ⟨w.heap.size, 0, none⟩) 2 2, .int .u32 300, .slice (some ⟨w.heap.size + 1, 0, none⟩) 1 1] 32) := ⟨_, rfl⟩
  have hb1 : Below w.heap.size w w1 := by rw [hw1]; exact (((Below.refl _ _).alloc (Nat.le_refl _) _).alloc (by simp) _).alloc (by simp; omega) _
  have hr1 : RdPo w1 (some ⟨w.heap.size + 1 + 1, 0, none⟩) 2 lvL := by
    have q1 := World.alloc_heap_new w (.cells #[.int .i64 0, .int .i64 5] 3)
    have q2 := World.alloc_heap_new (w.alloc (.cells #[.int .i64 0, .int .i64 5] 3)) (.cells #[.int .i64 7] 3)
    have q3 := World.alloc_heap_new ((w.alloc (.cells #[.int .i64 0, .int .i64 5] 3)).alloc (.cells #[.int .i64 7] 3)) (.cells #[.int .u32 3, .slice (some ⟨w.heap.size, 0, none⟩) 2 2, .int .u32 300, .slice (some ⟨w.heap.size + 1, 0, none⟩) 1 1] 32)
    simp only [World.size_alloc] at q2 q3
    rw [← hw1] at q3
    have p2 : w1.heap[w.heap.size + 1]? = some (.cells #[.int .i64 7] 3 (0, 0)) := by rw [hw1]; exact (Below.heap_alloc _ _ _ (by simp)).trans q2
    have p1 : w1.heap[w.heap.size]? = some (.cells #[.int .i64 0, .int .i64 5] 3 (0, 0)) := by rw [hw1]; exact (Below.heap_alloc _ _ _ (by simp; omega)).trans ((Below.heap_alloc _ _ _ (by simp)).trans q1)
    exact lv_rd p1 p2 q3
  rw [← hw1]
  have HB1 := Lib.hid hb1
  have C := Lib.hid (List_po _ 2 2 lvL w1 hr1)
  unfold ListE at C
  rw [lv_list.1, lv_list.2] at C
  clear hb1 hr1 hw1
  refine C.out.mono ?_
  rintro e w2 ⟨r, rfl, hbs, hb⟩
  obtain ⟨A2, n2, c2, rfl, hn2, hc2, hbs⟩ := hbs
  have HS2 := Lib.hid hbs
  have HB2 := Lib.hid (Below.thn HB1.out hb)
  have hl2 : n2 = 8 := by rw [← hbs.len]; rfl
  subst hl2
  clear hbs hb C
  go_wp2_with fail
  have C := Lib.hid (Find_any A2 8 c2 lvB 300 w2 HS2.out hn2 hc2 (by omega) (by omega))
  unfold FindE at C
  rw [lv_find] at C
  refine C.out.mono ?_
  rintro e w3 ⟨u, rfl, ho, hb⟩
  obtain ⟨A3, c3, hu, hl3, hc3, hr3⟩ := ho.rd
  subst hu
  simp only at hl3 hr3 ho ⊢
  have HR3 := Lib.hid hr3
  have HB3 := Lib.hid (Below.thn HB2.out hb)
  have HS3 := Lib.hid (HS2.out.below hb)
  clear hb C ho hr3
  go_wp2_with fail
  obtain ⟨w4, hw4⟩ : ∃ w4, w4 = (w3.alloc (.cells #[.int .u32 300, .slice A3 1 c3] 32)).alloc (.cells #[.int .u8 3, .int .u8 2, .int .u8 0, .int .u8 5, .int .u8 169, .int .u8 2, .int .u8 1, .int .u8 7] 5) := ⟨_, rfl⟩
  have hb34 : Below w3.heap.size w3 w4 := by rw [hw4]; exact ((Below.refl _ _).alloc (Nat.le_refl _) _).alloc (by simp) _
  have hl4 : RdB w4 (some ⟨w3.heap.size + 1, 0, none⟩) 8 lvB := by
    have := (⟨Rd.new (enc := fun c : Nat => .int .u8 (c : Int)) (w3.alloc (.cells #[.int .u32 300, .slice A3 1 c3] 32)) 5 lvB _ 8 (0, 0) (by rfl) (by rfl) (by decide), by intro c hc; simp [lvB] at hc; omega⟩ : RdB ((w3.alloc (.cells #[.int .u32 300, .slice A3 1 c3] 32)).alloc (.cells #[.int .u8 3, .int .u8 2, .int .u8 0, .int .u8 5, .int .u8 169, .int .u8 2, .int .u8 1, .int .u8 7] 5)) (some ⟨(w3.alloc (.cells #[.int .u32 300, .slice A3 1 c3] 32)).heap.size, 0, none⟩) 8 lvB)
    rw [← hw4] at this
    simpa using this
  have hx4 : Box2 w4 w3.heap.size 32 (.int .u32 300) (.slice A3 1 c3) := by
    rw [hw4]; exact (Box2.new w3 _ _ _).kept (World.grownBy_alloc _ _ none) (by simp)
  have C := Lib.hid (Same_bs w4 ((HS3.out.below hb34).bs hn2 hc2) (hl4.bs (c := 8) (by omega) (by omega)))
  have hcm : cmpL lvB lvB = 0 := by decide
  rw [hcm] at C
  have HB4 := Lib.hid (Below.thn HB3.out hb34)
  have HR4 := Lib.hid (HR3.out.below hb34)
  have HX4 := Lib.hid hx4
  rw [← hw4]
  obtain ⟨g, hg⟩ : ∃ g, g = w3.heap.size := ⟨_, rfl⟩
  rw [← hg] at HX4 C ⊢
  clear hb34 hl4 hx4 hcm hw4 hg HR3 HS3
  refine C.out.mono ?_
  rintro e w5 ⟨rfl, hb⟩
  have HB5 := Lib.hid (Below.thn HB4.out hb)
  have HR5 := Lib.hid (HR4.out.below hb)
  have HX5 := Lib.hid (HX4.out.below hb)
  obtain ⟨c0, c1, _, _⟩ := HX5.out.facts
  clear C hb HB4 HR4 HX4
  go_wp2_with fail
  clear c0 c1
  obtain ⟨w6, hw6⟩ : ∃ w6, w6 = w5.alloc (.cells #[.int .i64 7] 3) := ⟨_, rfl⟩
  have hb56 : Below w5.heap.size w5 w6 := by rw [hw6]; exact (Below.refl _ _).alloc (Nat.le_refl _) _
  have hr6 : Rd encI w6 (some ⟨w5.heap.size, 0, none⟩) 1 [7] := by rw [hw6]; exact Rd.new w5 _ [7] _ 1 (0, 0) rfl rfl (by decide)
  have C := Lib.hid (refSame_pv (.agg #[.int .u32 300, .slice A3 1 c3]) (.agg #[.int .u32 300, .slice (some ⟨w5.heap.size, 0, none⟩) 1 1]) (300, [7]) (300, [7]) w6 ⟨_, rfl, ⟨_, _, _, rfl, hl3, hc3, HR5.out.below hb56⟩, by decide⟩ ⟨_, rfl, ⟨_, _, _, rfl, by omega, by omega, hr6⟩, by decide⟩)
  have HB6 := Lib.hid (Below.thn HB5.out hb56)
  rw [← hw6]
  clear hb56 hr6 hw6 HB5 HR5 HX5
  refine C.out.mono ?_
  rintro e w7 ⟨rfl, hb⟩
  have HB7 := Lib.hid (Below.thn HB6.out hb)
  clear C hb HB6
  go_wp2
  go_ret
  exact ⟨rfl, HB7.out⟩
set_option maxRecDepth 100000 in
set_option maxHeartbeats 4000000 in
theorem few_any (A : Option Addr) (n c : Nat) (ls : List Po) (w : World) (h : RdPo w A n ls) : Calls Try.prog 10 #[.slice A n c] w fun e w' => e = .returned (.bool (fewL ls)) ∧ Below w.heap.size w w' := by
  have HR := Lib.hid h
  have HLn := Lib.hid h.len
  have hn := h.max
  clear h
  by_cases h60 : (60 : Int) < (n : Int)
  · have HF : Hid (fewL ls = false) := Lib.hid (fewL_long (by rw [HLn.out]; omega))
    go_enter Try.func10, Try.ntmps10
    go_wp2
    go_ret
    exact ⟨by rw [HF.out]; rfl, Below.refl _ _⟩
  · go_enter Try.func10, Try.ntmps10
    go_wp2_with fail
    go_loopw [10] (fun x wr => ∃ k : Nat, k ≤ n ∧ x = .int .i64 k ∧ Hid ((∀ i (hl : i < ls.length), i < k → ls[i].2.length ≤ 2100) ∧ Below w.heap.size w wr)) (fun x _ => n - (intOf x).toNat)
    case atStart => exact ⟨0, by omega, rfl, Lib.hid ⟨fun i _ h => absurd h (Nat.not_lt_zero _), Below.refl _ _⟩⟩
    case round =>
      obtain ⟨k, hk, rfl, HI⟩ := hrel
      by_cases hlt : (k : Int) < (n : Int)
      · obtain ⟨ad, B, m, c', d, l, rfl, HX, e0, e1, hm1, hm2, HPo, hd⟩ := (HR.out.below HI.out.2).at (k := k) (by omega)
        have HBx := Lib.hid (HI.out.2.alloc HI.out.2.size (.cells #[.int .u32 (d : Nat), .slice B m c'] 32))
        have c1 := (box2 wr 32 (.int .u32 (d : Nat)) (.slice B m c')).2
        have HLm := Lib.hid HPo.out.len
        by_cases hbig : (2100 : Int) < (m : Int)
        · have HF : Hid (fewL ls = false) := Lib.hid (fewL_no HX.out (by show 2100 < l.length; rw [HLm.out]; omega))
          go_wp2
          go_ret
          exact ⟨by rw [HF.out]; rfl, HBx.out⟩
        · go_wp2
          refine ⟨⟨k + 1, by omega, by go_num, Lib.hid ⟨fun i hl hi => ?_, HBx.out⟩⟩, by simp [intOf]; omega⟩
          rcases Nat.lt_succ_iff_lt_or_eq.1 hi with h | rfl
          · exact HI.out.1 i hl h
          · obtain ⟨_, e⟩ := HX.out
            rw [e]
            show l.length ≤ 2100
            rw [HLm.out]; omega
      · have HF : Hid (fewL ls = true) := Lib.hid (fewL_yes (by rw [HLn.out]; omega) fun i hl => HI.out.1 i hl (by rw [HLn.out] at hl; omega))
        go_wp2
        go_ret
        exact ⟨by rw [HF.out]; rfl, HI.out.2⟩
end Go.Proofs.Ytmonlookmnlgnaa
