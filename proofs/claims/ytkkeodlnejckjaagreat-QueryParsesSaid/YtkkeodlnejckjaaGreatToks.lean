/- The tokens of a text; how many words it has. -/
import Derived.Test.YtkkeodlnejckjaaGreatAll
import Derived.Test.YtkkeodlnejckjaaGreatMS
namespace Go.Proofs.YtkkeodlnejckjaaGreat
open Go.RowKit Go.Shelf Go.Maps
set_option linter.unusedVariables false
set_option linter.unusedSimpArgs false
attribute [local go_sem] Oper.semAt_some

theorem okS33 : okS S33 := ⟨rfl, rfl, rfl, rfl, rfl, rfl, rfl⟩
theorem toks_len (cf : Cf) (l : List Nat) : (toksL cf l).length ≤ l.length + 1 := by
  unfold toksL
  rw [List.length_map]
  refine Nat.le_trans (List.length_filter_le _ _) ?_
  unfold termsL
  split
  · rw [tmG_len]; exact wordsL_len l
  · exact Nat.zero_le _
/-- The closure of All, its boxes being laid. -/
theorem all_seq' (A : Option Addr) (na c : Nat) (B : Option Addr) (m d : Nat) (cf : Cf) (T : Option Addr) (nt ct : Nat) (l : List Nat) (S : TypeId → Bool) (hS : okS S) (w0 w : World) (hb : Below w0.heap.size w0 w) (hR : RdC w0 A na c B m d cf) (ht : RdB w0 T nt l) (htc : nt ≤ ct) (htl : l.length ≤ 10000000) (hm : m ≤ 1000000) :
    SeqQ Fence.wide 9 Tryz.prog 127 #[.pointer (some ⟨w.heap.size, 0, none⟩), .pointer (some ⟨w.heap.size + 1, 0, none⟩)] encK w0.heap.size S (toksL cf l) ((w.alloc (.cells #[.slice A na c, .slice B m d, .int .i64 cf.cap] 25)).alloc (.cells #[.slice T nt ct] 26)) := by
  have h4 : ((w.alloc (.cells #[.slice A na c, .slice B m d, .int .i64 cf.cap] 25)).alloc (.cells #[.slice T nt ct] 26)).heap[w.heap.size]? = some (.cells #[.slice A na c, .slice B m d, .int .i64 cf.cap] 25 (0, 0)) :=
    (Lib.alloc_old _ _ _ (by simp)).trans (World.alloc_heap_new w _)
  have h5 := World.alloc_heap_new (w.alloc (.cells #[.slice A na c, .slice B m d, .int .i64 cf.cap] 25)) (.cells #[.slice T nt ct] 26)
  rw [World.size_alloc] at h5
  exact all_seq 9 _ _ (by omega) A na c B m d cf T nt ct l S hS w0 _ h4 h5 ((hb.alloc hb.size _).alloc (by have := hb.size; simp; omega) _) hR ht htc htl hm
set_option maxRecDepth 100000 in
set_option maxHeartbeats 1000000 in
theorem Tokens_any (A : Option Addr) (na c : Nat) (B : Option Addr) (m d : Nat) (cf : Cf) (T : Option Addr) (nt ct : Nat) (l : List Nat) (w : World) (hR : RdC w A na c B m d cf) (ht : RdB w T nt l) (htc : nt ≤ ct) (htl : l.length ≤ 10000000) (hm : m ≤ 1000000) :
    Calls Tryz.prog 111 #[confV A na c B m d cf.cap, .slice T nt ct] w fun e w' => ∃ v, e = .returned v ∧ OwnK encTk 2 160 w' w.heap.size v (toksL cf l) ∧ Below w.heap.size w w' := by
  have hb1 := (Below.refl w.heap.size w).alloc (Nat.le_refl _) (.cells #[.slice A na c, .slice B m d, .int .i64 cf.cap] 25)
  obtain ⟨w1, hw1⟩ : ∃ w1, w1 = w.alloc (.cells #[.slice A na c, .slice B m d, .int .i64 cf.cap] 25) := ⟨_, rfl⟩
  rw [← hw1] at hb1
  have HSQ := Lib.hid (all_seq' A na c B m d cf T nt ct l S33 okS33 w w1 hb1 hR ht htc htl hm)
  have C1 := Lib.hid (All_any A na c B m d cf.cap T nt ct w1)
  have HB2 := Lib.hid ((hb1.alloc hb1.size (.cells #[.slice A na c, .slice B m d, .int .i64 cf.cap] 25)).alloc (by have := hb1.size; simp; omega) (.cells #[.slice T nt ct] 26))
  have HL := Lib.hid (toks_len cf l)
  obtain ⟨w2, hw2⟩ : ∃ w2, w2 = (w1.alloc (.cells #[.slice A na c, .slice B m d, .int .i64 cf.cap] 25)).alloc (.cells #[.slice T nt ct] 26) := ⟨_, rfl⟩
  rw [← hw2] at HSQ C1 HB2
  have HTL := Lib.hid htl
  have HW1 := Lib.hid hw1
  clear hw1 hw2 hR ht htc hm hb1 htl
  go_enter Tryz.func111, Tryz.ntmps111
  go_wp2_with fail
  rw [← HW1.out]
  refine C1.out.mono ?_
  rintro e w9 ⟨rfl, h9⟩
  obtain rfl := h9.symm
  clear C1 HW1
  go_wp2_with fail
  refine (Collect_seq _ _ (enters_of Tryz.func127 (by kernel_rfl) rfl) w.heap.size (toksL cf l) w2 HSQ.out HB2.out.size (by have := HL.out; have := HTL.out; omega)).mono ?_
  rintro e w3 ⟨v, rfl, ho, hb⟩
  have HO := Lib.hid (OwnK.mono ho HB2.out.size)
  have HB := Lib.hid (HB2.out.trans (hb.mono HB2.out.size))
  clear ho hb HSQ
  go_wp2
  go_ret
  exact ⟨v, rfl, HO.out, HB.out⟩
end Go.Proofs.YtkkeodlnejckjaaGreat
