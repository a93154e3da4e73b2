/- FoldTwice: what was folded is not changed by folding it again. -/
import Derived.Test.YtlbphgbhkbgknaaTwiceMath
import Derived.Test.YtlbphgbhkbgknaaLive
namespace Go.Proofs.Ytlbphgbhkbgknaa
open Go.RowKit Go.Shelf
set_option linter.unusedVariables false
set_option linter.unusedSimpArgs false

/-- The bytes of a text, as a slice. -/
theorem run_bytesL (l : List Nat) (hb : Byt l) (w : World) (hl : l.length ≤ 1000000) : ∃ (c : Nat) (w' : World), (convert 9 23 (.string (strL l))).run Try.prog w = .ok (.slice (some ⟨w.heap.size, 0, none⟩) l.length c) w' ∧ l.length ≤ c ∧ c ≤ 9223372036854775807 ∧ RdB w' (some ⟨w.heap.size, 0, none⟩) l.length l ∧ Below w.heap.size w w' := by
  have h := run_bytes_of_string (P := Try.prog) w 9 23 5 (strL l) Try.underlying9 Try.underlying23 Try.underlying5
  rw [strL_size] at h
  have hg := grownCap_ge w l.length 0 5
  have hm := grownCap_le_maxLen w l.length 0 5 (by unfold maxLen; omega)
  unfold maxLen at hm
  refine ⟨_, _, h, hg, by omega, ⟨⟨rfl, by omega, fun h0 => ⟨_, rfl, fun j hj => ?_⟩⟩, hb⟩, (Below.refl w.heap.size w).drew.alloc (Nat.le_refl _) _⟩
  rw [add_lit0, show (⟨w.heap.size, j, none⟩ : Addr) = ⟨w.drew.heap.size, j, none⟩ from rfl, World.cell?_alloc_mark]
  have hj2 : j < (strL l).data.size := by simpa [strL] using hj
  rw [bytesRow_at _ _ _ hj2]
  have hx := hb _ (List.getElem_mem hj)
  simp [strL, encB]
  omega
set_option maxRecDepth 100000 in
set_option maxHeartbeats 1000000 in
theorem Rune_any (A : Option Addr) (n c : Nat) (tb : List Fo) (r : Int) (w : World) (ht : RdT w A n tb) :
    Calls Try.prog 9 #[.slice A n c, .int .i32 r] w fun e w' => e = .returned (.int .i32 (oneR (eff tb) r)) ∧ Below w.heap.size w w' := by
  have HT := Lib.hid ht
  have C := Lib.hid (Check_any A n c tb w ht)
  obtain ⟨R, hR⟩ : ∃ R, R = oneR (eff tb) r := ⟨_, rfl⟩
  rw [← hR]
  have HR := Lib.hid hR
  clear ht hR
  by_cases hok : okTb tb
  · rw [chk_yes hok] at C
    have HE : Hid (oneR tb r = R) := Lib.hid (by rw [HR.out, eff_yes hok])
    clear hok
    go_enter Try.func9, Try.ntmps9
    go_wp2_with fail
    refine C.out.mono ?_
    rintro e w1 ⟨rfl, hb⟩
    have HB := Lib.hid hb
    have HT1 := Lib.hid (HT.out.below hb)
    clear hb C
    go_wp2_with fail
    refine (one_any A n c tb r _ HT1.out).mono ?_
    rintro e w2 ⟨rfl, hb⟩
    rw [HE.out]
    have HB2 := Lib.hid (Below.thn HB.out hb)
    clear hb
    go_wp2
    go_ret
    exact ⟨rfl, HB2.out⟩
  · rw [chk_no hok] at C
    have HE : Hid (r = R) := Lib.hid (by rw [HR.out, eff_no hok, oneR_nil])
    clear hok
    go_enter Try.func9, Try.ntmps9
    go_wp2_with fail
    refine C.out.mono ?_
    rintro e w1 ⟨rfl, hb⟩
    have HB := Lib.hid hb
    clear hb C
    go_wp2
    go_ret
    exact ⟨by rw [← HE.out]; rfl, HB.out⟩

set_option maxRecDepth 100000 in
set_option maxHeartbeats 2000000 in
theorem twice_law (A : Option Addr) (n c : Nat) (tb : List Fo) (r : Int) (B : Option Addr) (m d : Nat) (l : List Nat) (w : World) (ht : RdT w A n tb) (hl : RdB w B m l) (hd : m ≤ d) (h1 : -2147483648 ≤ r) (h2 : r ≤ 2147483647) :
    Calls Try.prog 3 #[.slice A n c, .int .i32 r, .slice B m d] w fun e w' => e = .returned (.bool true) ∧ Below w.heap.size w w' := by
  have HT := Lib.hid ht
  have HL := Lib.hid hl
  clear ht hl
  by_cases q1 : (100 : Int) < (n : Int)
  · skip
    go_enter Try.func3, Try.ntmps3
    go_wp2_with fail
    refine (live_any _).mono ?_
    rintro e w1 ⟨rfl, hb⟩
    have KB := Lib.hid hb
    clear hb
    go_wp2_with fail
    refine (live_any _).mono ?_
    rintro e w2 ⟨rfl, hb⟩
    have KB2 := Lib.hid (Below.thn KB.out hb)
    clear hb KB
    go_wp2
    go_ret
    exact ⟨rfl, KB2.out⟩
  by_cases q2 : (500 : Int) < (m : Int)
  · skip
    go_enter Try.func3, Try.ntmps3
    go_wp2_with fail
    refine (live_any _).mono ?_
    rintro e w1 ⟨rfl, hb⟩
    have KB := Lib.hid hb
    clear hb
    go_wp2_with fail
    refine (live_any _).mono ?_
    rintro e w2 ⟨rfl, hb⟩
    have KB2 := Lib.hid (Below.thn KB.out hb)
    clear hb KB
    go_wp2
    go_ret
    exact ⟨rfl, KB2.out⟩
  have hm : m ≤ 100000000 := by omega
  have HF : Hid (oneR (eff tb) (oneR (eff tb) r) = oneR (eff tb) r) := Lib.hid (oneE_fix tb h1 h2)
  have HLt : Hid (letB (oneR (eff tb) r) = letB r) := Lib.hid (oneE_let tb h1 h2)
  have HX : Hid (textL tb (textL tb l) = textL tb l) := Lib.hid (text_fix tb l HL.out.byt)
  have HCt : Hid ((marksL (textL tb l)).length = (marksL l).length) := Lib.hid (text_count tb l HL.out.byt)
  have hxl : (textL tb l).length ≤ 1000000 := by
    have := text_len tb l
    have := HL.out.len
    omega
  have HXb := Lib.hid (text_byt tb l)
  obtain ⟨x, hx⟩ : ∃ x, x = oneR (eff tb) r := ⟨_, rfl⟩
  obtain ⟨X, hX⟩ : ∃ X, X = textL tb l := ⟨_, rfl⟩
  obtain ⟨K, hK⟩ : ∃ K, K = (marksL l).length := ⟨_, rfl⟩
  obtain ⟨T, hT⟩ : ∃ T, T = letB r := ⟨_, rfl⟩
  have Hx := Lib.hid hx
  have HXe := Lib.hid hX
  have HK := Lib.hid hK
  have HTe := Lib.hid hT
  rw [← hx] at HF HLt
  rw [← hX] at HX HCt hxl HXb
  rw [← hK] at HCt
  rw [← hT] at HLt
  obtain ⟨Z, hZ⟩ : ∃ Z, Z = strL X := ⟨_, rfl⟩
  have HZ := Lib.hid hZ
  clear hx hX hK hT hZ
  go_enter Try.func3, Try.ntmps3
  have KB := Lib.hid (Below.refl w.heap.size w)
  go_wp2_with fail
  refine (live_any _).mono ?_
  rintro e w2 ⟨rfl, hb⟩
  have KB2 := Lib.hid (Below.thn KB.out hb)
  have HT_2 := Lib.hid (HT.out.below hb)
  have HL_2 := Lib.hid (HL.out.below hb)
  clear hb KB HT HL
  have KB := KB2
  clear KB2
  have HT := HT_2
  clear HT_2
  have HL := HL_2
  clear HL_2
  go_wp2_with fail
  refine (Rune_any A n c tb r _ HT.out).mono ?_
  rintro e w3 ⟨rfl, hb⟩
  have KB3 := Lib.hid (Below.thn KB.out hb)
  have HT_3 := Lib.hid (HT.out.below hb)
  have HL_3 := Lib.hid (HL.out.below hb)
  clear hb KB HT HL
  have KB := KB3
  clear KB3
  have HT := HT_3
  clear HT_3
  have HL := HL_3
  clear HL_3
  rw [← Hx.out]
  go_wp2_with fail
  refine (Text_any A n c tb B m d l _ HT.out HL.out hd hm).mono ?_
  rintro e w4 ⟨rfl, hb⟩
  have KB4 := Lib.hid (Below.thn KB.out hb)
  have HT_4 := Lib.hid (HT.out.below hb)
  have HL_4 := Lib.hid (HL.out.below hb)
  clear hb KB HT HL
  have KB := KB4
  clear KB4
  have HT := HT_4
  clear HT_4
  have HL := HL_4
  clear HL_4
  rw [← HXe.out, ← HZ.out]
  go_wp2_with fail
  refine (Rune_any A n c tb x _ HT.out).mono ?_
  rintro e w5 ⟨rfl, hb⟩
  have KB5 := Lib.hid (Below.thn KB.out hb)
  have HT_5 := Lib.hid (HT.out.below hb)
  have HL_5 := Lib.hid (HL.out.below hb)
  clear hb KB HT HL
  have KB := KB5
  clear KB5
  have HT := HT_5
  clear HT_5
  have HL := HL_5
  clear HL_5
  rw [HF.out]
  go_wp2_with fail
  refine (Letter_any x _).mono ?_
  rintro e w5 ⟨rfl, rfl⟩
  rw [HLt.out]
  go_wp2_with fail
  refine (Letter_any r _).mono ?_
  rintro e w5 ⟨rfl, rfl⟩
  rw [← HTe.out]
  obtain ⟨cap1, W1, hcv, hcc, hcm, hR, hb⟩ := run_bytesL X HXb.out w5 hxl
  rw [← HZ.out] at hcv
  have KB5 := Lib.hid (Below.thn KB.out hb)
  have HT5 := Lib.hid (HT.out.below hb)
  have HL5 := Lib.hid (HL.out.below hb)
  have HR := Lib.hid hR
  clear hb hR KB HT HL
  go_wp2_with fail
  refine (Text_any A n c tb _ _ cap1 X _ HT5.out HR.out hcc (by omega)).mono ?_
  rintro e w6 ⟨rfl, hb⟩
  rw [HX.out, ← HZ.out]
  have KB6 := Lib.hid (Below.thn KB5.out hb)
  have HL6 := Lib.hid (HL5.out.below hb)
  clear hb hcv hcc hcm HR KB5 HT5 HL5
  obtain ⟨cap2, W2, hcv, hcc, hcm, hR, hb⟩ := run_bytesL X HXb.out w6 hxl
  rw [← HZ.out] at hcv
  have KB7 := Lib.hid (Below.thn KB6.out hb)
  have HL7 := Lib.hid (HL6.out.below hb)
  have HR := Lib.hid hR
  clear hb hR KB6 HL6
  go_wp2_with fail
  refine (Count_any _ _ cap2 X _ HR.out hcc).mono ?_
  rintro e w8 ⟨rfl, hb⟩
  rw [HCt.out]
  have KB8 := Lib.hid (Below.thn KB7.out hb)
  have HL8 := Lib.hid (HL7.out.below hb)
  clear hb hcv hcc hcm HR KB7 HL7
  go_wp2_with fail
  refine (Count_any B m d l _ HL8.out hd).mono ?_
  rintro e w9 ⟨rfl, hb⟩
  rw [← HK.out]
  have KB9 := Lib.hid (Below.thn KB8.out hb)
  clear hb
  go_wp2
  go_ret
  exact ⟨rfl, KB9.out⟩
end Go.Proofs.Ytlbphgbhkbgknaa
