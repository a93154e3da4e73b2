/- What Seal and Open of the reference tell. -/
import Derived.Test.YtkciljeojifofaaDoorOpen2
namespace Go.Proofs.YtkciljeojifofaaDoor
open Go.RowKit Crc
set_option linter.unusedVariables false
set_option linter.unusedSimpArgs false

set_option maxHeartbeats 400000 in
theorem refSeal_any (A : Option Addr) (n c : Nat) (l : List Nat) (w : World) (hl : RdB w A n l) (hn : n ≤ 1000000) :
    Calls Tryd.prog 20 #[.slice A n c] w fun e w' => ∃ v, e = .returned v ∧ OwnL encB 5 w' w.heap.size v (sumB (crcAdd 0 l) ++ l) ∧ Below w.heap.size w w' := by
  have HL := Lib.hid hl
  clear hl
  go_enter Tryd.func20, Tryd.ntmps20
  go_wp2_with fail
  refine (One_any _ _ _ _ _ HL.out).mono ?_
  rintro e w1 ⟨rfl, hb1⟩
  have HB1 := Lib.hid hb1
  clear hb1
  obtain ⟨b0, h0⟩ : ∃ b0, b0 = crcAdd 0 l / 16777216 % 256 := ⟨_, rfl⟩
  obtain ⟨b1, h1⟩ : ∃ b1, b1 = crcAdd 0 l / 65536 % 256 := ⟨_, rfl⟩
  obtain ⟨b2, h2⟩ : ∃ b2, b2 = crcAdd 0 l / 256 % 256 := ⟨_, rfl⟩
  obtain ⟨b3, h3⟩ : ∃ b3, b3 = crcAdd 0 l % 256 := ⟨_, rfl⟩
  have HQ : Hid (sumB (crcAdd 0 l) = [b0, b1, b2, b3]) := by show _ = _; rw [h0, h1, h2, h3]; rfl
  have r0 : ((crcAdd 0 l : Nat) : Int) / 16777216 % 256 = (b0 : Int) := by rw [h0]; omega
  have r1 : ((crcAdd 0 l : Nat) : Int) / 65536 % 256 = (b1 : Int) := by rw [h1]; omega
  have r2 : ((crcAdd 0 l : Nat) : Int) / 256 % 256 = (b2 : Int) := by rw [h2]; omega
  have r3 : ((crcAdd 0 l : Nat) : Int) % 256 = (b3 : Int) := by rw [h3]; omega
  clear h0 h1 h2 h3
  have hba := (Below.refl w1.heap.size w1).alloc (Nat.le_refl _) (.cells #[.int .u8 b0, .int .u8 b1, .int .u8 b2, .int .u8 b3] 5)
  have HBA := Lib.hid (Below.thn HB1.out hba)
  have HR := Lib.hid (HL.out.below HBA.out).rd
  have HO : Hid (OwnL encB 5 (w1.alloc (.cells #[.int .u8 b0, .int .u8 b1, .int .u8 b2, .int .u8 b3] 5)) w.heap.size (.slice (some ⟨w1.heap.size, 0, none⟩) 4 4) [b0, b1, b2, b3]) := OwnL.lit w1 w.heap.size 5 _ _ 4 rfl rfl HB1.out.size (by decide)
  clear hba
  go_wp2_with (at_builtin; refine wpl_append (enc := encB) w.heap.size rfl (.tmp 17) (.tmp 18) 31 5 (.int .u8 0) 1 rfl Tryd.underlying31 info5 rfl (by decide) encB_one rfl rfl HO.out HR.out (by simp; omega) HBA.out.size ?_; intro v4 w4 hown4 hg4 hat4)
  go_ret
  exact ⟨v4, rfl, by rw [HQ.out]; exact hown4, HBA.out.grown hg4 HBA.out.size (fun k hk => (HO.out.base k hk).1)⟩

theorem openB_eq {l : List Nat} (h : 4 ≤ l.length) : decide (sumB (crcAdd 0 (l.drop 4)) ++ l.drop 4 = l) = openB l := by
  unfold openB
  rw [decide_eq_true h, Bool.true_and]
  congr 1
  apply propext
  constructor
  · intro e
    conv => lhs; rw [← e]
    rfl
  · intro e
    rw [← e, List.take_append_drop]

theorem conv_eq {P : Program} {w : World} (src dst e : TypeId) (hs : P.underlying src = some (.slice e)) (he : P.underlying e = some (.int .u8)) (hd : P.underlying dst = some .string)
    {A1 A2 : Option Addr} {n1 n2 c1 c2 : Nat} {l1 l2 : List Nat} (h1 : RdB w A1 n1 l1) (h2 : RdB w A2 n2 l2) :
    ∃ s1 s2 : ByteArray, (convert src dst (.slice A1 n1 c1)).run P w = .ok (.string s1) w ∧ (convert src dst (.slice A2 n2 c2)).run P w = .ok (.string s2) w ∧ (s1.toList == s2.toList) = decide (l1 = l2) :=
  ⟨_, _, run_string_rd src dst e hs he hd h1, run_string_rd src dst e hs he hd h2, strOf_eq h1.bytes h2.bytes⟩

set_option maxHeartbeats 1000000 in
theorem refOpen_any (A : Option Addr) (n c : Nat) (l : List Nat) (w : World) (hl : RdB w A n l) (hc : n ≤ c) (hn : n ≤ 1000000) :
    Calls Tryd.prog 18 #[.slice A n c] w fun e w' => ∃ v, e = .returned (.tuple #[v, .bool (openB l)]) ∧ OwnL encB 5 w' w.heap.size v (openL l) ∧ Below w.heap.size w w' := by
  have HL := Lib.hid hl
  have HN := Lib.hid hl.1
  clear hl
  by_cases h4 : (n : Int) < 4
  · have HV : Hid (openB l = false) := by show _ = _; unfold openB; rw [HN.out, decide_eq_false (by omega)]; rfl
    go_enter Tryd.func18, Tryd.ntmps18
    go_wp2
    go_ret2
    exact ⟨_, by rw [HV.out]; rfl, by rw [openL_no HV.out]; exact OwnL.nil encB 5 _ _, Below.refl _ _⟩
  · obtain ⟨A1, hcut, _, hrd⟩ := cut_rd (P := Tryd.prog) encB 31 5 Tryd.underlying31 info5 A n c 4 (by omega) hc
    have hcut4 : ∀ W : World, (Instr.slice 31 (.slice A n c) (some (.int .i64 4)) none none).run Tryd.prog W = .ok (.slice A1 (n - 4) (c - 4)) W := hcut
    have HR : Hid (RdB w A1 (n - 4) (l.drop 4)) := RdB.of_rd (hrd w l HL.out.rd) (fun x hx => HL.out.bytes x (List.mem_of_mem_drop hx))
    have HE := Lib.hid (openB_eq (l := l) (by rw [HN.out]; omega))
    clear hcut hrd
    go_enter Tryd.func18, Tryd.ntmps18
    go_wp2_with fail
    refine (refSeal_any _ _ _ _ _ HR.out (by omega)).mono ?_
    rintro e w1 ⟨v, rfl, ho1, hb1⟩
    have hby2 : ∀ x ∈ sumB (crcAdd 0 (l.drop 4)) ++ l.drop 4, x < 256 := by
      intro x hx
      rcases List.mem_append.1 hx with h | h
      · exact sumB_bytes _ x h
      · exact HR.out.bytes x h
    obtain ⟨y, hy⟩ : ∃ y, y = sumB (crcAdd 0 (l.drop 4)) ++ l.drop 4 := ⟨_, rfl⟩
    rw [← hy] at ho1 HE hby2
    clear hy
    obtain ⟨A2, c2, rfl, hlc, hcm, hrd2⟩ := ho1.rd
    have HB1 := Lib.hid hb1
    have hx2 := RdB.of_rd hrd2 hby2
    obtain ⟨s1, s2, r1, r2, hq⟩ := conv_eq (P := Tryd.prog) (c1 := c2) (c2 := c) 31 9 5 Tryd.underlying31 Tryd.underlying5 Tryd.underlying9 hx2 (HL.out.below hb1)
    rw [HE.out] at hq
    have HR2 := Lib.hid (HR.out.below hb1).rd
    have HO2 : Hid (OwnL encB 5 w1 w.heap.size (.slice none 0 0) []) := OwnL.nil encB 5 w1 w.heap.size
    clear ho1 hb1 hby2 hx2 hrd2 hlc hcm
    obtain ⟨q, hq0⟩ : ∃ q, q = openB l := ⟨_, rfl⟩
    have HV := Lib.hid hq0
    rw [← hq0] at hq
    clear hq0
    cases q with
    | false =>
      go_wp2
      go_ret2
      exact ⟨_, by rw [← HV.out]; rfl, by rw [openL_no HV.out.symm]; exact HO2.out, HB1.out⟩
    | true =>
      go_wp2_with (at_builtin; refine wpl_append (enc := encB) w.heap.size rfl (.const (.slice none 0 0)) (.tmp 17) 31 5 (.int .u8 0) 1 rfl Tryd.underlying31 info5 rfl (by decide) encB_one rfl rfl HO2.out HR2.out (by simp; omega) HB1.out.size ?_; intro v4 w4 hown4 hg4 hat4)
      go_ret2
      exact ⟨_, by rw [← HV.out]; rfl, by rw [openL_yes HV.out.symm]; simpa using hown4, HB1.out.grown hg4 HB1.out.size (fun k hk => (HO2.out.base k hk).1)⟩
end Go.Proofs.YtkciljeojifofaaDoor
