/- The document's runes of bytes; rows of marks compared. -/
import Derived.Test.YtkkeodlnejckjaaGreatFirst
import Derived.Test.YtkkeodlnejckjaaGreatOwnK
import Derived.Laws.StructEq
namespace Go.Proofs.YtkkeodlnejckjaaGreat
open Go.RowKit
set_option linter.unusedVariables false
set_option linter.unusedSimpArgs false

abbrev encMk : Nat × Nat → List Value := fun x => [.int .i64 (x.1 : Int), .int .i32 (x.2 : Int)]
theorem encMk_len (x : Nat × Nat) : (encMk x).length = 2 := rfl
theorem encMk_one (x : Nat × Nat) (u : Value) (h : u ∈ encMk x) : u.oneCell' = true := by
  simp at h
  rcases h with rfl | rfl <;> rfl
theorem infoMk : (Tryz.prog.info? 127).map (fun i => (i.zero, i.size, i.bytes)) = some (some (.agg #[.int .i64 0, .int .i32 0]), 2, 16) := by kernel_rfl
abbrev RdM := RdK encMk 2
abbrev OwnM (w : World) (base : Nat) (v : Value) (l : List (Nat × Nat)) : Prop := OwnK encMk 2 127 w base v l

set_option maxRecDepth 100000 in
set_option maxHeartbeats 2000000 in
theorem refRunes_any (A : Option Addr) (n c : Nat) (l : List Nat) (w : World) (hl : RdB w A n l) (hc : n ≤ c) (hn : n ≤ 100000000) (hc2 : c ≤ 9223372036854775807) :
    Calls Tryz.prog 80 #[.slice A n c] w fun e w' => ∃ v, e = .returned v ∧ OwnM w' w.heap.size v (marksL l) ∧ Below w.heap.size w w' := by
  have HL := Lib.hid hl
  have hlen := Lib.hid hl.len
  clear hl
  go_enter Tryz.func80, Tryz.ntmps80
  go_wp2_with fail
  have H0 : Hid (OwnM (w.alloc (.cells #[] 127)) w.heap.size (.slice (some ⟨w.heap.size, 0, none⟩) 0 0) []) := Lib.hid (OwnK.lit encMk_len w w.heap.size _ [] #[] 0 rfl rfl (Nat.le_refl _) (by decide))
  have HB0 := Lib.hid ((Below.refl w.heap.size w).alloc (Nat.le_refl _) (.cells #[] 127))
  go_loopw [3, 4] (fun x3 x4 wr => ∃ (pre : List (Nat × Nat)) (pos : Nat), x4 = .int .i64 pos ∧ pos ≤ n ∧ Hid (marksL l = pre ++ mkAt pos (l.drop pos) ∧ pre.length ≤ pos ∧ OwnM wr w.heap.size x3 pre ∧ Below w.heap.size w wr)) (fun _ x4 _ => n - (intOf x4).toNat)
  case atStart => exact ⟨[], 0, rfl, by omega, Lib.hid ⟨rfl, by simp, H0.out, HB0.out⟩⟩
  case round =>
    obtain ⟨pre, pos, rfl, hpos, HI⟩ := hrel
    by_cases hp : (pos : Int) < (n : Int)
    · have hne : l.drop pos ≠ [] := by
        intro h
        have := congrArg List.length h
        simp at this
        have := hlen.out
        omega
      have hcut := fun W => run_cut_l A n c pos (by omega) hc W
      have HRd := Lib.hid ((HL.out.below HI.out.2.2.2).cut (c := c) (k := pos) (by omega) hc)
      have HM : Hid (marksL l = (pre ++ [(pos, (dec (l.drop pos)).1)]) ++ mkAt (pos + (dec (l.drop pos)).2) (l.drop (pos + (dec (l.drop pos)).2))) := Lib.hid (by
        rw [HI.out.1, mkAt_step pos _ hne, List.drop_drop]; simp)
      have hw := dec_w (l.drop pos)
      have hle := dec_le (l.drop pos) hne
      rw [List.length_drop, hlen.out] at hle
      have HF := Lib.hid (first_any (cutAt A c pos) (n - pos) (c - pos) (l.drop pos) wr HRd.out (by omega))
      unfold FirstE at HF
      obtain ⟨d, hd⟩ : ∃ d, d = dec (l.drop pos) := ⟨_, rfl⟩
      rw [← hd] at hw hle HM HF
      obtain ⟨r, k⟩ := d
      simp only at hw hle HM HF
      clear hd hne
      go_wp2_with fail
      refine HF.out.mono ?_
      rintro e w1 ⟨rfl, hb⟩
      have HB1 := Lib.hid (Below.thn HI.out.2.2.2 hb)
      have HO1 := Lib.hid (HI.out.2.2.1.below hb)
      have HBl := (Below.refl w1.heap.size w1).alloc (Nat.le_refl _) (.cells #[.int .i64 (pos : Int), .int .i32 (r : Int)] 127)
      have hrd := RdK.one (enc := encMk) (sz := 2) w1 127 (pos, r) #[.int .i64 (pos : Int), .int .i32 (r : Int)] (0, 0) rfl rfl
      obtain ⟨v1, w2, r1, o1, g1, at1⟩ := run_append_rdK (P := Tryz.prog) (c := 1) w.heap.size 124 124 127 (.agg #[.int .i64 0, .int .i32 0]) 16 Tryz.underlying124 infoMk rfl (by decide) (by decide) encMk_len encMk_one (HO1.out.below HBl) hrd (by have := HI.out.2.1; omega) (by have := HB1.out.size; simp; omega)
      have HB2 : Hid (Below w.heap.size w w2) := Lib.hid ((HB1.out.trans (HBl.mono HB1.out.size)).grown g1 (by have := HB1.out.size; simp; omega) (fun k hk => ((HO1.out.below HBl).base k hk).1))
      have HO2 := Lib.hid o1
      clear HBl hrd o1 g1 at1 hb hcut
      have hs : 0 ≤ (pos : Int) + (k : Int) := by omega
      go_wp2_with (first | (at_builtin; refine wpl_append_run rfl _ _ _ rfl rfl rfl r1 ?_))
      exact ⟨⟨pre ++ [(pos, r)], pos + k, by go_num, by omega, Lib.hid ⟨HM.out, by have := HI.out.2.1; simp; omega, HO2.out, HB2.out⟩⟩, by simp [intOf]; omega⟩
    · have HE : Hid (marksL l = pre) := Lib.hid (by
        rw [HI.out.1, List.drop_of_length_le (by have := hlen.out; omega), mkAt_nil, List.append_nil])
      go_wp2
      go_ret
      exact ⟨_, rfl, by rw [HE.out]; exact HI.out.2.2.1, HI.out.2.2.2⟩

theorem run_neqMk (p q r s : Int) (W : World) : (binOp .neq 127 (.agg #[.int .i64 p, .int .i32 r]) (.agg #[.int .i64 q, .int .i32 s])).run Tryz.prog W = .ok (.bool (!(p == q && r == s))) W := by
  simp only [binOp]
  simp [Op.equal, Op.maxDepth, run_equalIn_struct (P := Tryz.prog) W 9999 127 _ _ (by kernel_rfl) (by kernel_rfl), Program.fieldsOf, Tryz.underlying127, Op.eqFields, go_sem]
  by_cases h1 : p = q <;> by_cases h2 : r = s <;> simp [h1, h2]
theorem run_neqMk_yes (x y : Nat × Nat) (h : x = y) (W : World) : (binOp .neq 127 (.agg #[.int .i64 x.1, .int .i32 x.2]) (.agg #[.int .i64 y.1, .int .i32 y.2])).run Tryz.prog W = .ok (.bool false) W := by
  subst h; rw [run_neqMk]; simp
theorem run_neqMk_no (x y : Nat × Nat) (h : x ≠ y) (W : World) : (binOp .neq 127 (.agg #[.int .i64 x.1, .int .i32 x.2]) (.agg #[.int .i64 y.1, .int .i32 y.2])).run Tryz.prog W = .ok (.bool true) W := by
  rw [run_neqMk]
  have : ¬ (x.1 = y.1 ∧ x.2 = y.2) := fun e => h (Prod.ext e.1 e.2)
  have h2 : ((x.1 : Int) == (y.1 : Int) && (x.2 : Int) == (y.2 : Int)) = false := by
    rw [Bool.eq_false_iff]
    intro h3
    simp at h3
    omega
  rw [h2]
  rfl
/-- What two rows have in common so far. -/
theorem take_stepG {α : Type} {a b : List α} {k : Nat} (h1 : k < a.length) (h2 : k < b.length) : (a.take (k + 1) = b.take (k + 1)) ↔ (a.take k = b.take k ∧ a[k] = b[k]) := by
  rw [List.take_succ_eq_append_getElem h1, List.take_succ_eq_append_getElem h2]
  constructor
  · intro h
    have := List.append_inj h (by simp; omega)
    exact ⟨this.1, by simpa using this.2⟩
  · rintro ⟨h1, h2⟩
    rw [h1, h2]
theorem ne_of_at {α : Type} {a b : List α} {k : Nat} {x y : α} (h1 : ∃ h : k < a.length, a[k] = x) (h2 : ∃ h : k < b.length, b[k] = y) (h : x ≠ y) : a ≠ b := by
  rintro rfl
  obtain ⟨_, h1⟩ := h1
  obtain ⟨_, h2⟩ := h2
  exact h (h1.symm.trans h2)
end Go.Proofs.YtkkeodlnejckjaaGreat
