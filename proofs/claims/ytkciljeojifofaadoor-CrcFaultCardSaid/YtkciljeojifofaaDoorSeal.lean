/- What Seal, Open, Clone and Equal of the program and of the reference tell. -/
import Derived.Test.YtkciljeojifofaaDoorTwo2
import Derived.Test.YtkciljeojifofaaDoorOwn
import Derived.Laws.BytesArg
import Derived.Laws.ResultCell
import Derived.Lib.Strings
import Derived.Lib.BufferMore
namespace Go.Proofs.YtkciljeojifofaaDoor
open Go.RowKit Crc
set_option linter.unusedVariables false
set_option linter.unusedSimpArgs false

abbrev encB : Nat → Value := fun c => .int .u8 (c : Int)
theorem encB_one (x : Nat) : (encB x).oneCell' = true := rfl
theorem info5 : (Tryd.prog.info? 5).map (fun i => (i.zero, i.size, i.bytes)) = some (some (.int .u8 0), 1, 1) := by kernel_rfl
theorem RdB.rd {w : World} {A : Option Addr} {n : Nat} {l : List Nat} (h : RdB w A n l) : Rd encB w A n l :=
  ⟨h.1, h.2.1, fun h0 => by
    obtain ⟨ad, e, hc⟩ := h.2.2.2 h0
    exact ⟨ad, e, fun j hj => by
      rw [hc j (by have := h.1; omega)]
      simp [List.getD_eq_getElem?_getD, hj]⟩⟩
theorem RdB.of_rd {w : World} {A : Option Addr} {n : Nat} {l : List Nat} (h : Rd encB w A n l) (hb : ∀ c ∈ l, c < 256) : RdB w A n l :=
  ⟨h.len, h.max, hb, fun h0 => by
    obtain ⟨ad, e, hc⟩ := h.cell h0
    exact ⟨ad, e, fun j hj => by
      rw [hc j (by rw [h.len]; exact hj)]
      simp [List.getD_eq_getElem?_getD, h.len, hj]⟩⟩

/-- A sum's four bytes, the highest first. -/
def sumB (s : Nat) : List Nat := [s / 16777216 % 256, s / 65536 % 256, s / 256 % 256, s % 256]
theorem sumB_bytes (s : Nat) : ∀ c ∈ sumB s, c < 256 := by
  intro c hc
  simp only [sumB, List.mem_cons, List.not_mem_nil, or_false] at hc
  rcases hc with rfl | rfl | rfl | rfl <;> exact Nat.mod_lt _ (by decide)

set_option maxHeartbeats 400000 in
theorem head_any (A : Option Addr) (n c : Nat) (l : List Nat) (w : World) (hT : Tab w) (hl : RdB w A n l) :
    Calls Tryd.prog 27 #[.slice A n c] w fun e w' => e = .returned (.agg ((sumB (crcAdd 0 l)).map encB).toArray) ∧ Below w.heap.size w w' := by
  have hb1 := (Below.refl w.heap.size w).alloc (Nat.le_refl _) (.cells #[.int .u8 0, .int .u8 0, .int .u8 0, .int .u8 0] 49)
  have hb2 := hb1.alloc (by simp) (.cells #[.slice A n c] 31)
  have h2 := RdBB.new1 _ 31 A n c l (hl.below hb1)
  rw [World.size_alloc] at h2
  have HT := Lib.hid (hT.below hb2)
  have HL := Lib.hid h2
  have HB2 := Lib.hid hb2
  have hs : ((crcAdd 0 l : Nat) : Int) < 4294967296 := by have := crcAdd_lt (s := 0) (by decide) hl.bytes; omega
  clear hT hl hb1 hb2 h2
  obtain ⟨s, hse⟩ : ∃ s, s = crcAdd 0 l := ⟨_, rfl⟩
  have HS := Lib.hid hse
  rw [← hse] at hs ⊢
  clear hse
  go_enter Tryd.func27, Tryd.ntmps27
  go_wp2_with fail
  refine (Of_any _ _ _ _ _ HT.out HL.out).mono ?_
  rintro e w' ⟨rfl, rfl⟩
  rw [show [l].flatten = l by simp, ← HS.out]
  go_wp2
  refine bodyPost_ret (v := .agg ((sumB s).map encB).toArray) ?_ rfl ⟨rfl, ?_⟩
  · simp [results, Tryd.results27, go_sem, sumB]
    omega
  · repeat (first | exact HB2.out | (refine Below.setCell ?_ (Nat.le_refl _) _) | (refine Below.alloc ?_ (by simp) _) | exact Below.refl _ _)
set_option maxHeartbeats 400000 in
theorem One_any (A : Option Addr) (n c : Nat) (l : List Nat) (w : World) (hl : RdB w A n l) :
    Calls Tryd.prog 28 #[.slice A n c] w fun e w' => e = .returned (.int .u32 (crcAdd 0 l : Nat)) ∧ Below w.heap.size w w' := by
  have HB := Lib.hid ((Below.refl w.heap.size w).alloc (Nat.le_refl _) (.cells #[.slice A n c] 31))
  have HL := Lib.hid (RdBB.new1 w 31 A n c l hl)
  clear hl
  go_enter Tryd.func28, Tryd.ntmps28
  go_wp2_with fail
  refine (refAdd_any _ _ _ _ _ _ (by omega) (by omega) HL.out).mono ?_
  rintro e w' ⟨rfl, rfl⟩
  go_wp2
  go_ret
  exact ⟨by simp, HB.out⟩

/-- bytes.Clone. -/
theorem Clone_any (A : Option Addr) (n c : Nat) (l : List Nat) (w : World) (hl : RdB w A n l) (hn : n ≤ 140737488355328) :
    Calls Tryd.prog 15 #[.slice A n c] w fun e w' => ∃ v, e = .returned v ∧ OwnL encB 5 w' w.heap.size v l ∧ Below w.heap.size w w' := by
  have HL := Lib.hid hl
  have HN := Lib.hid hl.1
  have heq := Lib.run_eql_slice_nil (P := Tryd.prog) w 31 5 A n c 0 0 Tryd.underlying31
  clear hl
  cases A with
  | none =>
    have h0 : n = 0 := by
      rcases Nat.eq_zero_or_pos n with h | h
      · exact h
      · obtain ⟨ad, e, _⟩ := HL.out.2.2.2 h
        cases e
    have hl0 : l = [] := List.eq_nil_of_length_eq_zero (by rw [HN.out]; exact h0)
    subst hl0
    clear h0
    go_enter Tryd.func15, Tryd.ntmps15
    go_wp2
    go_ret
    exact ⟨_, rfl, OwnL.nil encB 5 _ _, Below.refl _ _⟩
  | some ad =>
    go_enter Tryd.func15, Tryd.ntmps15
    have hb := (Below.refl w.heap.size w).alloc (Nat.le_refl _) (.cells #[] 5)
    have HB := Lib.hid hb
    have HR := Lib.hid ((HL.out.below hb).rd)
    have HO : Hid (OwnL encB 5 (w.alloc (.cells #[] 5)) w.heap.size (.slice (some ⟨w.heap.size, 0, none⟩) 0 0) []) := OwnL.lit w w.heap.size 5 [] #[] 0 rfl rfl (Nat.le_refl _) (by decide)
    clear hb
    go_wp2_with (at_builtin; refine wpl_append (enc := encB) w.heap.size rfl (.tmp 5) (.tmp 6) 31 5 (.int .u8 0) 1 rfl Tryd.underlying31 info5 rfl (by decide) encB_one rfl rfl HO.out HR.out (by simp; omega) (by simp) ?_; intro v1 w1 hown hg hat)
    go_ret
    refine ⟨v1, rfl, by simpa using hown, HB.out.grown hg (by simp) (fun k hk => ?_)⟩
    have e : w.heap.size = k := by simpa [Value.ownBlock, Act.eval] using hk
    omega

theorem run_string_rd {P : Program} {w : World} (src dst e : TypeId) (hs : P.underlying src = some (.slice e)) (he : P.underlying e = some (.int .u8)) (hd : P.underlying dst = some .string)
    {A : Option Addr} {n c : Nat} {l : List Nat} (h : RdB w A n l) : (convert src dst (.slice A n c)).run P w = .ok (.string (strOfNums (l.map fun x : Nat => (x : Int)))) w := by
  rcases A with _ | ad
  · have h0 : n = 0 := by
      rcases Nat.eq_zero_or_pos n with h0 | h0
      · exact h0
      · obtain ⟨ad, e, _⟩ := h.2.2.2 h0
        cases e
    have hl0 : l = [] := List.eq_nil_of_length_eq_zero (by rw [h.1]; exact h0)
    subst hl0
    exact run_convert_bytes_nil w src e hs he _ _ dst hd
  · rcases Nat.eq_zero_or_pos n with h0 | h0
    · have hl0 : l = [] := List.eq_nil_of_length_eq_zero (by rw [h.1]; exact h0)
      subst hl0
      subst h0
      obtain ⟨b, o, sp⟩ := ad
      rw [run_convert_bytes_string w src dst e _ 0 c hs he hd]
      rfl
    · obtain ⟨ad', e', hc⟩ := h.2.2.2 h0
      obtain ⟨b, o, sp⟩ := ad
      injection e' with e'
      subst e'
      have hsp : sp = none := by
        have := hc 0 h0
        rw [Addr.add_zero'] at this
        unfold World.cell? at this
        cases sp with
        | none => rfl
        | some x =>
          cases hh : w.heap[b]? with
          | none => simp [hh] at this
          | some o => cases o <;> simp [hh] at this
      subst hsp
      refine run_convert_bytes_arg w src e hs he b o n c _ (by simp [h.1]) (fun i hi => ?_) dst hd
      have := hc i hi
      rw [Addr.add_lit] at this
      rw [this]
      simp [List.getD_eq_getElem?_getD, List.getElem?_map]
      cases l[i]? <;> simp
theorem strOf_eq {l m : List Nat} (hl : ∀ c ∈ l, c < 256) (hm : ∀ c ∈ m, c < 256) :
    ((strOfNums (l.map fun x : Nat => (x : Int))).toList == (strOfNums (m.map fun x : Nat => (x : Int))).toList) = decide (l = m) := by
  have inj : ∀ (l m : List Nat), (∀ c ∈ l, c < 256) → (∀ c ∈ m, c < 256) → l.map UInt8.ofNat = m.map UInt8.ofNat → l = m := by
    intro l
    induction l with
    | nil => intro m _ _ h; cases m with
      | nil => rfl
      | cons => simp at h
    | cons x l ih => intro m h1 h2 h; cases m with
      | nil => simp at h
      | cons y m =>
        simp only [List.map_cons, List.cons.injEq] at h
        have hx := h1 x (by simp)
        have hy := h2 y (by simp)
        have e := congrArg UInt8.toNat h.1
        rw [UInt8.toNat_ofNat_of_lt' hx, UInt8.toNat_ofNat_of_lt' hy] at e
        rw [e, ih m (fun c hc => h1 c (by simp [hc])) (fun c hc => h2 c (by simp [hc])) h.2]
  have e : ∀ l : List Nat, (strOfNums (l.map fun x : Nat => (x : Int))).toList = l.map UInt8.ofNat := by
    intro l
    rw [Lib.toList_data, strOfNums_data]
    simp
  rw [e, e]
  by_cases h : l = m
  · subst h; simp
  · simp only [h, decide_false, beq_eq_false_iff_ne, ne_eq]
    exact fun h' => h (inj l m hl hm h')

set_option maxHeartbeats 400000 in
/-- bytes.Equal. -/
theorem Equal_any (A B : Option Addr) (n c m c' : Nat) (l1 l2 : List Nat) (w : World) (h1 : RdB w A n l1) (h2 : RdB w B m l2) :
    Calls Tryd.prog 19 #[.slice A n c, .slice B m c'] w fun e w' => e = .returned (.bool (decide (l1 = l2))) ∧ w = w' := by
  have r1 := run_string_rd (P := Tryd.prog) (c := c) 31 9 5 Tryd.underlying31 Tryd.underlying5 Tryd.underlying9 h1
  have r2 := run_string_rd (P := Tryd.prog) (c := c') 31 9 5 Tryd.underlying31 Tryd.underlying5 Tryd.underlying9 h2
  have HE := Lib.hid (strOf_eq h1.bytes h2.bytes)
  clear h1 h2
  go_enter Tryd.func19, Tryd.ntmps19
  go_wp2
  go_ret
  exact ⟨by rw [← HE.out]; simp, rfl⟩
end Go.Proofs.YtkciljeojifofaaDoor
