/- Bytes and numbers are taken. -/
import Derived.Test.YtljnfciolalbdaaRVar
namespace Go.Proofs.Ytljnfciolalbdaa
open Go.RowKit
set_option linter.unusedVariables false
set_option linter.unusedSimpArgs false

/-- So many bytes are taken: they, what is left, the error. -/
def rawL (k : Nat) (l : List Nat) (e : Int) : List Nat × List Nat × Int := if e = 0 then (if k ≤ l.length then (l.take k, l.drop k, 0) else ([], l, 10)) else ([], l, e)
theorem rawL_err {k : Nat} {l : List Nat} {e : Int} (h : e ≠ 0) : rawL k l e = ([], l, e) := if_neg h
theorem rawL_ok {k : Nat} {l : List Nat} (h : k ≤ l.length) : rawL k l 0 = (l.take k, l.drop k, 0) := by unfold rawL; rw [if_pos rfl, if_pos h]
theorem rawL_short {k : Nat} {l : List Nat} (h : ¬ k ≤ l.length) : rawL k l 0 = ([], l, 10) := by unfold rawL; rw [if_pos rfl, if_neg h]
theorem rawL_len (k : Nat) (l : List Nat) (e : Int) : (rawL k l e).1.length ≤ k := by
  unfold rawL
  split
  · split
    · simp; omega
    · simp
  · simp

/-- Bytes that lie in a block between lo and hi. -/
def BSin (w : World) (v : Value) (l : List Nat) (lo hi : Nat) : Prop := ∃ A n c, v = .slice A n c ∧ n ≤ c ∧ c ≤ 9223372036854775807 ∧ RdB w A n l ∧ ∀ a, A = some a → lo ≤ a.block ∧ a.block < hi
theorem BSin.bs {w : World} {v : Value} {l : List Nat} {lo hi : Nat} (h : BSin w v l lo hi) : BS w v l := by
  obtain ⟨A, n, c, e, h1, h2, h3, _⟩ := h
  exact ⟨A, n, c, e, h1, h2, h3⟩
theorem BSin.nil (w : World) (lo hi : Nat) : BSin w (.slice none 0 0) [] lo hi := ⟨_, _, _, rfl, Nat.le_refl _, by decide, RdB.empty w, fun a h => by cases h⟩
theorem BSin.kept {w w' : World} {v : Value} {l : List Nat} {lo hi k : Nat} (h : BSin w v l lo hi) (hg : w.grownBy w' (some k)) (hk : ¬ (lo ≤ k ∧ k < hi)) : BSin w' v l lo hi := by
  obtain ⟨A, n, c, e, h1, h2, h3, h4⟩ := h
  exact ⟨A, n, c, e, h1, h2, h3.kept hg (fun a ha he => by injection he with he; have := h4 a ha; rw [he] at this; exact hk this), h4⟩
theorem cutAt_in {A : Option Addr} {c k lo hi : Nat} (h : ∀ a, A = some a → lo ≤ a.block ∧ a.block < hi) : ∀ a, cutAt A c k = some a → lo ≤ a.block ∧ a.block < hi := fun a ha => by
  unfold cutAt at ha
  split at ha
  · exact h a ha
  · obtain ⟨a', h1, rfl⟩ := Option.map_eq_some_iff.1 ha
    have hb : (a'.add k).block = a'.block := by unfold Addr.add; split <;> rfl
    rw [hb]; exact h a' h1

set_option maxRecDepth 100000 in
set_option maxHeartbeats 2000000 in
theorem next_any {w : World} {g : Nat} {l : List Nat} {e : Int} {lo hi : Nat} (k : Nat) (hk : k ≤ 9223372036854775807) (h : Rdr w g l e lo hi) :
    Calls Try.prog 52 #[.pointer (some ⟨g, 0, none⟩), .int .i64 k] w fun e' w' => ∃ r, e' = .returned r ∧ BSin w' r (rawL k l e).1 lo hi ∧ Rdr w' g (rawL k l e).2.1 (rawL k l e).2.2 lo hi ∧ w.grownBy w' (some g) := by
  have C0 := Lib.hid (none_any h)
  have HH := Lib.hid h
  by_cases h0 : e = 0
  · subst h0
    rw [show decide ((0 : Int) ≠ 0) = false by decide] at C0
    obtain ⟨A, n, c, k0, hnc, hc, k3, k4⟩ := h.b
    have kf := h.f0
    have hlen := k3.len
    have hn := k3.max
    by_cases hkn : k ≤ n
    · have HV := Lib.hid (rawL_ok (k := k) (l := l) (by omega))
      have hsl := run_cut_hm A n c k k (Nat.le_refl _) (by omega)
      have q1 : ¬ (n : Int) < (k : Int) := by omega
      have q2 : k ≤ c := by omega
      have hcu := Lib.hid (h.cut k0 hkn)
      have hne : ∀ a, A = some a → some a.block ≠ some g := fun a ha he => by
        injection he with he
        have := k4 a ha
        have := h.out
        omega
      have hbs : Hid (∀ (w' : World), w.grownBy w' (some g) → BSin w' (.slice A k k) (l.take k) lo hi) := Lib.hid (fun (w' : World) (hg : w.grownBy w' (some g)) => ⟨A, k, k, rfl, Nat.le_refl _, hk, (k3.take k hkn).kept hg hne, k4⟩)
      clear h k3 k4 hlen hne
      go_enter Try.func52, Try.ntmps52
      go_wp2_with fail
      refine C0.out.mono ?_
      rintro e w1 ⟨rfl, rfl⟩
      go_wp2
      all_goals
        go_ret
        rw [HV.out]
        have hc2 := hcu.out
        unfold cutAt at hc2
        first
          | (have hcase : ¬ c = k := by assumption
             rw [if_neg hcase] at hc2
             exact ⟨_, rfl, hbs.out _ hc2.2, hc2.1, hc2.2⟩)
          | (have hcase : c = k := by assumption
             rw [if_pos hcase, show c - k = 0 from by omega] at hc2
             exact ⟨_, rfl, hbs.out _ hc2.2, hc2.1, hc2.2⟩)
    · have HV := Lib.hid (rawL_short (k := k) (l := l) (by omega))
      have q1 : (n : Int) < (k : Int) := by omega
      have HCF := Lib.hid (fails_any h 10)
      have HF := Lib.hid (h.fail 10)
      clear h k3 k4 hlen hkn
      go_enter Try.func52, Try.ntmps52
      go_wp2_with fail
      refine C0.out.mono ?_
      rintro e w1 ⟨rfl, rfl⟩
      go_wp2_with fail
      refine HCF.out.mono ?_
      rintro e w2 ⟨rfl, rfl⟩
      go_wp2
      go_ret
      rw [HV.out]
      exact ⟨_, rfl, BSin.nil _ _ _, HF.out.1, HF.out.2⟩
  · have HV := Lib.hid (rawL_err (k := k) (l := l) h0)
    rw [decide_eq_true h0] at C0
    clear h h0
    go_enter Try.func52, Try.ntmps52
    go_wp2_with fail
    refine C0.out.mono ?_
    rintro e w1 ⟨rfl, rfl⟩
    go_wp2
    go_ret
    rw [HV.out]
    exact ⟨_, rfl, BSin.nil _ _ _, HH.out, World.grownBy.refl w _⟩

/-- A number of bytes, the highest first. -/
def beN (l : List Nat) : Nat := l.foldl (fun v c => v * 256 + c) 0
theorem beN_succ {l : List Nat} {i : Nat} (h : i < l.length) : beN (l.take (i + 1)) = beN (l.take i) * 256 + l.getD i 0 := by
  unfold beN
  rw [List.take_add_one, List.foldl_append, List.getD_eq_getElem?_getD, List.getElem?_eq_getElem h]
  rfl
theorem beN_lt : ∀ (l : List Nat), Byt l → beN l < 256 ^ l.length := by
  intro l hl
  have key : ∀ i, i ≤ l.length → beN (l.take i) < 256 ^ i := by
    intro i
    induction i with
    | zero => intro _; simp [beN]
    | succ i ih =>
      intro hi
      rw [beN_succ (by omega), Nat.pow_succ]
      have := ih (by omega)
      have := hl.getD i
      omega
  have := key l.length (Nat.le_refl _)
  rwa [List.take_length] at this
theorem bits_or_u64 (v x : Nat) (hv : v < 72057594037927936) (hx : x < 256) : bits .or .u64 ((v : Int) * 256) (x : Int) = ((v * 256 + x : Nat) : Int) := by
  have e : (v : Int) * 256 = ((2 ^ 8 * v : Nat) : Int) := by omega
  rw [e]
  show IntKind.u64.wrap ((BitVec.ofInt 64 ((2 ^ 8 * v : Nat) : Int) ||| BitVec.ofInt 64 (x : Int)).toNat : Int) = _
  rw [BitVec.toNat_or, BitVec.ofInt_natCast, BitVec.ofInt_natCast, BitVec.toNat_ofNat, BitVec.toNat_ofNat, Nat.mod_eq_of_lt (show 2 ^ 8 * v < 2 ^ 64 by omega), Nat.mod_eq_of_lt (show x < 2 ^ 64 by omega)]
  rw [← Nat.two_pow_add_eq_or_of_lt (show x < 2 ^ 8 by omega)]
  rw [IntKind.wrap_u64]; omega

set_option maxRecDepth 100000 in
set_option maxHeartbeats 2000000 in
theorem number_any {w : World} {g : Nat} {l : List Nat} {e : Int} {lo hi : Nat} (k : Nat) (hk : k ≤ 8) (h : Rdr w g l e lo hi) :
    Calls Try.prog 49 #[.pointer (some ⟨g, 0, none⟩), .int .i64 k] w fun e' w' => e' = .returned (.int .u64 (beN (rawL k l e).1 : Nat)) ∧ Rdr w' g (rawL k l e).2.1 (rawL k l e).2.2 lo hi ∧ w.grownBy w' (some g) := by
  have C := Lib.hid (next_any k (by omega) h)
  have hL := rawL_len k l e
  obtain ⟨R, hR⟩ : ∃ R, R = rawL k l e := ⟨_, rfl⟩
  rw [← hR] at C hL ⊢
  clear h hR
  go_enter Try.func49, Try.ntmps49
  go_wp2_with fail
  refine C.out.mono ?_
  rintro e' w1 ⟨r, rfl, hbs, hrd, hgr⟩
  obtain ⟨A, n, c, rfl, hnc, hc, hrb, _⟩ := hbs
  have HR := Lib.hid hrb
  have HX := Lib.hid (And.intro hrd hgr)
  have hn : n ≤ 8 := by rw [← hrb.len]; omega
  clear hrd hgr hrb hL
  go_wp2_with fail
  go_loop [5, 12] (fun y x => ∃ i v : Nat, x = .int .i64 i ∧ y = .int .u64 v ∧ i ≤ n ∧ Hid (v = beN (R.1.take i))) (fun _ x => n - (intOf x).toNat)
  case atStart => exact ⟨0, 0, rfl, rfl, Nat.zero_le _, Lib.hid rfl⟩
  case round =>
    rename_i hwr
    clear hwr
    obtain ⟨i, v, rfl, rfl, hi, HV⟩ := hrel
    by_cases hlt : (i : Int) < (n : Int)
    · obtain ⟨ad, x, rfl, HXX, hxb, hcell⟩ := HR.out.at (k := i) (by omega)
      have hvl : v < 256 ^ i := by
        have h1 := beN_lt (R.1.take i) (HR.out.byt.take i)
        rw [← HV.out, List.length_take, HR.out.len, Nat.min_eq_left (by omega)] at h1
        exact h1
      have hvb : v < 72057594037927936 := by
        have : 256 ^ i ≤ 256 ^ 7 := Nat.pow_le_pow_right (by decide) (by omega)
        omega
      have hor := Lib.hid (bits_or_u64 v x hvb hxb)
      have HV2 : Hid (v * 256 + x = beN (R.1.take (i + 1))) := Lib.hid (by rw [beN_succ (by rw [HR.out.len]; omega), ← HV.out, ← HXX.out])
      clear hvl
      go_wp2
      refine ⟨⟨i + 1, v * 256 + x, by go_num, by rw [hor.out], by omega, HV2⟩, by simp [intOf]; omega⟩
    · have HV3 : Hid (v = beN R.1) := Lib.hid (by rw [HV.out, List.take_of_length_le (by rw [HR.out.len]; omega)])
      clear HV
      go_wp2
      go_ret
      exact ⟨by rw [HV3.out]; rfl, HX.out⟩
theorem Rdr.byt {w : World} {g : Nat} {l : List Nat} {e : Int} {lo hi : Nat} (h : Rdr w g l e lo hi) : Byt l := by
  obtain ⟨A, n, c, _, _, _, k3, _⟩ := h.b
  exact k3.byt
theorem rawL_byt {l : List Nat} (h : Byt l) {k : Nat} {e : Int} : Byt (rawL k l e).1 := by
  unfold rawL
  split
  · split
    · exact h.take k
    · exact Byt.nil
  · exact Byt.nil
theorem beN_rawL {l : List Nat} (h : Byt l) {k : Nat} {e : Int} : beN (rawL k l e).1 < 256 ^ k :=
  Nat.lt_of_lt_of_le (beN_lt _ (rawL_byt h)) (Nat.pow_le_pow_right (by decide) (rawL_len k l e))

set_option maxRecDepth 100000 in
theorem RU8_any {w : World} {g : Nat} {l : List Nat} {e : Int} {lo hi : Nat} (h : Rdr w g l e lo hi) :
    Calls Try.prog 36 #[.pointer (some ⟨g, 0, none⟩)] w fun e' w' => e' = .returned (.int .u8 (beN (rawL 1 l e).1 : Nat)) ∧ Rdr w' g (rawL 1 l e).2.1 (rawL 1 l e).2.2 lo hi ∧ w.grownBy w' (some g) := by
  have C := Lib.hid (number_any 1 (by decide) h)
  have hV := beN_rawL h.byt (k := 1) (e := e)
  obtain ⟨V, hVd⟩ : ∃ V, V = beN (rawL 1 l e).1 := ⟨_, rfl⟩
  rw [← hVd] at C hV ⊢
  clear h hVd
  go_enter Try.func36, Try.ntmps36
  go_wp2_with fail
  refine C.out.mono ?_
  rintro e' w1 ⟨rfl, hX⟩
  have HX := Lib.hid hX
  clear hX
  go_wp2
  go_ret
  refine ⟨?_, HX.out⟩
  first
    | rfl
    | (have e0 : (V : Int) % 256 = (V : Int) := by omega
       exact congrArg (fun z => Ending.returned (Value.int .u8 z)) e0)
    | (have e0 : IntKind.u8.wrap (V : Int) = (V : Int) := by (simp [IntKind.wrap, IntKind.bits, IntKind.signed]; omega)
       exact congrArg (fun z => Ending.returned (Value.int .u8 z)) e0)

set_option maxRecDepth 100000 in
theorem RU16_any {w : World} {g : Nat} {l : List Nat} {e : Int} {lo hi : Nat} (h : Rdr w g l e lo hi) :
    Calls Try.prog 37 #[.pointer (some ⟨g, 0, none⟩)] w fun e' w' => e' = .returned (.int .u16 (beN (rawL 2 l e).1 : Nat)) ∧ Rdr w' g (rawL 2 l e).2.1 (rawL 2 l e).2.2 lo hi ∧ w.grownBy w' (some g) := by
  have C := Lib.hid (number_any 2 (by decide) h)
  have hV := beN_rawL h.byt (k := 2) (e := e)
  obtain ⟨V, hVd⟩ : ∃ V, V = beN (rawL 2 l e).1 := ⟨_, rfl⟩
  rw [← hVd] at C hV ⊢
  clear h hVd
  go_enter Try.func37, Try.ntmps37
  go_wp2_with fail
  refine C.out.mono ?_
  rintro e' w1 ⟨rfl, hX⟩
  have HX := Lib.hid hX
  clear hX
  go_wp2
  go_ret
  refine ⟨?_, HX.out⟩
  first
    | rfl
    | (have e0 : (V : Int) % 65536 = (V : Int) := by omega
       exact congrArg (fun z => Ending.returned (Value.int .u16 z)) e0)
    | (have e0 : IntKind.u16.wrap (V : Int) = (V : Int) := by (simp [IntKind.wrap, IntKind.bits, IntKind.signed]; omega)
       exact congrArg (fun z => Ending.returned (Value.int .u16 z)) e0)

set_option maxRecDepth 100000 in
theorem RU32_any {w : World} {g : Nat} {l : List Nat} {e : Int} {lo hi : Nat} (h : Rdr w g l e lo hi) :
    Calls Try.prog 38 #[.pointer (some ⟨g, 0, none⟩)] w fun e' w' => e' = .returned (.int .u32 (beN (rawL 4 l e).1 : Nat)) ∧ Rdr w' g (rawL 4 l e).2.1 (rawL 4 l e).2.2 lo hi ∧ w.grownBy w' (some g) := by
  have C := Lib.hid (number_any 4 (by decide) h)
  have hV := beN_rawL h.byt (k := 4) (e := e)
  obtain ⟨V, hVd⟩ : ∃ V, V = beN (rawL 4 l e).1 := ⟨_, rfl⟩
  rw [← hVd] at C hV ⊢
  clear h hVd
  go_enter Try.func38, Try.ntmps38
  go_wp2_with fail
  refine C.out.mono ?_
  rintro e' w1 ⟨rfl, hX⟩
  have HX := Lib.hid hX
  clear hX
  go_wp2
  go_ret
  refine ⟨?_, HX.out⟩
  first
    | rfl
    | (have e0 : (V : Int) % 4294967296 = (V : Int) := by omega
       exact congrArg (fun z => Ending.returned (Value.int .u32 z)) e0)
    | (have e0 : IntKind.u32.wrap (V : Int) = (V : Int) := by (simp [IntKind.wrap, IntKind.bits, IntKind.signed]; omega)
       exact congrArg (fun z => Ending.returned (Value.int .u32 z)) e0)

set_option maxRecDepth 100000 in
theorem RU64_any {w : World} {g : Nat} {l : List Nat} {e : Int} {lo hi : Nat} (h : Rdr w g l e lo hi) :
    Calls Try.prog 39 #[.pointer (some ⟨g, 0, none⟩)] w fun e' w' => e' = .returned (.int .u64 (beN (rawL 8 l e).1 : Nat)) ∧ Rdr w' g (rawL 8 l e).2.1 (rawL 8 l e).2.2 lo hi ∧ w.grownBy w' (some g) := by
  have C := Lib.hid (number_any 8 (by decide) h)
  have hV := beN_rawL h.byt (k := 8) (e := e)
  obtain ⟨V, hVd⟩ : ∃ V, V = beN (rawL 8 l e).1 := ⟨_, rfl⟩
  rw [← hVd] at C hV ⊢
  clear h hVd
  go_enter Try.func39, Try.ntmps39
  go_wp2_with fail
  refine C.out.mono ?_
  rintro e' w1 ⟨rfl, hX⟩
  have HX := Lib.hid hX
  clear hX
  go_wp2
  go_ret
  refine ⟨?_, HX.out⟩
  rfl

/-- So many bytes are taken, the number of bytes being any. -/
def rawI (k : Int) (l : List Nat) (e : Int) : List Nat × List Nat × Int := if e = 0 then (if k < 0 then ([], l, 1) else rawL k.toNat l 0) else ([], l, e)
set_option maxRecDepth 100000 in
set_option maxHeartbeats 1000000 in
theorem RRaw_any {w : World} {g : Nat} {l : List Nat} {e : Int} {lo hi : Nat} (k : Int) (hk : k ≤ 9223372036854775807) (h : Rdr w g l e lo hi) :
    Calls Try.prog 41 #[.pointer (some ⟨g, 0, none⟩), .int .i64 k] w fun e' w' => ∃ r, e' = .returned r ∧ BSin w' r (rawI k l e).1 lo hi ∧ Rdr w' g (rawI k l e).2.1 (rawI k l e).2.2 lo hi ∧ w.grownBy w' (some g) := by
  have C0 := Lib.hid (none_any h)
  have HH := Lib.hid h
  by_cases h0 : e = 0
  · subst h0
    rw [show decide ((0 : Int) ≠ 0) = false by decide] at C0
    by_cases hk0 : k < 0
    · have HV := Lib.hid (show rawI k l 0 = ([], l, 1) by unfold rawI; rw [if_pos rfl, if_pos hk0])
      have HCF := Lib.hid (fails_any h 1)
      have HF := Lib.hid (h.fail 1)
      clear h
      go_enter Try.func41, Try.ntmps41
      go_wp2_with fail
      refine C0.out.mono ?_
      rintro e w1 ⟨rfl, rfl⟩
      go_wp2_with fail
      refine HCF.out.mono ?_
      rintro e w2 ⟨rfl, rfl⟩
      go_wp2
      go_ret
      rw [HV.out]
      exact ⟨_, rfl, BSin.nil _ _ _, HF.out.1, HF.out.2⟩
    · obtain ⟨m, rfl⟩ : ∃ m : Nat, k = m := ⟨k.toNat, by omega⟩
      have HV := Lib.hid (show rawI (m : Int) l 0 = rawL m l 0 by unfold rawI; rw [if_pos rfl, if_neg hk0]; rfl)
      have C := Lib.hid (next_any m (by omega) h)
      clear h
      go_enter Try.func41, Try.ntmps41
      go_wp2_with fail
      refine C0.out.mono ?_
      rintro e w1 ⟨rfl, rfl⟩
      go_wp2_with fail
      refine C.out.mono ?_
      rintro e w2 ⟨r, rfl, hX⟩
      have HX := Lib.hid hX
      clear hX
      go_wp2
      go_ret
      rw [HV.out]
      exact ⟨_, rfl, HX.out⟩
  · have HV := Lib.hid (show rawI k l e = ([], l, e) from if_neg h0)
    rw [decide_eq_true h0] at C0
    clear h h0
    go_enter Try.func41, Try.ntmps41
    go_wp2_with fail
    refine C0.out.mono ?_
    rintro e w1 ⟨rfl, rfl⟩
    go_wp2
    go_ret
    rw [HV.out]
    exact ⟨_, rfl, BSin.nil _ _ _, HH.out, World.grownBy.refl w _⟩
set_option maxRecDepth 100000 in
theorem RLeft_any {w : World} {g : Nat} {l : List Nat} {e : Int} {lo hi : Nat} (h : Rdr w g l e lo hi) :
    Calls Try.prog 32 #[.pointer (some ⟨g, 0, none⟩)] w fun e' w' => e' = .returned (.int .i64 (l.length : Nat)) ∧ w = w' := by
  obtain ⟨A, n, c, k0, hnc, hc, k3, k4⟩ := h.b
  rw [k3.len]
  clear h k3 k4
  go_enter Try.func32, Try.ntmps32
  go_wp2
  go_ret
  exact ⟨rfl, rfl⟩
end Go.Proofs.Ytljnfciolalbdaa
