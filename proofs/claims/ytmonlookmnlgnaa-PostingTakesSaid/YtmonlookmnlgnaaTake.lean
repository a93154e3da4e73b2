/- Bytes and numbers are taken. -/
import Derived.Test.YtmonlookmnlgnaaRVar
namespace Go.Proofs.Ytmonlookmnlgnaa
open Go.RowKit
set_option linter.unusedVariables false
set_option linter.unusedSimpArgs false

/-- So many bytes are taken: they, what is left, the error. -/
def rawL (k : Nat) (l : List Nat) (e : Int) : List Nat × List Nat × Int := if e = 0 then (if k ≤ l.length then (l.take k, l.drop k, 0) else ([], l, 10)) else ([], l, e)
theorem rawL_err {k : Nat} {l : List Nat} {e : Int} (h : e ≠ 0) : rawL k l e = ([], l, e) := if_neg h
theorem rawL_ok {k : Nat} {l : List Nat} (h : k ≤ l.length) : rawL k l 0 = (l.take k, l.drop k, 0) := by unfold rawL; rw [if_pos rfl, if_pos h]
theorem rawL_short {k : Nat} {l : List Nat} (h : ¬ k ≤ l.length) : rawL k l 0 = ([], l, 10) := by unfold rawL; rw [if_pos rfl, if_neg h]
theorem rawL_len (k : Nat) (l : List Nat) (e : Int) : (rawL k l e).1.length ≤ k := by
  unfold rawL
  split
  · split
    · simp; omega
    · simp
  · simp

/-- Bytes that lie in a block between lo and hi. -/
def BSin (w : World) (v : Value) (l : List Nat) (lo hi : Nat) : Prop := ∃ A n c, v = .slice A n c ∧ n ≤ c ∧ c ≤ 9223372036854775807 ∧ RdB w A n l ∧ ∀ a, A = some a → lo ≤ a.block ∧ a.block < hi
theorem BSin.bs {w : World} {v : Value} {l : List Nat} {lo hi : Nat} (h : BSin w v l lo hi) : BS w v l := by
  obtain ⟨A, n, c, e, h1, h2, h3, _⟩ := h
  exact ⟨A, n, c, e, h1, h2, h3⟩
theorem BSin.nil (w : World) (lo hi : Nat) : BSin w (.slice none 0 0) [] lo hi := ⟨_, _, _, rfl, Nat.le_refl _, by decide, RdB.empty w, fun a h => by cases h⟩
theorem BSin.kept {w w' : World} {v : Value} {l : List Nat} {lo hi k : Nat} (h : BSin w v l lo hi) (hg : w.grownBy w' (some k)) (hk : ¬ (lo ≤ k ∧ k < hi)) : BSin w' v l lo hi := by
  obtain ⟨A, n, c, e, h1, h2, h3, h4⟩ := h
  exact ⟨A, n, c, e, h1, h2, h3.kept hg (fun a ha he => by injection he with he; have := h4 a ha; rw [he] at this; exact hk this), h4⟩
theorem cutAt_in {A : Option Addr} {c k lo hi : Nat} (h : ∀ a, A = some a → lo ≤ a.block ∧ a.block < hi) : ∀ a, cutAt A c k = some a → lo ≤ a.block ∧ a.block < hi := fun a ha => by
  unfold cutAt at ha
  split at ha
  · exact h a ha
  · obtain ⟨a', h1, rfl⟩ := Option.map_eq_some_iff.1 ha
    have hb : (a'.add k).block = a'.block := by unfold Addr.add; split <;> rfl
    rw [hb]; exact h a' h1

/-- A number of bytes, the highest first. -/
def beN (l : List Nat) : Nat := l.foldl (fun v c => v * 256 + c) 0
theorem beN_succ {l : List Nat} {i : Nat} (h : i < l.length) : beN (l.take (i + 1)) = beN (l.take i) * 256 + l.getD i 0 := by
  unfold beN
  rw [List.take_add_one, List.foldl_append, List.getD_eq_getElem?_getD, List.getElem?_eq_getElem h]
  rfl
theorem beN_lt : ∀ (l : List Nat), Byt l → beN l < 256 ^ l.length := by
  intro l hl
  have key : ∀ i, i ≤ l.length → beN (l.take i) < 256 ^ i := by
    intro i
    induction i with
    | zero => intro _; simp [beN]
    | succ i ih =>
      intro hi
      rw [beN_succ (by omega), Nat.pow_succ]
      have := ih (by omega)
      have := hl.getD i
      omega
  have := key l.length (Nat.le_refl _)
  rwa [List.take_length] at this
theorem bits_or_u64 (v x : Nat) (hv : v < 72057594037927936) (hx : x < 256) : bits .or .u64 ((v : Int) * 256) (x : Int) = ((v * 256 + x : Nat) : Int) := by
  have e : (v : Int) * 256 = ((2 ^ 8 * v : Nat) : Int) := by omega
  rw [e]
  show IntKind.u64.wrap ((BitVec.ofInt 64 ((2 ^ 8 * v : Nat) : Int) ||| BitVec.ofInt 64 (x : Int)).toNat : Int) = _
  rw [BitVec.toNat_or, BitVec.ofInt_natCast, BitVec.ofInt_natCast, BitVec.toNat_ofNat, BitVec.toNat_ofNat, Nat.mod_eq_of_lt (show 2 ^ 8 * v < 2 ^ 64 by omega), Nat.mod_eq_of_lt (show x < 2 ^ 64 by omega)]
  rw [← Nat.two_pow_add_eq_or_of_lt (show x < 2 ^ 8 by omega)]
  rw [IntKind.wrap_u64]; omega

theorem Rdr.byt {w : World} {g : Nat} {l : List Nat} {e : Int} {lo hi : Nat} (h : Rdr w g l e lo hi) : Byt l := by
  obtain ⟨A, n, c, _, _, _, k3, _⟩ := h.b
  exact k3.byt
theorem rawL_byt {l : List Nat} (h : Byt l) {k : Nat} {e : Int} : Byt (rawL k l e).1 := by
  unfold rawL
  split
  · split
    · exact h.take k
    · exact Byt.nil
  · exact Byt.nil
theorem beN_rawL {l : List Nat} (h : Byt l) {k : Nat} {e : Int} : beN (rawL k l e).1 < 256 ^ k :=
  Nat.lt_of_lt_of_le (beN_lt _ (rawL_byt h)) (Nat.pow_le_pow_right (by decide) (rawL_len k l e))

/-- So many bytes are taken, the number of bytes being any. -/
def rawI (k : Int) (l : List Nat) (e : Int) : List Nat × List Nat × Int := if e = 0 then (if k < 0 then ([], l, 1) else rawL k.toNat l 0) else ([], l, e)
set_option maxRecDepth 100000 in
theorem RLeft_any {w : World} {g : Nat} {l : List Nat} {e : Int} {lo hi : Nat} (h : Rdr w g l e lo hi) :
    Calls Try.prog 40 #[.pointer (some ⟨g, 0, none⟩)] w fun e' w' => e' = .returned (.int .i64 (l.length : Nat)) ∧ w = w' := by
  obtain ⟨A, n, c, k0, hnc, hc, k3, k4⟩ := h.b
  rw [k3.len]
  clear h k3 k4
  go_enter Try.func40, Try.ntmps40
  go_wp2
  go_ret
  exact ⟨rfl, rfl⟩
end Go.Proofs.Ytmonlookmnlgnaa
