/- What is in any: pieces put together. -/
import Derived.Test.YtaaddckhldccjaaMrk
namespace Go.Proofs.Ytaaddckhldccjaa
open Go.RowKit
set_option linter.unusedVariables false

def uni (ls : List UV) (d : Nat) : Prop := ∃ x ∈ ls, d ∈ x.l
def tot (ls : List UV) : Nat := (ls.map fun x => x.l.length).sum
theorem uni_append (a b : List UV) (d : Nat) : uni (a ++ b) d ↔ uni a d ∨ uni b d := by
  unfold uni
  constructor
  · rintro ⟨x, hx, hd⟩
    rcases List.mem_append.1 hx with h | h
    · exact .inl ⟨x, h, hd⟩
    · exact .inr ⟨x, h, hd⟩
  · rintro (⟨x, hx, hd⟩ | ⟨x, hx, hd⟩)
    · exact ⟨x, List.mem_append_left _ hx, hd⟩
    · exact ⟨x, List.mem_append_right _ hx, hd⟩
theorem tot_append (a b : List UV) : tot (a ++ b) = tot a + tot b := by simp [tot]
/-- What the pieces so far are put together to. -/
structure PRel (pre : List CK) (nl : List UV) : Prop where
  len : nl.length = pre.length
  up : allUp nl
  uni : ∀ d, uni nl d ↔ uni (pre.flatMap (·.ls)) d
  tot : tot nl ≤ tot (pre.flatMap (·.ls))
theorem PRel.nil : PRel [] [] := ⟨rfl, fun x hx => (by cases hx), fun d => Iff.rfl, Nat.le_refl _⟩
theorem PRel.snoc {pre : List CK} {nl : List UV} (h : PRel pre nl) (p : CK) (x : UV) (hu : Up x.l) (hm : ∀ d, d ∈ x.l ↔ Proofs.Ytaaddckhldccjaa.uni p.ls d) (hl : x.l.length ≤ Proofs.Ytaaddckhldccjaa.tot p.ls) : PRel (pre ++ [p]) (nl ++ [x]) := by
  refine ⟨by simp [h.len], fun y hy => ?_, fun d => ?_, ?_⟩
  · rcases List.mem_append.1 hy with hy | hy
    · exact h.up y hy
    · rw [List.mem_singleton] at hy; subst hy; exact hu
  · rw [List.flatMap_append, uni_append, uni_append, h.uni d]
    simp [Proofs.Ytaaddckhldccjaa.uni, hm]
  · rw [List.flatMap_append, tot_append, tot_append]
    have := h.tot
    simp [Proofs.Ytaaddckhldccjaa.tot] at *
    omega
theorem chunks_flat (ad : Addr) (n : Nat) (ls : List UV) (hn : ls.length = n) : ∀ k, ((List.range k).map (ckAt ad n ls)).flatMap (·.ls) = ls.take (2 * k)
  | 0 => by simp
  | k + 1 => by
    rw [List.range_succ, List.map_append, List.flatMap_append, chunks_flat ad n ls hn k]
    simp only [List.map_cons, List.map_nil, List.flatMap_cons, List.flatMap_nil, List.append_nil, ckAt]
    rw [show 2 * (k + 1) = 2 * k + 2 by omega, List.take_add]
    congr 1
    rw [List.take_eq_take_iff]
    rw [List.length_drop, hn]
    omega
theorem chunks_all (ad : Addr) (n : Nat) (ls : List UV) (hn : ls.length = n) : (chunks ad n ls).flatMap (·.ls) = ls := by
  unfold chunks
  rw [chunks_flat ad n ls hn, List.take_of_length_le (by omega)]
theorem piece1 (x : UV) : (∀ d, d ∈ x.l ↔ uni [x] d) ∧ x.l.length ≤ tot [x] := ⟨fun d => by simp [uni], by simp [tot]⟩
theorem piece2 (a b : UV) (ha : Up a.l) (hb : Up b.l) : Up (eitherL a.l b.l) ∧ (∀ d, d ∈ eitherL a.l b.l ↔ uni [a, b] d) ∧ (eitherL a.l b.l).length ≤ tot [a, b] :=
  ⟨either_up _ _ _ (Nat.le_refl _) ha hb, fun d => by rw [either_mem _ _ _ (Nat.le_refl _) d]; simp [uni], by have := either_len _ a.l b.l (Nat.le_refl _); simpa [tot] using this⟩
end Go.Proofs.Ytaaddckhldccjaa
