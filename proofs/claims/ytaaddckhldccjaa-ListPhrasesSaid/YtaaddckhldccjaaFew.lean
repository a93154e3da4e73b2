/- Lists that are short. -/
import Derived.Test.YtaaddckhldccjaaRefOr
namespace Go.Proofs.Ytaaddckhldccjaa
open Go.RowKit
set_option linter.unusedVariables false
set_option linter.unusedSimpArgs false

def fewP (ls : List UV) : Prop := ls.length ≤ 12 ∧ ∀ x ∈ ls, x.n ≤ 120
instance (ls : List UV) : Decidable (fewP ls) := inferInstanceAs (Decidable (_ ∧ _))
def fewB (ls : List UV) : Bool := decide (fewP ls)
theorem few_any (A : Option Addr) (n c : Nat) (ls : List UV) (w : World) (h : RdUU w A n ls) :
    Calls Try.prog 13 #[.slice A n c] w fun e w' => e = .returned (.bool (fewB ls)) ∧ w = w' := by
  have HR := Lib.hid h
  have hn := h.rd.max
  have HLn := Lib.hid h.len
  clear h
  by_cases h12 : (n : Int) > 12
  · have HN : Hid (fewB ls = false) := Lib.hid (decide_eq_false fun hf => by have := hf.1; have := HLn.out; omega)
    go_enter Try.func13, Try.ntmps13
    go_wp2
    go_ret
    exact ⟨by rw [HN.out]; rfl, rfl⟩
  go_enter Try.func13, Try.ntmps13
  go_wp2_with fail
  go_loopw [10] (fun x wr => ∃ k : Nat, x = .int .i64 (k : Nat) ∧ k ≤ n ∧ Hid (∀ y ∈ ls.take k, y.n ≤ 120) ∧ w = wr) (fun x _ => n - (intOf x).toNat)
  case atStart => exact ⟨0, rfl, Nat.zero_le _, Lib.hid (fun y hy => by simp at hy), rfl⟩
  case round =>
    obtain ⟨k, rfl, hk, HI, rfl⟩ := hrel
    by_cases hlt : (k : Int) < (n : Int)
    · obtain ⟨ad, x, rfl, HX, HO, hxm, x0⟩ := HR.out.at (k := k) (by omega)
      by_cases h120 : (x.n : Int) > 120
      · have HN : Hid (fewB ls = false) := Lib.hid (decide_eq_false fun hf => by
          obtain ⟨hl, e9⟩ := HX.out
          have := hf.2 x (by rw [← e9]; exact List.getElem_mem hl)
          omega)
        go_wp2
        go_ret
        exact ⟨by rw [HN.out]; rfl, rfl⟩
      · have HN : Hid (∀ y ∈ ls.take (k + 1), y.n ≤ 120) := Lib.hid (fun y hy => by
          obtain ⟨hl, e9⟩ := HX.out
          rw [List.take_succ_eq_append_getElem hl, e9] at hy
          rcases List.mem_append.1 hy with hy | hy
          · exact HI.out y hy
          · rw [List.mem_singleton] at hy; subst hy; omega)
        go_wp2
        exact ⟨⟨k + 1, by simp; try go_num, by omega, HN, trivial⟩, by simp [intOf]; omega⟩
    · have HT : Hid (fewB ls = true) := Lib.hid (decide_eq_true ⟨by have := HLn.out; omega, fun y hy => HI.out y (by rw [List.take_of_length_le (by have := HLn.out; omega)]; exact hy)⟩)
      go_wp2
      go_ret
      exact ⟨by rw [HT.out]; rfl, rfl⟩
end Go.Proofs.Ytaaddckhldccjaa
