/- The chapter's examples; the law ScoreLogs. -/
import Derived.Test.YthliplkkenolgaaTerm
import Derived.Laws.Tables
namespace Go.Proofs.Ythliplkkenolgaa
open Go.RowKit
set_option linter.unusedVariables false
set_option linter.unusedSimpArgs false

theorem logN_eight (a b : Nat) : logN a b = (itL 8 (mant a b, whole a b)).2 := by unfold logN; rw [k8_eq]
theorem log31 : logX 3 1 = 405 ∧ logE 3 1 = 0 := by
  have h := log_yes (a := 3) (b := 1) (by decide)
  refine ⟨h.1.trans ?_, h.2⟩
  rw [logN_eight]
  decide +kernel
theorem term824 : termX 10 100 2 3 12 = 824 ∧ termE 10 100 2 3 12 = 0 := by
  have ok : okT 10 100 2 3 12 := by unfold okT okS; decide
  have h := term_yes ok
  have hi : idfX 10 100 2 = 547 := by
    unfold idfX
    rw [if_pos ok.1, show ((2 : Int) * 10 + 2).toNat = 22 from rfl, show ((2 : Int) * 2 + 1).toNat = 5 from rfl, logN_eight]
    decide +kernel
  refine ⟨?_, h.2⟩
  rw [h.1, hi]
  decide
set_option maxRecDepth 100000 in
set_option maxHeartbeats 1000000 in
theorem live_any (w : World) : Calls Try.prog 12 #[] w fun e w' => e = .returned (.bool true) ∧ Below w.heap.size w w' := by
  have C1 := Lib.hid (Log_any 3 1 w (by decide) (by decide))
  rw [log31.1, log31.2] at C1
  have C2 := Lib.hid (Term_any 10 100 2 3 12 w (by decide) (by decide) (by decide) (by decide) (by decide))
  rw [term824.1, term824.2] at C2
  have hbd : ∀ W : World, (Instr.build 23 #[(0, .int .i64 10), (1, .int .i64 100)]).run Try.prog W = .ok (.agg #[.int .i64 10, .int .i64 100]) W := fun W => run_build W 23 _ _ (by kernel_rfl)
  go_enter Try.func12, Try.ntmps12
  go_wp2_with fail
  refine C1.out.mono ?_
  rintro e w' ⟨rfl, rfl⟩
  go_wp2_with fail
  refine C2.out.mono ?_
  rintro e w'' ⟨rfl, hb⟩
  go_wp2
  go_ret
  exact ⟨rfl, hb⟩
end Go.Proofs.Ythliplkkenolgaa
