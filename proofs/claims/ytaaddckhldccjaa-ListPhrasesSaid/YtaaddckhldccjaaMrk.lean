/- A function that leaves with several marks among its deferred calls. -/
import Derived.Test.YtaaddckhldccjaaFew
import Derived.Test.YtaaddckhldccjaaChunk
import Derived.RangeFuncLeaves
import Derived.RangeFuncRecord
namespace Go.Proofs.Ytaaddckhldccjaa
open Go.RowKit
set_option linter.unusedVariables false

abbrev markOf (D : Nat) : Deferred := { target := .collected D, args := #[] }
theorem leaves_marks {F : Fence} {n : Nat} {P : Program} {fn : Func} {tmps : Array Value} {R : Ending → World → Prop} {v : Value} {b : Nat} (hv : ∀ W, (results fn tmps).run P W = .ok v W) (G : World → Prop)
    (hG : ∀ W D, b ≤ D → W.heap[D]? = some (.deferred (some [])) → G W → G (W.putObj D (.deferred none))) (hR : ∀ W, G W → R (.returned v) W) :
    ∀ (Ds : List Nat) (W : World), Ds.Pairwise (· ≠ ·) → (∀ D ∈ Ds, b ≤ D ∧ W.heap[D]? = some (.deferred (some []))) → G W → LeavesInM F n P fn tmps R (Ds.map markOf) .returning W
  | [], W, _, _, hg => ⟨v, hv W, hR W hg⟩
  | D :: Ds, W, hp, hd, hg => by
    obtain ⟨hp1, hp2⟩ := List.pairwise_cons.1 hp
    obtain ⟨h1, h2⟩ := hd D (by simp)
    refine ⟨by simp, .inl ⟨D, _, rfl, run_takeDeferred h2, leaves_marks hv G hG hR Ds _ hp2 (fun D' hm => ?_) (hG W D h1 h2 hg)⟩⟩
    obtain ⟨h3, h4⟩ := hd D' (List.mem_cons_of_mem _ hm)
    exact ⟨h3, (World.putObj_heap_other (hp1 D' hm).symm).trans h4⟩
end Go.Proofs.Ytaaddckhldccjaa
