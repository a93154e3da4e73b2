import Derived.Test.YtkkeodlnejckjaaGreatBytes
import Derived.ProofKit
import Derived.OpenShut
import Derived.Deep.Slices
import Derived.Deep.Strs

/- Slices of bytes that came in, opened. -/
namespace Go.Proofs.YtkkeodlnejckjaaGreat
open Go.ChangeShapes Go.WideShapes Go.ChangeAt Go.RowKit
set_option linter.unusedVariables false
set_option linter.unusedSimpArgs false

/-- Bytes as natural numbers. -/
def natsOf (zs : List Int) : List Nat := zs.map Int.toNat
theorem RdB.of_cells {w : World} {A : Option Addr} {n c : Nat} {zs : List Int} (hn : n ≤ c) (hc : c ≤ maxLen) (hz : zs.length = c) (hwf : ∀ x ∈ zs, (Lit.int .u8 x).wf = true)
    (hcell : 0 < n → ∃ ad, A = some ad ∧ ∀ j, j < n → w.cell? (ad.add j) = some (.int .u8 (zs.getD j 0))) : RdB w A n (natsOf (zs.take n)) := by
  unfold maxLen at hc
  have hlen : (natsOf (zs.take n)).length = n := by simp [natsOf]; omega
  refine ⟨⟨hlen, by omega, fun h0 => ?_⟩, ?_⟩
  · obtain ⟨ad, e, hcl⟩ := hcell h0
    refine ⟨ad, e, fun j hj => ?_⟩
    have hj1 : j < n := by omega
    rw [hcl j hj1]
    have hj' : j < zs.length := by omega
    have hw := bounds_u8 (hwf (zs[j]) (by simp))
    simp only [natsOf, List.getElem_map, List.getElem_take]
    rw [List.getD_eq_getElem?_getD, List.getElem?_eq_getElem hj']
    simp only [Option.getD_some]
    show some (Value.int .u8 zs[j]) = some (Value.int .u8 ((zs[j].toNat : Nat) : Int))
    rw [Int.toNat_of_nonneg hw.1]
  · intro x hx
    obtain ⟨y, hy, rfl⟩ := List.mem_map.1 hx
    have := bounds_u8 (hwf y (List.mem_of_mem_take hy))
    omega
set_option maxRecDepth 100000 in
theorem open_b {H : Type} {enc : TypeId × Value → H} {W : World} {base base' : Nat} {v : Value} {d : DataW H} {p : List MemPlace} (hv : Value.okWide Tryz.prog W .any base' 26 v)
    (h : DataW.Trod enc Tryz.prog W base (fun _ => true) true 26 v d p) : ∃ A n c l, v = .slice A n c ∧ (n ≤ c ∧ c ≤ 9223372036854775807) ∧ RdB W A n l := by
  obtain ⟨A, n, c, rfl⟩ := okWide_slice Tryz.underlying26 hv
  obtain ⟨fuel, hf⟩ := h
  rcases open_ints Tryz.underlying26 Tryz.underlying5 (by kernel_rfl) hf with ⟨hcs, _⟩ | ⟨x, l, cp, zs, hcs, _, hl, hm, hz, _, hcell, hwz⟩
  · simp [Value.cells] at hcs
    obtain ⟨rfl, rfl, rfl⟩ := hcs
    exact ⟨none, 0, 0, [], rfl, ⟨Nat.le_refl _, by decide⟩, RdB.empty W⟩
  · simp [Value.cells] at hcs
    obtain ⟨rfl, rfl, rfl⟩ := hcs
    simp only [if_true] at hz
    exact ⟨_, n, c, natsOf (zs.take n), rfl, ⟨hl, by unfold maxLen at hm; omega⟩, RdB.of_cells hl hm hz hwz fun h0 => ⟨x, rfl, fun j hj => hcell j (by omega)⟩⟩
end Go.Proofs.YtkkeodlnejckjaaGreat

/- Slices of structs that came in, opened: any struct whose fields are one cell each. No condition. -/
namespace Go.Proofs.YtkkeodlnejckjaaGreat
open Go.ChangeShapes Go.WideShapes Go.ChangeAt Go.RowKit
set_option linter.unusedVariables false
set_option linter.unusedSimpArgs false

theorem add_add'' (a : Addr) (i j : Nat) : (a.add i).add j = a.add (i + j) := add_add' a i j
theorem open_structs {P : Program} {H : Type} {enc : TypeId × Value → H} {w : World} {base : Nat} {spare : Nat → Bool} {held : Bool} {t e : TypeId} {fs : Array Field} {k : Nat} {fuel : Nat} {cs : List Value} {x : DataW H × List MemPlace}
    (ht : P.underlying t = some (.slice e)) (he : P.underlying e = some (.struct fs)) (ce : P.cellsOf e = k) (hk : fs.size = k) (ho : ∀ (j : Nat) (f : Field), fs[j]? = some f → f.offset = j ∧ P.cellsOf f.type = 1)
    (h : DataW.trod enc P w base spare held fuel t cs = some x) :
    cs = [.slice none 0 0] ∨ ∃ (a : Addr) (len cap m n : Nat), cs = [.slice (some a) len cap] ∧ len ≤ cap ∧ cap ≤ maxLen ∧ len ≤ m ∧
      ∀ i, i < m → ∃ vs : List Value, vs.length = k ∧ (∀ (j : Nat) (v : Value), vs[j]? = some v → w.cell? (a.add (i * k + j)) = some v) ∧
        ∀ (j : Nat) (f : Field) (v : Value), fs[j]? = some f → vs[j]? = some v → ∃ y, DataW.trod enc P w base spare held n f.type [v] = some y := by
  rcases Deep.open_slice ht h with h0 | ⟨a, len, cap, m, n, D, Pl, rfl, hb, hl, hm, hmm, rfl, hx⟩
  · exact Or.inl h0.1
  right
  refine ⟨a, len, cap, m, n - 1, rfl, hl, hm, by rw [hmm]; split <;> omega, fun i hi => ?_⟩
  obtain ⟨cs', h1, h2⟩ := hx i hi
  rw [ce] at h1
  obtain ⟨_, hlen, hcell⟩ := World.cells?_some h1
  obtain ⟨xs, k', hk', hxy, _, hxl, hf⟩ := DataW.trod_struct he h2
  have hn : k' = n - 1 := by omega
  subst hn
  refine ⟨cs', hlen, fun j v hv => ?_, fun j f v hfj hv => ?_⟩
  · have hj : j < k := by rw [← hlen]; exact (List.getElem?_eq_some_iff.1 hv).1
    have := hcell j hj
    rw [add_add'', hv] at this
    exact this
  · have g := hf j f hfj
    obtain ⟨o1, c1⟩ := ho j f hfj
    rw [o1, c1] at g
    have hj : j < cs'.length := (List.getElem?_eq_some_iff.1 hv).1
    have e1 : (cs'.drop j).take 1 = [v] := by
      rw [List.drop_eq_getElem_cons hj]
      have := (List.getElem?_eq_some_iff.1 hv).2
      simp [this]
    rw [e1] at g
    have hjx : j < xs.length := by
      rw [hxl]
      exact (Array.getElem?_eq_some_iff.1 hfj).1
    exact ⟨xs[j], by rw [g, List.getElem?_eq_getElem hjx]⟩
end Go.Proofs.YtkkeodlnejckjaaGreat
