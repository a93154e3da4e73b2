/- Which ways to take texts apart may be. -/
import Derived.Test.YtbmdjmnjbflfeaaOwnW
namespace Go.Proofs.Ytbmdjmnjbflfeaa
open Go.RowKit Go.Shelf Go.Maps
set_option linter.unusedVariables false
set_option linter.unusedSimpArgs false

abbrev encS : ByteArray → Value := fun s => .string s
theorem rdS_at {w : World} {A : Option Addr} {n : Nat} {l : List ByteArray} (h : Rd encS w A n l) {k : Nat} (hk : k < n) : ∃ (ad : Addr) (x : ByteArray), A = some ad ∧ Hid (∃ hl : k < l.length, l[k] = x) ∧ w.cell? (ad.add k) = some (.string x) := by
  obtain ⟨ad, e, hc⟩ := h.cell (by omega)
  have hl : k < l.length := by rw [h.len]; exact hk
  exact ⟨ad, l[k], e, Lib.hid ⟨hl, rfl⟩, hc k hl⟩
theorem run_geqS (a b : ByteArray) (W : World) : (binOp .geq 9 (.string a) (.string b)).run Try.prog W = .ok (.bool (!decide (ltB a b))) W := by
  have e : Op.bytesLess a.toList b.toList = decide (ltB a b) := by rw [bytesLess_eq, Lib.toList_data, Lib.toList_data]; rfl
  simp [binOp, Op.stringOp, e, go_sem]
theorem blS (a b : ByteArray) : Op.bytesLess a.toList b.toList = decide (ltB a b) := by rw [bytesLess_eq, Lib.toList_data, Lib.toList_data]; rfl
/-- A way, read. -/
structure RdC (w : World) (A : Option Addr) (n c : Nat) (B : Option Addr) (m d : Nat) (cf : Cf) : Prop where
  fo : RdT w A n cf.fo
  st : Rd encS w B m cf.st
  nc : n ≤ c
  c2 : c ≤ 9223372036854775807
  md : m ≤ d
  d2 : d ≤ 9223372036854775807
  wf : wfT cf.fo
  sz : ∀ s ∈ cf.st, s.size ≤ 1000000
theorem RdC.below {w w' : World} {A : Option Addr} {n c : Nat} {B : Option Addr} {m d : Nat} {cf : Cf} (h : RdC w A n c B m d cf) (hb : Below w.heap.size w w') : RdC w' A n c B m d cf :=
  ⟨h.fo.below hb, h.st.below hb, h.nc, h.c2, h.md, h.d2, h.wf, h.sz⟩
theorem cells3 {w : World} {f : Nat} {x y z : Value} {t : TypeId} {fr : Nat × Nat} (h : w.heap[f]? = some (.cells #[x, y, z] t fr)) : w.cell? ⟨f, 0, none⟩ = some x ∧ w.cell? ⟨f, 1, none⟩ = some y ∧ w.cell? ⟨f, 2, none⟩ = some z := by simp [World.cell?, h]
set_option maxRecDepth 100000 in
set_option maxHeartbeats 2000000 in
theorem folds_any' (A : Option Addr) (n c : Nat) (B : Option Addr) (m d : Nat) (cf : Cf) (lo : Nat) (w : World) (h : TabAt w lo A n cf.fo) (hlo : lo ≤ w.heap.size) :
    Calls Try.prog 69 #[confV A n c B m d cf.cap] w fun e w' => ∃ f M, e = .returned (.pointer (some ⟨f, 0, none⟩)) ∧ Fol w' lo f M cf.fo 0 ∧ w.heap.size ≤ f ∧ w.heap.size ≤ M ∧ Below w.heap.size w w' := by
  have HT := Lib.hid h
  clear h
  obtain ⟨cp, hcp⟩ : ∃ cp, cp = cf.cap := ⟨_, rfl⟩
  rw [← hcp]
  clear hcp
  go_enter Try.func69, Try.ntmps69
  have hmm := @run_makeMap Try.prog
  go_wp2
  go_ret
  refine ⟨w.heap.size + 1 + 1, w.heap.size + 1, by simp [results], ⟨⟨A, n, c, .map [], ?_, ?_, ?_, OkD.empty _⟩, by decide, by omega, by omega⟩, by omega, by omega, ?_⟩
  · have := World.alloc_heap_new ((w.alloc (.cells #[.slice A n c, .slice B m d, .int .i64 cp] 25)).alloc (.map #[] 0)) (.cells #[.slice A n c, .map (some (w.heap.size + 1))] 136)
    simp only [World.size_alloc] at this
    exact this
  · exact HT.out.below (((Below.refl _ _).alloc (Nat.le_refl _) _ |>.alloc (by simp) _).alloc (by simp; omega) _)
  · have h1 := World.ownsMap_made (H := Unit) (w.alloc (.cells #[.slice A n c, .slice B m d, .int .i64 cp] 25)) Try.prog 21 (plainElem Try.prog 21)
    have h2 := h1.alloc (.cells #[.slice A n c, .map (some (w.heap.size + 1))] 136)
    simp only [World.size_alloc] at h2
    exact h2
  · exact ((Below.refl _ _).alloc (Nat.le_refl _) _ |>.alloc (by simp) _).alloc (by simp; omega) _
end Go.Proofs.Ytbmdjmnjbflfeaa
