/- A word's string. -/
import Derived.Test.YtbmdjmnjbflfeaaWrd
import Derived.BigQuiet
namespace Go.Proofs.Ytbmdjmnjbflfeaa
open Go.RowKit Go.Shelf Go.Maps
set_option linter.unusedVariables false
set_option linter.unusedSimpArgs false

theorem cellsU8 : Try.prog.cellsOf 5 = 1 := by kernel_rfl
theorem grown_freeze (W : World) (g n : Nat) : W.grownBy (W.freeze ⟨g, 0, none⟩ n) (some g) := by
  unfold World.freeze
  split
  · exact World.grownBy.refl W _
  · exact ⟨rfl, rfl, rfl, by simp, fun k _ hk => by
      simp only [Array.getElem?_modify]
      rw [if_neg (fun e => hk (by rw [e]))]⟩
set_option maxRecDepth 100000 in
set_option maxHeartbeats 2000000 in
theorem String_any (base b : Nat) (l : List Nat) (many : Nat) (w : World) (h : WordS w base b l many) (h0 : l ≠ []) (hbw : base ≤ w.heap.size) (hl : l.length ≤ 1000000) :
    Calls Try.prog 71 #[.pointer (some ⟨b, 0, none⟩)] w fun e w' => e = .returned (.string (strL l)) ∧ Rest base none w w' := by
  obtain ⟨p, v, hb, _, ho⟩ := h.ex
  have hl0 : 0 < l.length := by cases l with | nil => exact absurd rfl h0 | cons x y => simp
  obtain ⟨g, c, rfl, hbg, hg, hlc, hc2⟩ := ho.1.place hl0
  have hown := own_row ho g rfl
  obtain ⟨_, C, t, fr, hgc, _⟩ := hown
  have hc0 : c ≠ 0 := by omega
  have hrow : ∃ cur, w.heap[g]? = some (.cells cur 5 (0, 0)) ∧ l.length ≤ cur.size := by
    rcases ho.1.2 with ⟨hv, _⟩ | ⟨g', cap, cur, hv, _, hh, hcap, _, hsz, _⟩
    · cases hv
    · injection hv with e1 e2 e3
      injection e1 with e1
      injection e1 with e1
      subst e1
      exact ⟨cur, hh, by omega⟩
  obtain ⟨cur, hcur, hcs⟩ := hrow
  have hSD : (Builtin.unsafeSliceData_ #[26] 142 #[.slice (some ⟨g, 0, none⟩) l.length c]).run Try.prog w.drew = .ok (.pointer (some ⟨g, 0, none⟩)) w.drew :=
    Lib.run_unsafeSliceData_row _ _ _ _ _ _ hc0
  have hUS : (Builtin.unsafeString_ #[142, 3] 9 #[.pointer (some ⟨g, 0, none⟩), .int .i64 (l.length : Nat)]).run Try.prog w.drew = .ok (.string (strL l)) (w.drew.freeze ⟨g, 0, none⟩ l.length) := by
    have h1 := Lib.run_unsafeString_row (P := Try.prog) w.drew 142 3 9 5 Try.underlying142 cellsU8 g cur.size (by have hg' : w.drew.heap[g]? = some (.cells cur 5 (0, 0)) := hcur; simp [World.shape?, hg']) (l.map UInt8.ofNat) (by simpa using h0) (by rw [List.length_map]; exact hcs) (by rw [List.length_map]; omega) (by
      intro j x hx
      have hj : j < l.length := by
        rcases Nat.lt_or_ge j l.length with h | h
        · exact h
        · simp [List.getElem?_eq_none h] at hx
      have := (ho.1.cellAt j hj).1
      have hx2 : x = UInt8.ofNat l[j] := by simpa [List.getElem?_eq_getElem hj] using hx.symm
      have hlt := ho.2 l[j] (List.getElem_mem hj)
      rw [hx2]
      rw [add_lit0]
      have this2 : w.drew.cell? ⟨g, j, none⟩ = some (encB l[j]) := this
      rw [this2]
      simp [UInt8.toNat_ofNat', Nat.mod_eq_of_lt hlt])
    rw [List.length_map] at h1
    exact h1
  have hrest : Rest base none w (w.drew.freeze ⟨g, 0, none⟩ l.length) :=
    (Rest.below (Below.drew (Below.refl _ w))).trans (Rest.grown (grown_freeze _ _ _) (fun k e => by cases e; exact ⟨hbg, .inr ⟨_, _, _, hcur, .inr rfl⟩⟩))
  obtain ⟨N, hN⟩ : ∃ N, N = l.length := ⟨_, rfl⟩
  obtain ⟨S, hS⟩ : ∃ S, S = strL l := ⟨_, rfl⟩
  rw [← hN, ← hS] at hUS
  rw [← hN] at hSD hrest
  have c1 : w.drew.cell? ⟨b, 1, none⟩ = some (.slice (some ⟨g, 0, none⟩) N c) := by rw [hN]; exact (cells3 hb).2.1
  have c1' : w.cell? ⟨b, 1, none⟩ = some (.slice (some ⟨g, 0, none⟩) N c) := c1
  rw [← hS]
  have HR := Lib.hid hrest
  clear h ho hb hl0 hlc hcs hgc hcur hrest hN hS hg
  go_enter Try.func71, Try.ntmps71
  go_wp2
  go_region
  all_goals (go_wp2; go_ret; exact ⟨rfl, HR.out⟩)
end Go.Proofs.Ytbmdjmnjbflfeaa
