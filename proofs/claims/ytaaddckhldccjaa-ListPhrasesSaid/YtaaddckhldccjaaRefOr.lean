/- What is in any: the reference's. -/
import Derived.Test.YtaaddckhldccjaaPut
namespace Go.Proofs.Ytaaddckhldccjaa
open Go.RowKit Go.Shelf
set_option linter.unusedVariables false
set_option linter.unusedSimpArgs false

/-- What has been put so far. -/
structure OrI (w : World) (ls : List UV) (i k : Nat) (x : List Nat) (o : Value) (acc : List Nat) (W : World) : Prop where
  own : OwnU W w.heap.size o acc
  be : Below w.heap.size w W
  up : Up acc
  mem : ∀ d, d ∈ acc ↔ (∃ y ∈ ls.take i, d ∈ y.l) ∨ d ∈ x.take k
  len : acc.length ≤ i * 1000 + k
/-- What is in any. -/
def OrR (ls : List UV) (r : List Nat) : Prop := (allUp ls → Up r ∧ (∀ d, d ∈ r ↔ ∃ y ∈ ls, d ∈ y.l)) ∧ (¬ allUp ls → r = [])
set_option maxRecDepth 100000 in
set_option maxHeartbeats 8000000 in
theorem refOr_any (A : Option Addr) (n c : Nat) (ls : List UV) (w : World) (h : RdUU w A n ls) (hn : n ≤ 100) (hx : ∀ x ∈ ls, x.n ≤ 1000) :
    Calls Try.prog 24 #[.slice A n c] w fun e w' => ∃ v, e = .returned (.tuple #[v, .int .i64 (allE ls)]) ∧ (∃ r, OwnU w' w.heap.size v r ∧ OrR ls r) ∧ Below w.heap.size w w' := by
  have HR := Lib.hid h
  have HLn := Lib.hid h.len
  have HX := Lib.hid hx
  have C := Lib.hid (checks_any A n c ls w h (by omega))
  clear h hx
  go_enter Try.func24, Try.ntmps24
  go_wp2_with fail
  refine C.out.mono ?_
  rintro e w1 ⟨rfl, hb⟩
  have HB1 := Lib.hid hb
  clear C hb
  by_cases hu : allUp ls
  case neg =>
    have hq : allE ls = 160 := if_neg hu
    have hQ := Lib.hid hq
    rw [hq]
    have HE : Hid (OrR ls []) := Lib.hid ⟨fun h => absurd h hu, fun _ => rfl⟩
    clear hu hq
    go_wp2
    refine bodyPost_ret (v := .tuple #[.slice none 0 0, .int .i64 160]) (by simp [results, Try.results24, go_sem]) rfl ⟨_, by rw [hQ.out], ⟨[], OwnU.nil _ _, HE.out⟩, HB1.out⟩
  have hq : allE ls = 0 := if_pos hu
  have hQ := Lib.hid hq
  have HU := Lib.hid hu
  rw [hq]
  clear hu hq
  go_wp2_with fail
  go_loopw [5, 6, 7] (fun o x _ wr => ∃ i : Nat, x = .int .i64 (i : Nat) ∧ i ≤ n ∧ Hid (∃ acc, OrI w ls i 0 [] o acc wr)) (fun _ x _ _ => n - (intOf x).toNat)
  case atStart => exact ⟨0, rfl, Nat.zero_le _, Lib.hid ⟨[], OwnU.nil _ _, HB1.out, List.Pairwise.nil, fun d => by simp, by simp⟩⟩
  case round =>
    obtain ⟨i, rfl, hi, HI⟩ := hrel
    by_cases hlt : (i : Int) < (n : Int)
    · obtain ⟨acc, h0⟩ := HI.out
      obtain ⟨ad, x, rfl, HX1, HOx, hxm, x0⟩ := (HR.out.below h0.be).at (k := i) (by omega)
      have hxn : x.n ≤ 1000 := by
        obtain ⟨hl, e9⟩ := HX1.out
        exact HX.out x (by rw [← e9]; exact List.getElem_mem hl)
      have HXR : Hid (∀ W, Below w.heap.size w W → x.ok W ∧ W.cell? (ad.add i) = some (.slice x.A x.n x.c)) := Lib.hid fun W hb => by
        obtain ⟨ad', x', e9, h1, h2, _, h3⟩ := (HR.out.below hb).at (k := i) (by omega)
        cases e9
        have e2 : x' = x := by obtain ⟨_, e3⟩ := h1.out; obtain ⟨_, e4⟩ := HX1.out; rw [← e3, ← e4]
        subst e2
        exact ⟨h2.out, h3⟩
      have HJ0 : Hid (∃ acc, OrI w ls i 0 x.l u5 acc wr) := Lib.hid ⟨acc, h0.own, h0.be, h0.up, fun d => by rw [h0.mem d]; simp, h0.len⟩
      clear x0 h0
      go_wp2_with fail
      go_loopw [5, 7] (fun o y wq => ∃ k : Nat, y = .int .i64 (k : Nat) ∧ k ≤ x.n ∧ Hid (∃ acc, OrI w ls i k x.l o acc wq)) (fun _ y _ => x.n - (intOf y).toNat)
      case atStart => exact ⟨0, rfl, Nat.zero_le _, HJ0⟩
      case round =>
        obtain ⟨k, rfl, hk, HJ⟩ := hrel
        obtain ⟨acc, h0⟩ := HJ.out
        have HJ1 := Lib.hid h0
        obtain ⟨hxo, c0⟩ := HXR.out wr h0.be
        by_cases hkl : (k : Int) < (x.n : Int)
        · obtain ⟨ax, d, eA, HD, hd, d0⟩ := hxo.rd.at (k := k) (by omega)
          rw [eA] at c0
          have C := Lib.hid (put_any w.heap.size u5 acc d wr h0.own h0.be.size hd (by have := h0.len; omega))
          clear h0 hxo
          go_wp2_with fail
          refine C.out.mono ?_
          rintro e9 W2 ⟨v', r, rfl, hv', hp, hb⟩
          have HN : Hid (∃ acc, OrI w ls i (k + 1) x.l v' acc W2) := Lib.hid ⟨r, hv', Below.thn HJ1.out.be hb, hp.1 HJ1.out.up, fun d' => by
            obtain ⟨hl, e9⟩ := HD.out
            rw [hp.2.1 d', HJ1.out.mem d', List.take_succ_eq_append_getElem hl, List.mem_append, e9, List.mem_singleton, or_assoc], by have := hp.2.2; have := HJ1.out.len; omega⟩
          clear hv' hp hb C c0 d0
          go_wp2
          exact ⟨⟨k + 1, by simp; try go_num, by omega, HN⟩, by simp [intOf]; omega⟩
        · have HN : Hid (∃ acc, OrI w ls (i + 1) 0 [] u5 acc wr) := Lib.hid ⟨acc, h0.own, h0.be, h0.up, fun d' => by
            obtain ⟨hl, e9⟩ := HX1.out
            rw [h0.mem d', List.take_of_length_le (l := x.l) (by rw [hxo.rd.len]; omega), List.take_succ_eq_append_getElem hl, e9]
            simp only [List.mem_append, List.mem_singleton, List.take_nil, List.not_mem_nil, or_false]
            constructor
            · rintro (⟨y, hy, hd⟩ | hd)
              · exact ⟨y, .inl hy, hd⟩
              · exact ⟨x, .inr rfl, hd⟩
            · rintro ⟨y, hy | rfl, hd⟩
              · exact .inl ⟨y, hy, hd⟩
              · exact .inr hd, by have := h0.len; omega⟩
          clear h0 hxo
          go_wp2
          exact ⟨⟨i + 1, by simp; try go_num, by omega, HN⟩, by simp [intOf]; omega⟩
    · obtain ⟨acc, h0⟩ := HI.out
      have HF : Hid (∃ r, OwnU wr w.heap.size u5 r ∧ OrR ls r) := Lib.hid ⟨acc, h0.own, fun _ => ⟨h0.up, fun d => by
        rw [h0.mem d, List.take_of_length_le (by rw [HLn.out]; omega)]
        simp⟩, fun h => absurd HU.out h⟩
      have HBe := Lib.hid h0.be
      obtain ⟨Ao, co, rfl, lo, mo, _⟩ := OwnL.rd h0.own.1
      obtain ⟨no, hno⟩ : ∃ no, no = acc.length := ⟨_, rfl⟩
      rw [← hno] at lo HF ⊢
      clear hno h0 HI
      go_wp2
      refine bodyPost_ret (v := .tuple #[.slice Ao no co, .int .i64 0]) (by simp [results, Try.results24, go_sem]) rfl ⟨_, by rw [hQ.out], HF.out, HBe.out⟩
end Go.Proofs.Ytaaddckhldccjaa
