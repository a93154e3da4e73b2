/- Lists put together: what the laws call, said of rows that are written out. -/
import Derived.Test.YtaaddckhldccjaaOr
import Derived.Test.YtaaddckhldccjaaLive
namespace Go.Proofs.Ytaaddckhldccjaa
open Go.RowKit
set_option linter.unusedVariables false
set_option linter.unusedSimpArgs false

theorem uu_lit (ls : List UV) (C : Array Value) (n : Nat) (W : World) (hC : C = (ls.map encUV).toArray) (hn : ls.length = n) (hm : n ≤ 1000) (hok : ∀ x ∈ ls, x.ok W) :
    RdUU (W.alloc (.cells C 38)) (some ⟨W.heap.size, 0, none⟩) n ls ∧ Below W.heap.size W (W.alloc (.cells C 38)) := by
  have hb : Below W.heap.size W (W.alloc (.cells C 38)) := (Below.refl _ _).alloc (Nat.le_refl _) _
  exact ⟨⟨Rd.new W 38 ls C n (0, 0) (enc := encUV) hC hn (by omega), fun x hx => (hok x hx).below hb⟩, hb⟩
theorem OwnU.uv {w : World} {base : Nat} {v : Value} {l : List Nat} (h : OwnU w base v l) : ∃ x : UV, v = .slice x.A x.n x.c ∧ x.ok w ∧ x.l = l := by
  obtain ⟨A, c, rfl, h1, h2, h3⟩ := OwnL.rd h.1
  exact ⟨⟨A, l.length, c, l⟩, rfl, ⟨h1, h2, ⟨h3, h.2⟩⟩, rfl⟩
/-- A row that a call returns, with its error. -/
def Res (W : World) (E : Int) (R : List Nat → Prop) (e : Ending) (w' : World) : Prop := ∃ x : UV, e = .returned (.tuple #[.slice x.A x.n x.c, .int .i64 E]) ∧ (x.ok w' ∧ OwnU w' W.heap.size (.slice x.A x.n x.c) x.l) ∧ R x.l ∧ Below W.heap.size W w'
theorem Res.of {W W1 w' : World} {E : Int} {l : List Nat} {R : List Nat → Prop} {e : Ending} {v : Value} (hb1 : Below W.heap.size W W1) (he : e = .returned (.tuple #[v, .int .i64 E])) (ho : OwnU w' W1.heap.size v l) (hR : R l) (hb : Below W1.heap.size W1 w') : Res W E R e w' := by
  obtain ⟨x, rfl, hx, rfl⟩ := ho.uv
  exact ⟨x, he, ⟨hx, ho.mono hb1.size⟩, hR, Below.thn hb1 hb⟩
def smallU (ls : List UV) : Prop := ls.length ≤ 19 ∧ ∀ x ∈ ls, x.l.length ≤ 1000
theorem small_tot : ∀ {ls : List UV} {k : Nat}, ls.length ≤ k → (∀ x ∈ ls, x.l.length ≤ 1000) → tot ls ≤ 1000 * k
  | [], _, _, _ => by simp [tot]
  | x :: ls, 0, h, _ => by simp at h
  | x :: ls, k + 1, h, hx => by
    have h1 := small_tot (ls := ls) (k := k) (by simpa using h) fun y hy => hx y (by simp [hy])
    have h2 := hx x (by simp)
    rw [show tot (x :: ls) = x.l.length + tot ls from by simp [tot]]
    omega
theorem And_uu (A : Option Addr) (n c : Nat) (ls : List UV) (W : World) (h : RdUU W A n ls) (hc : n ≤ c) (hc2 : c ≤ 9223372036854775807) (hs : smallU ls) :
    Calls Try.prog 22 #[.slice A n c] W fun e w' => Res W (allE ls) (· = andX ls) e w' := by
  refine (And_any A n c ls W h hc hc2 (by rw [← h.len]; exact hs.1) fun x hx => by rw [← (h.ok x hx).rd.len]; exact Nat.le_trans (hs.2 x hx) (by decide)).mono ?_
  rintro e w' ⟨v, he, ho, hb⟩
  exact Res.of (Below.refl _ _) he ho rfl hb
theorem Or_uu (A : Option Addr) (n c : Nat) (ls : List UV) (W : World) (h : RdUU W A n ls) (hc : n ≤ c) (hc2 : c ≤ 9223372036854775807) (hs : smallU ls) :
    Calls Try.prog 23 #[.slice A n c] W fun e w' => Res W (allE ls) (OrR ls) e w' := by
  refine (Or_any A n c ls W h hc hc2 (by rw [← h.len]; exact Nat.le_trans hs.1 (by decide)) (Nat.le_trans (small_tot hs.1 hs.2) (by decide))).mono ?_
  rintro e w' ⟨v, he, ⟨r, ho, hr⟩, hb⟩
  exact Res.of (Below.refl _ _) he ho hr hb
theorem And_lit (ls : List UV) (C : Array Value) (n : Nat) (W : World) (hC : C = (ls.map encUV).toArray) (hn : ls.length = n) (hok : ∀ x ∈ ls, x.ok W) (hs : smallU ls) :
    Calls Try.prog 22 #[.slice (some ⟨W.heap.size, 0, none⟩) n n] (W.alloc (.cells C 38)) fun e w' => Res W (allE ls) (· = andX ls) e w' := by
  have hn2 : n ≤ 19 := by rw [← hn]; exact hs.1
  obtain ⟨h1, h2⟩ := uu_lit ls C n W hC hn (by omega) hok
  refine (And_uu _ n n ls _ h1 (Nat.le_refl _) (by omega) hs).mono ?_
  rintro e w' ⟨x, he, ⟨hx, ho⟩, hr, hb⟩
  exact ⟨x, he, ⟨hx, ho.mono h2.size⟩, hr, Below.thn h2 hb⟩
theorem Or_lit (ls : List UV) (C : Array Value) (n : Nat) (W : World) (hC : C = (ls.map encUV).toArray) (hn : ls.length = n) (hok : ∀ x ∈ ls, x.ok W) (hs : smallU ls) :
    Calls Try.prog 23 #[.slice (some ⟨W.heap.size, 0, none⟩) n n] (W.alloc (.cells C 38)) fun e w' => Res W (allE ls) (OrR ls) e w' := by
  have hn2 : n ≤ 19 := by rw [← hn]; exact hs.1
  obtain ⟨h1, h2⟩ := uu_lit ls C n W hC hn (by omega) hok
  refine (Or_uu _ n n ls _ h1 (Nat.le_refl _) (by omega) hs).mono ?_
  rintro e w' ⟨x, he, ⟨hx, ho⟩, hr, hb⟩
  exact ⟨x, he, ⟨hx, ho.mono h2.size⟩, hr, Below.thn h2 hb⟩
theorem Not_uv (x y : UV) (W : World) (hx : x.ok W) (hy : y.ok W) (hs : x.l.length ≤ 1000) :
    Calls Try.prog 25 #[.slice x.A x.n x.c, .slice y.A y.n y.c] W fun e w' => Res W (notE x.l y.l) (· = notX x.l y.l) e w' := by
  refine (Not_any x.A x.n x.c x.l y.A y.n y.c y.l W hx.rd hy.rd (by rw [← hx.rd.len]; exact Nat.le_trans hs (by decide))).mono ?_
  rintro e w' ⟨v, he, ho, hb⟩
  exact Res.of (Below.refl _ _) he ho rfl hb
theorem few_lit (ls : List UV) (C : Array Value) (n : Nat) (W : World) (hC : C = (ls.map encUV).toArray) (hn : ls.length = n) (hm : n ≤ 1000) (hok : ∀ x ∈ ls, x.ok W) :
    Calls Try.prog 13 #[.slice (some ⟨W.heap.size, 0, none⟩) n n] (W.alloc (.cells C 38)) fun e w' => e = .returned (.bool (fewB ls)) ∧ Below W.heap.size W w' := by
  obtain ⟨h1, h2⟩ := uu_lit ls C n W hC hn hm hok
  refine (few_any _ n n ls _ h1).mono ?_
  rintro e w' ⟨he, rfl⟩
  exact ⟨he, h2⟩
theorem equal_uv (x y : UV) (W : World) (hx : x.ok W) (hy : y.ok W) :
    Calls Try.prog 16 #[.slice x.A x.n x.c, .slice y.A y.n y.c] W fun e w' => e = .returned (.bool (decide (x.l = y.l))) ∧ Below W.heap.size W w' :=
  equalU_any x.A y.A x.n y.n x.c y.c x.l y.l W hx.rd hy.rd
theorem check_uv (x : UV) (W : World) (hx : x.ok W) :
    Calls Try.prog 27 #[.slice x.A x.n x.c] W fun e w' => e = .returned (.int .i64 (upE x.l)) ∧ Below W.heap.size W w' := CheckL_any x.A x.n x.c x.l W hx.rd
-- the laws of sets
theorem upE_yes {l : List Nat} (h : Up l) : upE l = 0 := if_pos h
theorem upE_no {l : List Nat} (h : ¬ Up l) : upE l = 160 := if_neg h
theorem notX_yes {a b : List Nat} (ha : Up a) (hb : Up b) : notX a b = notL a b := if_pos ⟨ha, hb⟩
theorem notE_yes {a b : List Nat} (ha : Up a) (hb : Up b) : notE a b = 0 := if_pos ⟨ha, hb⟩
theorem notL_up {a b : List Nat} (h : Up a) : Up (notL a b) := List.Pairwise.filter _ h
theorem notL_mem {a b : List Nat} {d : Nat} : d ∈ notL a b ↔ (d ∈ a ∧ d ∉ b) := by simp [notL, List.mem_filter]
theorem allE_yes {ls : List UV} (h : allUp ls) : allE ls = 0 := if_pos h
theorem andX_yes {ls : List UV} (h : allUp ls) : andX ls = andL ls := if_pos h
theorem allUp_2 {x y : UV} (hx : Up x.l) (hy : Up y.l) : allUp [x, y] := by
  intro z hz
  simp at hz
  rcases hz with rfl | rfl <;> assumption
theorem allUp_3 {x y z : UV} (hx : Up x.l) (hy : Up y.l) (hz : Up z.l) : allUp [x, y, z] := by
  intro u hu
  simp at hu
  rcases hu with rfl | rfl | rfl <;> assumption
theorem ok_2 {x y : UV} {W : World} (hx : x.ok W) (hy : y.ok W) : ∀ z ∈ [x, y], z.ok W := by
  intro z hz
  simp at hz
  rcases hz with rfl | rfl <;> assumption
theorem ok_3 {x y z : UV} {W : World} (hx : x.ok W) (hy : y.ok W) (hz : z.ok W) : ∀ u ∈ [x, y, z], u.ok W := by
  intro u hu
  simp at hu
  rcases hu with rfl | rfl | rfl <;> assumption
theorem small_2 {x y : UV} (hx : x.l.length ≤ 1000) (hy : y.l.length ≤ 1000) : smallU [x, y] := ⟨by simp, by
  intro z hz
  simp at hz
  rcases hz with rfl | rfl <;> assumption⟩
theorem small_3 {x y z : UV} (hx : x.l.length ≤ 1000) (hy : y.l.length ≤ 1000) (hz : z.l.length ≤ 1000) : smallU [x, y, z] := ⟨by simp, by
  intro u hu
  simp at hu
  rcases hu with rfl | rfl | rfl <;> assumption⟩
theorem few_2 {x y : UV} {W : World} (hx : x.ok W) (hy : y.ok W) (h : fewB [x, y] = true) : x.l.length ≤ 120 ∧ y.l.length ≤ 120 := by
  have := (of_decide_eq_true h).2
  exact ⟨by rw [hx.rd.len]; exact this x (by simp), by rw [hy.rd.len]; exact this y (by simp)⟩
theorem few_3 {x y z : UV} {W : World} (hx : x.ok W) (hy : y.ok W) (hz : z.ok W) (h : fewB [x, y, z] = true) : x.l.length ≤ 120 ∧ y.l.length ≤ 120 ∧ z.l.length ≤ 120 := by
  have := (of_decide_eq_true h).2
  exact ⟨by rw [hx.rd.len]; exact this x (by simp), by rw [hy.rd.len]; exact this y (by simp), by rw [hz.rd.len]; exact this z (by simp)⟩
theorem and_2 {x y : UV} {r : List Nat} (hx : Up x.l) (hy : Up y.l) (h : r = andX [x, y]) : Up r ∧ (∀ d, d ∈ r ↔ (d ∈ x.l ∧ d ∈ y.l)) ∧ r.length ≤ x.l.length := by
  rw [andX_yes (allUp_2 hx hy)] at h
  subst h
  refine ⟨andL_up (allUp_2 hx hy), fun d => ?_, andI_len _ _⟩
  rw [andL_mem (by simp)]
  simp
theorem and_3 {x y z : UV} {r : List Nat} (hx : Up x.l) (hy : Up y.l) (hz : Up z.l) (h : r = andX [x, y, z]) : Up r ∧ (∀ d, d ∈ r ↔ (d ∈ x.l ∧ d ∈ y.l ∧ d ∈ z.l)) := by
  rw [andX_yes (allUp_3 hx hy hz)] at h
  subst h
  refine ⟨andL_up (allUp_3 hx hy hz), fun d => ?_⟩
  rw [andL_mem (by simp)]
  simp
theorem or_2 {x y : UV} {r : List Nat} (hx : Up x.l) (hy : Up y.l) (h : OrR [x, y] r) : Up r ∧ (∀ d, d ∈ r ↔ (d ∈ x.l ∨ d ∈ y.l)) := by
  obtain ⟨h1, h2⟩ := h.1 (allUp_2 hx hy)
  exact ⟨h1, fun d => by rw [h2]; simp⟩
theorem or_3 {x y z : UV} {r : List Nat} (hx : Up x.l) (hy : Up y.l) (hz : Up z.l) (h : OrR [x, y, z] r) : Up r ∧ (∀ d, d ∈ r ↔ (d ∈ x.l ∨ d ∈ y.l ∨ d ∈ z.l)) := by
  obtain ⟨h1, h2⟩ := h.1 (allUp_3 hx hy hz)
  exact ⟨h1, fun d => by rw [h2]; simp⟩
theorem not_2 {a b r : List Nat} (ha : Up a) (hb : Up b) (h : r = notX a b) : Up r ∧ (∀ d, d ∈ r ↔ (d ∈ a ∧ d ∉ b)) ∧ r.length ≤ a.length := by
  rw [notX_yes ha hb] at h
  subst h
  exact ⟨notL_up ha, fun d => notL_mem, notL_len a b⟩
/-- How long a rising list is that has what either has. -/
theorem or_len {a b r : List Nat} (ha : Up a) (hb : Up b) (hr : Up r) (h : ∀ d, d ∈ r ↔ (d ∈ a ∨ d ∈ b)) : r.length ≤ a.length + b.length := by
  have e : r = eitherL a b := up_ext hr (either_up _ a b (Nat.le_refl _) ha hb) fun d => by rw [h d, either_mem _ a b (Nat.le_refl _) d]
  rw [e]
  exact either_len _ a b (Nat.le_refl _)
theorem parts_len (a b : List Nat) : (a.filter fun d => decide (d ∈ b)).length + (notL a b).length = a.length := by
  unfold notL
  have := List.length_eq_countP_add_countP (fun d => decide (d ∈ b)) (l := a)
  rw [List.countP_eq_length_filter, List.countP_eq_length_filter] at this
  simp only [decide_not, decide_eq_true_eq] at this
  omega
end Go.Proofs.Ytaaddckhldccjaa
