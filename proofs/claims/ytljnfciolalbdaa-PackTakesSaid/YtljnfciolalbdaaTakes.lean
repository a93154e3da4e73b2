/- Whatever is taken of both: they answer the same. -/
import Derived.Test.YtljnfciolalbdaaRefText
import Derived.Test.YtljnfciolalbdaaReg
namespace Go.Proofs.Ytljnfciolalbdaa
open Go.RowKit
set_option linter.unusedVariables false
set_option linter.unusedSimpArgs false

set_option maxRecDepth 100000 in
theorem RVar_gen {w : World} {g : Nat} {l : List Nat} {e : Int} {lo hi : Nat} (h : Rdr w g l e lo hi) :
    Calls Try.prog 40 #[.pointer (some ⟨g, 0, none⟩)] w fun e' w' => e' = .returned (.int .u32 (if e = 0 then (takeV l).1 else 0 : Nat)) ∧ Rdr w' g (if e = 0 then takeR l else l) (if e = 0 then (takeV l).2 else e) lo hi ∧ w.grownBy w' (some g) := by
  by_cases h0 : e = 0
  · subst h0
    simp only [if_true]
    exact RVar_any h
  · have C0 := Lib.hid (none_any h)
    have HH := Lib.hid h
    rw [decide_eq_true h0] at C0
    simp only [if_neg h0]
    clear h h0
    go_enter Try.func40, Try.ntmps40
    go_wp2
    go_step3
    go_wp2_with fail
    refine C0.out.mono ?_
    rintro e w1 ⟨rfl, rfl⟩
    go_wp2
    (try rw [Exit.noGoto_ret])
    go_ret
    exact ⟨rfl, HH.out, World.grownBy.refl w _⟩

def vrV (l : List Nat) (e : Int) : Nat := if e = 0 then (takeV l).1 else 0
def vrL (l : List Nat) (e : Int) : List Nat := if e = 0 then takeR l else l
def vrE (l : List Nat) (e : Int) : Int := if e = 0 then (takeV l).2 else e
theorem RVar_g2 {w : World} {g : Nat} {l : List Nat} {e : Int} {lo hi : Nat} (h : Rdr w g l e lo hi) :
    Calls Try.prog 40 #[.pointer (some ⟨g, 0, none⟩)] w fun e' w' => e' = .returned (.int .u32 (vrV l e : Nat)) ∧ Rdr w' g (vrL l e) (vrE l e) lo hi ∧ w.grownBy w' (some g) := RVar_gen h
theorem rVar_g2 {w : World} {g : Nat} {l : List Nat} {e : Int} {z : Nat} (h : Rf w g l e z) (hz : z < w.heap.size) (hl : l.length ≤ 70368744177600) :
    Calls Try.prog 46 #[.pointer (some ⟨g, 0, none⟩)] w fun e' w' => e' = .returned (.int .u32 (vrV l e : Nat)) ∧ Rf w' g (vrL l e) (vrE l e) z ∧ w.grownBy w' (some g) := rVar_any h hz hl
/-- Both readers, with the same left and the same error. -/
structure Two (w0 w : World) (g1 g2 lo hi : Nat) (l : List Nat) (e : Int) : Prop where
  r : Rdr w g1 l e lo hi
  f : Rf w g2 l e g1
  ne : g1 ≠ g2
  out : ¬ (lo ≤ g2 ∧ g2 < hi)
  b : Below w0.heap.size w0 w
  h1 : w0.heap.size ≤ g1
  h2 : w0.heap.size ≤ g2
  len : l.length ≤ 70368744177600
theorem Two.below {w0 w w' : World} {g1 g2 lo hi : Nat} {l : List Nat} {e : Int} (h : Two w0 w g1 g2 lo hi l e) (hb : Below w.heap.size w w') : Two w0 w' g1 g2 lo hi l e :=
  ⟨h.r.below hb, h.f.below hb, h.ne, h.out, h.b.trans (hb.mono h.b.size), h.h1, h.h2, h.len⟩
/-- The one has taken, the other one not yet. -/
theorem Two.one {w0 w w1 : World} {g1 g2 lo hi : Nat} {l : List Nat} {e : Int} (h : Two w0 w g1 g2 lo hi l e) (hg : w.grownBy w1 (some g1)) : Rf w1 g2 l e g1 ∧ g1 < w1.heap.size ∧ l.length ≤ 70368744177600 :=
  ⟨h.f.kept hg h.ne rfl, Nat.lt_of_lt_of_le h.r.lt hg.size, h.len⟩
theorem Two.both {w0 w w1 w2 : World} {g1 g2 lo hi : Nat} {l l' : List Nat} {e e' : Int} (h : Two w0 w g1 g2 lo hi l e) (hg : w.grownBy w1 (some g1)) (hr : Rdr w1 g1 l' e' lo hi) (hg2 : w1.grownBy w2 (some g2)) (hf : Rf w2 g2 l' e' g1) (hl : l'.length ≤ l.length) : Two w0 w2 g1 g2 lo hi l' e' :=
  ⟨hr.kept hg2 (fun he => by injection he with he; exact h.ne he) (fun k k1 k2 he => by injection he with he; subst he; exact h.out ⟨k1, k2⟩), hf, h.ne, h.out, below_grown (below_grown h.b hg h.h1) hg2 h.h2, h.h1, h.h2, Nat.le_trans hl h.len⟩
theorem rawL_left (k : Nat) (l : List Nat) (e : Int) : (rawL k l e).2.1.length ≤ l.length := by
  unfold rawL
  split
  · split
    · simp
    · simp
  · simp
theorem rawI_left (k : Int) (l : List Nat) (e : Int) : (rawI k l e).2.1.length ≤ l.length := by
  unfold rawI
  split
  · split
    · simp
    · exact rawL_left _ _ _
  · simp
theorem takeR_left (l : List Nat) : (takeR l).length ≤ l.length := by
  unfold takeR
  split
  · simp
  · simp
theorem vrL_left (l : List Nat) (e : Int) : (vrL l e).length ≤ l.length := by
  unfold vrL
  split
  · exact takeR_left l
  · exact Nat.le_refl _
theorem txtL_left (k : Int) (l : List Nat) (e : Int) : (txtL k l e).2.1.length ≤ l.length := by
  unfold txtL
  repeat' split
  all_goals simp

set_option maxRecDepth 100000 in
theorem takes_0 {w0 w : World} {g1 g2 lo hi : Nat} {l : List Nat} {e : Int} (k : Int) (h : Two w0 w g1 g2 lo hi l e) :
    Calls Try.prog 31 #[.pointer (some ⟨g1, 0, none⟩), .pointer (some ⟨g2, 0, none⟩), .agg #[.int .i64 0, .int .i64 k]] w fun e' w' => e' = .returned (.bool true) ∧ Two w0 w' g1 g2 lo hi (rawL 1 l e).2.1 (rawL 1 l e).2.2 := by
  have HH := Lib.hid (h.below ((Below.refl w.heap.size w).alloc (Nat.le_refl _) (.cells #[.int .i64 0, .int .i64 k] 50)))
  clear h
  go_enter Try.func31, Try.ntmps31
  go_wp2_with fail
  refine (RU8_any HH.out.r).mono ?_
  rintro e' w1 ⟨rfl, hr, hg⟩
  have HR := Lib.hid hr
  have HG := Lib.hid hg
  have HO := Lib.hid (HH.out.one hg)
  clear hr hg
  go_wp2_with fail
  refine (rNumber_any 1 (by decide) HO.out.1 HO.out.2.1 HO.out.2.2).mono ?_
  rintro e' w2 ⟨rfl, hf, hg2⟩
  have HT := Lib.hid (HH.out.both HG.out HR.out hg2 hf (rawL_left _ _ _))
  clear hf hg2
  go_wp2
  go_ret
  refine ⟨?_, HT.out⟩
  have hb := beN_rawL HH.out.r.byt (k := 1) (e := e)
  have e1 : (IntKind.u64.wrap ((beN (rawL 1 l e).1 : Nat) : Int) == ((beN (rawL 1 l e).1 : Nat) : Int)) = true := by
    rw [IntWalk.u64_in _ ⟨by omega, by omega⟩]; simp
  exact congrArg (fun z => Ending.returned (Value.bool z)) e1

set_option maxRecDepth 100000 in
theorem takes_1 {w0 w : World} {g1 g2 lo hi : Nat} {l : List Nat} {e : Int} (k : Int) (h : Two w0 w g1 g2 lo hi l e) :
    Calls Try.prog 31 #[.pointer (some ⟨g1, 0, none⟩), .pointer (some ⟨g2, 0, none⟩), .agg #[.int .i64 1, .int .i64 k]] w fun e' w' => e' = .returned (.bool true) ∧ Two w0 w' g1 g2 lo hi (rawL 2 l e).2.1 (rawL 2 l e).2.2 := by
  have HH := Lib.hid (h.below ((Below.refl w.heap.size w).alloc (Nat.le_refl _) (.cells #[.int .i64 1, .int .i64 k] 50)))
  clear h
  go_enter Try.func31, Try.ntmps31
  go_wp2_with fail
  refine (RU16_any HH.out.r).mono ?_
  rintro e' w1 ⟨rfl, hr, hg⟩
  have HR := Lib.hid hr
  have HG := Lib.hid hg
  have HO := Lib.hid (HH.out.one hg)
  clear hr hg
  go_wp2_with fail
  refine (rNumber_any 2 (by decide) HO.out.1 HO.out.2.1 HO.out.2.2).mono ?_
  rintro e' w2 ⟨rfl, hf, hg2⟩
  have HT := Lib.hid (HH.out.both HG.out HR.out hg2 hf (rawL_left _ _ _))
  clear hf hg2
  go_wp2
  go_ret
  refine ⟨?_, HT.out⟩
  have hb := beN_rawL HH.out.r.byt (k := 2) (e := e)
  have e1 : (IntKind.u64.wrap ((beN (rawL 2 l e).1 : Nat) : Int) == ((beN (rawL 2 l e).1 : Nat) : Int)) = true := by
    rw [IntWalk.u64_in _ ⟨by omega, by omega⟩]; simp
  exact congrArg (fun z => Ending.returned (Value.bool z)) e1

set_option maxRecDepth 100000 in
theorem takes_2 {w0 w : World} {g1 g2 lo hi : Nat} {l : List Nat} {e : Int} (k : Int) (h : Two w0 w g1 g2 lo hi l e) :
    Calls Try.prog 31 #[.pointer (some ⟨g1, 0, none⟩), .pointer (some ⟨g2, 0, none⟩), .agg #[.int .i64 2, .int .i64 k]] w fun e' w' => e' = .returned (.bool true) ∧ Two w0 w' g1 g2 lo hi (rawL 4 l e).2.1 (rawL 4 l e).2.2 := by
  have HH := Lib.hid (h.below ((Below.refl w.heap.size w).alloc (Nat.le_refl _) (.cells #[.int .i64 2, .int .i64 k] 50)))
  clear h
  go_enter Try.func31, Try.ntmps31
  go_wp2_with fail
  refine (RU32_any HH.out.r).mono ?_
  rintro e' w1 ⟨rfl, hr, hg⟩
  have HR := Lib.hid hr
  have HG := Lib.hid hg
  have HO := Lib.hid (HH.out.one hg)
  clear hr hg
  go_wp2_with fail
  refine (rNumber_any 4 (by decide) HO.out.1 HO.out.2.1 HO.out.2.2).mono ?_
  rintro e' w2 ⟨rfl, hf, hg2⟩
  have HT := Lib.hid (HH.out.both HG.out HR.out hg2 hf (rawL_left _ _ _))
  clear hf hg2
  go_wp2
  go_ret
  refine ⟨?_, HT.out⟩
  have hb := beN_rawL HH.out.r.byt (k := 4) (e := e)
  have e1 : (IntKind.u64.wrap ((beN (rawL 4 l e).1 : Nat) : Int) == ((beN (rawL 4 l e).1 : Nat) : Int)) = true := by
    rw [IntWalk.u64_in _ ⟨by omega, by omega⟩]; simp
  exact congrArg (fun z => Ending.returned (Value.bool z)) e1

set_option maxRecDepth 100000 in
theorem takes_3 {w0 w : World} {g1 g2 lo hi : Nat} {l : List Nat} {e : Int} (k : Int) (h : Two w0 w g1 g2 lo hi l e) :
    Calls Try.prog 31 #[.pointer (some ⟨g1, 0, none⟩), .pointer (some ⟨g2, 0, none⟩), .agg #[.int .i64 3, .int .i64 k]] w fun e' w' => e' = .returned (.bool true) ∧ Two w0 w' g1 g2 lo hi (rawL 8 l e).2.1 (rawL 8 l e).2.2 := by
  have HH := Lib.hid (h.below ((Below.refl w.heap.size w).alloc (Nat.le_refl _) (.cells #[.int .i64 3, .int .i64 k] 50)))
  clear h
  go_enter Try.func31, Try.ntmps31
  go_wp2_with fail
  refine (RU64_any HH.out.r).mono ?_
  rintro e' w1 ⟨rfl, hr, hg⟩
  have HR := Lib.hid hr
  have HG := Lib.hid hg
  have HO := Lib.hid (HH.out.one hg)
  clear hr hg
  go_wp2_with fail
  refine (rNumber_any 8 (by decide) HO.out.1 HO.out.2.1 HO.out.2.2).mono ?_
  rintro e' w2 ⟨rfl, hf, hg2⟩
  have HT := Lib.hid (HH.out.both HG.out HR.out hg2 hf (rawL_left _ _ _))
  clear hf hg2
  go_wp2
  go_ret
  exact ⟨rfl, HT.out⟩

set_option maxRecDepth 100000 in
theorem takes_4 {w0 w : World} {g1 g2 lo hi : Nat} {l : List Nat} {e : Int} (k : Int) (h : Two w0 w g1 g2 lo hi l e) :
    Calls Try.prog 31 #[.pointer (some ⟨g1, 0, none⟩), .pointer (some ⟨g2, 0, none⟩), .agg #[.int .i64 4, .int .i64 k]] w fun e' w' => e' = .returned (.bool true) ∧ Two w0 w' g1 g2 lo hi (vrL l e) (vrE l e) := by
  have HH := Lib.hid (h.below ((Below.refl w.heap.size w).alloc (Nat.le_refl _) (.cells #[.int .i64 4, .int .i64 k] 50)))
  clear h
  go_enter Try.func31, Try.ntmps31
  go_wp2_with fail
  refine (RVar_g2 HH.out.r).mono ?_
  rintro e' w1 ⟨rfl, hr, hg⟩
  have HR := Lib.hid hr
  have HG := Lib.hid hg
  have HO := Lib.hid (HH.out.one hg)
  clear hr hg
  go_wp2_with fail
  refine (rVar_g2 HO.out.1 HO.out.2.1 HO.out.2.2).mono ?_
  rintro e' w2 ⟨rfl, hf, hg2⟩
  have HT := Lib.hid (HH.out.both HG.out HR.out hg2 hf (vrL_left _ _))
  clear hf hg2
  go_wp2
  go_ret
  exact ⟨rfl, HT.out⟩
end Go.Proofs.Ytljnfciolalbdaa
