import Derived.Test.YtkkeodlnejckjaaGreatOps
import Derived.Test.YtkkeodlnejckjaaGreatReg
import Derived.Test.YtkkeodlnejckjaaGreatToks
import Derived.Test.YtkkeodlnejckjaaGreatPcs

/- What a row of bytes asks for: the code. -/
namespace Go.Proofs.YtkkeodlnejckjaaGreat
open Go.RowKit Go.Shelf
set_option linter.unusedVariables false
set_option linter.unusedSimpArgs false

def AkF (a3 : Addr) (NT c3 gp gt ix c2 : Nat) (A2 : Option Addr) (p p0 : Nat) : Nat → Value → World → Prop
  | 0 => fun v w => v = .pointer (some ⟨gp, 2, none⟩)
  | 1 => fun v w => v = .slice A2 ix c2
  | 2 => fun v w => v = .pointer (some ⟨gt, 1, none⟩)
  | 3 => fun v w => v = .int .i64 (p : Nat)
  | 4 => fun v w => v = .slice (some a3) NT c3
  | 5 => fun v w => v = .pointer (some a3)
  | 6 => fun v w => v = .pointer (some ⟨a3.block, a3.off + 1, none⟩)
  | 7 => fun v w => v = .int .i64 (p0 : Nat)
  | 8 => fun v w => v = .int .i64 ((p : Int) - (p0 : Int))
  | 9 => fun v w => ∃ (V65 : Value), v = V65 ∧ ∃ a9, V65 = .slice (some a9) 1 1 ∧ Rd encI w (some a9) 1 [(p : Int) - (p0 : Int)]
  | _ => fun _ _ => True
theorem AkF.below (a3 : Addr) (NT c3 gp gt ix c2 : Nat) (A2 : Option Addr) (p p0 : Nat) : ∀ i v w w', Below w.heap.size w w' → AkF a3 NT c3 gp gt ix c2 A2 p p0 i v w → AkF a3 NT c3 gp gt ix c2 A2 p p0 i v w'
  | 0, _, _, _, _, h => h
  | 1, _, _, _, _, h => h
  | 2, _, _, _, _, h => h
  | 3, _, _, _, _, h => h
  | 4, _, _, _, _, h => h
  | 5, _, _, _, _, h => h
  | 6, _, _, _, _, h => h
  | 7, _, _, _, _, h => h
  | 8, _, _, _, _, h => h
  | 9, _, _, _, hb, h => by
    obtain ⟨V65, e, g⟩ := h
    exact ⟨V65, e, (by obtain ⟨a9, e9, h9⟩ := g; exact ⟨a9, e9, h9.below hb⟩)⟩
  | _ + 10, _, _, _, _, _ => trivial

section
variable {α : Type} {enc : α → Value}
theorem push_R {P : Program} {w1 : World} (base : Nat) (t e : TypeId) (z : Value) (by_ : Nat) (ht : P.underlying t = some (.slice e)) (hinfo : (P.info? e).map (fun i => (i.zero, i.size, i.bytes)) = some (some z, 1, by_))
    (hz : z.cells.size = 1) (hb0 : 0 < by_) (hb9 : by_ ≤ 1000) (h1 : ∀ x : α, (enc x).oneCell' = true) {v : Value} {L : List α} (x : α) {A : Option Addr}
    (h : OwnL enc e w1 base v L) (hr : Rd enc w1 A 1 [x]) (hbase : base ≤ w1.heap.size) (hl : L.length ≤ 1000000) :
    ∃ A' c' w', (Builtin.append_ #[t, t] t #[v, .slice A 1 1]).run P w1 = .ok (.slice A' (L.length + 1) c') w' ∧
      OwnL enc e w' base (.slice A' (L.length + 1) c') (L ++ [x]) ∧ L.length + 1 ≤ c' ∧ c' ≤ 9223372036854775807 ∧ w1.grownBy w' v.ownBlock := by
  obtain ⟨v1, w', r, o, g, _⟩ := run_append_rd (P := P) (c := 1) base t t e z by_ ht hinfo hz hb0 h1 h hr (by
    have : (L.length + 1) * by_ ≤ 1000001 * 1000 := Nat.mul_le_mul (by omega) hb9
    omega) hbase
  obtain ⟨A', c', e', h2, h3, _⟩ := OwnL.rd o
  have hlen : (L ++ [x]).length = L.length + 1 := by simp
  rw [hlen] at e' h2
  subst e'
  exact ⟨A', c', w', r, o, h2, h3, g⟩
theorem push_L {P : Program} {w1 : World} (base : Nat) (t e : TypeId) (z : Value) (by_ : Nat) (ht : P.underlying t = some (.slice e)) (hinfo : (P.info? e).map (fun i => (i.zero, i.size, i.bytes)) = some (some z, 1, by_))
    (hz : z.cells.size = 1) (hb0 : 0 < by_) (hb9 : by_ ≤ 1000) (h1 : ∀ x : α, (enc x).oneCell' = true) {v : Value} {L : List α} (x : α)
    (h : OwnL enc e w1 base v L) (hbase : base ≤ w1.heap.size) (hl : L.length ≤ 1000000) :
    ∃ A' c' w', (Builtin.append_ #[t, t] t #[v, .slice (some ⟨w1.heap.size, 0, none⟩) 1 1]).run P (w1.alloc (.cells #[enc x] e)) = .ok (.slice A' (L.length + 1) c') w' ∧
      OwnL enc e w' base (.slice A' (L.length + 1) c') (L ++ [x]) ∧ L.length + 1 ≤ c' ∧ c' ≤ 9223372036854775807 ∧ w1.grownBy w' v.ownBlock := by
  have hbT : Below w1.heap.size w1 (w1.alloc (.cells #[enc x] e)) := (Below.refl _ _).alloc (Nat.le_refl _) _
  obtain ⟨A', c', w', r, o, h2, h3, g⟩ := push_R (P := P) base t e z by_ ht hinfo hz hb0 hb9 h1 x (h.below hbT) (Rd.new w1 e [x] #[enc x] 1 (0, 0) rfl rfl (by decide)) (by simp; omega) hl
  exact ⟨A', c', w', r, o, h2, h3, (grown_below hbT _).trans g⟩
end
theorem OwnL.not_at {α : Type} {enc : α → Value} {e : TypeId} {w : World} {base : Nat} {v : Value} {l : List α} (h : OwnL enc e w base v l) {g : Nat} (hg : g < base) : v.ownBlock = Option.none ∨ v.ownBlock ≠ some g := by
  cases hb : v.ownBlock with
  | none => exact .inl rfl
  | some k => right; intro e; have := (h.base k hb).1; injection e with e; omega
theorem OwnL.ne_at {α : Type} {enc : α → Value} {e : TypeId} {w : World} {base : Nat} {v : Value} {l : List α} (h : OwnL enc e w base v l) {g : Nat} (hg : g < base) : some g ≠ v.ownBlock := by
  intro e
  have := (h.base g e.symm).1
  omega
theorem int_apart {w : World} {b b' : Nat} {v v' : Value} {l : List ByteArray} {m : List Int} (h : OwnL encS 9 w b v l) (h' : OwnL encI 3 w b' v' m) : v.ownBlock = Option.none ∨ v.ownBlock ≠ v'.ownBlock := rows_apart h h' (by decide)
theorem str_apart {w : World} {b b' : Nat} {v v' : Value} {l : List ByteArray} {m : List Int} (h : OwnL encS 9 w b v l) (h' : OwnL encI 3 w b' v' m) : v'.ownBlock = Option.none ∨ v'.ownBlock ≠ v.ownBlock := rows_apart h' h (by decide)

/-- The reader's cells. -/
abbrev rdrL (A : Option Addr) (n c : Nat) (B : Option Addr) (m d : Nat) (cap : Int) (P : Option Addr) (np cp : Nat) (dp : Int) (wr : Bool) (at_ : Int) : List Value := [.slice A n c, .slice B m d, .int .i64 cap, .slice P np cp, .int .i64 dp, .bool wr, .int .i64 at_]
/-- What is asked for, and whether it may be. -/
def OpR (G : Option QOp) (w : World) (e : Ending) (w' : World) : Prop := ∃ (k : Int) (A1 : Option Addr) (n1 c1 : Nat) (A2 : Option Addr) (n2 c2 : Nat) (ts : List ByteArray) (os : List Int), e = .returned (.tuple #[.agg #[.int .i64 k, .slice A1 n1 c1, .slice A2 n2 c2], .bool G.isSome]) ∧
  OwnOp w' w.heap.size ((k, ts, os), (A1, n1, c1), (A2, n2, c2)) ∧ (∀ o, G = some o → (k, ts, os) = o) ∧ Below w.heap.size w w'
theorem opR_set {w w3 : World} {go : Nat} {G : Option QOp} {x y z : Value} (HB : Below w.heap.size w w3) (hgo : go = w.heap.size) (hbx : BoxA w3 go 76 [x, y, z]) (k : Int) (A1 : Option Addr) (n1 c1 : Nat) (A2 : Option Addr) (n2 c2 : Nat) (ts : List ByteArray) (os : List Int)
    (hx : OwnOp w3 (go + 1) ((k, ts, os), (A1, n1, c1), (A2, n2, c2))) (b : Bool) (hb : b = G.isSome) (hG : ∀ o, G = some o → (k, ts, os) = o) :
    OpR G w (.returned (.tuple #[.agg #[.int .i64 k, .slice A1 n1 c1, .slice A2 n2 c2], .bool b])) (((w3.setCell ⟨go, 0, none⟩ (.int .i64 k)).setCell ⟨go, 1, none⟩ (.slice A1 n1 c1)).setCell ⟨go, 2, none⟩ (.slice A2 n2 c2)) ∧
    (((w3.setCell ⟨go, 0, none⟩ (.int .i64 k)).setCell ⟨go, 1, none⟩ (.slice A1 n1 c1)).setCell ⟨go, 2, none⟩ (.slice A2 n2 c2)).cell? ⟨go, 0, none⟩ = some (.int .i64 k) ∧
    (((w3.setCell ⟨go, 0, none⟩ (.int .i64 k)).setCell ⟨go, 1, none⟩ (.slice A1 n1 c1)).setCell ⟨go, 2, none⟩ (.slice A2 n2 c2)).cell? ⟨go, 1, none⟩ = some (.slice A1 n1 c1) ∧
    (((w3.setCell ⟨go, 0, none⟩ (.int .i64 k)).setCell ⟨go, 1, none⟩ (.slice A1 n1 c1)).setCell ⟨go, 2, none⟩ (.slice A2 n2 c2)).cell? ⟨go, 2, none⟩ = some (.slice A2 n2 c2) := by
  obtain ⟨h1, hg⟩ := hbx.set3 (.int .i64 k) (.slice A1 n1 c1) (.slice A2 n2 c2)
  obtain ⟨z0, z1, z2, _⟩ := h1.three
  refine ⟨⟨k, A1, n1, c1, A2, n2, c2, ts, os, by rw [hb], ?_, hG, HB.grown hg HB.size (fun j hj => by injection hj with hj; omega)⟩, z0, z1, z2⟩
  exact (hx.kept hg (fun j hj => by injection hj with hj; omega)).mono (by omega)
/-- The phrase as far as it is gathered. -/
def AkI (w3 : World) (gp : Nat) (L : List Tok) (p0 ix : Nat) (A1 : Option Addr) (c1 : Nat) (A2 : Option Addr) (c2 : Nat) (wr : World) : Prop :=
  Below w3.heap.size w3 wr ∧ BoxA wr gp 76 [.int .i64 2, .slice A1 ix c1, .slice A2 ix c2] ∧ OwnL encS 9 wr (gp + 1) (.slice A1 ix c1) ((L.take ix).map fun x : Tok => x.1) ∧ OwnL encI 3 wr (gp + 1) (.slice A2 ix c2) (offsK p0 (L.take ix))
def asksW (NW : Nat) (L : List (ByteArray × Nat)) : Option QOp := if NW = 0 ∨ 16 < L.length then none else match L with
    | [] => some (4, [], [])
    | t :: ts => if NW = 1 then some (1, [t.1], []) else some (2, (t :: ts).map (fun x => x.1), offsK t.2 (t :: ts))
theorem asksG_W (cf : Cf) (l : List Nat) : asksG cf l = asksW (wordsL l).length (toksL cf l) := rfl
theorem asksW_no {NW : Nat} {L : List (ByteArray × Nat)} (h : NW = 0 ∨ 16 < L.length) : asksW NW L = none := if_pos h
theorem asksW_nil {NW : Nat} {L : List (ByteArray × Nat)} (h : ¬ NW = 0) (hl : L.length = 0) : asksW NW L = some (4, [], []) := by
  obtain rfl := List.eq_nil_of_length_eq_zero hl
  unfold asksW
  rw [if_neg (by simp; exact h)]
theorem asksW_one {s : ByteArray} {p : Nat} {ts : List (ByteArray × Nat)} (h : ((s, p) :: ts).length ≤ 16) : asksW 1 ((s, p) :: ts) = some (1, [s], []) := by
  unfold asksW
  rw [if_neg (by omega)]
  rfl
theorem asksW_more {NW : Nat} {s : ByteArray} {p : Nat} {ts : List (ByteArray × Nat)} (h : ¬ NW = 0) (h1 : ¬ NW = 1) (hl : ((s, p) :: ts).length ≤ 16) : asksW NW ((s, p) :: ts) = some (2, ((s, p) :: ts).map (fun x => x.1), offsK p ((s, p) :: ts)) := by
  unfold asksW
  rw [if_neg (by omega)]
  simp only
  rw [if_neg h1]
set_option maxRecDepth 100000 in
set_option maxHeartbeats 8000000 in
theorem asks_any (A : Option Addr) (n c : Nat) (B : Option Addr) (m d : Nat) (cf : Cf) (gb : Nat) (P : Option Addr) (np cp : Nat) (dp : Int) (wrb : Bool) (at_ : Int) (T : Option Addr) (nt ct : Nat) (l : List Nat) (w : World) (hR : RdC w A n c B m d cf) (hbx : BoxA w gb 63 (rdrL A n c B m d cf.cap P np cp dp wrb at_))
    (ht : RdB w T nt l) (htc : nt ≤ ct) (hn : nt ≤ 1000) (hm : m ≤ 1000000) :
    Calls Tryz.prog 98 #[.pointer (some ⟨gb, 0, none⟩), .slice T nt ct] w (OpR (asksG cf l) w) := by
  have HR := Lib.hid hR
  have HT := Lib.hid ht
  have HLn := Lib.hid ht.len
  obtain ⟨cap, hcap⟩ : ∃ cap, cap = cf.cap := ⟨_, rfl⟩
  rw [← hcap] at hbx
  obtain ⟨G, hG⟩ : ∃ G, G = asksG cf l := ⟨_, rfl⟩
  have hasks : G = asksW (wordsL l).length (toksL cf l) := hG.trans (asksG_W cf l)
  rw [← hG]
  have HAS := Lib.hid hasks
  clear hG hasks
  obtain ⟨w1, hw1⟩ : ∃ w1, w1 = w.alloc (.cells #[.int .i64 0, .slice none 0 0, .slice none 0 0] 76) := ⟨_, rfl⟩
  obtain ⟨go, hgo⟩ : ∃ go, go = w.heap.size := ⟨_, rfl⟩
  have hb1 : Below w.heap.size w w1 := by rw [hw1]; exact (Below.refl _ _).alloc (Nat.le_refl _) _
  have hob : BoxA w1 go 76 [.int .i64 0, .slice none 0 0, .slice none 0 0] := by rw [hw1, hgo]; exact BoxA.new _ _ _
  have HW1 := Lib.hid hw1
  have HGO := Lib.hid hgo
  have HCAP := Lib.hid hcap
  have HB1 := Lib.hid hb1
  have HBX := Lib.hid (hbx.below hb1)
  have HOB := Lib.hid hob
  have C1 := Lib.hid (Count_any T nt ct l w1 (ht.below hb1) htc)
  clear hR ht hcap hw1 hgo hb1 hob hbx
  go_enter Tryz.func98, Tryz.ntmps98
  go_wp2_with fail
  rw [← HW1.out, ← HGO.out]
  refine C1.out.mono ?_
  rintro e w2 ⟨rfl, hb⟩
  have HB2 := Lib.hid (Below.thn HB1.out hb)
  have HBX2 := Lib.hid (HBX.out.below hb)
  have HOB2 := Lib.hid (HOB.out.below hb)
  have C2 := Lib.hid (Tokens_any A n c B m d cf T nt ct l w2 (HR.out.below HB2.out) (HT.out.below HB2.out) htc (by rw [HLn.out]; omega) hm)
  rw [← HCAP.out] at C2
  have y0 := HBX2.out.cell 0 _ rfl
  have y1 := HBX2.out.cell 1 _ rfl
  have y2 := HBX2.out.cell 2 _ rfl
  clear hb C1 HB1 HBX HOB HW1
  go_wp2_with fail
  refine C2.out.mono ?_
  rintro e w3 ⟨lv, rfl, ho, hb⟩
  have HB3 := Lib.hid (Below.thn HB2.out hb)
  have HOB3 := Lib.hid (HOB2.out.below hb)
  clear C2 HB2 HBX2 HOB2 y0 y1 y2
  obtain ⟨NW, hnw⟩ : ∃ NW, NW = (wordsL l).length := ⟨_, rfl⟩
  obtain ⟨L, hL⟩ : ∃ L, L = toksL cf l := ⟨_, rfl⟩
  have HASW : Hid (G = asksW NW L) := Lib.hid (by rw [HAS.out, hnw, hL])
  clear HAS
  have HAS := HASW
  clear HASW
  rw [← hnw]
  rw [← hL] at ho
  obtain ⟨A3, c3, rfl, h31, h32, hrd⟩ := OwnK.rd encTk_len ho
  obtain ⟨NT, hNT⟩ : ∃ NT, NT = L.length := ⟨_, rfl⟩
  have hwl : NW ≤ 1001 := by
    have h1 := wordsL_len l
    have h2 := HLn.out
    omega
  rw [← hNT] at h31 hrd ⊢
  have HRD := Lib.hid hrd
  have HNT := Lib.hid hNT
  have HPB : Hid (∀ y ∈ L, y.2 < NW) := Lib.hid (by rw [hL, hnw]; exact toks_pos cf l)
  clear hnw hL ho hb hrd hNT
  by_cases hz : NW = 0
  · subst hz
    have hGn : Hid (G = none) := Lib.hid (by rw [HAS.out]; exact asksW_no (.inl rfl))
    obtain ⟨hE, y0, y1, y2⟩ := opR_set (G := G) HB3.out HGO.out HOB3.out 0 none 0 0 none 0 0 [] [] (OwnOp.nil _ _ _) false (by rw [hGn.out]; rfl) (fun o h => by rw [hGn.out] at h; cases h)
    have HE := Lib.hid hE
    have hbd : ∀ W : World, (Instr.build 76 #[]).run Tryz.prog W = .ok (.agg #[.int .i64 0, .slice none 0 0, .slice none 0 0]) W := fun W => run_build W 76 _ _ (by kernel_rfl)
    obtain ⟨z0, z1, z2, z3, z4, z5⟩ := HOB3.out.three
    clear hE HAS
    go_wp2
    refine bodyPost_ret (v := .tuple #[.agg #[.int .i64 0, .slice none 0 0, .slice none 0 0], .bool false]) (by simp [results, Tryz.results98, go_sem, y0, y1, y2]) rfl HE.out
  have hz0 : ((NW : Int) == 0) = false := by simp; omega
  by_cases h16 : (NT : Int) > 16
  · have hGn : Hid (G = none) := Lib.hid (by rw [HAS.out]; exact asksW_no (.inr (by have := HNT.out; omega)))
    obtain ⟨hE, y0, y1, y2⟩ := opR_set (G := G) HB3.out HGO.out HOB3.out 0 none 0 0 none 0 0 [] [] (OwnOp.nil _ _ _) false (by rw [hGn.out]; rfl) (fun o h => by rw [hGn.out] at h; cases h)
    have HE := Lib.hid hE
    have hbd : ∀ W : World, (Instr.build 76 #[]).run Tryz.prog W = .ok (.agg #[.int .i64 0, .slice none 0 0, .slice none 0 0]) W := fun W => run_build W 76 _ _ (by kernel_rfl)
    obtain ⟨z0, z1, z2, z3, z4, z5⟩ := HOB3.out.three
    clear hE HAS
    go_wp2
    refine bodyPost_ret (v := .tuple #[.agg #[.int .i64 0, .slice none 0 0, .slice none 0 0], .bool false]) (by simp [results, Tryz.results98, go_sem, y0, y1, y2]) rfl HE.out
  have hn16 : NT ≤ 16 := by omega
  by_cases hnt : NT = 0
  · subst hnt
    have hGn : Hid (G = some (4, [], [])) := Lib.hid (by rw [HAS.out]; exact asksW_nil hz HNT.out.symm)
    obtain ⟨hE, y0, y1, y2⟩ := opR_set (G := G) HB3.out HGO.out HOB3.out 4 none 0 0 none 0 0 [] [] (OwnOp.nil _ _ _) true (by rw [hGn.out]; rfl) (fun o h => by rw [hGn.out] at h; injection h)
    have HE := Lib.hid hE
    have hbd : ∀ W : World, (Instr.build 76 #[(0, .int .i64 4)]).run Tryz.prog W = .ok (.agg #[.int .i64 4, .slice none 0 0, .slice none 0 0]) W := fun W => run_build W 76 _ _ (by kernel_rfl)
    obtain ⟨z0, z1, z2, z3, z4, z5⟩ := HOB3.out.three
    clear hE HAS
    go_wp2
    refine bodyPost_ret (v := .tuple #[.agg #[.int .i64 4, .slice none 0 0, .slice none 0 0], .bool true]) (by simp [results, Tryz.results98, go_sem, y0, y1, y2]) rfl HE.out
  have hnt0 : 0 < NT := by omega
  have hntf : ((NT : Int) == 0) = false := by simp; omega
  obtain ⟨a3, tk0, rfl, HX0, x0, x1⟩ := HRD.out.at2 (k := 0) hnt0
  simp only [Nat.zero_mul, Addr.add_zero'] at x0 x1
  obtain ⟨s0, p0⟩ := tk0
  have HL0 : Hid (∃ ts, L = (s0, p0) :: ts) := Lib.hid (by
    obtain ⟨hl, e⟩ := HX0.out
    cases hL : L with
    | nil => rw [hL] at hl; simp at hl
    | cons a b => 
      simp only [hL, List.getElem_cons_zero] at e
      exact ⟨b, by rw [e]⟩)
  clear HX0
  by_cases h1w : NW = 1
  · subst h1w
    have hGn : Hid (G = some (1, [s0], [])) := Lib.hid (by
      obtain ⟨ts, e⟩ := HL0.out
      rw [HAS.out, e]
      exact asksW_one (by rw [← e, ← HNT.out]; exact hn16))
    obtain ⟨w4, hw4⟩ : ∃ w4, w4 = w3.alloc (.cells #[.string s0] 9) := ⟨_, rfl⟩
    have hb4 : Below w3.heap.size w3 w4 := by rw [hw4]; exact (Below.refl _ _).alloc (Nat.le_refl _) _
    have hop : OwnOp w4 (go + 1) ((1, [s0], []), (some ⟨w3.heap.size, 0, none⟩, 1, 1), (none, 0, 0)) := ⟨by
      rw [hw4]
      exact OwnL.lit w3 (go + 1) 9 [s0] #[.string s0] 1 rfl rfl HOB3.out.lt (by decide), OwnL.nil _ _ _ _⟩
    obtain ⟨hE, y0, y1, y2⟩ := opR_set (G := G) (Below.thn HB3.out hb4) HGO.out (HOB3.out.below hb4) 1 (some ⟨w3.heap.size, 0, none⟩) 1 1 none 0 0 [s0] [] hop true (by rw [hGn.out]; rfl) (fun o h => by rw [hGn.out] at h; injection h)
    have hq0 := HOB3.out.lt
    have hcm : (((w4.setCell ⟨go, 0, none⟩ (.int .i64 1)).setCell ⟨go, 1, none⟩ (.slice (some ⟨w3.heap.size, 0, none⟩) 1 1)).setCell ⟨go, 2, none⟩ (.slice none 0 0)) = (((w3.setCell ⟨go, 0, none⟩ (.int .i64 1)).setCell ⟨go, 1, none⟩ (.slice (some ⟨w3.heap.size, 0, none⟩) 1 1)).setCell ⟨go, 2, none⟩ (.slice none 0 0)).alloc (.cells #[.string s0] 9) := by
      rw [hw4, World.setCell_alloc_past _ _ _ _ hq0, World.setCell_alloc_past _ _ _ _ (by simp; exact hq0), World.setCell_alloc_past _ _ _ _ (by simp; exact hq0)]
    rw [hcm] at hE y0 y1 y2
    have HE := Lib.hid hE
    have hbd : ∀ W : World, (Instr.build 76 #[(0, .int .i64 1), (1, .slice (some ⟨w3.heap.size, 0, none⟩) 1 1)]).run Tryz.prog W = .ok (.agg #[.int .i64 1, .slice (some ⟨w3.heap.size, 0, none⟩) 1 1, .slice none 0 0]) W := fun W => run_build W 76 _ _ (by kernel_rfl)
    obtain ⟨z0, z1, z2, z3, z4, z5⟩ := HOB3.out.three
    clear hE HAS hw4 hb4 hop hcm
    go_wp2
    refine bodyPost_ret (v := .tuple #[.agg #[.int .i64 1, .slice (some ⟨w3.heap.size, 0, none⟩) 1 1, .slice none 0 0], .bool true]) (by simp [results, Tryz.results98, go_sem, y0, y1, y2]) rfl HE.out
  have h1f : ((NW : Int) == 1) = false := by simp; omega
  have hGn : Hid (G = some (2, L.map (fun x : Tok => x.1), offsK p0 L)) := Lib.hid (by
    obtain ⟨ts, e⟩ := HL0.out
    rw [HAS.out, e]
    exact asksW_more hz h1w (by rw [← e, ← HNT.out]; exact hn16))
  have hp0 : p0 ≤ 1001 := by
    obtain ⟨ts, e⟩ := HL0.out
    have := HPB.out (s0, p0) (by rw [e]; simp)
    simp only at this
    omega
  clear HAS HL0
  obtain ⟨gp, hgp⟩ : ∃ gp, gp = w3.heap.size := ⟨_, rfl⟩
  have HGP := Lib.hid hgp
  have hbd : ∀ W : World, (Instr.build 76 #[(0, .int .i64 2)]).run Tryz.prog W = .ok (.agg #[.int .i64 2, .slice none 0 0, .slice none 0 0]) W := fun W => run_build W 76 _ _ (by kernel_rfl)
  obtain ⟨w4, hw4⟩ : ∃ w4, w4 = w3.alloc (.cells #[.int .i64 2, .slice none 0 0, .slice none 0 0] 76) := ⟨_, rfl⟩
  have HI4 : Hid (AkI w3 gp L p0 0 none 0 none 0 w4) := Lib.hid ⟨by rw [hw4]; exact (Below.refl _ _).alloc (Nat.le_refl _) _, by rw [hw4, hgp]; exact BoxA.new _ _ _, OwnL.nil _ _ _ _, OwnL.nil _ _ _ _⟩
  have HW4 := Lib.hid hw4
  clear hgp hw4
  go_upto_region 10 with fail
  rw [← HGP.out, ← HW4.out]
  clear hbd HW4
  go_wp2_with fail
  go_loopw [45] (fun x wr => ∃ (ix : Nat) (A1 : Option Addr) (c1 : Nat) (A2 : Option Addr) (c2 : Nat), x = .int .i64 (ix : Nat) ∧ ix ≤ NT ∧ Hid (AkI w3 gp L p0 ix A1 c1 A2 c2 wr)) (fun x _ => NT - (intOf x).toNat)
  case atStart => exact ⟨0, none, 0, none, 0, rfl, Nat.zero_le _, HI4⟩
  case round =>
    obtain ⟨ix, A1, c1, A2, c2, rfl, hix, HI⟩ := hrel
    by_cases hlt : (ix : Int) < (NT : Int)
    · obtain ⟨ax, tk, hax, HX, u0, u1⟩ := HRD.out.at2 (k := ix) (by omega)
      cases hax
      obtain ⟨s, p⟩ := tk
      have hpb : p ≤ 1001 := by
        obtain ⟨hl, e⟩ := HX.out
        have := HPB.out _ (List.getElem_mem hl)
        rw [e] at this
        simp only at this
        omega
      have hp0b : p0 ≤ 1001 := hp0
      have HXT : Hid (L.take (ix + 1) = L.take ix ++ [(s, p)]) := Lib.hid (by
        obtain ⟨hl, e⟩ := HX.out
        rw [← e]
        exact List.take_succ_eq_append_getElem hl)
      clear HX
      obtain ⟨hbr, hbxr, hos, hoi⟩ := HI.out
      have hgpl := hbxr.lt
      obtain ⟨gt, hgt⟩ : ∃ gt, gt = wr.heap.size := ⟨_, rfl⟩
      obtain ⟨W1, hW1⟩ : ∃ W1, W1 = wr.alloc (.cells #[.string s, .int .i64 (p : Nat)] 160) := ⟨_, rfl⟩
      have hb1 : Below wr.heap.size wr W1 := by rw [hW1]; exact (Below.refl _ _).alloc (Nat.le_refl _) _
      have htk : BoxA W1 gt 160 [.string s, .int .i64 (p : Nat)] := by rw [hW1, hgt]; exact BoxA.new _ _ _
      have u0' := cell_keep hbr u0
      have u1' := cell_keep hbr u1
      have hlen : ((L.take ix).map fun x : Tok => x.1).length = ix := by rw [List.length_map, List.length_take, ← HNT.out]; omega
      have hlen2 : (offsK p0 (L.take ix)).length = ix := by unfold offsK; rw [List.length_map, List.length_take, ← HNT.out]; omega
      obtain ⟨A6, c6, w6, r6, o6, h61, h62, g6⟩ := push_L (P := Tryz.prog) (enc := encS) (gp + 1) 23 9 (.string ⟨#[]⟩) 16 Tryz.underlying23 infoS rfl (by decide) (by decide) encS_one s (hos.below hb1) (by have := hb1.size; omega) (by rw [hlen]; omega)
      rw [hlen] at r6 o6 h61
      have hbx1 := hbxr.below hb1
      have hbx6 := hbx1.kept g6 ((hos.below hb1).ne_at (Nat.lt_succ_self _))
      have htk6 := htk.kept g6 (fun e => by have h1 := (hos.base _ e.symm).2; omega)
      have hoi6 := (hoi.below hb1).kept g6 (str_apart (hos.below hb1) (hoi.below hb1))
      have hB6 : Below w3.heap.size w3 w6 := (hbr.trans (hb1.mono hbr.size)).grown g6 (by have := hbr.size; have := hb1.size; omega) (fun k hk => by have := ((hos.below hb1).base k hk).1; have := HGP.out; omega)
      obtain ⟨W7, hW7⟩ : ∃ W7, W7 = w6.setCell ⟨gp, 1, none⟩ (.slice A6 (ix + 1) c6) := ⟨_, rfl⟩
      have hbx7 : BoxA W7 gp 76 [.int .i64 2, .slice A6 (ix + 1) c6, .slice A2 ix c2] := by rw [hW7]; exact hbx6.set 1 _
      have hg7 : w6.grownBy W7 (some gp) := by rw [hW7]; exact BoxA.set_grown _ _ _ _
      have hos7 := o6.kept hg7 (o6.not_at (Nat.lt_succ_self _))
      have hoi7 := hoi6.kept hg7 (hoi6.not_at (Nat.lt_succ_self _))
      have htk7 := htk6.kept hg7 (fun e => by injection e with e; omega)
      have hB7 : Below w3.heap.size w3 W7 := hB6.grown hg7 hB6.size (fun k hk => by injection hk with hk; have := HGP.out; omega)
      have G57 : Hid (W7.cell? ⟨gp, 2, none⟩ = some (.slice A2 ix c2)) := Lib.hid (hbx7.cell 2 _ rfl)
      have G59 : Hid (W7.cell? ⟨gt, 1, none⟩ = some (.int .i64 (p : Nat))) := Lib.hid (htk7.cell 1 _ rfl)
      have G63 : Hid (W7.cell? ⟨a3.block, a3.off + 1, none⟩ = some (.int .i64 (p0 : Nat))) := Lib.hid (cell_keep hB7 x1)
      obtain ⟨b0, b1, b2, b3, b4, b5⟩ := hbx1.three
      obtain ⟨d0, d1, d2, d3, d4, d5⟩ := hbx6.three
      have e0 := htk.cell 0 _ rfl
      have hwp : IntKind.i64.wrap ((p : Int) - (p0 : Int)) = (p : Int) - (p0 : Int) := by rw [IntKind.wrap_i64]; omega
      have HB7 := Lib.hid hB7
      have HO7 := Lib.hid hos7
      have HI7 := Lib.hid hoi7
      have HBX7 := Lib.hid hbx7
      have HW1 := Lib.hid hW1
      have HW7 := Lib.hid hW7
      have HGT := Lib.hid hgt
      clear hbr hbxr hos hoi hgt hW1 hb1 htk u0 u1 o6 hbx1 hbx6 htk6 hoi6 hB6 hW7 hbx7 hg7 hos7 hoi7 htk7 hB7 HI g6
      go_upto_region 13 with fail
      rw [← HW1.out, ← HGT.out]
      go_upto_region 14 with (at_builtin; refine wpl_append_run rfl _ _ _ rfl rfl rfl r6 ?_)
      rw [← HW7.out]
      clear b0 b1 b2 b3 b4 b5 d0 d1 d2 d3 d4 d5 e0 u0' u1' r6
      rename_i K1 hK1
      refine wp_region_flowT 10 (by kernel_rfl) (by kernel_rfl) (AkF a3 NT c3 gp gt ix c2 A2 p p0) (AkF.below a3 NT c3 gp gt ix c2 A2 p p0) (by kernel_rfl) (by kernel_rfl) ?_ ?_
      case refine_1 =>
        intro i o hit ho ρ y w2 hb2 hreg hn hf hyb hyn
        obtain rfl | rfl | rfl | rfl | rfl | rfl | rfl | rfl | rfl | rfl : i = 0 ∨ i = 1 ∨ i = 2 ∨ i = 3 ∨ i = 4 ∨ i = 5 ∨ i = 6 ∨ i = 7 ∨ i = 8 ∨ i = 9 := by omega
        · cases ho
          rw [if_pos (show Region.wanted _ y = true from rfl)]
          have f8 : ρ (.tmp 8) = .pointer (some ⟨gp, 0, none⟩) := hf 8 (by kernel_rfl)
          exact does_ok (v := .pointer (some ⟨gp, 2, none⟩)) (w' := w2) (by simp [go_sem, hreg.const, f8]) ⟨rfl, Below.refl _ _⟩
        · cases ho
          rw [if_pos (show Region.wanted _ y = true from rfl)]
          have f56 : ρ (.tmp 56) = .pointer (some ⟨gp, 2, none⟩) := hn 0 _ 56 rfl (by kernel_rfl) rfl
          have k0 := cell_keep hb2 G57.out
          exact does_ok (v := .slice A2 ix c2) (w' := w2) (by simp [go_sem, hreg.const, f56, k0]) ⟨rfl, Below.refl _ _⟩
        · cases ho
          rw [if_pos (show Region.wanted _ y = true from rfl)]
          have f10 : ρ (.tmp 10) = .pointer (some ⟨gt, 0, none⟩) := hf 10 (by kernel_rfl)
          exact does_ok (v := .pointer (some ⟨gt, 1, none⟩)) (w' := w2) (by simp [go_sem, hreg.const, f10]) ⟨rfl, Below.refl _ _⟩
        · cases ho
          rw [if_pos (show Region.wanted _ y = true from rfl)]
          have f58 : ρ (.tmp 58) = .pointer (some ⟨gt, 1, none⟩) := hn 2 _ 58 rfl (by kernel_rfl) rfl
          have k0 := cell_keep hb2 G59.out
          exact does_ok (v := .int .i64 (p : Nat)) (w' := w2) (by simp [go_sem, hreg.const, f58, k0]) ⟨rfl, Below.refl _ _⟩
        · cases ho
          rw [if_pos (show Region.wanted _ y = true from rfl)]
          have f7 : ρ (.tmp 7) = .slice (some a3) NT c3 := hf 7 (by kernel_rfl)
          exact ⟨f7, Below.refl _ _⟩
        · cases ho
          rw [if_pos (show Region.wanted _ y = true from rfl)]
          have f60 : ρ (.tmp 60) = .slice (some a3) NT c3 := hn 4 _ 60 rfl (by kernel_rfl) rfl
          exact does_ok (v := .pointer (some a3)) (w' := w2) (by simp [go_sem, hreg.const, f60, hnt0]) ⟨rfl, Below.refl _ _⟩
        · cases ho
          rw [if_pos (show Region.wanted _ y = true from rfl)]
          have f61 : ρ (.tmp 61) = .pointer (some a3) := hn 5 _ 61 rfl (by kernel_rfl) rfl
          exact does_ok (v := .pointer (some ⟨a3.block, a3.off + 1, none⟩)) (w' := w2) (by simp [go_sem, hreg.const, f61]) ⟨rfl, Below.refl _ _⟩
        · cases ho
          rw [if_pos (show Region.wanted _ y = true from rfl)]
          have f62 : ρ (.tmp 62) = .pointer (some ⟨a3.block, a3.off + 1, none⟩) := hn 6 _ 62 rfl (by kernel_rfl) rfl
          have k0 := cell_keep hb2 G63.out
          exact does_ok (v := .int .i64 (p0 : Nat)) (w' := w2) (by simp [go_sem, hreg.const, f62, k0]) ⟨rfl, Below.refl _ _⟩
        · cases ho
          rw [if_pos (show Region.wanted _ y = true from rfl)]
          have f59 : ρ (.tmp 59) = .int .i64 (p : Nat) := hn 3 _ 59 rfl (by kernel_rfl) rfl
          have f63 : ρ (.tmp 63) = .int .i64 (p0 : Nat) := hn 7 _ 63 rfl (by kernel_rfl) rfl
          exact does_ok (v := .int .i64 ((p : Int) - (p0 : Int))) (w' := w2) (by simp [go_sem, hreg.const, f59, f63, hwp]) ⟨rfl, Below.refl _ _⟩
        · cases ho
          rw [if_pos (show Region.wanted _ y = true from rfl)]
          have f64 : ρ (.tmp 64) = .int .i64 ((p : Int) - (p0 : Int)) := hn 8 _ 64 rfl (by kernel_rfl) rfl
          exact does_ok (v := .slice (some ⟨w2.heap.size, 0, none⟩) 1 1) (w' := w2.alloc (.cells #[.int .i64 ((p : Int) - (p0 : Int))] 3)) (by simp [go_sem, hreg.const, f64]) ⟨⟨_, rfl, _, rfl, Rd.new w2 3 [(p : Int) - (p0 : Int)] #[.int .i64 ((p : Int) - (p0 : Int))] 1 (0, 0) (enc := encI) rfl rfl (by decide)⟩, (Below.refl _ _).alloc (Nat.le_refl _) _⟩
      case refine_2 =>
        intro a w2 hb2 hd hs hfacts hrest
        have q57 : a.tmps.getD 57 undef = .slice A2 ix c2 := hfacts 1 _ 57 (by decide) rfl rfl
        obtain ⟨V65, q65, g65⟩ : ∃ (V65 : Value), a.tmps.getD 65 undef = V65 ∧ ∃ a9, V65 = .slice (some a9) 1 1 ∧ Rd encI w2 (some a9) 1 [(p : Int) - (p0 : Int)] := hfacts 9 _ 65 (by decide) rfl rfl
        have ha := frame_ofP hd hs hrest [56, 57, 58, 59, 60, 61, 62, 63, 64, 65] (by kernel_rfl)
        simp only [q57, q65, List.foldl, List.setIfInBounds_toArray, List.set_cons_succ, List.set_cons_zero] at ha
        clear q57 q65 hd hs hfacts hrest
        generalize a.tmps.getD = gg at ha
        subst ha
        obtain ⟨a9, rfl, h9⟩ := g65
        obtain ⟨A8, c8, w8, r8, o8, h81, h82, g8⟩ := push_R (P := Tryz.prog) (enc := encI) (gp + 1) 74 3 (.int .i64 0) 8 Tryz.underlying74 infoI rfl (by decide) (by decide) encI_one ((p : Int) - (p0 : Int)) (HI7.out.below hb2) h9 (by have := HBX7.out.lt; have := hb2.size; omega) (by rw [hlen2]; omega)
        rw [hlen2] at r8 o8 h81
        have hos8 := (HO7.out.below hb2).kept g8 (int_apart (HO7.out.below hb2) (HI7.out.below hb2))
        have hbx8 := (HBX7.out.below hb2).kept g8 ((HI7.out.below hb2).ne_at (Nat.lt_succ_self _))
        have hB8 : Below w3.heap.size w3 w8 := (HB7.out.trans (hb2.mono HB7.out.size)).grown g8 (by have := HB7.out.size; have := hb2.size; omega) (fun k hk => by have := ((HI7.out.below hb2).base k hk).1; have := HGP.out; omega)
        have hg9 := BoxA.set_grown w8 gp 2 (.slice A8 (ix + 1) c8)
        have HN : Hid (AkI w3 gp L p0 (ix + 1) A6 c6 A8 c8 (w8.setCell ⟨gp, 2, none⟩ (.slice A8 (ix + 1) c8))) := Lib.hid ⟨hB8.grown hg9 hB8.size (fun k hk => by injection hk with hk; have := HGP.out; omega), hbx8.set 2 _, by
          rw [HXT.out, List.map_append]
          exact hos8.kept hg9 (hos8.not_at (Nat.lt_succ_self _)), by
          rw [HXT.out]
          unfold offsK
          rw [List.map_append]
          exact o8.kept hg9 (o8.not_at (Nat.lt_succ_self _))⟩
        obtain ⟨d0, d1, d2, d3, d4, d5⟩ := hbx8.three
        clear hb2 h9 o8 g8 hos8 hbx8 hB8 hg9
        simp only [List.drop_succ_cons, List.drop_zero]
        go_wp2_with (at_builtin; refine wpl_append_run rfl _ _ _ rfl rfl rfl r8 ?_)
        exact ⟨⟨ix + 1, A6, c6, A8, c8, by simp, by omega, HN⟩, by simp [intOf]; omega⟩
    · have hE : ix = NT := by omega
      subst hE
      obtain ⟨hbr, hbxr, hos, hoi⟩ := HI.out
      have hob := HOB3.out.below hbr
      have htl : L.take ix = L := List.take_of_length_le (by rw [← HNT.out]; exact Nat.le_refl _)
      rw [htl] at hos hoi
      have hgl : go < gp := by rw [HGP.out]; exact HOB3.out.lt
      obtain ⟨hE, y0, y1, y2⟩ := opR_set (G := G) (Below.thn HB3.out hbr) HGO.out hob 2 A1 ix c1 A2 ix c2 (L.map fun x : Tok => x.1) (offsK p0 L) ⟨hos.mono (by omega), hoi.mono (by omega)⟩ true (by rw [hGn.out]; rfl) (fun o h => by rw [hGn.out] at h; injection h)
      obtain ⟨z0, z1, z2, z3, z4, z5⟩ := hob.three
      obtain ⟨v0, v1, v2, _⟩ := hbxr.three
      have HE := Lib.hid hE
      clear hE hbr hbxr hos hoi hob htl HI
      go_wp2
      refine bodyPost_ret (v := .tuple #[.agg #[.int .i64 2, .slice A1 ix c1, .slice A2 ix c2], .bool true]) (by simp [results, Tryz.results98, go_sem, y0, y1, y2]) rfl HE.out
end Go.Proofs.YtkkeodlnejckjaaGreat

/- What an item asks for: the code. -/
namespace Go.Proofs.YtkkeodlnejckjaaGreat
open Go.RowKit Go.Shelf
set_option linter.unusedVariables false
set_option linter.unusedSimpArgs false

def ItF (gb : Nat) (ad : Addr) (k ct : Nat) (A : Option Addr) (n c : Nat) (B : Option Addr) (m d : Nat) (cap : Int) (s : ByteArray) (o2 : Int) : Nat → Value → World → Prop
  | 0 => fun v w => v = .pointer (some ⟨gb, 0, none⟩)
  | 1 => fun v w => v = .pointer (some ⟨gb, 0, none⟩)
  | 2 => fun v w => v = .pointer (some ⟨gb, 0, none⟩)
  | 3 => fun v w => v = confV A n c B m d cap
  | 4 => fun v w => v = .slice (some ad) (k + 1) ct
  | 5 => fun v w => v = .int .i64 (k : Nat)
  | 6 => fun v w => v = .slice (some ad) k ct
  | 7 => fun v w => v = .tuple #[.string s, .int .i64 o2]
  | 8 => fun v w => v = .tuple #[.string s, .int .i64 o2]
  | 9 => fun v w => v = .string s
  | 10 => fun v w => v = .int .i64 o2
  | 11 => fun v w => v = .string s
  | 12 => fun v w => v = .int .i64 o2
  | _ => fun _ _ => True
theorem ItF.below (gb : Nat) (ad : Addr) (k ct : Nat) (A : Option Addr) (n c : Nat) (B : Option Addr) (m d : Nat) (cap : Int) (s : ByteArray) (o2 : Int) : ∀ i v w w', Below w.heap.size w w' → ItF gb ad k ct A n c B m d cap s o2 i v w → ItF gb ad k ct A n c B m d cap s o2 i v w'
  | 0, _, _, _, _, h => h
  | 1, _, _, _, _, h => h
  | 2, _, _, _, _, h => h
  | 3, _, _, _, _, h => h
  | 4, _, _, _, _, h => h
  | 5, _, _, _, _, h => h
  | 6, _, _, _, _, h => h
  | 7, _, _, _, _, h => h
  | 8, _, _, _, _, h => h
  | 9, _, _, _, _, h => h
  | 10, _, _, _, _, h => h
  | 11, _, _, _, _, h => h
  | 12, _, _, _, _, h => h
  | _ + 13, _, _, _, _, _ => trivial

set_option maxRecDepth 100000 in
set_option maxHeartbeats 8000000 in
theorem item_any (A : Option Addr) (n c : Nat) (B : Option Addr) (m d : Nat) (cf : Cf) (gb : Nat) (P : Option Addr) (np cp : Nat) (dp : Int) (wrb : Bool) (at_ : Int) (T : Option Addr) (nt ct : Nat) (l : List Nat) (w : World) (hR : RdC w A n c B m d cf) (hbx : BoxA w gb 63 (rdrL A n c B m d cf.cap P np cp dp wrb at_))
    (ht : RdB w T nt l) (htc : nt ≤ ct) (hn : nt ≤ 1000) (hm : m ≤ 1000000) (hn1 : 1 ≤ nt) :
    Calls Tryz.prog 99 #[.pointer (some ⟨gb, 0, none⟩), .slice T nt ct] w (OpR (itemG cf l) w) := by
  have HR := Lib.hid hR
  have HT := Lib.hid ht
  obtain ⟨w1, hw1⟩ : ∃ w1, w1 = w.alloc (.cells #[.int .i64 0, .slice none 0 0, .slice none 0 0] 76) := ⟨_, rfl⟩
  obtain ⟨go, hgo⟩ : ∃ go, go = w.heap.size := ⟨_, rfl⟩
  have hb1 : Below w.heap.size w w1 := by rw [hw1]; exact (Below.refl _ _).alloc (Nat.le_refl _) _
  have HOB : Hid (BoxA w1 go 76 [.int .i64 0, .slice none 0 0, .slice none 0 0]) := Lib.hid (by rw [hw1, hgo]; exact BoxA.new _ _ _)
  have HGS : Hid (w1.heap.size = go + 1) := Lib.hid (by rw [hw1, hgo]; simp)
  have HW1 := Lib.hid hw1
  have HGO := Lib.hid hgo
  have HB1 := Lib.hid hb1
  have HBX := Lib.hid (hbx.below hb1)
  obtain ⟨k, rfl⟩ : ∃ k, nt = k + 1 := ⟨nt - 1, by omega⟩
  have hlen : l.length = k + 1 := ht.len
  obtain ⟨ad, x, rfl, HX, hx256, x0⟩ := ht.at (k := k) (by omega)
  obtain ⟨G, hG⟩ : ∃ G, G = itemG cf l := ⟨_, rfl⟩
  have hGI : G = if k = 0 ∨ x ≠ 42 then asksG cf l else if (oneX cf (l.take k)).2 = 0 then some (3, [(oneX cf (l.take k)).1], []) else none := by
    rw [hG, HX.out]
    unfold itemG
    rw [show l.length - 1 = k by omega]
  have HG := Lib.hid hGI
  have u0 := cell_keep hb1 x0
  rw [hw1] at u0
  rw [← hG]
  clear hR hw1 hgo hb1 hbx ht hlen hG hGI HX
  by_cases hk : k = 0
  · subst hk
    have C1 := Lib.hid (asks_any A n c B m d cf gb P np cp dp wrb at_ (some ad) (0 + 1) ct l w1 (HR.out.below HB1.out) HBX.out (HT.out.below HB1.out) (by omega) (by omega) hm)
    have hGn : Hid (G = asksG cf l) := Lib.hid (by rw [HG.out]; exact if_pos (.inl rfl))
    rw [← hGn.out] at C1
    clear u0 x0
    clear HG
    go_enter Tryz.func99, Tryz.ntmps99
    go_wp2_with fail
    rw [← HW1.out, ← HGO.out]
    refine C1.out.mono ?_
    rintro e w2 ⟨ko, A1, n1, c1, A2, n2, c2, ts, os, rfl, hop, hG, hb⟩
    have hob := HOB.out.below hb
    have hop' : OwnOp w2 (go + 1) ((ko, ts, os), (A1, n1, c1), (A2, n2, c2)) := hop.mono (by have := HGS.out; omega)
    obtain ⟨hE, y0, y1, y2⟩ := opR_set (G := G) (Below.thn HB1.out hb) HGO.out hob ko A1 n1 c1 A2 n2 c2 ts os hop' G.isSome rfl hG
    obtain ⟨z0, z1, z2, z3, z4, z5⟩ := hob.three
    have HE := Lib.hid hE
    clear hE hob hop hop' hG hb C1 HBX
    go_wp2
    refine bodyPost_ret (v := .tuple #[.agg #[.int .i64 ko, .slice A1 n1 c1, .slice A2 n2 c2], .bool G.isSome]) (by simp [results, Tryz.results99, go_sem, y0, y1, y2]) rfl HE.out
  by_cases h42 : x = 42
  case neg =>
    have C1 := Lib.hid (asks_any A n c B m d cf gb P np cp dp wrb at_ (some ad) (k + 1) ct l w1 (HR.out.below HB1.out) HBX.out (HT.out.below HB1.out) (by omega) (by omega) hm)
    have hGn : Hid (G = asksG cf l) := Lib.hid (by rw [HG.out]; exact if_pos (.inr h42))
    rw [← hGn.out] at C1
    have hqk : ((k : Int) == 0) = false := by simp; omega
    have hqx : ((x : Int) == 42) = false := by simp; omega
    clear HG
    go_enter Tryz.func99, Tryz.ntmps99
    go_wp2_with fail
    rw [← HW1.out, ← HGO.out]
    refine C1.out.mono ?_
    rintro e w2 ⟨ko, A1, n1, c1, A2, n2, c2, ts, os, rfl, hop, hG, hb⟩
    have hob := HOB.out.below hb
    have hop' : OwnOp w2 (go + 1) ((ko, ts, os), (A1, n1, c1), (A2, n2, c2)) := hop.mono (by have := HGS.out; omega)
    obtain ⟨hE, y0, y1, y2⟩ := opR_set (G := G) (Below.thn HB1.out hb) HGO.out hob ko A1 n1 c1 A2 n2 c2 ts os hop' G.isSome rfl hG
    obtain ⟨z0, z1, z2, z3, z4, z5⟩ := hob.three
    have HE := Lib.hid hE
    clear hE hob hop hop' hG hb C1 HBX
    go_wp2
    refine bodyPost_ret (v := .tuple #[.agg #[.int .i64 ko, .slice A1 n1 c1, .slice A2 n2 c2], .bool G.isSome]) (by simp [results, Tryz.results99, go_sem, y0, y1, y2]) rfl HE.out
  subst h42
  have hk1 : 1 ≤ k := by omega
  have hqk : ((k : Int) == 0) = false := by simp; omega
  obtain ⟨s, hs⟩ : ∃ s, s = (oneX cf (l.take k)).1 := ⟨_, rfl⟩
  obtain ⟨o2, ho2⟩ : ∃ o2, o2 = (oneX cf (l.take k)).2 := ⟨_, rfl⟩
  obtain ⟨cap, hcap⟩ : ∃ cap, cap = cf.cap := ⟨_, rfl⟩
  have HGn : Hid (G = if o2 = 0 then some (3, [s], []) else none) := Lib.hid (by
    rw [HG.out, if_neg (fun h => by rcases h with h | h; exact hk h; exact h rfl), hs, ho2])
  have C1 : Hid (∀ w9, Below w1.heap.size w1 w9 → Calls Tryz.prog 112 #[confV A n c B m d cap, .slice (some ad) k ct] w9 fun e w' => e = .returned (.tuple #[.string s, .int .i64 o2]) ∧ Below w9.heap.size w9 w') := Lib.hid fun w9 h9 => by
    rw [hs, ho2, hcap]
    have hB9 := Below.thn HB1.out h9
    exact One_any A n c B m d cf (some ad) k ct (l.take k) w9 (HR.out.below hB9) ((HT.out.take k (by omega)).below hB9) (by omega) (by rw [List.length_take]; omega)
  have hcut := run_cut_h (some ad) (k + 1) ct k (by omega)
  have G0 : Hid (w1.cell? ⟨gb, 0, none⟩ = some (.slice A n c)) := Lib.hid (HBX.out.cell 0 _ rfl)
  have G1 : Hid (w1.cell? ⟨gb, 1, none⟩ = some (.slice B m d)) := Lib.hid (HBX.out.cell 1 _ rfl)
  have G2 : Hid (w1.cell? ⟨gb, 2, none⟩ = some (.int .i64 cap)) := Lib.hid (by rw [hcap]; exact HBX.out.cell 2 _ rfl)
  clear HG hs ho2 hcap x0 HBX
  go_enter Tryz.func99, Tryz.ntmps99
  go_wp2_with fail
  rw [← HW1.out, ← HGO.out]
  clear u0
  rename_i K1 hK1
  refine wp_region_flow (by kernel_rfl) (ItF gb ad k ct A n c B m d cap s o2) (ItF.below gb ad k ct A n c B m d cap s o2) (by kernel_rfl) (by kernel_rfl) ?_ ?_
  case refine_1 =>
    intro i o ho ρ y w2 hb2 hreg hn hf hyb hyn
    have hi := (Array.getElem?_eq_some_iff.1 ho).1
    rcases Nat.lt_or_ge i 13 with hi2 | hi2
    case inr => simp at hi; omega
    obtain rfl | rfl | rfl | rfl | rfl | rfl | rfl | rfl | rfl | rfl | rfl | rfl | rfl : i = 0 ∨ i = 1 ∨ i = 2 ∨ i = 3 ∨ i = 4 ∨ i = 5 ∨ i = 6 ∨ i = 7 ∨ i = 8 ∨ i = 9 ∨ i = 10 ∨ i = 11 ∨ i = 12 := by omega
    · cases ho
      rw [if_pos (show Region.wanted _ y = true from rfl)]
      have f0 : ρ (.tmp 0) = .pointer (some ⟨gb, 0, none⟩) := hf 0 (by kernel_rfl)
      exact ⟨f0, Below.refl _ _⟩
    · cases ho
      rw [if_pos (show Region.wanted _ y = true from rfl)]
      have f27 : ρ (.tmp 27) = .pointer (some ⟨gb, 0, none⟩) := hn 0 _ 27 rfl (by kernel_rfl) rfl
      exact does_ok (v := .pointer (some ⟨gb, 0, none⟩)) (w' := w2) (by simp [go_sem, hreg.const, f27]) ⟨rfl, Below.refl _ _⟩
    · cases ho
      rw [if_pos (show Region.wanted _ y = true from rfl)]
      have f28 : ρ (.tmp 28) = .pointer (some ⟨gb, 0, none⟩) := hn 1 _ 28 rfl (by kernel_rfl) rfl
      exact does_ok (v := .pointer (some ⟨gb, 0, none⟩)) (w' := w2) (by simp [go_sem, hreg.const, f28]) ⟨rfl, Below.refl _ _⟩
    · cases ho
      rw [if_pos (show Region.wanted _ y = true from rfl)]
      have f29 : ρ (.tmp 29) = .pointer (some ⟨gb, 0, none⟩) := hn 2 _ 29 rfl (by kernel_rfl) rfl
      have k0 := cell_keep hb2 G0.out
      have k1 := cell_keep hb2 G1.out
      have k2 := cell_keep hb2 G2.out
      exact does_ok (v := confV A n c B m d cap) (w' := w2) (by simp [go_sem, hreg.const, f29, k0, k1, k2]) ⟨rfl, Below.refl _ _⟩
    · cases ho
      rw [if_pos (show Region.wanted _ y = true from rfl)]
      have f1 : ρ (.tmp 1) = .slice (some ad) (k + 1) ct := hf 1 (by kernel_rfl)
      exact ⟨f1, Below.refl _ _⟩
    · cases ho
      rw [if_pos (show Region.wanted _ y = true from rfl)]
      have f6 : ρ (.tmp 6) = .int .i64 (k : Nat) := hf 6 (by kernel_rfl)
      exact ⟨f6, Below.refl _ _⟩
    · cases ho
      rw [if_pos (show Region.wanted _ y = true from rfl)]
      have f31 : ρ (.tmp 31) = .slice (some ad) (k + 1) ct := hn 4 _ 31 rfl (by kernel_rfl) rfl
      have f32 : ρ (.tmp 32) = .int .i64 (k : Nat) := hn 5 _ 32 rfl (by kernel_rfl) rfl
      exact does_ok (v := .slice (some ad) k ct) (w' := w2) (by simp [go_sem, hreg.const, f31, f32, hcut]) ⟨rfl, Below.refl _ _⟩
    · cases ho
      rw [if_pos (show Region.wanted _ y = true from rfl)]
      have f30 : ρ (.tmp 30) = confV A n c B m d cap := hn 3 _ 30 rfl (by kernel_rfl) rfl
      have f33 : ρ (.tmp 33) = .slice (some ad) k ct := hn 6 _ 33 rfl (by kernel_rfl) rfl
      refine does_enter (f := 112) (args := #[confV A n c B m d cap, .slice (some ad) k ct]) (w' := w2) (by simp [go_sem, hreg.func, hreg.const, f30, f33]) ?_
      refine (C1.out w2 hb2).mono ?_
      rintro e w' ⟨rfl, hb⟩
      exact ⟨_, rfl, rfl, hb⟩
    · cases ho
      rw [if_pos (show Region.wanted _ y = true from rfl)]
      have f34 : ρ (.tmp 34) = .tuple #[.string s, .int .i64 o2] := hn 7 _ 34 rfl (by kernel_rfl) rfl
      exact ⟨f34, Below.refl _ _⟩
    · cases ho
      rw [if_pos (show Region.wanted _ y = true from rfl)]
      have f26 : ρ (.tmp 26) = .tuple #[.string s, .int .i64 o2] := hn 8 _ 26 rfl (by kernel_rfl) rfl
      exact does_ok (v := .string s) (w' := w2) (by simp [go_sem, hreg.const, f26]) ⟨rfl, Below.refl _ _⟩
    · cases ho
      rw [if_pos (show Region.wanted _ y = true from rfl)]
      have f26 : ρ (.tmp 26) = .tuple #[.string s, .int .i64 o2] := hn 8 _ 26 rfl (by kernel_rfl) rfl
      exact does_ok (v := .int .i64 o2) (w' := w2) (by simp [go_sem, hreg.const, f26]) ⟨rfl, Below.refl _ _⟩
    · cases ho
      rw [if_pos (show Region.wanted _ y = true from rfl)]
      have f35 : ρ (.tmp 35) = .string s := hn 9 _ 35 rfl (by kernel_rfl) rfl
      exact ⟨f35, Below.refl _ _⟩
    · cases ho
      rw [if_pos (show Region.wanted _ y = true from rfl)]
      have f36 : ρ (.tmp 36) = .int .i64 o2 := hn 10 _ 36 rfl (by kernel_rfl) rfl
      exact ⟨f36, Below.refl _ _⟩
  case refine_2 =>
    intro a w2 hb2 hd hs hfacts hrest
    have q7 : a.tmps.getD 7 undef = .string s := hfacts 11 _ 7 rfl rfl
    have q8 : a.tmps.getD 8 undef = .int .i64 o2 := hfacts 12 _ 8 rfl rfl
    have ha := frame_of hd hs hrest [7, 8, 26, 27, 28, 29, 30, 31, 32, 33, 34, 35, 36] (by kernel_rfl)
    simp only [q7, q8, List.foldl, List.setIfInBounds_toArray, List.set_cons_succ, List.set_cons_zero] at ha
    clear q7 q8 hd hs hfacts hrest
    generalize a.tmps.getD = gg at ha
    subst ha
    have hob := HOB.out.below hb2
    have hbd : ∀ W : World, (Instr.build 76 #[(0, .int .i64 3), (1, .slice (some ⟨w2.heap.size, 0, none⟩) 1 1)]).run Tryz.prog W = .ok (.agg #[.int .i64 3, .slice (some ⟨w2.heap.size, 0, none⟩) 1 1, .slice none 0 0]) W := fun W => run_build W 76 _ _ (by kernel_rfl)
    obtain ⟨z0, z1, z2, z3, z4, z5⟩ := hob.three
    obtain ⟨w4, hw4⟩ : ∃ w4, w4 = w2.alloc (.cells #[.string s] 9) := ⟨_, rfl⟩
    have hb4 : Below w2.heap.size w2 w4 := by rw [hw4]; exact (Below.refl _ _).alloc (Nat.le_refl _) _
    have hop : OwnOp w4 (go + 1) ((3, [s], []), (some ⟨w2.heap.size, 0, none⟩, 1, 1), (none, 0, 0)) := ⟨by
      rw [hw4]
      exact OwnL.lit w2 (go + 1) 9 [s] #[.string s] 1 rfl rfl hob.lt (by decide), OwnL.nil _ _ _ _⟩
    obtain ⟨bb, hbb⟩ : ∃ bb, bb = G.isSome := ⟨_, rfl⟩
    obtain ⟨hE, y0, y1, y2⟩ := opR_set (G := G) (Below.thn (Below.thn HB1.out hb2) hb4) HGO.out (hob.below hb4) 3 (some ⟨w2.heap.size, 0, none⟩) 1 1 none 0 0 [s] [] hop bb hbb (fun o h => by
      rw [HGn.out] at h
      split at h
      · injection h
      · cases h)
    have hq0 := hob.lt
    have hcm : (((w4.setCell ⟨go, 0, none⟩ (.int .i64 3)).setCell ⟨go, 1, none⟩ (.slice (some ⟨w2.heap.size, 0, none⟩) 1 1)).setCell ⟨go, 2, none⟩ (.slice none 0 0)) = (((w2.setCell ⟨go, 0, none⟩ (.int .i64 3)).setCell ⟨go, 1, none⟩ (.slice (some ⟨w2.heap.size, 0, none⟩) 1 1)).setCell ⟨go, 2, none⟩ (.slice none 0 0)).alloc (.cells #[.string s] 9) := by
      rw [hw4, World.setCell_alloc_past _ _ _ _ hq0, World.setCell_alloc_past _ _ _ _ (by simp; exact hq0), World.setCell_alloc_past _ _ _ _ (by simp; exact hq0)]
    rw [hcm] at hE y0 y1 y2
    have HE := Lib.hid hE
    have hbo : bb = (o2 == 0) := by
      rw [hbb, HGn.out]
      by_cases h : o2 = 0
      · rw [if_pos h, h]; rfl
      · rw [if_neg h]; simp [h]
    clear hE hob hop hcm hw4 hb4 hbb hb2 HGn C1 HB1
    subst hbo
    go_wp2
    refine bodyPost_ret (v := .tuple #[.agg #[.int .i64 3, .slice (some ⟨w2.heap.size, 0, none⟩) 1 1, .slice none 0 0], .bool (o2 == 0)]) (by simp [results, Tryz.results99, go_sem, y0, y1, y2]) rfl HE.out
end Go.Proofs.YtkkeodlnejckjaaGreat

/- A reader's state; the next piece, taken, a fault. -/
namespace Go.Proofs.YtkkeodlnejckjaaGreat
open Go.RowKit Go.Shelf
set_option linter.unusedVariables false
set_option linter.unusedSimpArgs false

/-- What a piece has. -/
def PcG (p : Pc) : Prop := p.1 ≠ 0 ∧ 1 ≤ p.2.2.length ∧ (p.1 = 3 → 2 ≤ p.2.2.length)
theorem cutK_good (c : Nat) (r : List Nat) (at_ : Nat) : PcG ((cutK (c :: r)).1, at_, (c :: r).take (cutK (c :: r)).2) := by
  have hp := cutK_pos c r
  have hl : ((c :: r).take (cutK (c :: r)).2).length = (cutK (c :: r)).2 := by
    rw [List.length_take]
    simp
    omega
  refine ⟨?_, by show 1 ≤ List.length _; rw [hl]; exact hp.1, fun h3 => ?_⟩
  · show (cutK (c :: r)).1 ≠ 0
    rw [cutK_cons]
    by_cases h1 : c = 40
    · rw [if_pos h1]; decide
    rw [if_neg h1]
    by_cases h2 : c = 41
    · rw [if_pos h2]; decide
    rw [if_neg h2]
    by_cases h3 : c = 34
    · rw [if_pos h3]
      cases quoteN r <;> simp
    rw [if_neg h3]
    show wordK _ ≠ 0
    unfold wordK
    repeat' split
    all_goals decide
  · show 2 ≤ List.length _
    rw [hl]
    have h4 : (cutK (c :: r)).1 = 3 := h3
    rw [cutK_cons] at h4 ⊢
    by_cases h1 : c = 40
    · rw [if_pos h1] at h4; simp at h4
    rw [if_neg h1] at h4 ⊢
    by_cases h2 : c = 41
    · rw [if_pos h2] at h4; simp at h4
    rw [if_neg h2] at h4 ⊢
    by_cases h5 : c = 34
    · rw [if_pos h5] at h4 ⊢
      cases hq : quoteN r with
      | none => rw [hq] at h4; simp at h4
      | some n => simp
    rw [if_neg h5] at h4
    exfalso
    have h6 : wordK ((c :: r).take (itemN r + 1)) = 3 := h4
    unfold wordK at h6
    revert h6
    repeat' split
    all_goals decide
theorem pcs_good : ∀ (f at_ : Nat) (l : List Nat), ∀ p ∈ pcs f at_ l, PcG p
  | 0, _, _, p, h => by cases h
  | _ + 1, _, [], p, h => by cases h
  | f + 1, at_, c :: r, p, h => by
    unfold pcs at h
    split at h
    · exact pcs_good f _ _ p h
    · rcases List.mem_cons.1 h with h | h
      · subst h; exact cutK_good c r at_
      · exact pcs_good f _ _ p h

theorem pcs_small : ∀ (f at_ : Nat) (l : List Nat), ∀ p ∈ pcs f at_ l, p.2.2.length ≤ l.length
  | 0, _, _, p, h => by cases h
  | _ + 1, _, [], p, h => by cases h
  | f + 1, at_, c :: r, p, h => by
    unfold pcs at h
    split at h
    · have := pcs_small f _ _ p h
      simp
      omega
    · rcases List.mem_cons.1 h with h | h
      · subst h
        show List.length (List.take _ _) ≤ _
        rw [List.length_take]
        omega
      · have := pcs_small f _ _ p h
        rw [List.length_drop] at this
        omega

/-- What does not change while it is read. -/
structure RE where
  A : Option Addr
  n : Nat
  c : Nat
  B : Option Addr
  m : Nat
  d : Nat
  cf : Cf
  gb : Nat
  T : Nat
  w0 : World
structure RE.Ok (E : RE) : Prop where
  rc : RdC E.w0 E.A E.n E.c E.B E.m E.d E.cf
  m : E.m ≤ 1000000
  gb : E.w0.heap.size ≤ E.gb
abbrev RE.cells (E : RE) (P : Option Addr) (np cp : Nat) (dp : Int) (wr : Bool) (at_ : Nat) : List Value := rdrL E.A E.n E.c E.B E.m E.d E.cf.cap P np cp dp wr (at_ : Int)
/-- The pieces that a reader has. -/
structure RP (E : RE) (P : Option Addr) (np cp : Nat) (l : List Pc) : Prop where
  lst : ∃ L : List PcM, RdK encP 3 E.w0 P np L ∧ (∀ x ∈ L, PcOk E.w0 x) ∧ L.map (fun x : PcM => x.1) = l ++ [(0, E.T, [])]
  nc : np ≤ cp
  c2 : cp ≤ 9223372036854775807
  good : ∀ p ∈ l, PcG p
  sm : ∀ p ∈ l, p.2.2.length ≤ 1000
/-- A reader's state. -/
structure RS (E : RE) (W : World) (l : List Pc) (dp : Int) (wr : Bool) (at_ : Nat) : Prop where
  ok : E.Ok
  below : Below E.w0.heap.size E.w0 W
  box : ∃ P np cp, BoxA W E.gb 63 (E.cells P np cp dp wr at_) ∧ RP E P np cp l
theorem RS.kept {E : RE} {W W' : World} {l : List Pc} {dp : Int} {wr : Bool} {at_ : Nat} (h : RS E W l dp wr at_) {row : Option Nat} (hg : W.grownBy W' row) (hr : ∀ k, row = some k → E.gb < k) : RS E W' l dp wr at_ := by
  obtain ⟨P, np, cp, h1, h2⟩ := h.box
  exact ⟨h.ok, h.below.grown hg h.below.size (fun k hk => by have := hr k hk; have := h.ok.gb; omega), P, np, cp, h1.kept hg (fun e => by have := hr _ e.symm; omega), h2⟩
theorem RS.bel {E : RE} {W W' : World} {l : List Pc} {dp : Int} {wr : Bool} {at_ : Nat} (h : RS E W l dp wr at_) (hb : Below W.heap.size W W') : RS E W' l dp wr at_ := h.kept (grown_below hb none) (fun k hk => by cases hk)
theorem RS.gbl {E : RE} {W : World} {l : List Pc} {dp : Int} {wr : Bool} {at_ : Nat} (h : RS E W l dp wr at_) : E.gb < W.heap.size := by
  obtain ⟨P, np, cp, h1, h2⟩ := h.box
  exact h1.lt
/-- The piece that comes. -/
def headP (T : Nat) (l : List Pc) : Pc := l.headD (0, T, [])
theorem RP.head {E : RE} {P : Option Addr} {np cp : Nat} {l : List Pc} (h : RP E P np cp l) : ∃ (ap : Addr) (A' : Option Addr) (m' c' : Nat), P = some ap ∧ 1 ≤ np ∧ E.w0.cell? ap = some (.int .i64 ((headP E.T l).1 : Nat)) ∧ E.w0.cell? ⟨ap.block, ap.off + 1, none⟩ = some (.int .i64 ((headP E.T l).2.1 : Nat)) ∧
    E.w0.cell? ⟨ap.block, ap.off + 2, none⟩ = some (.slice A' m' c') ∧ PcOk E.w0 (headP E.T l, A', m', c') := by
  obtain ⟨L, h1, h2, h3⟩ := h.lst
  have hl := h1.len
  cases L with
  | nil =>
    exfalso
    have := congrArg List.length h3
    simp at this
  | cons x L =>
    have hx : x.1 = headP E.T l := by
      cases l with
      | nil => simp at h3; exact h3.1
      | cons p l => simp at h3; exact h3.1
    have hn : 0 < np := by rw [← hl]; simp
    obtain ⟨ap, y, e, HX, c0, c1, c2⟩ := h1.at3 (k := 0) hn
    obtain ⟨_, ey⟩ := HX.out
    simp only [List.getElem_cons_zero] at ey
    subst ey
    simp only [Nat.zero_mul, Addr.add_zero'] at c0 c1 c2
    refine ⟨ap, x.2.1, x.2.2.1, x.2.2.2, e, hn, by rw [← hx]; exact c0, by rw [← hx]; exact c1, c2, ?_⟩
    have h4 := h2 x (by simp)
    rw [← hx]
    exact h4
theorem headP_end {E : RE} {P : Option Addr} {np cp : Nat} {l : List Pc} (h : RP E P np cp l) : (headP E.T l).1 = 0 ↔ l = [] := by
  cases l with
  | nil => exact ⟨fun _ => rfl, fun _ => rfl⟩
  | cons p l => exact ⟨fun e => absurd e (h.good p (by simp)).1, fun e => by cases e⟩
/-- A slice's rest. -/
theorem cut_rdK {α : Type} {P : Program} (enc : α → List Value) (sz : Nat) (t e : TypeId) {z : Value} {by_ : Nat} (ht : P.underlying t = some (.slice e)) (hinfo : (P.info? e).map (fun i => (i.zero, i.size, i.bytes)) = some (some z, sz, by_))
    (A : Option Addr) (n c k : Nat) (hk : k ≤ n) (hc : n ≤ c) : ∃ A' : Option Addr,
    (∀ W : World, (Instr.slice t (.slice A n c) (some (.int .i64 (k : Int))) none none).run P W = .ok (.slice A' (n - k) (c - k)) W) ∧
      ∀ (w : World) (l : List α), RdK enc sz w A n l → RdK enc sz w A' (n - k) (l.drop k) := by
  obtain ⟨i, hi, hzz⟩ := Option.map_eq_some_iff.1 hinfo
  simp only [Prod.mk.injEq] at hzz
  have hel : P.elem t = e := by simp [Program.elem, ht]
  have hu : P.underlying t = some (.slice (P.elem t)) := by rw [hel]; exact ht
  refine ⟨if c = k then A else A.map (·.add (k * sz)), fun W => ?_, fun w l h => h.drop c k hk hc⟩
  rw [run_slice_l W t A n c hu .i64 (k : Int) (Int.natCast_nonneg _) (by omega), hel]
  simp [sizeOf, typeInfo, hi, hzz.2.1, sliced, Result.andThen]
theorem RP.tail {E : RE} {P : Option Addr} {np cp : Nat} {l : List Pc} (h : RP E P np cp l) (hne : l ≠ []) : ∃ A' np' cp', (∀ W : World, (Instr.slice 60 (.slice P np cp) (some (.int .i64 1)) none none).run Tryz.prog W = .ok (.slice A' np' cp') W) ∧ RP E A' np' cp' l.tail := by
  obtain ⟨L, h1, h2, h3⟩ := h.lst
  have hn : 1 ≤ np := by
    have := congrArg List.length h3
    rw [← h1.len]
    simp at this
    omega
  obtain ⟨A', hr, hd⟩ := cut_rdK (P := Tryz.prog) encP 3 60 66 Tryz.underlying60 infoP P np cp 1 hn h.nc
  refine ⟨A', np - 1, cp - 1, hr, ⟨L.drop 1, hd _ _ h1, fun x hx => h2 x (List.mem_of_mem_drop hx), ?_⟩, by have := h.nc; omega, by have := h.c2; omega, fun p hp => h.good p (List.mem_of_mem_tail hp), fun p hp => h.sm p (List.mem_of_mem_tail hp)⟩
  rw [List.map_drop, h3]
  cases l with
  | nil => exact absurd rfl hne
  | cons p l => rfl
/-- A piece is handed out. -/
def PcV (E : RE) (p : Pc) (v : Value) : Prop := ∃ (A' : Option Addr) (m' c' : Nat), v = .agg #[.int .i64 (p.1 : Nat), .int .i64 (p.2.1 : Nat), .slice A' m' c'] ∧ PcOk E.w0 (p, A', m', c')
set_option maxRecDepth 100000 in
set_option maxHeartbeats 1000000 in
theorem next_any (E : RE) (W : World) (l : List Pc) (dp : Int) (wr : Bool) (at_ : Nat) (h : RS E W l dp wr at_) :
    Calls Tryz.prog 32 #[.pointer (some ⟨E.gb, 0, none⟩)] W fun e W' => ∃ v, e = .returned v ∧ PcV E (headP E.T l) v ∧ W.grownBy W' (some E.gb) ∧ RS E W' l dp wr at_ := by
  obtain ⟨P, np, cp, hbx, hp⟩ := h.box
  obtain ⟨ap, A', m', c', rfl, hn, c0, c1, c2, hok⟩ := hp.head
  obtain ⟨k, hk⟩ : ∃ k, k = (headP E.T l).1 := ⟨_, rfl⟩
  obtain ⟨p, hpp⟩ : ∃ p, p = (headP E.T l).2.1 := ⟨_, rfl⟩
  rw [← hk] at c0
  rw [← hpp] at c1
  have hb1 : Below W.heap.size W (W.alloc (.cells #[.int .i64 0, .int .i64 0, .slice none 0 0] 66)) := (Below.refl _ _).alloc (Nat.le_refl _) _
  have x0 := cell_keep hb1 (cell_keep h.below c0)
  have x1 := cell_keep hb1 (cell_keep h.below c1)
  have x2 := cell_keep hb1 (cell_keep h.below c2)
  have y3 := (hbx.below hb1).cell 3 _ rfl
  have HF : Hid (∀ W', Below W.heap.size W W' → ∃ v, (Ending.returned (.agg #[.int .i64 (k : Nat), .int .i64 (p : Nat), .slice A' m' c']) = .returned v ∧ PcV E (headP E.T l) v ∧ W.grownBy W' (some E.gb) ∧ RS E W' l dp wr at_)) := Lib.hid fun W' hb => ⟨_, rfl, ⟨A', m', c', by rw [hk, hpp], hok⟩, grown_below hb _, h.bel hb⟩
  clear h c0 c1 c2 hok hk hpp hbx hp hb1
  go_enter Tryz.func32, Tryz.ntmps32
  go_wp2
  refine bodyPost_ret (v := .agg #[.int .i64 (k : Nat), .int .i64 (p : Nat), .slice A' m' c']) (by simp [results, Tryz.results32, go_sem]) rfl ?_
  exact HF.out _ ((Below.refl _ _).alloc (Nat.le_refl _) _)
set_option maxRecDepth 100000 in
set_option maxHeartbeats 1000000 in
theorem take_any (E : RE) (W : World) (l : List Pc) (dp : Int) (wr : Bool) (at_ : Nat) (h : RS E W l dp wr at_) :
    Calls Tryz.prog 55 #[.pointer (some ⟨E.gb, 0, none⟩)] W fun e W' => ∃ v, e = .returned v ∧ PcV E (headP E.T l) v ∧ W.grownBy W' (some E.gb) ∧ RS E W' l.tail dp wr at_ := by
  obtain ⟨P, np, cp, hbx, hp⟩ := h.box
  obtain ⟨ap, A', m', c', rfl, hn, c0, c1, c2, hok⟩ := hp.head
  have hend := headP_end hp
  obtain ⟨k, hk⟩ : ∃ k, k = (headP E.T l).1 := ⟨_, rfl⟩
  obtain ⟨p, hpp⟩ : ∃ p, p = (headP E.T l).2.1 := ⟨_, rfl⟩
  rw [← hk] at c0 hend
  rw [← hpp] at c1
  have hb1 : Below W.heap.size W (W.alloc (.cells #[.int .i64 0, .int .i64 0, .slice none 0 0] 66)) := (Below.refl _ _).alloc (Nat.le_refl _) _
  obtain ⟨W1, hW1⟩ : ∃ W1, W1 = W.alloc (.cells #[.int .i64 0, .int .i64 0, .slice none 0 0] 66) := ⟨_, rfl⟩
  obtain ⟨g2, hg2⟩ : ∃ g2, g2 = W.heap.size := ⟨_, rfl⟩
  rw [← hW1] at hb1
  have hB2 : BoxA W1 g2 66 [.int .i64 0, .int .i64 0, .slice none 0 0] := by rw [hW1, hg2]; exact BoxA.new _ _ _
  obtain ⟨W3, hW3⟩ : ∃ W3, W3 = W1.alloc (.cells #[.int .i64 (k : Nat), .int .i64 (p : Nat), .slice A' m' c'] 66) := ⟨_, rfl⟩
  obtain ⟨g3, hg3⟩ : ∃ g3, g3 = W.heap.size + 1 := ⟨_, rfl⟩
  have hs1 : W1.heap.size = g3 := by rw [hW1, hg3]; simp
  have hb3 : Below W1.heap.size W1 W3 := by rw [hW3]; exact (Below.refl _ _).alloc (Nat.le_refl _) _
  have hb13 := Below.thn hb1 hb3
  have hB3 : BoxA W3 g3 66 [.int .i64 (k : Nat), .int .i64 (p : Nat), .slice A' m' c'] := by rw [hW3, ← hs1]; exact BoxA.new _ _ _
  have hB23 := hB2.below hb3
  have hR3 : RS E W3 l dp wr at_ := h.bel hb13
  have hbx3 := hbx.below hb13
  have hgb := hbx.lt
  have x0 := cell_keep hb1 (cell_keep h.below c0)
  have x1 := cell_keep hb1 (cell_keep h.below c1)
  have x2 := cell_keep hb1 (cell_keep h.below c2)
  have y3 := (hbx.below hb1).cell 3 _ rfl
  rw [hW1] at x0 x1 x2 y3
  have z3 := hbx3.cell 3 _ rfl
  have zf := hbx3.frozen 3
  obtain ⟨u0, u1, u2, u3, u4, u5⟩ := hB3.three
  obtain ⟨v0, v1, v2, v3, v4, v5⟩ := hB23.three
  have HW1 := Lib.hid hW1
  have HW3 := Lib.hid hW3
  have HG2 := Lib.hid hg2
  have HG3 := Lib.hid hg3
  have HV : Hid (PcV E (headP E.T l) (.agg #[.int .i64 (k : Nat), .int .i64 (p : Nat), .slice A' m' c'])) := Lib.hid ⟨A', m', c', by rw [hk, hpp], hok⟩
  by_cases hl : l = []
  · have hq : ((k : Int) == 0) = true := by rw [hend.2 hl]; rfl
    obtain ⟨hz, hzg⟩ := hB23.set3 (.int .i64 (k : Nat)) (.int .i64 (p : Nat)) (.slice A' m' c')
    have HE : Hid (W.grownBy (((W3.setCell ⟨g2, 0, none⟩ (.int .i64 (k : Nat))).setCell ⟨g2, 1, none⟩ (.int .i64 (p : Nat))).setCell ⟨g2, 2, none⟩ (.slice A' m' c')) (some E.gb) ∧ RS E (((W3.setCell ⟨g2, 0, none⟩ (.int .i64 (k : Nat))).setCell ⟨g2, 1, none⟩ (.int .i64 (p : Nat))).setCell ⟨g2, 2, none⟩ (.slice A' m' c')) l.tail dp wr at_) := Lib.hid ⟨grown_below (hb13.grown hzg hb13.size (fun k hk => by injection hk with hk; omega)) _, by
      subst hl
      exact hR3.kept hzg (fun k hk => by injection hk with hk; omega)⟩
    obtain ⟨q0, q1, q2, _⟩ := hz.three
    clear h hbx hp hok c0 c1 c2 hk hpp hend hb1 hB2 hb3 hb13 hB3 hB23 hR3 hbx3 hz hzg hW1 hW3 hg2 hg3 hs1
    go_enter Tryz.func55, Tryz.ntmps55
    go_upto_region 2 with fail
    rw [← HW1.out, ← HW3.out, ← HG3.out, ← HG2.out]
    clear x0 x1 x2 y3
    go_wp2
    refine bodyPost_ret (v := .agg #[.int .i64 (k : Nat), .int .i64 (p : Nat), .slice A' m' c']) (by simp [results, Tryz.results55, go_sem, q0, q1, q2]) rfl ?_
    exact ⟨_, rfl, HV.out, HE.out⟩
  · have hq : ((k : Int) == 0) = false := by
      have : ¬ k = 0 := fun e => hl (hend.1 e)
      simp; omega
    obtain ⟨A9, np9, cp9, hcut, hp9⟩ := hp.tail hl
    obtain ⟨W4, hW4⟩ : ∃ W4, W4 = W3.setCell ⟨E.gb, 3, none⟩ (.slice A9 np9 cp9) := ⟨_, rfl⟩
    have hg4 : W3.grownBy W4 (some E.gb) := by rw [hW4]; exact BoxA.set_grown _ _ _ _
    have hbx4 : BoxA W4 E.gb 63 (E.cells A9 np9 cp9 dp wr at_) := by rw [hW4]; exact hbx3.set 3 _
    have hb04 : Below E.w0.heap.size E.w0 W4 := hR3.below.grown hg4 hR3.below.size (fun k hk => by injection hk with hk; have := h.ok.gb; omega)
    have hB24 := hB23.kept hg4 (fun e => by injection e with e; omega)
    have hB34 := hB3.kept hg4 (fun e => by injection e with e; omega)
    obtain ⟨hz, hzg⟩ := hB24.set3 (.int .i64 (k : Nat)) (.int .i64 (p : Nat)) (.slice A' m' c')
    have hR4 : RS E W4 l.tail dp wr at_ := ⟨h.ok, hb04, A9, np9, cp9, hbx4, hp9⟩
    have HE : Hid (W.grownBy (((W4.setCell ⟨g2, 0, none⟩ (.int .i64 (k : Nat))).setCell ⟨g2, 1, none⟩ (.int .i64 (p : Nat))).setCell ⟨g2, 2, none⟩ (.slice A' m' c')) (some E.gb) ∧ RS E (((W4.setCell ⟨g2, 0, none⟩ (.int .i64 (k : Nat))).setCell ⟨g2, 1, none⟩ (.int .i64 (p : Nat))).setCell ⟨g2, 2, none⟩ (.slice A' m' c')) l.tail dp wr at_) := Lib.hid ⟨by
      refine ⟨?_, ?_, ?_, ?_, ?_⟩
      · exact hzg.os.trans (hg4.os.trans (hb13.os))
      · exact hzg.tape.trans (hg4.tape.trans (hb13.tape))
      · exact hzg.output.trans (hg4.output.trans (hb13.output))
      · exact Nat.le_trans hb13.size (Nat.le_trans hg4.size hzg.size)
      · intro i hi hr
        rw [hzg.block i (by have := hb13.size; have := hg4.size; omega) (fun e => by injection e with e; omega), hg4.block i (by have := hb13.size; omega) hr, hb13.block i hi], hR4.kept hzg (fun k hk => by injection hk with hk; omega)⟩
    obtain ⟨q0, q1, q2, _⟩ := hz.three
    obtain ⟨s0, s1, s2, s3, s4, s5⟩ := hB34.three
    obtain ⟨r0, r1, r2, r3, r4, r5⟩ := hB24.three
    have HW4 := Lib.hid hW4
    clear h hbx hp hok c0 c1 c2 hk hpp hend hb1 hB2 hb3 hb13 hB3 hB23 hR3 hbx3 hz hzg hW1 hW3 hg2 hg3 hs1 hW4 hg4 hbx4 hb04 hB24 hB34 hR4 hp9
    go_enter Tryz.func55, Tryz.ntmps55
    go_upto_region 2 with fail
    rw [← HW1.out, ← HW3.out, ← HG3.out, ← HG2.out]
    clear x0 x1 x2 y3
    go_upto_region 4 with fail
    rw [← HW4.out]
    go_wp2
    refine bodyPost_ret (v := .agg #[.int .i64 (k : Nat), .int .i64 (p : Nat), .slice A' m' c']) (by simp [results, Tryz.results55, go_sem, q0, q1, q2]) rfl ?_
    exact ⟨_, rfl, HV.out, HE.out⟩
end Go.Proofs.YtkkeodlnejckjaaGreat

/- A fault at a piece: the code. -/
namespace Go.Proofs.YtkkeodlnejckjaaGreat
open Go.RowKit Go.Shelf
set_option linter.unusedVariables false
set_option linter.unusedSimpArgs false

/-- The worlds as both cells are written. -/
structure FtJ (W0 W1 W2 : World) (S : Nat → Prop) (wr : World) : Prop where
  z : ¬ S 6 → wr = W0
  a : S 6 → ¬ S 9 → wr = W1
  b : S 9 → wr = W2
theorem FtJ.next {W0 W1 W2 : World} {S : Nat → Prop} {wr : World} (h : FtJ W0 W1 W2 S wr) {i : Nat} (hi : i ≠ 6) (hj : i ≠ 9) : FtJ W0 W1 W2 (fun k => k = i ∨ S k) wr :=
  ⟨fun hs => h.z fun h6 => hs (.inr h6), fun hs hn => h.a (hs.resolve_left (Ne.symm hi)) fun h9 => hn (.inr h9), fun hs => h.b (hs.resolve_left (Ne.symm hj))⟩
theorem FtJ.st {W0 W1 W2 : World} {S : Nat → Prop} (h : FtJ W0 W1 W2 S W0) (h9 : ¬ S 9) : FtJ W0 W1 W2 (fun k => k = 6 ∨ S k) W1 :=
  ⟨fun hs => absurd (.inl rfl) hs, fun _ _ => rfl, fun hs => absurd (hs.resolve_left (by decide)) h9⟩
theorem FtJ.fin {W0 W1 W2 : World} {S : Nat → Prop} (h : FtJ W0 W1 W2 S W1) (h6 : S 6) : FtJ W0 W1 W2 (fun k => k = 9 ∨ S k) W2 :=
  ⟨fun hs => absurd (.inr h6) hs, fun _ hn => absurd (.inl rfl) hn, fun _ => rfl⟩
def FtF (gb g3 p : Nat) : Nat → Value → World → Prop
  | 0 => fun v w => v = .pointer (some ⟨gb, 0, none⟩)
  | 1 => fun v w => v = .pointer (some ⟨gb, 0, none⟩)
  | 2 => fun v w => v = .pointer (some ⟨g3, 1, none⟩)
  | 3 => fun v w => v = .int .i64 (p : Nat)
  | 4 => fun v w => v = .pointer (some ⟨gb, 0, none⟩)
  | 5 => fun v w => v = .pointer (some ⟨gb, 5, none⟩)
  | 6 => fun v w => v = undef
  | 7 => fun v w => v = .pointer (some ⟨gb, 0, none⟩)
  | 8 => fun v w => v = .pointer (some ⟨gb, 6, none⟩)
  | 9 => fun v w => v = undef
  | _ => fun _ _ => True
theorem FtF.keep (gb g3 p : Nat) : ∀ i v w w', True → FtF gb g3 p i v w → FtF gb g3 p i v w'
  | 0, _, _, _, _, h => h
  | 1, _, _, _, _, h => h
  | 2, _, _, _, _, h => h
  | 3, _, _, _, _, h => h
  | 4, _, _, _, _, h => h
  | 5, _, _, _, _, h => h
  | 6, _, _, _, _, h => h
  | 7, _, _, _, _, h => h
  | 8, _, _, _, _, h => h
  | 9, _, _, _, _, h => h
  | _ + 10, _, _, _, _, _ => trivial

set_option maxRecDepth 100000 in
set_option maxHeartbeats 1000000 in
theorem fault_any (E : RE) (W : World) (l : List Pc) (dp : Int) (wr : Bool) (at_ : Nat) (h : RS E W l dp wr at_) (k p : Nat) (A' : Option Addr) (m' c' : Nat) :
    Calls Tryz.prog 33 #[.pointer (some ⟨E.gb, 0, none⟩), .agg #[.int .i64 (k : Nat), .int .i64 (p : Nat), .slice A' m' c']] W fun e W' => e = .returned (.slice none 0 0) ∧ W.grownBy W' (some E.gb) ∧ RS E W' l dp true (if wr = true then at_ else p) := by
  obtain ⟨P, np, cp, hbx, hp⟩ := h.box
  obtain ⟨W3, hW3⟩ : ∃ W3, W3 = W.alloc (.cells #[.int .i64 (k : Nat), .int .i64 (p : Nat), .slice A' m' c'] 66) := ⟨_, rfl⟩
  obtain ⟨g3, hg3⟩ : ∃ g3, g3 = W.heap.size := ⟨_, rfl⟩
  have hb3 : Below W.heap.size W W3 := by rw [hW3]; exact (Below.refl _ _).alloc (Nat.le_refl _) _
  have hbx3 := hbx.below hb3
  have hB3 : BoxA W3 g3 66 [.int .i64 (k : Nat), .int .i64 (p : Nat), .slice A' m' c'] := by rw [hW3, hg3]; exact BoxA.new _ _ _
  have hR3 : RS E W3 l dp wr at_ := h.bel hb3
  have hgb := hbx.lt
  have y5 := hbx3.cell 5 _ rfl
  have HW3 := Lib.hid hW3
  have HG3 := Lib.hid hg3
  obtain ⟨gb, hgbe⟩ : ∃ gb, gb = E.gb := ⟨_, rfl⟩
  rw [← hgbe] at y5 hbx3 hgb ⊢
  have HGB := Lib.hid hgbe
  have HR3 := Lib.hid hR3
  have HB3 := Lib.hid hb3
  have HP := Lib.hid hp
  have HBX3 := Lib.hid hbx3
  cases wr with
  | true =>
    clear h hbx hp hb3 hbx3 hB3 hR3 hgb hW3 hg3 hgbe
    go_enter Tryz.func33, Tryz.ntmps33
    go_upto_region 1 with fail
    rw [← HW3.out, ← HG3.out]
    go_wp2
    go_ret
    exact ⟨rfl, grown_below HB3.out _, HR3.out⟩
  | false =>
    have hB0 := hB3
    obtain ⟨W0, hW0⟩ : ∃ W0, W0 = W3.drew := ⟨_, rfl⟩
    have hb0 : Below W3.heap.size W3 W0 := by rw [hW0]; exact Below.drew (Below.refl _ _)
    obtain ⟨W1, hW1⟩ : ∃ W1, W1 = W0.setCell ⟨gb, 5, none⟩ (.bool true) := ⟨_, rfl⟩
    obtain ⟨W2, hW2⟩ : ∃ W2, W2 = W1.setCell ⟨gb, 6, none⟩ (.int .i64 (p : Nat)) := ⟨_, rfl⟩
    have hbx0 := hbx3.below hb0
    have hbx1 : BoxA W1 gb 63 (E.cells P np cp dp true at_) := by rw [hW1]; exact hbx0.set 5 (.bool true)
    have hbx2 : BoxA W2 gb 63 (E.cells P np cp dp true p) := by rw [hW2]; exact hbx1.set 6 (.int .i64 (p : Nat))
    have hg1 : W0.grownBy W1 (some gb) := by rw [hW1]; exact BoxA.set_grown _ _ _ _
    have hg2 : W1.grownBy W2 (some gb) := by rw [hW2]; exact BoxA.set_grown _ _ _ _
    have hg02 : W.grownBy W2 (some gb) := (grown_below (Below.thn hb3 hb0) _).trans (hg1.trans hg2)
    have hlt3 := hB3.lt
    have hne3 : some g3 ≠ some gb := fun e => by injection e with e; omega
    have kW0 := (hB3.below hb0).cell 1 _ rfl
    have kW1 := ((hB3.below hb0).kept hg1 hne3).cell 1 _ rfl
    have s5 := hbx0.cell 5 _ rfl
    have fr5 := hbx0.frozen 5
    have s6 := hbx1.cell 6 _ rfl
    have fr6 := hbx1.frozen 6
    have hRS2 : RS E W2 l dp true p := ⟨hR3.ok, h.below.grown hg02 h.below.size (fun k hk => by injection hk with hk; rw [← hk, hgbe]; exact h.ok.gb), P, np, cp, by rw [← hgbe]; exact hbx2, hp⟩
    have HE := Lib.hid hRS2
    have HG02 := Lib.hid hg02
    have HW0 := Lib.hid hW0
    clear h hbx hp hb3 hbx3 hB3 hR3 hgb hW3 hg3 hgbe hbx0 hbx1 hbx2 hg1 hg2 hg02 hB0 hb0 hRS2 hlt3 hne3 hW0
    go_enter Tryz.func33, Tryz.ntmps33
    go_upto_region 1 with fail
    rw [← HW3.out, ← HG3.out]
    go_wp2_with fail
    rename_i K1 hK1
    refine wp_region_flowJ (by kernel_rfl) (FtF gb g3 p) (fun _ _ => True) (FtJ W0 W1 W2) (FtF.keep gb g3 p) ?_ (by kernel_rfl) (by kernel_rfl) ?_ ?_
    case refine_1 => exact ⟨fun _ => HW0.out.symm, fun h => h.elim, fun h => h.elim⟩
    case refine_2 =>
      intro i o ho ρ y w2 S hJ hnS hneeds hcl hreg hn hf hyb hyn
      have hi := (Array.getElem?_eq_some_iff.1 ho).1
      rcases Nat.lt_or_ge i 10 with hi2 | hi2
      case inr => simp at hi; omega
      obtain rfl | rfl | rfl | rfl | rfl | rfl | rfl | rfl | rfl | rfl : i = 0 ∨ i = 1 ∨ i = 2 ∨ i = 3 ∨ i = 4 ∨ i = 5 ∨ i = 6 ∨ i = 7 ∨ i = 8 ∨ i = 9 := by omega
      · cases ho
        rw [if_pos (show Region.wanted _ y = true from rfl)]
        have f0 : ρ (.tmp 0) = .pointer (some ⟨gb, 0, none⟩) := hf 0 (by kernel_rfl)
        exact ⟨f0, trivial, hJ.next (by decide) (by decide)⟩
      · cases ho
        rw [if_pos (show Region.wanted _ y = true from rfl)]
        have f0 : ρ (.tmp 0) = .pointer (some ⟨gb, 0, none⟩) := hf 0 (by kernel_rfl)
        exact ⟨f0, trivial, hJ.next (by decide) (by decide)⟩
      · cases ho
        rw [if_pos (show Region.wanted _ y = true from rfl)]
        have f3 : ρ (.tmp 3) = .pointer (some ⟨g3, 0, none⟩) := hf 3 (by kernel_rfl)
        exact does_ok (v := .pointer (some ⟨g3, 1, none⟩)) (w' := w2) (by simp [go_sem, hreg.const, f3]) ⟨rfl, trivial, hJ.next (by decide) (by decide)⟩
      · cases ho
        rw [if_pos (show Region.wanted _ y = true from rfl)]
        have f12 : ρ (.tmp 12) = .pointer (some ⟨g3, 1, none⟩) := hn 2 _ 12 rfl (by kernel_rfl) rfl
        have hn9 : ¬ S 9 := fun h => hnS (hcl 9 _ rfl h 3 (by kernel_rfl))
        have k0 : w2.cell? ⟨g3, 1, none⟩ = some (.int .i64 (p : Nat)) := by
          by_cases h6 : S 6
          · rw [hJ.a h6 hn9]; exact kW1
          · rw [hJ.z h6]; exact kW0
        exact does_ok (v := .int .i64 (p : Nat)) (w' := w2) (by simp [go_sem, hreg.const, f12, k0]) ⟨rfl, trivial, hJ.next (by decide) (by decide)⟩
      · cases ho
        rw [if_pos (show Region.wanted _ y = true from rfl)]
        have f10 : ρ (.tmp 10) = .pointer (some ⟨gb, 0, none⟩) := hn 0 _ 10 rfl (by kernel_rfl) rfl
        exact does_ok (v := .pointer (some ⟨gb, 0, none⟩)) (w' := w2) (by simp [go_sem, hreg.const, f10]) ⟨rfl, trivial, hJ.next (by decide) (by decide)⟩
      · cases ho
        rw [if_pos (show Region.wanted _ y = true from rfl)]
        have f14 : ρ (.tmp 14) = .pointer (some ⟨gb, 0, none⟩) := hn 4 _ 14 rfl (by kernel_rfl) rfl
        exact does_ok (v := .pointer (some ⟨gb, 5, none⟩)) (w' := w2) (by simp [go_sem, hreg.const, f14]) ⟨rfl, trivial, hJ.next (by decide) (by decide)⟩
      · cases ho
        rw [if_pos (show Region.wanted _ y = true from rfl)]
        have f15 : ρ (.tmp 15) = .pointer (some ⟨gb, 5, none⟩) := hn 5 _ 15 rfl (by kernel_rfl) rfl
        obtain rfl := (hJ.z hnS).symm
        have hn9 : ¬ S 9 := fun h => hnS (hcl 9 _ rfl h 6 (by kernel_rfl))
        exact does_skip (w' := W1) (by rw [hW1]; simp [go_sem, hreg.const, f15, s5, fr5]) ⟨rfl, trivial, hJ.st hn9⟩
      · cases ho
        rw [if_pos (show Region.wanted _ y = true from rfl)]
        have f11 : ρ (.tmp 11) = .pointer (some ⟨gb, 0, none⟩) := hn 1 _ 11 rfl (by kernel_rfl) rfl
        exact does_ok (v := .pointer (some ⟨gb, 0, none⟩)) (w' := w2) (by simp [go_sem, hreg.const, f11]) ⟨rfl, trivial, hJ.next (by decide) (by decide)⟩
      · cases ho
        rw [if_pos (show Region.wanted _ y = true from rfl)]
        have f16 : ρ (.tmp 16) = .pointer (some ⟨gb, 0, none⟩) := hn 7 _ 16 rfl (by kernel_rfl) rfl
        exact does_ok (v := .pointer (some ⟨gb, 6, none⟩)) (w' := w2) (by simp [go_sem, hreg.const, f16]) ⟨rfl, trivial, hJ.next (by decide) (by decide)⟩
      · cases ho
        rw [if_pos (show Region.wanted _ y = true from rfl)]
        have f13 : ρ (.tmp 13) = .int .i64 (p : Nat) := hn 3 _ 13 rfl (by kernel_rfl) rfl
        have f17 : ρ (.tmp 17) = .pointer (some ⟨gb, 6, none⟩) := hn 8 _ 17 rfl (by kernel_rfl) rfl
        have h6 : S 6 := hneeds 6 (by kernel_rfl)
        obtain rfl := (hJ.a h6 hnS).symm
        exact does_skip (w' := W2) (by rw [hW2]; simp [go_sem, f13, f17, s6, fr6]) ⟨rfl, trivial, hJ.fin h6⟩
    case refine_3 =>
      intro a w2 S hJ hall hd hs hfacts hrest
      have q14 : a.tmps.getD 14 undef = .pointer (some ⟨gb, 0, none⟩) := hfacts 4 _ 14 rfl rfl
      have ha := frame_of hd hs hrest [10, 11, 12, 13, 14, 15, 16, 17] (by kernel_rfl)
      simp only [q14, List.foldl, List.setIfInBounds_toArray, List.set_cons_succ, List.set_cons_zero] at ha
      clear q14 hd hs hfacts hrest
      generalize a.tmps.getD = gg at ha
      subst ha
      obtain rfl := hJ.b (hall 9 (by decide))
      clear hJ hall s5 s6 fr5 fr6 kW0 kW1 hW1 hW2
      go_wp2
      go_ret
      exact ⟨rfl, HG02.out, HE.out⟩
end Go.Proofs.YtkkeodlnejckjaaGreat

/- What is read one deeper. -/
namespace Go.Proofs.YtkkeodlnejckjaaGreat
open Go.RowKit Go.Shelf
set_option linter.unusedVariables false
set_option linter.unusedSimpArgs false

/-- What a reader hands out. -/
def RRes (E : RE) (R : PRes) (b : Nat) (W : World) (dp : Int) (at_ : Nat) (e : Ending) (W' : World) : Prop :=
  ∃ (v : Value) (o : List QOp), e = .returned v ∧ OwnO W' W.heap.size v o ∧ o.length ≤ b ∧ W.grownBy W' (some E.gb) ∧ (match R with
    | .ok o' r => o = o' ∧ RS E W' r dp false at_
    | .bad a => ∃ l' dp', RS E W' l' dp' true a)
theorem RRes.bad {E : RE} {b : Nat} {W W' : World} {dp : Int} {at_ a : Nat} {l : List Pc} {dp' : Int} (hg : W.grownBy W' (some E.gb)) (h : RS E W' l dp' true a) : RRes E (.bad a) b W dp at_ (.returned (.slice none 0 0)) W' :=
  ⟨_, [], rfl, OwnO.nil _ _, Nat.zero_le _, hg, l, dp', h⟩
/-- A store into the reader's cell of the depth. -/
theorem RS.deep {E : RE} {W : World} {l : List Pc} {dp : Int} {wr : Bool} {at_ : Nat} (h : RS E W l dp wr at_) (dp' : Int) : RS E (W.setCell ⟨E.gb, 4, none⟩ (.int .i64 dp')) l dp' wr at_ ∧ W.grownBy (W.setCell ⟨E.gb, 4, none⟩ (.int .i64 dp')) (some E.gb) ∧ W.cell? ⟨E.gb, 4, none⟩ = some (.int .i64 dp) ∧ W.frozen? ⟨E.gb, 4, none⟩ = false := by
  obtain ⟨P, np, cp, h1, h2⟩ := h.box
  have hg := BoxA.set_grown W E.gb 4 (.int .i64 dp')
  exact ⟨⟨h.ok, h.below.grown hg h.below.size (fun k hk => by injection hk with hk; have := h.ok.gb; omega), P, np, cp, h1.set 4 _, h2⟩, hg, h1.cell 4 _ rfl, h1.frozen 4⟩
set_option maxRecDepth 100000 in
set_option maxHeartbeats 1000000 in
theorem rwithin_any (E : RE) (fn : FuncId) (hcf : ∀ (args : Array Value) (W : World), (callFunc fn args).run Tryz.prog W = .ok (.enter fn args) W) (R : PRes) (b : Nat) (W : World) (l : List Pc) (dp : Int) (at_ : Nat) (h : RS E W l dp false at_) (hd : 0 ≤ dp) (hd2 : dp < 16) (k p : Nat) (A' : Option Addr) (m' c' : Nat)
    (hread : ∀ W1, RS E W1 l (dp + 1) false at_ → Calls Tryz.prog fn #[.pointer (some ⟨E.gb, 0, none⟩)] W1 (RRes E R b W1 (dp + 1) at_)) :
    Calls Tryz.prog 96 #[.pointer (some ⟨E.gb, 0, none⟩), .agg #[.int .i64 (k : Nat), .int .i64 (p : Nat), .slice A' m' c'], .func (.func fn) #[.pointer (some ⟨E.gb, 0, none⟩)] #[]] W (RRes E R b W dp at_) := by
  obtain ⟨W3, hW3⟩ : ∃ W3, W3 = W.alloc (.cells #[.int .i64 (k : Nat), .int .i64 (p : Nat), .slice A' m' c'] 66) := ⟨_, rfl⟩
  obtain ⟨g3, hg3⟩ : ∃ g3, g3 = W.heap.size := ⟨_, rfl⟩
  have hb3 : Below W.heap.size W W3 := by rw [hW3]; exact (Below.refl _ _).alloc (Nat.le_refl _) _
  obtain ⟨hR4, hg4, y4, yf⟩ := (h.bel hb3).deep (dp + 1)
  obtain ⟨gb, hgbe⟩ : ∃ gb, gb = E.gb := ⟨_, rfl⟩
  obtain ⟨W4, hW4⟩ : ∃ W4, W4 = W3.setCell ⟨gb, 4, none⟩ (.int .i64 (dp + 1)) := ⟨_, rfl⟩
  rw [← hgbe, ← hW4] at hR4 hg4
  rw [← hgbe] at y4 yf ⊢
  have hgbl := h.gbl
  rw [← hgbe] at hgbl
  obtain ⟨_, _, z4, zf⟩ := hR4.deep 0
  rw [← hgbe] at z4 zf
  have HW3 := Lib.hid hW3
  have HG3 := Lib.hid hg3
  have HW4 := Lib.hid hW4
  have HGB := Lib.hid hgbe
  have HG4 := Lib.hid (show W.grownBy W4 (some gb) from (grown_below hb3 _).trans hg4)
  have HC := Lib.hid (hread W4 hR4)
  rw [← hgbe] at HC
  have hwd : IntKind.i64.wrap (dp + 1) = dp + 1 := by rw [IntKind.wrap_i64]; omega
  have hgd : ¬ (dp + 1 > 16) := by omega
  have hne : E.gb ≠ W.heap.size := by rw [← hgbe]; omega
  clear h hb3 hR4 hg4 hW3 hg3 hW4 hgbe hread
  go_enter Tryz.func96, Tryz.ntmps96
  go_upto_region 1 with fail
  rw [← HW3.out, ← HG3.out]
  go_upto_region 2 with fail
  rw [← HW4.out]
  go_wp2_with fail
  refine HC.out.mono ?_
  rintro e W5 ⟨v, o, rfl, ho, hol, hg5, hm⟩
  have hg45 : W.grownBy W5 (some gb) := by have h1 := HG4.out; rw [HGB.out] at h1 ⊢; exact h1.trans hg5
  have hgb5 : gb < W5.heap.size := Nat.lt_of_lt_of_le hgbl hg45.size
  have HX : Hid (∃ d5, W5.cell? ⟨gb, 4, none⟩ = some (.int .i64 d5) ∧ W5.frozen? ⟨gb, 4, none⟩ = false ∧ RRes E R b W dp at_ (.returned v) (W5.setCell ⟨gb, 4, none⟩ (.int .i64 (wrap64 (d5 - 1))))) := Lib.hid (by
    rw [HGB.out] at hg45 hgbl ⊢
    have ho5 : OwnO W5 W.heap.size v o := ho.mono HG4.out.size
    have key : ∀ (dx : Int), OwnO (W5.setCell ⟨E.gb, 4, none⟩ (.int .i64 dx)) W.heap.size v o ∧ W.grownBy (W5.setCell ⟨E.gb, 4, none⟩ (.int .i64 dx)) (some E.gb) := fun dx => by
      have hg6 := BoxA.set_grown W5 E.gb 4 (.int .i64 dx)
      exact ⟨ho5.kept hg6 (fun k hk => by injection hk with hk; omega), hg45.trans hg6⟩
    cases R with
    | ok o' r =>
      obtain ⟨rfl, hr⟩ := hm
      have hw : wrap64 (dp + 1 - 1) = dp := by rw [show dp + 1 - 1 = dp by omega]; unfold wrap64; omega
      obtain ⟨h1, _, h3, h4⟩ := hr.deep (wrap64 (dp + 1 - 1))
      refine ⟨_, h3, h4, v, o, rfl, (key _).1, hol, (key _).2, rfl, ?_⟩
      rw [hw] at h1 ⊢
      exact h1
    | bad a =>
      obtain ⟨l', dp', hr⟩ := hm
      obtain ⟨h1, _, h3, h4⟩ := hr.deep (wrap64 (dp' - 1))
      exact ⟨_, h3, h4, v, o, rfl, (key _).1, hol, (key _).2, l', _, h1⟩)
  clear HC ho hol hg5 hm y4 yf z4 zf
  obtain ⟨d5, u4, uf, hfin⟩ := HX.out
  have HF := Lib.hid hfin
  clear HX hfin
  go_wp2
  go_ret
  exact HF.out
set_option maxRecDepth 100000 in
set_option maxHeartbeats 1000000 in
theorem within_deep (E : RE) (fv : Value) (b : Nat) (W : World) (l : List Pc) (at_ : Nat) (h : RS E W l 16 false at_) (k p : Nat) (A' : Option Addr) (m' c' : Nat) :
    Calls Tryz.prog 96 #[.pointer (some ⟨E.gb, 0, none⟩), .agg #[.int .i64 (k : Nat), .int .i64 (p : Nat), .slice A' m' c'], fv] W (RRes E (.bad p) b W 16 at_) := by
  obtain ⟨W3, hW3⟩ : ∃ W3, W3 = W.alloc (.cells #[.int .i64 (k : Nat), .int .i64 (p : Nat), .slice A' m' c'] 66) := ⟨_, rfl⟩
  obtain ⟨g3, hg3⟩ : ∃ g3, g3 = W.heap.size := ⟨_, rfl⟩
  have hb3 : Below W.heap.size W W3 := by rw [hW3]; exact (Below.refl _ _).alloc (Nat.le_refl _) _
  have hB3 : BoxA W3 g3 66 [.int .i64 (k : Nat), .int .i64 (p : Nat), .slice A' m' c'] := by rw [hW3, hg3]; exact BoxA.new _ _ _
  obtain ⟨hR4, hg4, y4, yf⟩ := (h.bel hb3).deep 17
  obtain ⟨W4, hW4⟩ : ∃ W4, W4 = W3.setCell ⟨E.gb, 4, none⟩ (.int .i64 17) := ⟨_, rfl⟩
  rw [← hW4] at hR4 hg4
  have hgbl := h.gbl
  obtain ⟨_, _, z4, zf⟩ := hR4.deep 0
  obtain ⟨b0, b1, b2, _⟩ := (hB3.kept hg4 (fun e => by injection e with e; omega)).three
  have HW3 := Lib.hid hW3
  have HG3 := Lib.hid hg3
  have HW4 := Lib.hid hW4
  have HG4 := Lib.hid (show W.grownBy W4 (some E.gb) from (grown_below hb3 _).trans hg4)
  have HC := Lib.hid (fault_any E W4 l 17 false at_ hR4 k p A' m' c')
  have hne : E.gb ≠ W.heap.size := by omega
  clear h hb3 hR4 hg4 hW3 hg3 hW4 hB3
  go_enter Tryz.func96, Tryz.ntmps96
  go_upto_region 1 with fail
  rw [← HW3.out, ← HG3.out]
  go_upto_region 2 with fail
  rw [← HW4.out]
  go_wp2_with fail
  refine HC.out.mono ?_
  rintro e W5 ⟨rfl, hg5, hr5⟩
  have HE : Hid (RRes E (.bad p) b W 16 at_ (.returned (.slice none 0 0)) W5) := Lib.hid (RRes.bad (HG4.out.trans hg5) hr5)
  clear HC hg5 hr5 y4 yf z4 zf b0 b1 b2
  go_wp2
  go_ret
  exact HE.out
end Go.Proofs.YtkkeodlnejckjaaGreat
