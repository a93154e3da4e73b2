import Derived.Test.YtkkeodlnejckjaaGreatRdr
import Derived.Test.YtkkeodlnejckjaaGreatRefTk
import Derived.Test.YtkkeodlnejckjaaGreatRefOne

/- What a row of bytes asks for, by the document. -/
namespace Go.Proofs.YtkkeodlnejckjaaGreat
open Go.RowKit Go.Shelf
set_option linter.unusedVariables false
set_option linter.unusedSimpArgs false

def RkF (a3 : Addr) (NT c3 gp ix c1 c2 : Nat) (A1 A2 : Option Addr) (s : ByteArray) (p p0 : Nat) : Nat → Value → World → Prop
  | 0 => fun v w => v = .pointer (some ⟨gp, 1, none⟩)
  | 1 => fun v w => v = .slice A1 ix c1
  | 2 => fun v w => v = .slice (some a3) NT c3
  | 3 => fun v w => v = .int .i64 (ix : Nat)
  | 4 => fun v w => v = .pointer (some (a3.add (ix * 2)))
  | 5 => fun v w => v = .pointer (some (a3.add (ix * 2)))
  | 6 => fun v w => v = .string s
  | 7 => fun v w => ∃ (V52 : Value), v = V52 ∧ ∃ a9, V52 = .slice (some a9) 1 1 ∧ Rd encS w (some a9) 1 [s]
  | _ => fun _ _ => True
theorem RkF.below (a3 : Addr) (NT c3 gp ix c1 c2 : Nat) (A1 A2 : Option Addr) (s : ByteArray) (p p0 : Nat) : ∀ i v w w', Below w.heap.size w w' → RkF a3 NT c3 gp ix c1 c2 A1 A2 s p p0 i v w → RkF a3 NT c3 gp ix c1 c2 A1 A2 s p p0 i v w'
  | 0, _, _, _, _, h => h
  | 1, _, _, _, _, h => h
  | 2, _, _, _, _, h => h
  | 3, _, _, _, _, h => h
  | 4, _, _, _, _, h => h
  | 5, _, _, _, _, h => h
  | 6, _, _, _, _, h => h
  | 7, _, _, _, hb, h => by
    obtain ⟨V52, e, g⟩ := h
    exact ⟨V52, e, (by obtain ⟨a9, e9, h9⟩ := g; exact ⟨a9, e9, h9.below hb⟩)⟩
  | _ + 8, _, _, _, _, _ => trivial
def RlF (a3 : Addr) (NT c3 gp ix c1 c2 : Nat) (A1 A2 : Option Addr) (s : ByteArray) (p p0 : Nat) : Nat → Value → World → Prop
  | 0 => fun v w => v = .pointer (some ⟨gp, 2, none⟩)
  | 1 => fun v w => v = .slice A2 ix c2
  | 2 => fun v w => v = .slice (some a3) NT c3
  | 3 => fun v w => v = .int .i64 (ix : Nat)
  | 4 => fun v w => v = .pointer (some (a3.add (ix * 2)))
  | 5 => fun v w => v = .pointer (some ⟨(a3.add (ix * 2)).block, (a3.add (ix * 2)).off + 1, none⟩)
  | 6 => fun v w => v = .int .i64 (p : Nat)
  | 7 => fun v w => v = .slice (some a3) NT c3
  | 8 => fun v w => v = .pointer (some a3)
  | 9 => fun v w => v = .pointer (some ⟨a3.block, a3.off + 1, none⟩)
  | 10 => fun v w => v = .int .i64 (p0 : Nat)
  | 11 => fun v w => v = .int .i64 ((p : Int) - (p0 : Int))
  | 12 => fun v w => ∃ (V67 : Value), v = V67 ∧ ∃ a9, V67 = .slice (some a9) 1 1 ∧ Rd encI w (some a9) 1 [(p : Int) - (p0 : Int)]
  | _ => fun _ _ => True
theorem RlF.below (a3 : Addr) (NT c3 gp ix c1 c2 : Nat) (A1 A2 : Option Addr) (s : ByteArray) (p p0 : Nat) : ∀ i v w w', Below w.heap.size w w' → RlF a3 NT c3 gp ix c1 c2 A1 A2 s p p0 i v w → RlF a3 NT c3 gp ix c1 c2 A1 A2 s p p0 i v w'
  | 0, _, _, _, _, h => h
  | 1, _, _, _, _, h => h
  | 2, _, _, _, _, h => h
  | 3, _, _, _, _, h => h
  | 4, _, _, _, _, h => h
  | 5, _, _, _, _, h => h
  | 6, _, _, _, _, h => h
  | 7, _, _, _, _, h => h
  | 8, _, _, _, _, h => h
  | 9, _, _, _, _, h => h
  | 10, _, _, _, _, h => h
  | 11, _, _, _, _, h => h
  | 12, _, _, _, hb, h => by
    obtain ⟨V67, e, g⟩ := h
    exact ⟨V67, e, (by obtain ⟨a9, e9, h9⟩ := g; exact ⟨a9, e9, h9.below hb⟩)⟩
  | _ + 13, _, _, _, _, _ => trivial

theorem opR_setL {w w3 : World} {go : Nat} {G : Option QOp} {x y z : Value} (HB : Below w.heap.size w w3) (hgo : w.heap.size ≤ go) (hbx : BoxA w3 go 76 [x, y, z]) (k : Int) (A1 : Option Addr) (n1 c1 : Nat) (A2 : Option Addr) (n2 c2 : Nat) (ts : List ByteArray) (os : List Int)
    (hx : OwnOp w3 (go + 1) ((k, ts, os), (A1, n1, c1), (A2, n2, c2))) (b : Bool) (hb : b = G.isSome) (hG : ∀ o, G = some o → (k, ts, os) = o) :
    OpR G w (.returned (.tuple #[.agg #[.int .i64 k, .slice A1 n1 c1, .slice A2 n2 c2], .bool b])) (((w3.setCell ⟨go, 0, none⟩ (.int .i64 k)).setCell ⟨go, 1, none⟩ (.slice A1 n1 c1)).setCell ⟨go, 2, none⟩ (.slice A2 n2 c2)) ∧
    (((w3.setCell ⟨go, 0, none⟩ (.int .i64 k)).setCell ⟨go, 1, none⟩ (.slice A1 n1 c1)).setCell ⟨go, 2, none⟩ (.slice A2 n2 c2)).cell? ⟨go, 0, none⟩ = some (.int .i64 k) ∧
    (((w3.setCell ⟨go, 0, none⟩ (.int .i64 k)).setCell ⟨go, 1, none⟩ (.slice A1 n1 c1)).setCell ⟨go, 2, none⟩ (.slice A2 n2 c2)).cell? ⟨go, 1, none⟩ = some (.slice A1 n1 c1) ∧
    (((w3.setCell ⟨go, 0, none⟩ (.int .i64 k)).setCell ⟨go, 1, none⟩ (.slice A1 n1 c1)).setCell ⟨go, 2, none⟩ (.slice A2 n2 c2)).cell? ⟨go, 2, none⟩ = some (.slice A2 n2 c2) := by
  obtain ⟨h1, hg⟩ := hbx.set3 (.int .i64 k) (.slice A1 n1 c1) (.slice A2 n2 c2)
  obtain ⟨z0, z1, z2, _⟩ := h1.three
  refine ⟨⟨k, A1, n1, c1, A2, n2, c2, ts, os, by rw [hb], ?_, hG, HB.grown hg HB.size (fun j hj => by injection hj with hj; omega)⟩, z0, z1, z2⟩
  exact (hx.kept hg (fun j hj => by injection hj with hj; omega)).mono (by omega)
set_option maxRecDepth 100000 in
set_option maxHeartbeats 8000000 in
theorem refAsks_any (A : Option Addr) (n c : Nat) (B : Option Addr) (m d : Nat) (cf : Cf) (T : Option Addr) (nt ct : Nat) (l : List Nat) (w : World) (hR : RdC w A n c B m d cf)
    (ht : RdB w T nt l) (htc : nt ≤ ct) (hct : ct ≤ 9223372036854775807) (hn : nt ≤ 1000) (hm : m ≤ 1000000) :
    Calls Tryz.prog 114 #[confV A n c B m d cf.cap, .slice T nt ct] w (OpR (asksG cf l) w) := by
  have HR := Lib.hid hR
  have HT := Lib.hid ht
  have HLn := Lib.hid ht.len
  obtain ⟨cap, hcap⟩ : ∃ cap, cap = cf.cap := ⟨_, rfl⟩
  rw [← hcap]
  obtain ⟨G, hG⟩ : ∃ G, G = asksG cf l := ⟨_, rfl⟩
  have hasks : G = asksW (wordsL l).length (toksL cf l) := hG.trans (asksG_W cf l)
  rw [← hG]
  have HAS := Lib.hid hasks
  clear hG hasks
  obtain ⟨w0, hw0⟩ : ∃ w0, w0 = w.alloc (.cells #[.slice A n c, .slice B m d, .int .i64 cap] 25) := ⟨_, rfl⟩
  obtain ⟨g2, hg2⟩ : ∃ g2, g2 = w.heap.size := ⟨_, rfl⟩
  have hb0 : Below w.heap.size w w0 := by rw [hw0]; exact (Below.refl _ _).alloc (Nat.le_refl _) _
  have hB2 : BoxA w0 g2 25 [.slice A n c, .slice B m d, .int .i64 cap] := by rw [hw0, hg2]; exact BoxA.new _ _ _
  obtain ⟨w1, hw1⟩ : ∃ w1, w1 = w0.alloc (.cells #[.int .i64 0, .slice none 0 0, .slice none 0 0] 76) := ⟨_, rfl⟩
  obtain ⟨go, hgo⟩ : ∃ go, go = w.heap.size + 1 := ⟨_, rfl⟩
  have hs0 : go = w0.heap.size := by rw [hw0, hgo]; simp
  have hb01 : Below w0.heap.size w0 w1 := by rw [hw1]; exact (Below.refl _ _).alloc (Nat.le_refl _) _
  have hb1 := Below.thn hb0 hb01
  have HOB := Lib.hid (show BoxA w1 go 76 [.int .i64 0, .slice none 0 0, .slice none 0 0] by rw [hw1, hs0]; exact BoxA.new _ _ _)
  have HW0 := Lib.hid hw0
  have HW1 := Lib.hid hw1
  have HGO := Lib.hid hgo
  have HG2 := Lib.hid hg2
  have HGE : Hid (w.heap.size ≤ go) := Lib.hid (by omega)
  have HCAP := Lib.hid hcap
  have HB1 := Lib.hid hb1
  have HBX := Lib.hid (hB2.below hb01)
  have C1 := Lib.hid (refCount_any T nt ct l w1 (ht.below hb1) htc (by omega) hct)
  clear hR ht hcap hw1 hgo hb1 hw0 hg2 hb0 hB2 hs0 hb01
  go_enter Tryz.func114, Tryz.ntmps114
  go_wp2_with fail
  rw [← HW0.out, ← HW1.out, ← HGO.out, ← HG2.out]
  refine C1.out.mono ?_
  rintro e w2 ⟨rfl, hb⟩
  have HB2 := Lib.hid (Below.thn HB1.out hb)
  have HBX2 := Lib.hid (HBX.out.below hb)
  have HOB2 := Lib.hid (HOB.out.below hb)
  have C2 := Lib.hid (refTokens_any A n c B m d cf T nt ct l w2 (HR.out.below HB2.out) (HT.out.below HB2.out) htc (by omega) hct hm)
  rw [← HCAP.out] at C2
  obtain ⟨y0, y1, y2, _⟩ := HBX2.out.three
  clear hb C1 HB1 HBX HOB HW1 HW0
  go_wp2_with fail
  refine C2.out.mono ?_
  rintro e w3 ⟨lv, rfl, ho, hb⟩
  have HB3 := Lib.hid (Below.thn HB2.out hb)
  have HOB3 := Lib.hid (HOB2.out.below hb)
  clear C2 HB2 HBX2 HOB2 y0 y1 y2
  obtain ⟨NW, hnw⟩ : ∃ NW, NW = (wordsL l).length := ⟨_, rfl⟩
  obtain ⟨L, hL⟩ : ∃ L, L = toksL cf l := ⟨_, rfl⟩
  have HASW : Hid (G = asksW NW L) := Lib.hid (by rw [HAS.out, hnw, hL])
  clear HAS
  have HAS := HASW
  clear HASW
  rw [← hnw]
  rw [← hL] at ho
  obtain ⟨A3, c3, rfl, h31, h32, hrd⟩ := OwnK.rd encTk_len ho
  obtain ⟨NT, hNT⟩ : ∃ NT, NT = L.length := ⟨_, rfl⟩
  have hwl : NW ≤ 1001 := by
    have h1 := wordsL_len l
    have h2 := HLn.out
    omega
  rw [← hNT] at h31 hrd ⊢
  have HRD := Lib.hid hrd
  have HNT := Lib.hid hNT
  have HPB : Hid (∀ y ∈ L, y.2 < NW) := Lib.hid (by rw [hL, hnw]; exact toks_pos cf l)
  clear hnw hL ho hb hrd hNT
  by_cases hz : NW = 0
  · subst hz
    have hGn : Hid (G = none) := Lib.hid (by rw [HAS.out]; exact asksW_no (.inl rfl))
    obtain ⟨hE, y0, y1, y2⟩ := opR_setL (G := G) HB3.out HGE.out HOB3.out 0 none 0 0 none 0 0 [] [] (OwnOp.nil _ _ _) false (by rw [hGn.out]; rfl) (fun o h => by rw [hGn.out] at h; cases h)
    have HE := Lib.hid hE
    have hbd : ∀ W : World, (Instr.build 76 #[]).run Tryz.prog W = .ok (.agg #[.int .i64 0, .slice none 0 0, .slice none 0 0]) W := fun W => run_build W 76 _ _ (by kernel_rfl)
    obtain ⟨z0, z1, z2, z3, z4, z5⟩ := HOB3.out.three
    clear hE HAS
    go_wp2
    refine bodyPost_ret (v := .tuple #[.agg #[.int .i64 0, .slice none 0 0, .slice none 0 0], .bool false]) (by simp [results, Tryz.results114, go_sem, y0, y1, y2]) rfl HE.out
  have hz0 : ((NW : Int) == 0) = false := by simp; omega
  by_cases h16 : (NT : Int) > 16
  · have hGn : Hid (G = none) := Lib.hid (by rw [HAS.out]; exact asksW_no (.inr (by have := HNT.out; omega)))
    obtain ⟨hE, y0, y1, y2⟩ := opR_setL (G := G) HB3.out HGE.out HOB3.out 0 none 0 0 none 0 0 [] [] (OwnOp.nil _ _ _) false (by rw [hGn.out]; rfl) (fun o h => by rw [hGn.out] at h; cases h)
    have HE := Lib.hid hE
    have hbd : ∀ W : World, (Instr.build 76 #[]).run Tryz.prog W = .ok (.agg #[.int .i64 0, .slice none 0 0, .slice none 0 0]) W := fun W => run_build W 76 _ _ (by kernel_rfl)
    obtain ⟨z0, z1, z2, z3, z4, z5⟩ := HOB3.out.three
    clear hE HAS
    go_wp2
    refine bodyPost_ret (v := .tuple #[.agg #[.int .i64 0, .slice none 0 0, .slice none 0 0], .bool false]) (by simp [results, Tryz.results114, go_sem, y0, y1, y2]) rfl HE.out
  have hn16 : NT ≤ 16 := by omega
  by_cases hnt : NT = 0
  · subst hnt
    have hGn : Hid (G = some (4, [], [])) := Lib.hid (by rw [HAS.out]; exact asksW_nil hz HNT.out.symm)
    obtain ⟨hE, y0, y1, y2⟩ := opR_setL (G := G) HB3.out HGE.out HOB3.out 4 none 0 0 none 0 0 [] [] (OwnOp.nil _ _ _) true (by rw [hGn.out]; rfl) (fun o h => by rw [hGn.out] at h; injection h)
    have HE := Lib.hid hE
    have hbd : ∀ W : World, (Instr.build 76 #[(0, .int .i64 4)]).run Tryz.prog W = .ok (.agg #[.int .i64 4, .slice none 0 0, .slice none 0 0]) W := fun W => run_build W 76 _ _ (by kernel_rfl)
    obtain ⟨z0, z1, z2, z3, z4, z5⟩ := HOB3.out.three
    clear hE HAS
    go_wp2
    refine bodyPost_ret (v := .tuple #[.agg #[.int .i64 4, .slice none 0 0, .slice none 0 0], .bool true]) (by simp [results, Tryz.results114, go_sem, y0, y1, y2]) rfl HE.out
  have hnt0 : 0 < NT := by omega
  have hntf : ((NT : Int) == 0) = false := by simp; omega
  obtain ⟨a3, tk0, rfl, HX0, x0, x1⟩ := HRD.out.at2 (k := 0) hnt0
  simp only [Nat.zero_mul, Addr.add_zero'] at x0 x1
  obtain ⟨s0, p0⟩ := tk0
  have HL0 : Hid (∃ ts, L = (s0, p0) :: ts) := Lib.hid (by
    obtain ⟨hl, e⟩ := HX0.out
    cases hL : L with
    | nil => rw [hL] at hl; simp at hl
    | cons a b => 
      simp only [hL, List.getElem_cons_zero] at e
      exact ⟨b, by rw [e]⟩)
  clear HX0
  by_cases h1w : NW = 1
  · subst h1w
    have hGn : Hid (G = some (1, [s0], [])) := Lib.hid (by
      obtain ⟨ts, e⟩ := HL0.out
      rw [HAS.out, e]
      exact asksW_one (by rw [← e, ← HNT.out]; exact hn16))
    obtain ⟨w4, hw4⟩ : ∃ w4, w4 = w3.alloc (.cells #[.string s0] 9) := ⟨_, rfl⟩
    have hb4 : Below w3.heap.size w3 w4 := by rw [hw4]; exact (Below.refl _ _).alloc (Nat.le_refl _) _
    have hop : OwnOp w4 (go + 1) ((1, [s0], []), (some ⟨w3.heap.size, 0, none⟩, 1, 1), (none, 0, 0)) := ⟨by
      rw [hw4]
      exact OwnL.lit w3 (go + 1) 9 [s0] #[.string s0] 1 rfl rfl HOB3.out.lt (by decide), OwnL.nil _ _ _ _⟩
    obtain ⟨hE, y0, y1, y2⟩ := opR_setL (G := G) (Below.thn HB3.out hb4) HGE.out (HOB3.out.below hb4) 1 (some ⟨w3.heap.size, 0, none⟩) 1 1 none 0 0 [s0] [] hop true (by rw [hGn.out]; rfl) (fun o h => by rw [hGn.out] at h; injection h)
    have hq0 := HOB3.out.lt
    have hcm : (((w4.setCell ⟨go, 0, none⟩ (.int .i64 1)).setCell ⟨go, 1, none⟩ (.slice (some ⟨w3.heap.size, 0, none⟩) 1 1)).setCell ⟨go, 2, none⟩ (.slice none 0 0)) = (((w3.setCell ⟨go, 0, none⟩ (.int .i64 1)).setCell ⟨go, 1, none⟩ (.slice (some ⟨w3.heap.size, 0, none⟩) 1 1)).setCell ⟨go, 2, none⟩ (.slice none 0 0)).alloc (.cells #[.string s0] 9) := by
      rw [hw4, World.setCell_alloc_past _ _ _ _ hq0, World.setCell_alloc_past _ _ _ _ (by simp; exact hq0), World.setCell_alloc_past _ _ _ _ (by simp; exact hq0)]
    rw [hcm] at hE y0 y1 y2
    have HE := Lib.hid hE
    have hbd : ∀ W : World, (Instr.build 76 #[(0, .int .i64 1), (1, .slice (some ⟨w3.heap.size, 0, none⟩) 1 1)]).run Tryz.prog W = .ok (.agg #[.int .i64 1, .slice (some ⟨w3.heap.size, 0, none⟩) 1 1, .slice none 0 0]) W := fun W => run_build W 76 _ _ (by kernel_rfl)
    obtain ⟨z0, z1, z2, z3, z4, z5⟩ := HOB3.out.three
    clear hE HAS hw4 hb4 hop hcm
    go_wp2
    refine bodyPost_ret (v := .tuple #[.agg #[.int .i64 1, .slice (some ⟨w3.heap.size, 0, none⟩) 1 1, .slice none 0 0], .bool true]) (by simp [results, Tryz.results114, go_sem, y0, y1, y2]) rfl HE.out
  have h1f : ((NW : Int) == 1) = false := by simp; omega
  have hGn : Hid (G = some (2, L.map (fun x : Tok => x.1), offsK p0 L)) := Lib.hid (by
    obtain ⟨ts, e⟩ := HL0.out
    rw [HAS.out, e]
    exact asksW_more hz h1w (by rw [← e, ← HNT.out]; exact hn16))
  have hp0 : p0 ≤ 1001 := by
    obtain ⟨ts, e⟩ := HL0.out
    have := HPB.out (s0, p0) (by rw [e]; simp)
    simp only at this
    omega
  clear HAS HL0
  obtain ⟨gp, hgp⟩ : ∃ gp, gp = w3.heap.size := ⟨_, rfl⟩
  have HGP := Lib.hid hgp
  have hbd : ∀ W : World, (Instr.build 76 #[(0, .int .i64 2)]).run Tryz.prog W = .ok (.agg #[.int .i64 2, .slice none 0 0, .slice none 0 0]) W := fun W => run_build W 76 _ _ (by kernel_rfl)
  obtain ⟨w4, hw4⟩ : ∃ w4, w4 = w3.alloc (.cells #[.int .i64 2, .slice none 0 0, .slice none 0 0] 76) := ⟨_, rfl⟩
  have HI4 : Hid (AkI w3 gp L p0 0 none 0 none 0 w4) := Lib.hid ⟨by rw [hw4]; exact (Below.refl _ _).alloc (Nat.le_refl _) _, by rw [hw4, hgp]; exact BoxA.new _ _ _, OwnL.nil _ _ _ _, OwnL.nil _ _ _ _⟩
  have HW4 := Lib.hid hw4
  clear hgp hw4
  go_upto_region 10 with fail
  rw [← HGP.out, ← HW4.out]
  clear hbd HW4
  go_wp2_with fail
  go_loopw [9] (fun x wr => ∃ (ix : Nat) (A1 : Option Addr) (c1 : Nat) (A2 : Option Addr) (c2 : Nat), x = .int .i64 (ix : Nat) ∧ ix ≤ NT ∧ Hid (AkI w3 gp L p0 ix A1 c1 A2 c2 wr)) (fun x _ => NT - (intOf x).toNat)
  case atStart => exact ⟨0, none, 0, none, 0, rfl, Nat.zero_le _, HI4⟩
  case round =>
    obtain ⟨ix, A1, c1, A2, c2, rfl, hix, HI⟩ := hrel
    by_cases hlt : (ix : Int) < (NT : Int)
    · obtain ⟨ax, tk, hax, HX, u0, u1⟩ := HRD.out.at2 (k := ix) (by omega)
      cases hax
      obtain ⟨s, p⟩ := tk
      have hpb : p ≤ 1001 := by
        obtain ⟨hl, e⟩ := HX.out
        have := HPB.out _ (List.getElem_mem hl)
        rw [e] at this
        simp only at this
        omega
      have HXT : Hid (L.take (ix + 1) = L.take ix ++ [(s, p)]) := Lib.hid (by
        obtain ⟨hl, e⟩ := HX.out
        rw [← e]
        exact List.take_succ_eq_append_getElem hl)
      clear HX
      obtain ⟨hbr, hbxr, hos, hoi⟩ := HI.out
      have hgpl := hbxr.lt
      have G46 : Hid (wr.cell? ⟨gp, 1, none⟩ = some (.slice A1 ix c1)) := Lib.hid (hbxr.cell 1 _ rfl)
      have G51 : Hid (wr.cell? (a3.add (ix * 2)) = some (.string s)) := Lib.hid (cell_keep hbr u0)
      have hlen : ((L.take ix).map fun x : Tok => x.1).length = ix := by rw [List.length_map, List.length_take, ← HNT.out]; omega
      have hlen2 : (offsK p0 (L.take ix)).length = ix := by unfold offsK; rw [List.length_map, List.length_take, ← HNT.out]; omega
      have hwp : IntKind.i64.wrap ((p : Int) - (p0 : Int)) = (p : Int) - (p0 : Int) := by rw [IntKind.wrap_i64]; omega
      have HI9 := HI
      have HU1 := Lib.hid u1
      clear hbr hbxr hos hoi u0 u1 HI
      go_wp2_with fail
      rename_i K1 hK1
      refine wp_region_flowT 8 (by kernel_rfl) (by kernel_rfl) (RkF a3 NT c3 gp ix c1 c2 A1 A2 s p p0) (RkF.below a3 NT c3 gp ix c1 c2 A1 A2 s p p0) (by kernel_rfl) (by kernel_rfl) ?_ ?_
      case refine_1 =>
        intro i o hit ho ρ y w2 hb2 hreg hn hf hyb hyn
        obtain rfl | rfl | rfl | rfl | rfl | rfl | rfl | rfl : i = 0 ∨ i = 1 ∨ i = 2 ∨ i = 3 ∨ i = 4 ∨ i = 5 ∨ i = 6 ∨ i = 7 := by omega
        · cases ho
          rw [if_pos (show Region.wanted _ y = true from rfl)]
          have f8 : ρ (.tmp 8) = .pointer (some ⟨gp, 0, none⟩) := hf 8 (by kernel_rfl)
          exact does_ok (v := .pointer (some ⟨gp, 1, none⟩)) (w' := w2) (by simp [go_sem, hreg.const, f8]) ⟨rfl, Below.refl _ _⟩
        · cases ho
          rw [if_pos (show Region.wanted _ y = true from rfl)]
          have f45 : ρ (.tmp 45) = .pointer (some ⟨gp, 1, none⟩) := hn 0 _ 45 rfl (by kernel_rfl) rfl
          have k0 := cell_keep hb2 G46.out
          exact does_ok (v := .slice A1 ix c1) (w' := w2) (by simp [go_sem, hreg.const, f45, k0]) ⟨rfl, Below.refl _ _⟩
        · cases ho
          rw [if_pos (show Region.wanted _ y = true from rfl)]
          have f7 : ρ (.tmp 7) = .slice (some a3) NT c3 := hf 7 (by kernel_rfl)
          exact ⟨f7, Below.refl _ _⟩
        · cases ho
          rw [if_pos (show Region.wanted _ y = true from rfl)]
          have f9 : ρ (.tmp 9) = .int .i64 (ix : Nat) := hf 9 (by kernel_rfl)
          exact ⟨f9, Below.refl _ _⟩
        · cases ho
          rw [if_pos (show Region.wanted _ y = true from rfl)]
          have f47 : ρ (.tmp 47) = .slice (some a3) NT c3 := hn 2 _ 47 rfl (by kernel_rfl) rfl
          have f48 : ρ (.tmp 48) = .int .i64 (ix : Nat) := hn 3 _ 48 rfl (by kernel_rfl) rfl
          exact does_ok (v := .pointer (some (a3.add (ix * 2)))) (w' := w2) (by simp [go_sem, hreg.const, f47, f48, hlt]) ⟨rfl, Below.refl _ _⟩
        · cases ho
          rw [if_pos (show Region.wanted _ y = true from rfl)]
          have f49 : ρ (.tmp 49) = .pointer (some (a3.add (ix * 2))) := hn 4 _ 49 rfl (by kernel_rfl) rfl
          exact does_ok (v := .pointer (some (a3.add (ix * 2)))) (w' := w2) (by simp [go_sem, hreg.const, f49]) ⟨rfl, Below.refl _ _⟩
        · cases ho
          rw [if_pos (show Region.wanted _ y = true from rfl)]
          have f50 : ρ (.tmp 50) = .pointer (some (a3.add (ix * 2))) := hn 5 _ 50 rfl (by kernel_rfl) rfl
          have k0 := cell_keep hb2 G51.out
          exact does_ok (v := .string s) (w' := w2) (by simp [go_sem, hreg.const, f50, k0]) ⟨rfl, Below.refl _ _⟩
        · cases ho
          rw [if_pos (show Region.wanted _ y = true from rfl)]
          have f51 : ρ (.tmp 51) = .string s := hn 6 _ 51 rfl (by kernel_rfl) rfl
          exact does_ok (v := .slice (some ⟨w2.heap.size, 0, none⟩) 1 1) (w' := w2.alloc (.cells #[.string s] 9)) (by simp [go_sem, hreg.const, f51]) ⟨⟨_, rfl, _, rfl, Rd.new w2 9 [s] #[.string s] 1 (0, 0) (enc := encS) rfl rfl (by decide)⟩, (Below.refl _ _).alloc (Nat.le_refl _) _⟩
      case refine_2 =>
        intro a w2 hb2 hd hs hfacts hrest
        have q46 : a.tmps.getD 46 undef = .slice A1 ix c1 := hfacts 1 _ 46 (by decide) rfl rfl
        obtain ⟨V52, q52, g52⟩ : ∃ (V52 : Value), a.tmps.getD 52 undef = V52 ∧ ∃ a9, V52 = .slice (some a9) 1 1 ∧ Rd encS w2 (some a9) 1 [s] := hfacts 7 _ 52 (by decide) rfl rfl
        have ha := frame_ofP hd hs hrest [45, 46, 47, 48, 49, 50, 51, 52] (by kernel_rfl)
        simp only [q46, q52, List.foldl, List.setIfInBounds_toArray, List.set_cons_succ, List.set_cons_zero] at ha
        clear q46 q52 hd hs hfacts hrest
        generalize a.tmps.getD = gg at ha
        subst ha
        obtain ⟨a9, rfl, h9⟩ := g52
        obtain ⟨hbr, hbxr, hos, hoi⟩ := HI9.out
        obtain ⟨A6, c6, w6, r6, o6, h61, h62, g6⟩ := push_R (P := Tryz.prog) (enc := encS) (gp + 1) 23 9 (.string ⟨#[]⟩) 16 Tryz.underlying23 infoS rfl (by decide) (by decide) encS_one s (hos.below hb2) h9 (by have := hb2.size; omega) (by rw [hlen]; omega)
        rw [hlen] at r6 o6 h61
        have hbx1 := hbxr.below hb2
        have hbx6 := hbx1.kept g6 ((hos.below hb2).ne_at (Nat.lt_succ_self _))
        have hoi6 := (hoi.below hb2).kept g6 (str_apart (hos.below hb2) (hoi.below hb2))
        have hB6 : Below w3.heap.size w3 w6 := (hbr.trans (hb2.mono hbr.size)).grown g6 (by have := hbr.size; have := hb2.size; omega) (fun k hk => by have := ((hos.below hb2).base k hk).1; have := HGP.out; omega)
        obtain ⟨W7, hW7⟩ : ∃ W7, W7 = w6.setCell ⟨gp, 1, none⟩ (.slice A6 (ix + 1) c6) := ⟨_, rfl⟩
        have hbx7 : BoxA W7 gp 76 [.int .i64 2, .slice A6 (ix + 1) c6, .slice A2 ix c2] := by rw [hW7]; exact hbx6.set 1 _
        have hg7 : w6.grownBy W7 (some gp) := by rw [hW7]; exact BoxA.set_grown _ _ _ _
        have hos7 := o6.kept hg7 (o6.not_at (Nat.lt_succ_self _))
        have hoi7 := hoi6.kept hg7 (hoi6.not_at (Nat.lt_succ_self _))
        have hB7 : Below w3.heap.size w3 W7 := hB6.grown hg7 hB6.size (fun k hk => by injection hk with hk; have := HGP.out; omega)
        obtain ⟨d0, d1, d2, d3, d4, d5⟩ := hbx6.three
        have HB7 := Lib.hid hB7
        have HO7 := Lib.hid hos7
        have HI7 := Lib.hid hoi7
        have HBX7 := Lib.hid hbx7
        have HW7 := Lib.hid hW7
        clear hbr hbxr hos hoi hb2 h9 o6 g6 hbx1 hbx6 hoi6 hB6 hW7 hbx7 hg7 hos7 hoi7 hB7 G46 G51
        simp only [List.drop_succ_cons, List.drop_zero]
        go_upto_region 14 with (at_builtin; refine wpl_append_run rfl _ _ _ rfl rfl rfl r6 ?_)
        rw [← HW7.out]
        have G56 : Hid (W7.cell? ⟨gp, 2, none⟩ = some (.slice A2 ix c2)) := Lib.hid (HBX7.out.cell 2 _ rfl)
        have G61 : Hid (W7.cell? ⟨(a3.add (ix * 2)).block, (a3.add (ix * 2)).off + 1, none⟩ = some (.int .i64 (p : Nat))) := Lib.hid (cell_keep HB7.out HU1.out)
        have G65 : Hid (W7.cell? ⟨a3.block, a3.off + 1, none⟩ = some (.int .i64 (p0 : Nat))) := Lib.hid (cell_keep HB7.out x1)
        clear d0 d1 d2 d3 d4 d5 r6
        rename_i K9 hK9
        refine wp_region_flowT 13 (by kernel_rfl) (by kernel_rfl) (RlF a3 NT c3 gp ix c1 c2 A1 A2 s p p0) (RlF.below a3 NT c3 gp ix c1 c2 A1 A2 s p p0) (by kernel_rfl) (by kernel_rfl) ?_ ?_
        case refine_1 =>
          intro i o hit ho ρ y w2 hb2 hreg hn hf hyb hyn
          obtain rfl | rfl | rfl | rfl | rfl | rfl | rfl | rfl | rfl | rfl | rfl | rfl | rfl : i = 0 ∨ i = 1 ∨ i = 2 ∨ i = 3 ∨ i = 4 ∨ i = 5 ∨ i = 6 ∨ i = 7 ∨ i = 8 ∨ i = 9 ∨ i = 10 ∨ i = 11 ∨ i = 12 := by omega
          · cases ho
            rw [if_pos (show Region.wanted _ y = true from rfl)]
            have f8 : ρ (.tmp 8) = .pointer (some ⟨gp, 0, none⟩) := hf 8 (by kernel_rfl)
            exact does_ok (v := .pointer (some ⟨gp, 2, none⟩)) (w' := w2) (by simp [go_sem, hreg.const, f8]) ⟨rfl, Below.refl _ _⟩
          · cases ho
            rw [if_pos (show Region.wanted _ y = true from rfl)]
            have f55 : ρ (.tmp 55) = .pointer (some ⟨gp, 2, none⟩) := hn 0 _ 55 rfl (by kernel_rfl) rfl
            have k0 := cell_keep hb2 G56.out
            exact does_ok (v := .slice A2 ix c2) (w' := w2) (by simp [go_sem, hreg.const, f55, k0]) ⟨rfl, Below.refl _ _⟩
          · cases ho
            rw [if_pos (show Region.wanted _ y = true from rfl)]
            have f7 : ρ (.tmp 7) = .slice (some a3) NT c3 := hf 7 (by kernel_rfl)
            exact ⟨f7, Below.refl _ _⟩
          · cases ho
            rw [if_pos (show Region.wanted _ y = true from rfl)]
            have f9 : ρ (.tmp 9) = .int .i64 (ix : Nat) := hf 9 (by kernel_rfl)
            exact ⟨f9, Below.refl _ _⟩
          · cases ho
            rw [if_pos (show Region.wanted _ y = true from rfl)]
            have f57 : ρ (.tmp 57) = .slice (some a3) NT c3 := hn 2 _ 57 rfl (by kernel_rfl) rfl
            have f58 : ρ (.tmp 58) = .int .i64 (ix : Nat) := hn 3 _ 58 rfl (by kernel_rfl) rfl
            exact does_ok (v := .pointer (some (a3.add (ix * 2)))) (w' := w2) (by simp [go_sem, hreg.const, f57, f58, hlt]) ⟨rfl, Below.refl _ _⟩
          · cases ho
            rw [if_pos (show Region.wanted _ y = true from rfl)]
            have f59 : ρ (.tmp 59) = .pointer (some (a3.add (ix * 2))) := hn 4 _ 59 rfl (by kernel_rfl) rfl
            exact does_ok (v := .pointer (some ⟨(a3.add (ix * 2)).block, (a3.add (ix * 2)).off + 1, none⟩)) (w' := w2) (by simp [go_sem, hreg.const, f59]) ⟨rfl, Below.refl _ _⟩
          · cases ho
            rw [if_pos (show Region.wanted _ y = true from rfl)]
            have f60 : ρ (.tmp 60) = .pointer (some ⟨(a3.add (ix * 2)).block, (a3.add (ix * 2)).off + 1, none⟩) := hn 5 _ 60 rfl (by kernel_rfl) rfl
            have k0 := cell_keep hb2 G61.out
            exact does_ok (v := .int .i64 (p : Nat)) (w' := w2) (by simp [go_sem, hreg.const, f60, k0]) ⟨rfl, Below.refl _ _⟩
          · cases ho
            rw [if_pos (show Region.wanted _ y = true from rfl)]
            have f7 : ρ (.tmp 7) = .slice (some a3) NT c3 := hf 7 (by kernel_rfl)
            exact ⟨f7, Below.refl _ _⟩
          · cases ho
            rw [if_pos (show Region.wanted _ y = true from rfl)]
            have f62 : ρ (.tmp 62) = .slice (some a3) NT c3 := hn 7 _ 62 rfl (by kernel_rfl) rfl
            exact does_ok (v := .pointer (some a3)) (w' := w2) (by simp [go_sem, hreg.const, f62, hnt0]) ⟨rfl, Below.refl _ _⟩
          · cases ho
            rw [if_pos (show Region.wanted _ y = true from rfl)]
            have f63 : ρ (.tmp 63) = .pointer (some a3) := hn 8 _ 63 rfl (by kernel_rfl) rfl
            exact does_ok (v := .pointer (some ⟨a3.block, a3.off + 1, none⟩)) (w' := w2) (by simp [go_sem, hreg.const, f63]) ⟨rfl, Below.refl _ _⟩
          · cases ho
            rw [if_pos (show Region.wanted _ y = true from rfl)]
            have f64 : ρ (.tmp 64) = .pointer (some ⟨a3.block, a3.off + 1, none⟩) := hn 9 _ 64 rfl (by kernel_rfl) rfl
            have k0 := cell_keep hb2 G65.out
            exact does_ok (v := .int .i64 (p0 : Nat)) (w' := w2) (by simp [go_sem, hreg.const, f64, k0]) ⟨rfl, Below.refl _ _⟩
          · cases ho
            rw [if_pos (show Region.wanted _ y = true from rfl)]
            have f61 : ρ (.tmp 61) = .int .i64 (p : Nat) := hn 6 _ 61 rfl (by kernel_rfl) rfl
            have f65 : ρ (.tmp 65) = .int .i64 (p0 : Nat) := hn 10 _ 65 rfl (by kernel_rfl) rfl
            exact does_ok (v := .int .i64 ((p : Int) - (p0 : Int))) (w' := w2) (by simp [go_sem, hreg.const, f61, f65, hwp]) ⟨rfl, Below.refl _ _⟩
          · cases ho
            rw [if_pos (show Region.wanted _ y = true from rfl)]
            have f66 : ρ (.tmp 66) = .int .i64 ((p : Int) - (p0 : Int)) := hn 11 _ 66 rfl (by kernel_rfl) rfl
            exact does_ok (v := .slice (some ⟨w2.heap.size, 0, none⟩) 1 1) (w' := w2.alloc (.cells #[.int .i64 ((p : Int) - (p0 : Int))] 3)) (by simp [go_sem, hreg.const, f66]) ⟨⟨_, rfl, _, rfl, Rd.new w2 3 [(p : Int) - (p0 : Int)] #[.int .i64 ((p : Int) - (p0 : Int))] 1 (0, 0) (enc := encI) rfl rfl (by decide)⟩, (Below.refl _ _).alloc (Nat.le_refl _) _⟩
        case refine_2 =>
          intro a w2 hb2 hd hs hfacts hrest
          have q56 : a.tmps.getD 56 undef = .slice A2 ix c2 := hfacts 1 _ 56 (by decide) rfl rfl
          obtain ⟨V67, q67, g67⟩ : ∃ (V67 : Value), a.tmps.getD 67 undef = V67 ∧ ∃ a9, V67 = .slice (some a9) 1 1 ∧ Rd encI w2 (some a9) 1 [(p : Int) - (p0 : Int)] := hfacts 12 _ 67 (by decide) rfl rfl
          have ha := frame_ofP hd hs hrest [55, 56, 57, 58, 59, 60, 61, 62, 63, 64, 65, 66, 67] (by kernel_rfl)
          simp only [q56, q67, List.foldl, List.setIfInBounds_toArray, List.set_cons_succ, List.set_cons_zero] at ha
          clear q56 q67 hd hs hfacts hrest
          generalize a.tmps.getD = gg at ha
          subst ha
          obtain ⟨a9, rfl, h9⟩ := g67
          obtain ⟨A8, c8, w8, r8, o8, h81, h82, g8⟩ := push_R (P := Tryz.prog) (enc := encI) (gp + 1) 74 3 (.int .i64 0) 8 Tryz.underlying74 infoI rfl (by decide) (by decide) encI_one ((p : Int) - (p0 : Int)) (HI7.out.below hb2) h9 (by have := HBX7.out.lt; have := hb2.size; omega) (by rw [hlen2]; omega)
          rw [hlen2] at r8 o8 h81
          have hos8 := (HO7.out.below hb2).kept g8 (int_apart (HO7.out.below hb2) (HI7.out.below hb2))
          have hbx8 := (HBX7.out.below hb2).kept g8 ((HI7.out.below hb2).ne_at (Nat.lt_succ_self _))
          have hB8 : Below w3.heap.size w3 w8 := (HB7.out.trans (hb2.mono HB7.out.size)).grown g8 (by have := HB7.out.size; have := hb2.size; omega) (fun k hk => by have := ((HI7.out.below hb2).base k hk).1; have := HGP.out; omega)
          have hg9 := BoxA.set_grown w8 gp 2 (.slice A8 (ix + 1) c8)
          have HN : Hid (AkI w3 gp L p0 (ix + 1) A6 c6 A8 c8 (w8.setCell ⟨gp, 2, none⟩ (.slice A8 (ix + 1) c8))) := Lib.hid ⟨hB8.grown hg9 hB8.size (fun k hk => by injection hk with hk; have := HGP.out; omega), hbx8.set 2 _, by
            rw [HXT.out, List.map_append]
            exact hos8.kept hg9 (hos8.not_at (Nat.lt_succ_self _)), by
            rw [HXT.out]
            unfold offsK
            rw [List.map_append]
            exact o8.kept hg9 (o8.not_at (Nat.lt_succ_self _))⟩
          obtain ⟨d0, d1, d2, d3, d4, d5⟩ := hbx8.three
          clear hb2 h9 o8 g8 hos8 hbx8 hB8 hg9
          simp only [List.drop_succ_cons, List.drop_zero]
          go_wp2_with (at_builtin; refine wpl_append_run rfl _ _ _ rfl rfl rfl r8 ?_)
          exact ⟨⟨ix + 1, A6, c6, A8, c8, by simp, by omega, HN⟩, by simp [intOf]; omega⟩
    · have hE : ix = NT := by omega
      subst hE
      obtain ⟨hbr, hbxr, hos, hoi⟩ := HI.out
      have hob := HOB3.out.below hbr
      have htl : L.take ix = L := List.take_of_length_le (by rw [← HNT.out]; exact Nat.le_refl _)
      rw [htl] at hos hoi
      have hgl : go < gp := by rw [HGP.out]; exact HOB3.out.lt
      obtain ⟨hE, y0, y1, y2⟩ := opR_setL (G := G) (Below.thn HB3.out hbr) HGE.out hob 2 A1 ix c1 A2 ix c2 (L.map fun x : Tok => x.1) (offsK p0 L) ⟨hos.mono (by omega), hoi.mono (by omega)⟩ true (by rw [hGn.out]; rfl) (fun o h => by rw [hGn.out] at h; injection h)
      obtain ⟨z0, z1, z2, z3, z4, z5⟩ := hob.three
      obtain ⟨v0, v1, v2, _⟩ := hbxr.three
      have HE := Lib.hid hE
      clear hE hbr hbxr hos hoi hob htl HI
      go_wp2
      refine bodyPost_ret (v := .tuple #[.agg #[.int .i64 2, .slice A1 ix c1, .slice A2 ix c2], .bool true]) (by simp [results, Tryz.results114, go_sem, y0, y1, y2]) rfl HE.out
end Go.Proofs.YtkkeodlnejckjaaGreat

/- What an item asks for, by the document. -/
namespace Go.Proofs.YtkkeodlnejckjaaGreat
open Go.RowKit Go.Shelf
set_option linter.unusedVariables false
set_option linter.unusedSimpArgs false

def IuF (gb go : Nat) (ad : Addr) (k ct : Nat) (A : Option Addr) (n c : Nat) (B : Option Addr) (m d : Nat) (cap : Int) (s : ByteArray) (o2 : Int) (A9 : Option Addr) (mm c9 : Nat) (G : Option QOp) (b0 : Nat) : Nat → Value → World → Prop
  | 0 => fun v w => v = .pointer (some ⟨gb, 0, none⟩)
  | 1 => fun v w => v = .pointer (some ⟨gb, 0, none⟩)
  | 2 => fun v w => v = .pointer (some ⟨gb, 0, none⟩)
  | 3 => fun v w => v = confV A n c B m d cap
  | 4 => fun v w => v = .slice (some ad) (k + 1) ct
  | 5 => fun v w => v = .int .i64 ((k : Int) + 1)
  | 6 => fun v w => v = .int .i64 (k : Nat)
  | 7 => fun v w => v = .slice (some ad) k ct
  | 8 => fun v w => v = .tuple #[.string s, .int .i64 o2]
  | 9 => fun v w => v = .tuple #[.string s, .int .i64 o2]
  | 10 => fun v w => v = .string s
  | 11 => fun v w => v = .int .i64 o2
  | 12 => fun v w => v = .string s
  | 13 => fun v w => v = .int .i64 o2
  | _ => fun _ _ => True
theorem IuF.below (gb go : Nat) (ad : Addr) (k ct : Nat) (A : Option Addr) (n c : Nat) (B : Option Addr) (m d : Nat) (cap : Int) (s : ByteArray) (o2 : Int) (A9 : Option Addr) (mm c9 : Nat) (G : Option QOp) (b0 : Nat) : ∀ i v w w', Below w.heap.size w w' → IuF gb go ad k ct A n c B m d cap s o2 A9 mm c9 G b0 i v w → IuF gb go ad k ct A n c B m d cap s o2 A9 mm c9 G b0 i v w'
  | 0, _, _, _, _, h => h
  | 1, _, _, _, _, h => h
  | 2, _, _, _, _, h => h
  | 3, _, _, _, _, h => h
  | 4, _, _, _, _, h => h
  | 5, _, _, _, _, h => h
  | 6, _, _, _, _, h => h
  | 7, _, _, _, _, h => h
  | 8, _, _, _, _, h => h
  | 9, _, _, _, _, h => h
  | 10, _, _, _, _, h => h
  | 11, _, _, _, _, h => h
  | 12, _, _, _, _, h => h
  | 13, _, _, _, _, h => h
  | _ + 14, _, _, _, _, _ => trivial
def IvF (gb go : Nat) (ad : Addr) (k ct : Nat) (A : Option Addr) (n c : Nat) (B : Option Addr) (m d : Nat) (cap : Int) (s : ByteArray) (o2 : Int) (A9 : Option Addr) (mm c9 : Nat) (G : Option QOp) (b0 : Nat) : Nat → Value → World → Prop
  | 0 => fun v w => v = .pointer (some ⟨gb, 0, none⟩)
  | 1 => fun v w => v = .pointer (some ⟨gb, 0, none⟩)
  | 2 => fun v w => v = .pointer (some ⟨gb, 0, none⟩)
  | 3 => fun v w => v = confV A n c B m d cap
  | 4 => fun v w => v = .slice (some ad) (k + 1) ct
  | 5 => fun v w => v = .int .i64 ((k : Int) + 1)
  | 6 => fun v w => v = .int .i64 (k : Nat)
  | 7 => fun v w => v = .slice A9 mm c9
  | 8 => fun v w => ∃ (k9 : Int) (B1 : Option Addr) (n1 : Nat) (d1 : Nat) (B2 : Option Addr) (n2 : Nat) (d2 : Nat) (ts : List ByteArray) (os : List Int), v = .tuple #[.agg #[.int .i64 k9, .slice B1 n1 d1, .slice B2 n2 d2], .bool G.isSome] ∧ OwnOp w b0 ((k9, ts, os), (B1, n1, d1), (B2, n2, d2)) ∧ (∀ o, G = some o → (k9, ts, os) = o)
  | 9 => fun v w => ∃ (k9 : Int) (B1 : Option Addr) (n1 : Nat) (d1 : Nat) (B2 : Option Addr) (n2 : Nat) (d2 : Nat) (ts : List ByteArray) (os : List Int), v = .agg #[.int .i64 k9, .slice B1 n1 d1, .slice B2 n2 d2] ∧ OwnOp w b0 ((k9, ts, os), (B1, n1, d1), (B2, n2, d2)) ∧ (∀ o, G = some o → (k9, ts, os) = o)
  | 10 => fun v w => v = .bool G.isSome
  | _ => fun _ _ => True
theorem IvF.below (gb go : Nat) (ad : Addr) (k ct : Nat) (A : Option Addr) (n c : Nat) (B : Option Addr) (m d : Nat) (cap : Int) (s : ByteArray) (o2 : Int) (A9 : Option Addr) (mm c9 : Nat) (G : Option QOp) (b0 : Nat) : ∀ i v w w', Below w.heap.size w w' → IvF gb go ad k ct A n c B m d cap s o2 A9 mm c9 G b0 i v w → IvF gb go ad k ct A n c B m d cap s o2 A9 mm c9 G b0 i v w'
  | 0, _, _, _, _, h => h
  | 1, _, _, _, _, h => h
  | 2, _, _, _, _, h => h
  | 3, _, _, _, _, h => h
  | 4, _, _, _, _, h => h
  | 5, _, _, _, _, h => h
  | 6, _, _, _, _, h => h
  | 7, _, _, _, _, h => h
  | 8, _, _, _, hb, h => by
    obtain ⟨k9, B1, n1, d1, B2, n2, d2, ts, os, e, g⟩ := h
    exact ⟨k9, B1, n1, d1, B2, n2, d2, ts, os, e, ⟨g.1.below hb, g.2⟩⟩
  | 9, _, _, _, hb, h => by
    obtain ⟨k9, B1, n1, d1, B2, n2, d2, ts, os, e, g⟩ := h
    exact ⟨k9, B1, n1, d1, B2, n2, d2, ts, os, e, ⟨g.1.below hb, g.2⟩⟩
  | 10, _, _, _, _, h => h
  | _ + 11, _, _, _, _, _ => trivial

/-- The document's reader's cells. -/
abbrev rrdL (A : Option Addr) (n c : Nat) (B : Option Addr) (m d : Nat) (cap : Int) (P : Option Addr) (np cp : Nat) (i e o b : Int) : List Value := [.slice A n c, .slice B m d, .int .i64 cap, .slice P np cp, .int .i64 i, .int .i64 e, .int .i64 o, .int .i64 b]
/-- What an item or a phrase asks for. -/
noncomputable def refItemG (cf : Cf) (b : List Nat) : Option QOp :=
  if b.getD 0 0 = 34 then (if b.length < 2 ∨ b.getD (b.length - 1) 0 ≠ 34 then none else asksG cf ((b.drop 1).take (b.length - 2))) else itemG cf b
set_option maxRecDepth 100000 in
set_option maxHeartbeats 8000000 in
theorem refItem_any (A : Option Addr) (n c : Nat) (B : Option Addr) (m d : Nat) (cf : Cf) (gb : Nat) (P : Option Addr) (np cp : Nat) (i_ e_ o_ b_ : Int) (T : Option Addr) (nt ct : Nat) (l : List Nat) (w : World) (hR : RdC w A n c B m d cf) (hbx : BoxA w gb 73 (rrdL A n c B m d cf.cap P np cp i_ e_ o_ b_))
    (ht : RdB w T nt l) (htc : nt ≤ ct) (hct : ct ≤ 9223372036854775807) (hn : nt ≤ 1000) (hm : m ≤ 1000000) (hn1 : 1 ≤ nt) :
    Calls Tryz.prog 101 #[.pointer (some ⟨gb, 0, none⟩), .slice T nt ct] w (OpR (refItemG cf l) w) := by
  have HR := Lib.hid hR
  have HT := Lib.hid ht
  obtain ⟨w1, hw1⟩ : ∃ w1, w1 = w.alloc (.cells #[.int .i64 0, .slice none 0 0, .slice none 0 0] 76) := ⟨_, rfl⟩
  obtain ⟨go, hgo⟩ : ∃ go, go = w.heap.size := ⟨_, rfl⟩
  have hb1 : Below w.heap.size w w1 := by rw [hw1]; exact (Below.refl _ _).alloc (Nat.le_refl _) _
  have HOB : Hid (BoxA w1 go 76 [.int .i64 0, .slice none 0 0, .slice none 0 0]) := Lib.hid (by rw [hw1, hgo]; exact BoxA.new _ _ _)
  have HGS : Hid (w1.heap.size = go + 1) := Lib.hid (by rw [hw1, hgo]; simp)
  have HW1 := Lib.hid hw1
  have HGO := Lib.hid hgo
  have HGE : Hid (w.heap.size ≤ go) := Lib.hid (by omega)
  have HB1 := Lib.hid hb1
  have HBX := Lib.hid (hbx.below hb1)
  obtain ⟨k, rfl⟩ : ∃ k, nt = k + 1 := ⟨nt - 1, by omega⟩
  have hlen : l.length = k + 1 := ht.len
  obtain ⟨ad, x, rfl, HX, hx256, x0⟩ := ht.at (k := 0) (by omega)
  obtain ⟨ad', y, had, HY, hy256, yk⟩ := ht.at (k := k) (by omega)
  cases had
  rw [Addr.add_zero'] at x0
  obtain ⟨G, hG⟩ : ∃ G, G = refItemG cf l := ⟨_, rfl⟩
  have hGI : G = if x = 34 then (if k + 1 < 2 ∨ y ≠ 34 then none else asksG cf ((l.drop 1).take (k - 1))) else if k = 0 ∨ y ≠ 42 then asksG cf l else if (oneX cf (l.take k)).2 = 0 then some (3, [(oneX cf (l.take k)).1], []) else none := by
    rw [hG, HX.out, HY.out]
    unfold refItemG itemG
    rw [show l.length - 1 = k by omega, show l.length - 2 = k - 1 by omega, hlen]
  have HG := Lib.hid hGI
  have u0 := cell_keep hb1 x0
  have uk := cell_keep hb1 yk
  have hk1000 : k ≤ 999 := by omega
  have hwk : IntKind.i64.wrap ((k : Int) + 1 - 1) = (k : Int) := by rw [IntKind.wrap_i64]; omega
  have hwk1 : IntKind.i64.wrap (k : Int) = (k : Int) := by rw [IntKind.wrap_i64]; omega
  have G0 : Hid (w1.cell? ⟨gb, 0, none⟩ = some (.slice A n c)) := Lib.hid (HBX.out.cell 0 _ rfl)
  have G1 : Hid (w1.cell? ⟨gb, 1, none⟩ = some (.slice B m d)) := Lib.hid (HBX.out.cell 1 _ rfl)
  obtain ⟨cap, hcap⟩ : ∃ cap, cap = cf.cap := ⟨_, rfl⟩
  have G2 : Hid (w1.cell? ⟨gb, 2, none⟩ = some (.int .i64 cap)) := Lib.hid (by rw [hcap]; exact HBX.out.cell 2 _ rfl)
  have HCAP := Lib.hid hcap
  rw [← hG]
  clear hR hw1 hgo hb1 hbx ht hlen hG hGI HX HY x0 yk hcap hn
  by_cases hx : x = 34
  · have hq34 : ((x : Int) == 34) = true := by rw [hx]; rfl
    have HG1 : Hid (G = (if k + 1 < 2 ∨ y ≠ 34 then none else asksG cf ((l.drop 1).take (k - 1)))) := Lib.hid (by rw [HG.out, if_pos hx])
    clear HG hx
    have HG := HG1
    clear HG1
    by_cases hk : k = 0
    · subst hk
      have hGn : Hid (G = none) := Lib.hid (by rw [HG.out]; exact if_pos (.inl (by omega)))
      obtain ⟨hE, y0, y1, y2⟩ := opR_setL (G := G) HB1.out HGE.out HOB.out 0 none 0 0 none 0 0 [] [] (OwnOp.nil _ _ _) false (by rw [hGn.out]; rfl) (fun o h => by rw [hGn.out] at h; cases h)
      obtain ⟨z0, z1, z2, z3, z4, z5⟩ := HOB.out.three
      have HE := Lib.hid hE
      have hbd : ∀ W : World, (Instr.build 76 #[]).run Tryz.prog W = .ok (.agg #[.int .i64 0, .slice none 0 0, .slice none 0 0]) W := fun W => run_build W 76 _ _ (by kernel_rfl)
      clear hE HG
      go_enter Tryz.func101, Tryz.ntmps101
      go_upto_region 1 with fail
      rw [← HW1.out, ← HGO.out]
      go_wp2
      refine bodyPost_ret (v := .tuple #[.agg #[.int .i64 0, .slice none 0 0, .slice none 0 0], .bool false]) (by simp [results, Tryz.results101, go_sem, y0, y1, y2]) rfl HE.out
    have hk2 : ¬ ((k : Int) + 1 < 2) := by omega
    by_cases hy : y = 34
    case neg =>
      have hqy : ((y : Int) == 34) = false := by simp; omega
      have hGn : Hid (G = none) := Lib.hid (by rw [HG.out]; exact if_pos (.inr hy))
      obtain ⟨hE, y0, y1, y2⟩ := opR_setL (G := G) HB1.out HGE.out HOB.out 0 none 0 0 none 0 0 [] [] (OwnOp.nil _ _ _) false (by rw [hGn.out]; rfl) (fun o h => by rw [hGn.out] at h; cases h)
      obtain ⟨z0, z1, z2, z3, z4, z5⟩ := HOB.out.three
      have HE := Lib.hid hE
      have hbd : ∀ W : World, (Instr.build 76 #[]).run Tryz.prog W = .ok (.agg #[.int .i64 0, .slice none 0 0, .slice none 0 0]) W := fun W => run_build W 76 _ _ (by kernel_rfl)
      clear hE HG
      go_enter Tryz.func101, Tryz.ntmps101
      go_upto_region 1 with fail
      rw [← HW1.out, ← HGO.out]
      go_wp2
      refine bodyPost_ret (v := .tuple #[.agg #[.int .i64 0, .slice none 0 0, .slice none 0 0], .bool false]) (by simp [results, Tryz.results101, go_sem, y0, y1, y2]) rfl HE.out
    have hqy : ((y : Int) == 34) = true := by rw [hy]; rfl
    have HG1 : Hid (G = asksG cf ((l.drop 1).take (k - 1))) := Lib.hid (by rw [HG.out]; exact if_neg (fun h => by rcases h with h | h; omega; exact h hy))
    obtain ⟨A9, hA9⟩ : ∃ A9, A9 = cutAt (some ad) ct 1 := ⟨_, rfl⟩
    obtain ⟨c9, hc9⟩ : ∃ c9, c9 = ct - 1 := ⟨_, rfl⟩
    obtain ⟨mm, hmm⟩ : ∃ mm, mm = k - 1 := ⟨_, rfl⟩
    have hcut : ∀ W : World, (Instr.slice 26 (.slice (some ad) (k + 1) ct) (some (.int .i64 1)) (some (.int .i64 (k : Nat))) none).run Tryz.prog W = .ok (.slice A9 mm c9) W := fun W => by
      have := run_cut_lh (some ad) (k + 1) ct 1 k (by omega) (by omega) W
      rw [hA9, hc9, hmm]
      exact this
    have hrd9 : RdB w A9 mm ((l.drop 1).take (k - 1)) := by
      have h1 := HT.out.cut (k := 1) (by omega) htc
      rw [← hA9] at h1
      have h2 := h1.take mm (by omega)
      rw [hmm] at h2 ⊢
      exact h2
    have C2 : Hid (∀ w9, Below w1.heap.size w1 w9 → Calls Tryz.prog 114 #[confV A n c B m d cap, .slice A9 mm c9] w9 (OpR G w9)) := Lib.hid fun w9 h9 => by
      rw [HG1.out, HCAP.out]
      have hB9 := Below.thn HB1.out h9
      exact refAsks_any A n c B m d cf A9 mm c9 _ w9 (HR.out.below hB9) (hrd9.below hB9) (by omega) (by omega) (by omega) hm
    obtain ⟨b0, hb0⟩ : ∃ b0, b0 = go + 1 := ⟨_, rfl⟩
    have HBE := Lib.hid hb0
    have HBB : Hid (b0 ≤ w1.heap.size) := Lib.hid (by have := HGS.out; omega)
    clear HG hy hA9 hc9 hmm hrd9 HG1 hb0
    go_enter Tryz.func101, Tryz.ntmps101
    go_upto_region 1 with fail
    rw [← HW1.out, ← HGO.out]
    go_wp2_with fail
    clear u0 uk
    rename_i K1 hK1
    have s := ByteArray.empty
    have o2 : Int := 0
    refine wp_region_flowT 11 (by kernel_rfl) (by kernel_rfl) (IvF gb go ad k ct A n c B m d cap s o2 A9 mm c9 G b0) (IvF.below gb go ad k ct A n c B m d cap s o2 A9 mm c9 G b0) (by kernel_rfl) (by kernel_rfl) ?_ ?_
    case refine_1 =>
      intro i o hit ho ρ y w2 hb2 hreg hn hf hyb hyn
      obtain rfl | rfl | rfl | rfl | rfl | rfl | rfl | rfl | rfl | rfl | rfl : i = 0 ∨ i = 1 ∨ i = 2 ∨ i = 3 ∨ i = 4 ∨ i = 5 ∨ i = 6 ∨ i = 7 ∨ i = 8 ∨ i = 9 ∨ i = 10 := by omega
      · cases ho
        rw [if_pos (show Region.wanted _ y = true from rfl)]
        have f0 : ρ (.tmp 0) = .pointer (some ⟨gb, 0, none⟩) := hf 0 (by kernel_rfl)
        exact ⟨f0, Below.refl _ _⟩
      · cases ho
        rw [if_pos (show Region.wanted _ y = true from rfl)]
        have f26 : ρ (.tmp 26) = .pointer (some ⟨gb, 0, none⟩) := hn 0 _ 26 rfl (by kernel_rfl) rfl
        exact does_ok (v := .pointer (some ⟨gb, 0, none⟩)) (w' := w2) (by simp [go_sem, hreg.const, f26]) ⟨rfl, Below.refl _ _⟩
      · cases ho
        rw [if_pos (show Region.wanted _ y = true from rfl)]
        have f27 : ρ (.tmp 27) = .pointer (some ⟨gb, 0, none⟩) := hn 1 _ 27 rfl (by kernel_rfl) rfl
        exact does_ok (v := .pointer (some ⟨gb, 0, none⟩)) (w' := w2) (by simp [go_sem, hreg.const, f27]) ⟨rfl, Below.refl _ _⟩
      · cases ho
        rw [if_pos (show Region.wanted _ y = true from rfl)]
        have f28 : ρ (.tmp 28) = .pointer (some ⟨gb, 0, none⟩) := hn 2 _ 28 rfl (by kernel_rfl) rfl
        have k0 := cell_keep hb2 G0.out
        have k1 := cell_keep hb2 G1.out
        have k2 := cell_keep hb2 G2.out
        exact does_ok (v := confV A n c B m d cap) (w' := w2) (by simp [go_sem, hreg.const, f28, k0, k1, k2]) ⟨rfl, Below.refl _ _⟩
      · cases ho
        rw [if_pos (show Region.wanted _ y = true from rfl)]
        have f1 : ρ (.tmp 1) = .slice (some ad) (k + 1) ct := hf 1 (by kernel_rfl)
        exact ⟨f1, Below.refl _ _⟩
      · cases ho
        rw [if_pos (show Region.wanted _ y = true from rfl)]
        have f6 : ρ (.tmp 6) = .int .i64 ((k : Int) + 1) := hf 6 (by kernel_rfl)
        exact ⟨f6, Below.refl _ _⟩
      · cases ho
        rw [if_pos (show Region.wanted _ y = true from rfl)]
        have f31 : ρ (.tmp 31) = .int .i64 ((k : Int) + 1) := hn 5 _ 31 rfl (by kernel_rfl) rfl
        exact does_ok (v := .int .i64 (k : Nat)) (w' := w2) (by simp [go_sem, hreg.const, f31, hwk, hwk1]) ⟨rfl, Below.refl _ _⟩
      · cases ho
        rw [if_pos (show Region.wanted _ y = true from rfl)]
        have f30 : ρ (.tmp 30) = .slice (some ad) (k + 1) ct := hn 4 _ 30 rfl (by kernel_rfl) rfl
        have f32 : ρ (.tmp 32) = .int .i64 (k : Nat) := hn 6 _ 32 rfl (by kernel_rfl) rfl
        exact does_ok (v := .slice A9 mm c9) (w' := w2) (by simp [go_sem, hreg.const, f30, f32, hcut]) ⟨rfl, Below.refl _ _⟩
      · cases ho
        rw [if_pos (show Region.wanted _ y = true from rfl)]
        have f29 : ρ (.tmp 29) = confV A n c B m d cap := hn 3 _ 29 rfl (by kernel_rfl) rfl
        have f33 : ρ (.tmp 33) = .slice A9 mm c9 := hn 7 _ 33 rfl (by kernel_rfl) rfl
        refine does_enter (f := 114) (args := #[confV A n c B m d cap, .slice A9 mm c9]) (w' := w2) (by simp [go_sem, hreg.func, hreg.const, f29, f33]) ?_
        refine (C2.out w2 hb2).mono ?_
        rintro e w' ⟨k9, B1, n1, d1, B2, n2, d2, ts, os, rfl, hop, hG, hb⟩
        exact ⟨_, rfl, ⟨k9, B1, n1, d1, B2, n2, d2, ts, os, rfl, hop.mono (Nat.le_trans HBB.out hb2.size), hG⟩, hb⟩
      · cases ho
        rw [if_pos (show Region.wanted _ y = true from rfl)]
        obtain ⟨k9, B1, n1, d1, B2, n2, d2, ts, os, f34, g34⟩ : ∃ (k9 : Int) (B1 : Option Addr) (n1 : Nat) (d1 : Nat) (B2 : Option Addr) (n2 : Nat) (d2 : Nat) (ts : List ByteArray) (os : List Int), ρ (.tmp 34) = .tuple #[.agg #[.int .i64 k9, .slice B1 n1 d1, .slice B2 n2 d2], .bool G.isSome] ∧ OwnOp w2 b0 ((k9, ts, os), (B1, n1, d1), (B2, n2, d2)) ∧ (∀ o, G = some o → (k9, ts, os) = o) := hn 8 _ 34 rfl (by kernel_rfl) rfl
        exact does_ok (v := .agg #[.int .i64 k9, .slice B1 n1 d1, .slice B2 n2 d2]) (w' := w2) (by simp [go_sem, hreg.const, f34]) ⟨⟨k9, B1, n1, d1, B2, n2, d2, ts, os, rfl, g34⟩, Below.refl _ _⟩
      · cases ho
        rw [if_pos (show Region.wanted _ y = true from rfl)]
        obtain ⟨k9, B1, n1, d1, B2, n2, d2, ts, os, f34, g34⟩ : ∃ (k9 : Int) (B1 : Option Addr) (n1 : Nat) (d1 : Nat) (B2 : Option Addr) (n2 : Nat) (d2 : Nat) (ts : List ByteArray) (os : List Int), ρ (.tmp 34) = .tuple #[.agg #[.int .i64 k9, .slice B1 n1 d1, .slice B2 n2 d2], .bool G.isSome] ∧ OwnOp w2 b0 ((k9, ts, os), (B1, n1, d1), (B2, n2, d2)) ∧ (∀ o, G = some o → (k9, ts, os) = o) := hn 8 _ 34 rfl (by kernel_rfl) rfl
        exact does_ok (v := .bool G.isSome) (w' := w2) (by simp [go_sem, hreg.const, f34]) ⟨rfl, Below.refl _ _⟩
    case refine_2 =>
      intro a w2 hb2 hd hs hfacts hrest
      obtain ⟨k9, B1, n1, d1, B2, n2, d2, ts, os, q35, g35⟩ : ∃ (k9 : Int) (B1 : Option Addr) (n1 : Nat) (d1 : Nat) (B2 : Option Addr) (n2 : Nat) (d2 : Nat) (ts : List ByteArray) (os : List Int), a.tmps.getD 35 undef = .agg #[.int .i64 k9, .slice B1 n1 d1, .slice B2 n2 d2] ∧ OwnOp w2 b0 ((k9, ts, os), (B1, n1, d1), (B2, n2, d2)) ∧ (∀ o, G = some o → (k9, ts, os) = o) := hfacts 9 _ 35 (by decide) rfl rfl
      have q36 : a.tmps.getD 36 undef = .bool G.isSome := hfacts 10 _ 36 (by decide) rfl rfl
      have ha := frame_ofP hd hs hrest [26, 27, 28, 29, 30, 31, 32, 33, 34, 35, 36] (by kernel_rfl)
      simp only [q35, q36, List.foldl, List.setIfInBounds_toArray, List.set_cons_succ, List.set_cons_zero] at ha
      clear q35 q36 hd hs hfacts hrest
      generalize a.tmps.getD = gg at ha
      subst ha
      obtain ⟨hop, hGG⟩ := g35
      rw [HBE.out] at hop
      have hob := HOB.out.below hb2
      obtain ⟨hE, y0, y1, y2⟩ := opR_setL (G := G) (Below.thn HB1.out hb2) HGE.out hob k9 B1 n1 d1 B2 n2 d2 ts os hop G.isSome rfl hGG
      obtain ⟨z0, z1, z2, z3, z4, z5⟩ := hob.three
      have HE := Lib.hid hE
      clear hE hob hop hGG hb2
      simp only [List.drop_succ_cons, List.drop_zero]
      go_wp2
      refine bodyPost_ret (v := .tuple #[.agg #[.int .i64 k9, .slice B1 n1 d1, .slice B2 n2 d2], .bool G.isSome]) (by simp [results, Tryz.results101, go_sem, y0, y1, y2]) rfl HE.out
  have hq34 : ((x : Int) == 34) = false := by simp; omega
  have HG1 : Hid (G = if k = 0 ∨ y ≠ 42 then asksG cf l else if (oneX cf (l.take k)).2 = 0 then some (3, [(oneX cf (l.take k)).1], []) else none) := Lib.hid (by rw [HG.out, if_neg hx])
  clear HG hx
  have HG := HG1
  clear HG1
  by_cases hk : k = 0
  · subst hk
    have C1 := Lib.hid (refAsks_any A n c B m d cf (some ad) (0 + 1) ct l w1 (HR.out.below HB1.out) (HT.out.below HB1.out) (by omega) (by omega) (by omega) hm)
    have hGn : Hid (G = asksG cf l) := Lib.hid (by rw [HG.out]; exact if_pos (.inl rfl))
    rw [← hGn.out, ← HCAP.out] at C1
    obtain ⟨y0, y1, y2⟩ : w1.cell? ⟨gb, 0, none⟩ = some (.slice A n c) ∧ w1.cell? ⟨gb, 1, none⟩ = some (.slice B m d) ∧ w1.cell? ⟨gb, 2, none⟩ = some (.int .i64 cap) := ⟨G0.out, G1.out, G2.out⟩
    clear HG
    go_enter Tryz.func101, Tryz.ntmps101
    go_upto_region 1 with fail
    rw [← HW1.out, ← HGO.out]
    go_wp2_with fail
    refine C1.out.mono ?_
    rintro e w2 ⟨ko, A1, n1, c1, A2, n2, c2, ts, os, rfl, hop, hG, hb⟩
    clear y0 y1 y2
    have hob := HOB.out.below hb
    have hop' : OwnOp w2 (go + 1) ((ko, ts, os), (A1, n1, c1), (A2, n2, c2)) := hop.mono (by have := HGS.out; omega)
    obtain ⟨hE, y0, y1, y2⟩ := opR_setL (G := G) (Below.thn HB1.out hb) HGE.out hob ko A1 n1 c1 A2 n2 c2 ts os hop' G.isSome rfl hG
    obtain ⟨z0, z1, z2, z3, z4, z5⟩ := hob.three
    have HE := Lib.hid hE
    clear hE hob hop hop' hG hb C1
    go_wp2
    refine bodyPost_ret (v := .tuple #[.agg #[.int .i64 ko, .slice A1 n1 c1, .slice A2 n2 c2], .bool G.isSome]) (by simp [results, Tryz.results101, go_sem, y0, y1, y2]) rfl HE.out
  have hk2 : (k : Int) + 1 > 1 := by omega
  by_cases hy : y = 42
  case neg =>
    have hqy : ((y : Int) == 42) = false := by simp; omega
    have C1 := Lib.hid (refAsks_any A n c B m d cf (some ad) (k + 1) ct l w1 (HR.out.below HB1.out) (HT.out.below HB1.out) (by omega) (by omega) (by omega) hm)
    have hGn : Hid (G = asksG cf l) := Lib.hid (by rw [HG.out]; exact if_pos (.inr hy))
    rw [← hGn.out, ← HCAP.out] at C1
    obtain ⟨y0, y1, y2⟩ : w1.cell? ⟨gb, 0, none⟩ = some (.slice A n c) ∧ w1.cell? ⟨gb, 1, none⟩ = some (.slice B m d) ∧ w1.cell? ⟨gb, 2, none⟩ = some (.int .i64 cap) := ⟨G0.out, G1.out, G2.out⟩
    clear HG
    go_enter Tryz.func101, Tryz.ntmps101
    go_upto_region 1 with fail
    rw [← HW1.out, ← HGO.out]
    go_wp2_with fail
    refine C1.out.mono ?_
    rintro e w2 ⟨ko, A1, n1, c1, A2, n2, c2, ts, os, rfl, hop, hG, hb⟩
    clear y0 y1 y2
    have hob := HOB.out.below hb
    have hop' : OwnOp w2 (go + 1) ((ko, ts, os), (A1, n1, c1), (A2, n2, c2)) := hop.mono (by have := HGS.out; omega)
    obtain ⟨hE, y0, y1, y2⟩ := opR_setL (G := G) (Below.thn HB1.out hb) HGE.out hob ko A1 n1 c1 A2 n2 c2 ts os hop' G.isSome rfl hG
    obtain ⟨z0, z1, z2, z3, z4, z5⟩ := hob.three
    have HE := Lib.hid hE
    clear hE hob hop hop' hG hb C1
    go_wp2
    refine bodyPost_ret (v := .tuple #[.agg #[.int .i64 ko, .slice A1 n1 c1, .slice A2 n2 c2], .bool G.isSome]) (by simp [results, Tryz.results101, go_sem, y0, y1, y2]) rfl HE.out
  have hqy : ((y : Int) == 42) = true := by rw [hy]; rfl
  obtain ⟨s, hs⟩ : ∃ s, s = (oneX cf (l.take k)).1 := ⟨_, rfl⟩
  obtain ⟨o2, ho2⟩ : ∃ o2, o2 = (oneX cf (l.take k)).2 := ⟨_, rfl⟩
  have HGn : Hid (G = if o2 = 0 then some (3, [s], []) else none) := Lib.hid (by
    rw [HG.out, if_neg (fun h => by rcases h with h | h; exact hk h; exact h hy), hs, ho2])
  have C1 : Hid (∀ w9, Below w1.heap.size w1 w9 → Calls Tryz.prog 14 #[confV A n c B m d cap, .slice (some ad) k ct] w9 fun e w' => e = .returned (.tuple #[.string s, .int .i64 o2]) ∧ Below w9.heap.size w9 w') := Lib.hid fun w9 h9 => by
    rw [hs, ho2, HCAP.out]
    have hB9 := Below.thn HB1.out h9
    exact refOne_any A n c B m d cf (some ad) k ct (l.take k) w9 (HR.out.below hB9) ((HT.out.take k (by omega)).below hB9) (by omega) (by omega) (by omega)
  have hcut := run_cut_h (some ad) (k + 1) ct k (by omega)
  clear HG hs ho2 hy
  go_enter Tryz.func101, Tryz.ntmps101
  go_upto_region 1 with fail
  rw [← HW1.out, ← HGO.out]
  go_wp2_with fail
  clear u0 uk
  rename_i K1 hK1
  have A9 : Option Addr := none
  have mm := 0
  have c9 := 0
  have b0 := 0
  refine wp_region_flow (by kernel_rfl) (IuF gb go ad k ct A n c B m d cap s o2 A9 mm c9 G b0) (IuF.below gb go ad k ct A n c B m d cap s o2 A9 mm c9 G b0) (by kernel_rfl) (by kernel_rfl) ?_ ?_
  case refine_1 =>
    intro i o ho ρ y w2 hb2 hreg hn hf hyb hyn
    have hi := (Array.getElem?_eq_some_iff.1 ho).1
    rcases Nat.lt_or_ge i 14 with hi2 | hi2
    case inr => simp at hi; omega
    obtain rfl | rfl | rfl | rfl | rfl | rfl | rfl | rfl | rfl | rfl | rfl | rfl | rfl | rfl : i = 0 ∨ i = 1 ∨ i = 2 ∨ i = 3 ∨ i = 4 ∨ i = 5 ∨ i = 6 ∨ i = 7 ∨ i = 8 ∨ i = 9 ∨ i = 10 ∨ i = 11 ∨ i = 12 ∨ i = 13 := by omega
    · cases ho
      rw [if_pos (show Region.wanted _ y = true from rfl)]
      have f0 : ρ (.tmp 0) = .pointer (some ⟨gb, 0, none⟩) := hf 0 (by kernel_rfl)
      exact ⟨f0, Below.refl _ _⟩
    · cases ho
      rw [if_pos (show Region.wanted _ y = true from rfl)]
      have f48 : ρ (.tmp 48) = .pointer (some ⟨gb, 0, none⟩) := hn 0 _ 48 rfl (by kernel_rfl) rfl
      exact does_ok (v := .pointer (some ⟨gb, 0, none⟩)) (w' := w2) (by simp [go_sem, hreg.const, f48]) ⟨rfl, Below.refl _ _⟩
    · cases ho
      rw [if_pos (show Region.wanted _ y = true from rfl)]
      have f49 : ρ (.tmp 49) = .pointer (some ⟨gb, 0, none⟩) := hn 1 _ 49 rfl (by kernel_rfl) rfl
      exact does_ok (v := .pointer (some ⟨gb, 0, none⟩)) (w' := w2) (by simp [go_sem, hreg.const, f49]) ⟨rfl, Below.refl _ _⟩
    · cases ho
      rw [if_pos (show Region.wanted _ y = true from rfl)]
      have f50 : ρ (.tmp 50) = .pointer (some ⟨gb, 0, none⟩) := hn 2 _ 50 rfl (by kernel_rfl) rfl
      have k0 := cell_keep hb2 G0.out
      have k1 := cell_keep hb2 G1.out
      have k2 := cell_keep hb2 G2.out
      exact does_ok (v := confV A n c B m d cap) (w' := w2) (by simp [go_sem, hreg.const, f50, k0, k1, k2]) ⟨rfl, Below.refl _ _⟩
    · cases ho
      rw [if_pos (show Region.wanted _ y = true from rfl)]
      have f1 : ρ (.tmp 1) = .slice (some ad) (k + 1) ct := hf 1 (by kernel_rfl)
      exact ⟨f1, Below.refl _ _⟩
    · cases ho
      rw [if_pos (show Region.wanted _ y = true from rfl)]
      have f6 : ρ (.tmp 6) = .int .i64 ((k : Int) + 1) := hf 6 (by kernel_rfl)
      exact ⟨f6, Below.refl _ _⟩
    · cases ho
      rw [if_pos (show Region.wanted _ y = true from rfl)]
      have f53 : ρ (.tmp 53) = .int .i64 ((k : Int) + 1) := hn 5 _ 53 rfl (by kernel_rfl) rfl
      exact does_ok (v := .int .i64 (k : Nat)) (w' := w2) (by simp [go_sem, hreg.const, f53, hwk, hwk1]) ⟨rfl, Below.refl _ _⟩
    · cases ho
      rw [if_pos (show Region.wanted _ y = true from rfl)]
      have f52 : ρ (.tmp 52) = .slice (some ad) (k + 1) ct := hn 4 _ 52 rfl (by kernel_rfl) rfl
      have f54 : ρ (.tmp 54) = .int .i64 (k : Nat) := hn 6 _ 54 rfl (by kernel_rfl) rfl
      exact does_ok (v := .slice (some ad) k ct) (w' := w2) (by simp [go_sem, hreg.const, f52, f54, hcut]) ⟨rfl, Below.refl _ _⟩
    · cases ho
      rw [if_pos (show Region.wanted _ y = true from rfl)]
      have f51 : ρ (.tmp 51) = confV A n c B m d cap := hn 3 _ 51 rfl (by kernel_rfl) rfl
      have f55 : ρ (.tmp 55) = .slice (some ad) k ct := hn 7 _ 55 rfl (by kernel_rfl) rfl
      refine does_enter (f := 14) (args := #[confV A n c B m d cap, .slice (some ad) k ct]) (w' := w2) (by simp [go_sem, hreg.func, hreg.const, f51, f55]) ?_
      refine (C1.out w2 hb2).mono ?_
      rintro e w' ⟨rfl, hb⟩
      exact ⟨_, rfl, rfl, hb⟩
    · cases ho
      rw [if_pos (show Region.wanted _ y = true from rfl)]
      have f56 : ρ (.tmp 56) = .tuple #[.string s, .int .i64 o2] := hn 8 _ 56 rfl (by kernel_rfl) rfl
      exact ⟨f56, Below.refl _ _⟩
    · cases ho
      rw [if_pos (show Region.wanted _ y = true from rfl)]
      have f47 : ρ (.tmp 47) = .tuple #[.string s, .int .i64 o2] := hn 9 _ 47 rfl (by kernel_rfl) rfl
      exact does_ok (v := .string s) (w' := w2) (by simp [go_sem, hreg.const, f47]) ⟨rfl, Below.refl _ _⟩
    · cases ho
      rw [if_pos (show Region.wanted _ y = true from rfl)]
      have f47 : ρ (.tmp 47) = .tuple #[.string s, .int .i64 o2] := hn 9 _ 47 rfl (by kernel_rfl) rfl
      exact does_ok (v := .int .i64 o2) (w' := w2) (by simp [go_sem, hreg.const, f47]) ⟨rfl, Below.refl _ _⟩
    · cases ho
      rw [if_pos (show Region.wanted _ y = true from rfl)]
      have f57 : ρ (.tmp 57) = .string s := hn 10 _ 57 rfl (by kernel_rfl) rfl
      exact ⟨f57, Below.refl _ _⟩
    · cases ho
      rw [if_pos (show Region.wanted _ y = true from rfl)]
      have f58 : ρ (.tmp 58) = .int .i64 o2 := hn 11 _ 58 rfl (by kernel_rfl) rfl
      exact ⟨f58, Below.refl _ _⟩
  case refine_2 =>
    intro a w2 hb2 hd hs hfacts hrest
    have q7 : a.tmps.getD 7 undef = .string s := hfacts 12 _ 7 rfl rfl
    have q8 : a.tmps.getD 8 undef = .int .i64 o2 := hfacts 13 _ 8 rfl rfl
    have ha := frame_of hd hs hrest [7, 8, 47, 48, 49, 50, 51, 52, 53, 54, 55, 56, 57, 58] (by kernel_rfl)
    simp only [q7, q8, List.foldl, List.setIfInBounds_toArray, List.set_cons_succ, List.set_cons_zero] at ha
    clear q7 q8 hd hs hfacts hrest
    generalize a.tmps.getD = gg at ha
    subst ha
    have hob := HOB.out.below hb2
    have hbd : ∀ W : World, (Instr.build 76 #[(0, .int .i64 3), (1, .slice (some ⟨w2.heap.size, 0, none⟩) 1 1)]).run Tryz.prog W = .ok (.agg #[.int .i64 3, .slice (some ⟨w2.heap.size, 0, none⟩) 1 1, .slice none 0 0]) W := fun W => run_build W 76 _ _ (by kernel_rfl)
    obtain ⟨z0, z1, z2, z3, z4, z5⟩ := hob.three
    obtain ⟨w4, hw4⟩ : ∃ w4, w4 = w2.alloc (.cells #[.string s] 9) := ⟨_, rfl⟩
    have hb4 : Below w2.heap.size w2 w4 := by rw [hw4]; exact (Below.refl _ _).alloc (Nat.le_refl _) _
    have hop : OwnOp w4 (go + 1) ((3, [s], []), (some ⟨w2.heap.size, 0, none⟩, 1, 1), (none, 0, 0)) := ⟨by
      rw [hw4]
      exact OwnL.lit w2 (go + 1) 9 [s] #[.string s] 1 rfl rfl hob.lt (by decide), OwnL.nil _ _ _ _⟩
    obtain ⟨bb, hbb⟩ : ∃ bb, bb = G.isSome := ⟨_, rfl⟩
    obtain ⟨hE, y0, y1, y2⟩ := opR_setL (G := G) (Below.thn (Below.thn HB1.out hb2) hb4) HGE.out (hob.below hb4) 3 (some ⟨w2.heap.size, 0, none⟩) 1 1 none 0 0 [s] [] hop bb hbb (fun o h => by
      rw [HGn.out] at h
      split at h
      · injection h
      · cases h)
    have hq0 := hob.lt
    have hcm : (((w4.setCell ⟨go, 0, none⟩ (.int .i64 3)).setCell ⟨go, 1, none⟩ (.slice (some ⟨w2.heap.size, 0, none⟩) 1 1)).setCell ⟨go, 2, none⟩ (.slice none 0 0)) = (((w2.setCell ⟨go, 0, none⟩ (.int .i64 3)).setCell ⟨go, 1, none⟩ (.slice (some ⟨w2.heap.size, 0, none⟩) 1 1)).setCell ⟨go, 2, none⟩ (.slice none 0 0)).alloc (.cells #[.string s] 9) := by
      rw [hw4, World.setCell_alloc_past _ _ _ _ hq0, World.setCell_alloc_past _ _ _ _ (by simp; exact hq0), World.setCell_alloc_past _ _ _ _ (by simp; exact hq0)]
    rw [hcm] at hE y0 y1 y2
    have HE := Lib.hid hE
    have hbo : bb = (o2 == 0) := by
      rw [hbb, HGn.out]
      by_cases h : o2 = 0
      · rw [if_pos h, h]; rfl
      · rw [if_neg h]; simp [h]
    clear hE hob hop hcm hw4 hb4 hbb hb2 HGn C1 HB1
    subst hbo
    go_wp2
    refine bodyPost_ret (v := .tuple #[.agg #[.int .i64 3, .slice (some ⟨w2.heap.size, 0, none⟩) 1 1, .slice none 0 0], .bool (o2 == 0)]) (by simp [results, Tryz.results101, go_sem, y0, y1, y2]) rfl HE.out
end Go.Proofs.YtkkeodlnejckjaaGreat

/- The document's reader: its state, the next piece, a fault. -/
namespace Go.Proofs.YtkkeodlnejckjaaGreat
open Go.RowKit Go.Shelf
set_option linter.unusedVariables false
set_option linter.unusedSimpArgs false

theorem quoteN_some : ∀ {l : List Nat} {n : Nat}, quoteN l = some n → l.getD n 0 = 34
  | [], n, h => by cases h
  | c :: r, n, h => by
    unfold quoteN at h
    split at h
    · rename_i hc
      injection h with h
      subst h
      exact hc
    · cases hq : quoteN r with
      | none => rw [hq] at h; cases h
      | some k =>
        rw [hq] at h
        simp at h
        subst h
        have := quoteN_some hq
        simpa using this
theorem quoteN_none : ∀ {l : List Nat}, quoteN l = none → ∀ i, i < l.length → l.getD i 0 ≠ 34
  | [], _, i, hi => by cases hi
  | c :: r, h, i, hi => by
    unfold quoteN at h
    split at h
    · cases h
    · rename_i hc
      cases hq : quoteN r with
      | some k => rw [hq] at h; cases h
      | none =>
        cases i with
        | zero => exact hc
        | succ i =>
          have := quoteN_none hq i (by simpa using hi)
          simpa using this
/-- What a piece is, by its bytes. -/
def kindB (b : List Nat) : Nat := if b = [40] then 1 else if b = [41] then 2 else if b.getD 0 0 = 34 then (if b.length < 2 ∨ b.getD (b.length - 1) 0 ≠ 34 then 4 else 3) else wordK b
theorem kind_cut (c : Nat) (r : List Nat) : (cutK (c :: r)).1 = kindB ((c :: r).take (cutK (c :: r)).2) := by
  rw [cutK_cons]
  by_cases h1 : c = 40
  · rw [if_pos h1]; subst h1; rfl
  rw [if_neg h1]
  by_cases h2 : c = 41
  · rw [if_pos h2]; subst h2; rfl
  rw [if_neg h2]
  have n40 : ∀ x : List Nat, ¬ c :: x = [40] := fun x e => by injection e with e1 e2; exact h1 e1
  have n41 : ∀ x : List Nat, ¬ c :: x = [41] := fun x e => by injection e with e1 e2; exact h2 e1
  by_cases h3 : c = 34
  · rw [if_pos h3]
    cases hq : quoteN r with
    | none =>
      show 4 = kindB ((c :: r).take (r.length + 1))
      rw [List.take_of_length_le (by simp)]
      unfold kindB
      rw [if_neg (n40 _), if_neg (n41 _), if_pos (show (c :: r).getD 0 0 = 34 from h3)]
      refine (if_pos ?_).symm
      rcases Nat.eq_zero_or_pos r.length with h | h
      · left; simp [h]
      · right
        have := quoteN_none hq (r.length - 1) (by omega)
        rw [show (c :: r).length - 1 = (r.length - 1) + 1 by simp; omega]
        simpa using this
    | some n =>
      show 3 = kindB ((c :: r).take (n + 2))
      have hn := quoteN_lt hq
      have h34 := quoteN_some hq
      rw [show n + 2 = (n + 1) + 1 by omega, List.take_succ_cons]
      unfold kindB
      rw [if_neg (n40 _), if_neg (n41 _), if_pos (show (c :: r.take (n + 1)).getD 0 0 = 34 from h3)]
      refine (if_neg ?_).symm
      have hl : (c :: r.take (n + 1)).length = n + 2 := by simp; omega
      rw [hl]
      intro h
      rcases h with h | h
      · omega
      · apply h
        rw [show n + 2 - 1 = n + 1 by omega]
        simp only [List.getD_eq_getElem?_getD, List.getElem?_cons_succ] at h34 ⊢
        rw [List.getElem?_take_of_lt (by omega)]
        exact h34
  rw [if_neg h3]
  show wordK _ = kindB ((c :: r).take (itemN r + 1))
  rw [List.take_succ_cons]
  unfold kindB
  rw [if_neg (n40 _), if_neg (n41 _), if_neg (show ¬ (c :: r.take (itemN r)).getD 0 0 = 34 from h3)]
theorem pcs_kind : ∀ (f at_ : Nat) (l : List Nat), ∀ p ∈ pcs f at_ l, p.1 = kindB p.2.2
  | 0, _, _, p, h => by cases h
  | _ + 1, _, [], p, h => by cases h
  | f + 1, at_, c :: r, p, h => by
    unfold pcs at h
    split at h
    · exact pcs_kind f _ _ p h
    · rcases List.mem_cons.1 h with h | h
      · subst h; exact kind_cut c r
      · exact pcs_kind f _ _ p h
/-- A piece, and its bytes' slice. -/
abbrev encQ : PcM → List Value := fun x => [.int .i64 (x.1.2.1 : Nat), .slice x.2.1 x.2.2.1 x.2.2.2]
theorem encQ_len (x : PcM) : (encQ x).length = 2 := rfl
theorem encQ_one (x : PcM) : ∀ u ∈ encQ x, u.oneCell' = true := by
  intro u hu
  simp at hu
  rcases hu with rfl | rfl <;> rfl
theorem infoQ : (Tryz.prog.info? 104).map (fun i => (i.zero, i.size, i.bytes)) = some (some (.agg #[.int .i64 0, .slice none 0 0]), 2, 32) := by kernel_rfl
/-- The pieces that the document's reader has, from a place on. -/
structure QP (E : RE) (P : Option Addr) (np cp : Nat) (l : List Pc) (k : Nat) : Prop where
  kn : k ≤ np
  n1 : np ≤ 1000
  nc : np ≤ cp
  c2 : cp ≤ 9223372036854775807
  lst : ∃ L : List PcM, RdK encQ 2 E.w0 P np L ∧ (∀ x ∈ L, PcOk E.w0 x) ∧ l = (L.map (fun x : PcM => x.1)).drop k ∧ ∀ x ∈ L, PcG x.1 ∧ x.1.1 = kindB x.1.2.2 ∧ x.1.2.2.length ≤ 1000
abbrev RE.qcells (E : RE) (P : Option Addr) (np cp : Nat) (i : Int) (dp : Int) (wr : Bool) (at_ : Nat) : List Value := rrdL E.A E.n E.c E.B E.m E.d E.cf.cap P np cp i (E.T : Int) dp (if wr = true then (at_ : Int) else -1)
/-- The state of the document's reader. -/
structure QS (E : RE) (W : World) (l : List Pc) (dp : Int) (wr : Bool) (at_ : Nat) : Prop where
  ok : E.Ok
  below : Below E.w0.heap.size E.w0 W
  box : ∃ (P : Option Addr) (np cp : Nat) (i : Int), BoxA W E.gb 73 (E.qcells P np cp i dp wr at_) ∧ (wr = false → ∃ k : Nat, i = (k : Int) ∧ QP E P np cp l k)
theorem QS.kept {E : RE} {W W' : World} {l : List Pc} {dp : Int} {wr : Bool} {at_ : Nat} (h : QS E W l dp wr at_) {row : Option Nat} (hg : W.grownBy W' row) (hr : ∀ k, row = some k → E.gb < k) : QS E W' l dp wr at_ := by
  obtain ⟨P, np, cp, i, h1, h2⟩ := h.box
  exact ⟨h.ok, h.below.grown hg h.below.size (fun k hk => by have := hr k hk; have := h.ok.gb; omega), P, np, cp, i, h1.kept hg (fun e => by have := hr _ e.symm; omega), h2⟩
theorem QS.bel {E : RE} {W W' : World} {l : List Pc} {dp : Int} {wr : Bool} {at_ : Nat} (h : QS E W l dp wr at_) (hb : Below W.heap.size W W') : QS E W' l dp wr at_ := h.kept (grown_below hb none) (fun k hk => by cases hk)
theorem QS.gbl {E : RE} {W : World} {l : List Pc} {dp : Int} {wr : Bool} {at_ : Nat} (h : QS E W l dp wr at_) : E.gb < W.heap.size := by
  obtain ⟨P, np, cp, i, h1, h2⟩ := h.box
  exact h1.lt
/-- Nothing is left, or a piece is. -/
theorem QP.nil {E : RE} {P : Option Addr} {np cp : Nat} {l : List Pc} {k : Nat} (h : QP E P np cp l k) (hl : l = []) : k = np := by
  obtain ⟨L, h1, _, h3, _⟩ := h.lst
  have h4 := congrArg List.length h3
  rw [hl, List.length_drop, List.length_map, h1.len] at h4
  have := h.kn
  simp at h4
  omega
theorem QP.cons {E : RE} {P : Option Addr} {np cp : Nat} {l : List Pc} {k : Nat} (h : QP E P np cp l k) (hl : l ≠ []) : ∃ (ap : Addr) (A' : Option Addr) (m' c' : Nat), P = some ap ∧ k < np ∧ E.w0.cell? (ap.add (k * 2)) = some (.int .i64 ((headP E.T l).2.1 : Nat)) ∧
    E.w0.cell? ⟨(ap.add (k * 2)).block, (ap.add (k * 2)).off + 1, none⟩ = some (.slice A' m' c') ∧ PcOk E.w0 (headP E.T l, A', m', c') ∧ PcG (headP E.T l) ∧ (headP E.T l).1 = kindB (headP E.T l).2.2 ∧ (headP E.T l).2.2.length ≤ 1000 ∧ QP E P np cp l.tail (k + 1) ∧ l.tail.length + 1 = l.length := by
  obtain ⟨L, h1, h2, h3, h4⟩ := h.lst
  have hk : k < np := by
    rcases Nat.lt_or_ge k np with h5 | h5
    · exact h5
    · exfalso
      apply hl
      rw [h3, List.drop_of_length_le (by rw [List.length_map, h1.len]; exact h5)]
  obtain ⟨ap, x, e, HX, c0, c1⟩ := h1.at2 (k := k) hk
  obtain ⟨hlx, ex⟩ := HX.out
  have hm : k < (L.map (fun x : PcM => x.1)).length := by rw [List.length_map, h1.len]; exact hk
  have hl2 : l = x.1 :: (L.map (fun x : PcM => x.1)).drop (k + 1) := by
    rw [h3, List.drop_eq_getElem_cons hm]
    congr 1
    rw [List.getElem_map, ex]
  have hx : headP E.T l = x.1 := by rw [hl2]; rfl
  have hmem : x ∈ L := by rw [← ex]; exact List.getElem_mem hlx
  refine ⟨ap, x.2.1, x.2.2.1, x.2.2.2, e, hk, by rw [hx]; exact c0, c1, by rw [hx]; exact h2 x hmem, by rw [hx]; exact (h4 x hmem).1, by rw [hx]; exact (h4 x hmem).2.1, by rw [hx]; exact (h4 x hmem).2.2, ⟨by omega, h.n1, h.nc, h.c2, L, h1, h2, by rw [hl2]; rfl, h4⟩, by rw [hl2]; rfl⟩
def RxF (gb : Nat) (ap : Addr) (np cp k : Nat) (A1 : Option Addr) (m1 c1 : Nat) (s : ByteArray) (p : Nat) : Nat → Value → World → Prop
  | 0 => fun v w => v = .pointer (some ⟨gb, 0, none⟩)
  | 1 => fun v w => v = .pointer (some ⟨gb, 0, none⟩)
  | 2 => fun v w => v = .pointer (some ⟨gb, 3, none⟩)
  | 3 => fun v w => v = .slice (some ap) np cp
  | 4 => fun v w => v = .pointer (some ⟨gb, 0, none⟩)
  | 5 => fun v w => v = .pointer (some ⟨gb, 0, none⟩)
  | 6 => fun v w => v = .pointer (some ⟨gb, 4, none⟩)
  | 7 => fun v w => v = .int .i64 (k : Nat)
  | 8 => fun v w => v = .pointer (some (ap.add (k * 2)))
  | 9 => fun v w => v = .pointer (some ⟨(ap.add (k * 2)).block, (ap.add (k * 2)).off + 1, none⟩)
  | 10 => fun v w => v = .slice A1 m1 c1
  | 11 => fun v w => v = .string s
  | 12 => fun v w => v = .string s
  | _ => fun _ _ => True
theorem RxF.below (gb : Nat) (ap : Addr) (np cp k : Nat) (A1 : Option Addr) (m1 c1 : Nat) (s : ByteArray) (p : Nat) : ∀ i v w w', Below w.heap.size w w' → RxF gb ap np cp k A1 m1 c1 s p i v w → RxF gb ap np cp k A1 m1 c1 s p i v w'
  | 0, _, _, _, _, h => h
  | 1, _, _, _, _, h => h
  | 2, _, _, _, _, h => h
  | 3, _, _, _, _, h => h
  | 4, _, _, _, _, h => h
  | 5, _, _, _, _, h => h
  | 6, _, _, _, _, h => h
  | 7, _, _, _, _, h => h
  | 8, _, _, _, _, h => h
  | 9, _, _, _, _, h => h
  | 10, _, _, _, _, h => h
  | 11, _, _, _, _, h => h
  | 12, _, _, _, _, h => h
  | _ + 13, _, _, _, _, _ => trivial
def RyF (gb : Nat) (ap : Addr) (np cp k : Nat) (A1 : Option Addr) (m1 c1 : Nat) (s : ByteArray) (p : Nat) : Nat → Value → World → Prop
  | 0 => fun v w => v = .pointer (some ⟨gb, 0, none⟩)
  | 1 => fun v w => v = .pointer (some ⟨gb, 0, none⟩)
  | 2 => fun v w => v = .pointer (some ⟨gb, 0, none⟩)
  | 3 => fun v w => v = .pointer (some ⟨gb, 3, none⟩)
  | 4 => fun v w => v = .slice (some ap) np cp
  | 5 => fun v w => v = .pointer (some ⟨gb, 0, none⟩)
  | 6 => fun v w => v = .pointer (some ⟨gb, 0, none⟩)
  | 7 => fun v w => v = .pointer (some ⟨gb, 4, none⟩)
  | 8 => fun v w => v = .int .i64 (k : Nat)
  | 9 => fun v w => v = .pointer (some (ap.add (k * 2)))
  | 10 => fun v w => v = .pointer (some (ap.add (k * 2)))
  | 11 => fun v w => v = .int .i64 (p : Nat)
  | _ => fun _ _ => True
theorem RyF.below (gb : Nat) (ap : Addr) (np cp k : Nat) (A1 : Option Addr) (m1 c1 : Nat) (s : ByteArray) (p : Nat) : ∀ i v w w', Below w.heap.size w w' → RyF gb ap np cp k A1 m1 c1 s p i v w → RyF gb ap np cp k A1 m1 c1 s p i v w'
  | 0, _, _, _, _, h => h
  | 1, _, _, _, _, h => h
  | 2, _, _, _, _, h => h
  | 3, _, _, _, _, h => h
  | 4, _, _, _, _, h => h
  | 5, _, _, _, _, h => h
  | 6, _, _, _, _, h => h
  | 7, _, _, _, _, h => h
  | 8, _, _, _, _, h => h
  | 9, _, _, _, _, h => h
  | 10, _, _, _, _, h => h
  | 11, _, _, _, _, h => h
  | _ + 12, _, _, _, _, _ => trivial

set_option maxRecDepth 100000 in
set_option maxHeartbeats 1000000 in
theorem qnext_any (E : RE) (W : World) (l : List Pc) (dp : Int) (at_ : Nat) (h : QS E W l dp false at_) :
    Calls Tryz.prog 62 #[.pointer (some ⟨E.gb, 0, none⟩)] W fun e W' => ∃ s, e = .returned (.string s) ∧ s = strL (headP E.T l).2.2 ∧ Byt (headP E.T l).2.2 ∧ Below W.heap.size W W' := by
  obtain ⟨P, np, cp, i, hbx, hp⟩ := h.box
  obtain ⟨k, rfl, hq⟩ := hp rfl
  obtain ⟨gb, hgb⟩ : ∃ gb, gb = E.gb := ⟨_, rfl⟩
  rw [← hgb] at hbx ⊢
  have HGB := Lib.hid hgb
  clear hgb
  have y3 := hbx.cell 3 _ rfl
  have y4 := hbx.cell 4 _ rfl
  by_cases hl : l = []
  · have hk := hq.nil hl
    subst hk
    have HE : Hid (∀ W', Below W.heap.size W W' → ∃ s, (Ending.returned (.string ⟨#[]⟩)) = .returned (.string s) ∧ s = strL (headP E.T l).2.2 ∧ Byt (headP E.T l).2.2 ∧ Below W.heap.size W W') := Lib.hid fun W' hb => ⟨_, rfl, by subst hl; rfl, by subst hl; exact Byt.nil, hb⟩
    clear hl hq hp h hbx
    go_enter Tryz.func62, Tryz.ntmps62
    go_wp2_with fail
    go_quiet (fail)
    obtain ⟨w2, hw2⟩ : ∃ w2, w2 = W.drewN nq := ⟨_, rfl⟩
    have hb2 : Below W.heap.size W w2 := by rw [hw2]; exact Below.drewN W _
    rw [← hw2]
    have HB2 := Lib.hid hb2
    clear hw2 hb2
    go_wp2
    go_ret
    exact HE.out _ HB2.out
  · obtain ⟨ap, A1, m1, c1, rfl, hkn, c0, cs, hok, _⟩ := hq.cons hl
    obtain ⟨s, hs⟩ : ∃ s, s = strL (headP E.T l).2.2 := ⟨_, rfl⟩
    have HS := Lib.hid hs
    have hlt : (k : Int) < (np : Int) := by omega
    have HRD : Hid (RdB W A1 m1 (headP E.T l).2.2) := Lib.hid (hok.2.2.2.below h.below)
    have hmc := hok.1
    have x1 := cell_keep h.below cs
    have HE : Hid (∀ W', Below W.heap.size W W' → ∃ s', (Ending.returned (.string s)) = .returned (.string s') ∧ s' = strL (headP E.T l).2.2 ∧ Byt (headP E.T l).2.2 ∧ Below W.heap.size W W') := Lib.hid fun W' hb => ⟨_, rfl, hs, hok.2.2.2.byt, hb⟩
    have p := 0
    clear hs hl hq hp h c0 cs hok
    go_enter Tryz.func62, Tryz.ntmps62
    go_wp2_with fail
    go_quiet (fail)
    obtain ⟨w3, hw2⟩ : ∃ w2, w2 = W.drewN nq := ⟨_, rfl⟩
    have hb3 : Below W.heap.size W w3 := by rw [hw2]; exact Below.drewN W _
    rw [← hw2]
    have HB3 := Lib.hid hb3
    have G3 : Hid (w3.cell? ⟨gb, 3, none⟩ = some (.slice (some ap) np cp)) := Lib.hid (cell_keep hb3 y3)
    have G4 : Hid (w3.cell? ⟨gb, 4, none⟩ = some (.int .i64 (k : Nat))) := Lib.hid (cell_keep hb3 y4)
    have G5 : Hid (w3.cell? ⟨(ap.add (k * 2)).block, (ap.add (k * 2)).off + 1, none⟩ = some (.slice A1 m1 c1)) := Lib.hid (cell_keep hb3 x1)
    have HRD := Lib.hid (HRD.out.below hb3)
    clear hw2 hb3 y3 y4 x1 hbx
    go_wp2_with fail
    rename_i K1 hK1
    refine wp_region_flow (by kernel_rfl) (RxF gb ap np cp k A1 m1 c1 s p) (RxF.below gb ap np cp k A1 m1 c1 s p) (by kernel_rfl) (by kernel_rfl) ?_ ?_
    case refine_1 =>
      intro i o ho ρ y w2 hb2 hreg hn hf hyb hyn
      have hi := (Array.getElem?_eq_some_iff.1 ho).1
      rcases Nat.lt_or_ge i 13 with hi2 | hi2
      case inr => simp at hi; omega
      obtain rfl | rfl | rfl | rfl | rfl | rfl | rfl | rfl | rfl | rfl | rfl | rfl | rfl : i = 0 ∨ i = 1 ∨ i = 2 ∨ i = 3 ∨ i = 4 ∨ i = 5 ∨ i = 6 ∨ i = 7 ∨ i = 8 ∨ i = 9 ∨ i = 10 ∨ i = 11 ∨ i = 12 := by omega
      · cases ho
        rw [if_pos (show Region.wanted _ y = true from rfl)]
        have f0 : ρ (.tmp 0) = .pointer (some ⟨gb, 0, none⟩) := hf 0 (by kernel_rfl)
        exact ⟨f0, Below.refl _ _⟩
      · cases ho
        rw [if_pos (show Region.wanted _ y = true from rfl)]
        have f13 : ρ (.tmp 13) = .pointer (some ⟨gb, 0, none⟩) := hn 0 _ 13 rfl (by kernel_rfl) rfl
        exact does_ok (v := .pointer (some ⟨gb, 0, none⟩)) (w' := w2) (by simp [go_sem, hreg.const, f13]) ⟨rfl, Below.refl _ _⟩
      · cases ho
        rw [if_pos (show Region.wanted _ y = true from rfl)]
        have f14 : ρ (.tmp 14) = .pointer (some ⟨gb, 0, none⟩) := hn 1 _ 14 rfl (by kernel_rfl) rfl
        exact does_ok (v := .pointer (some ⟨gb, 3, none⟩)) (w' := w2) (by simp [go_sem, hreg.const, f14]) ⟨rfl, Below.refl _ _⟩
      · cases ho
        rw [if_pos (show Region.wanted _ y = true from rfl)]
        have f15 : ρ (.tmp 15) = .pointer (some ⟨gb, 3, none⟩) := hn 2 _ 15 rfl (by kernel_rfl) rfl
        have k0 := cell_keep hb2 G3.out
        exact does_ok (v := .slice (some ap) np cp) (w' := w2) (by simp [go_sem, hreg.const, f15, k0]) ⟨rfl, Below.refl _ _⟩
      · cases ho
        rw [if_pos (show Region.wanted _ y = true from rfl)]
        have f0 : ρ (.tmp 0) = .pointer (some ⟨gb, 0, none⟩) := hf 0 (by kernel_rfl)
        exact ⟨f0, Below.refl _ _⟩
      · cases ho
        rw [if_pos (show Region.wanted _ y = true from rfl)]
        have f17 : ρ (.tmp 17) = .pointer (some ⟨gb, 0, none⟩) := hn 4 _ 17 rfl (by kernel_rfl) rfl
        exact does_ok (v := .pointer (some ⟨gb, 0, none⟩)) (w' := w2) (by simp [go_sem, hreg.const, f17]) ⟨rfl, Below.refl _ _⟩
      · cases ho
        rw [if_pos (show Region.wanted _ y = true from rfl)]
        have f18 : ρ (.tmp 18) = .pointer (some ⟨gb, 0, none⟩) := hn 5 _ 18 rfl (by kernel_rfl) rfl
        exact does_ok (v := .pointer (some ⟨gb, 4, none⟩)) (w' := w2) (by simp [go_sem, hreg.const, f18]) ⟨rfl, Below.refl _ _⟩
      · cases ho
        rw [if_pos (show Region.wanted _ y = true from rfl)]
        have f19 : ρ (.tmp 19) = .pointer (some ⟨gb, 4, none⟩) := hn 6 _ 19 rfl (by kernel_rfl) rfl
        have k0 := cell_keep hb2 G4.out
        exact does_ok (v := .int .i64 (k : Nat)) (w' := w2) (by simp [go_sem, hreg.const, f19, k0]) ⟨rfl, Below.refl _ _⟩
      · cases ho
        rw [if_pos (show Region.wanted _ y = true from rfl)]
        have f16 : ρ (.tmp 16) = .slice (some ap) np cp := hn 3 _ 16 rfl (by kernel_rfl) rfl
        have f20 : ρ (.tmp 20) = .int .i64 (k : Nat) := hn 7 _ 20 rfl (by kernel_rfl) rfl
        exact does_ok (v := .pointer (some (ap.add (k * 2)))) (w' := w2) (by simp [go_sem, hreg.const, f16, f20, hkn]) ⟨rfl, Below.refl _ _⟩
      · cases ho
        rw [if_pos (show Region.wanted _ y = true from rfl)]
        have f21 : ρ (.tmp 21) = .pointer (some (ap.add (k * 2))) := hn 8 _ 21 rfl (by kernel_rfl) rfl
        exact does_ok (v := .pointer (some ⟨(ap.add (k * 2)).block, (ap.add (k * 2)).off + 1, none⟩)) (w' := w2) (by simp [go_sem, hreg.const, f21]) ⟨rfl, Below.refl _ _⟩
      · cases ho
        rw [if_pos (show Region.wanted _ y = true from rfl)]
        have f22 : ρ (.tmp 22) = .pointer (some ⟨(ap.add (k * 2)).block, (ap.add (k * 2)).off + 1, none⟩) := hn 9 _ 22 rfl (by kernel_rfl) rfl
        have k0 := cell_keep hb2 G5.out
        exact does_ok (v := .slice A1 m1 c1) (w' := w2) (by simp [go_sem, hreg.const, f22, k0]) ⟨rfl, Below.refl _ _⟩
      · cases ho
        rw [if_pos (show Region.wanted _ y = true from rfl)]
        have f23 : ρ (.tmp 23) = .slice A1 m1 c1 := hn 10 _ 23 rfl (by kernel_rfl) rfl
        have hstr := run_str w2 A1 m1 c1 _ (HRD.out.below hb2) hmc
        rw [← HS.out] at hstr
        exact does_ok (v := .string s) (w' := w2) (by simp [go_sem, hreg.const, f23, hstr]) ⟨rfl, Below.refl _ _⟩
      · cases ho
        rw [if_pos (show Region.wanted _ y = true from rfl)]
        have f24 : ρ (.tmp 24) = .string s := hn 11 _ 24 rfl (by kernel_rfl) rfl
        exact ⟨f24, Below.refl _ _⟩
    case refine_2 =>
      intro a w2 hb2 hd hs hfacts hrest
      have q24 : a.tmps.getD 24 undef = .string s := hfacts 11 _ 24 rfl rfl
      have q2 : a.tmps.getD 2 undef = .string s := hfacts 12 _ 2 rfl rfl
      have ha := frame_of hd hs hrest [2, 13, 14, 15, 16, 17, 18, 19, 20, 21, 22, 23, 24] (by kernel_rfl)
      simp only [q24, q2, List.foldl, List.setIfInBounds_toArray, List.set_cons_succ, List.set_cons_zero] at ha
      clear q24 q2 hd hs hfacts hrest
      generalize a.tmps.getD = gg at ha
      subst ha
      have HB2 := Lib.hid (Below.thn HB3.out hb2)
      clear hb2
      go_wp2
      go_ret
      exact HE.out _ HB2.out
/-- The place of the fault is written. -/
theorem QS.setBad {E : RE} {W : World} {l l' : List Pc} {dp : Int} {at_ : Nat} {P : Option Addr} {np cp : Nat} {i : Int} {b : Int} (ok : E.Ok) (hb : Below E.w0.heap.size E.w0 W) (h : BoxA W E.gb 73 (rrdL E.A E.n E.c E.B E.m E.d E.cf.cap P np cp i (E.T : Int) dp b)) (a : Nat) : QS E (W.setCell ⟨E.gb, 7, none⟩ (.int .i64 (a : Nat))) l' dp true a := by
  have hg := BoxA.set_grown W E.gb 7 (.int .i64 (a : Nat))
  exact ⟨ok, hb.grown hg hb.size (fun k hk => by injection hk with hk; have := ok.gb; omega), P, np, cp, i, h.set 7 _, fun e => by cases e⟩
set_option maxRecDepth 100000 in
set_option maxHeartbeats 1000000 in
theorem qfault_any (E : RE) (W : World) (l : List Pc) (dp : Int) (at_ : Nat) (h : QS E W l dp false at_) :
    Calls Tryz.prog 37 #[.pointer (some ⟨E.gb, 0, none⟩)] W fun e W' => e = .returned (.slice none 0 0) ∧ W.grownBy W' (some E.gb) ∧ QS E W' l dp true (headP E.T l).2.1 := by
  obtain ⟨P, np, cp, i, hbx, hp⟩ := h.box
  obtain ⟨k, rfl, hq⟩ := hp rfl
  obtain ⟨gb, hgb⟩ : ∃ gb, gb = E.gb := ⟨_, rfl⟩
  have HGB := Lib.hid hgb
  have hg1 := BoxA.set_grown W E.gb 7 (.int .i64 (E.T : Nat))
  have hbx1 := hbx.set 7 (.int .i64 (E.T : Nat))
  have hb1 := h.below.grown hg1 h.below.size (fun k hk => by injection hk with hk; have := h.ok.gb; omega)
  have hq1 : QS E (W.setCell ⟨E.gb, 7, none⟩ (.int .i64 (E.T : Nat))) l dp true E.T := QS.setBad (l := l) (at_ := at_) h.ok h.below hbx E.T
  obtain ⟨T, hT⟩ : ∃ T, T = E.T := ⟨_, rfl⟩
  obtain ⟨W1, hW1⟩ : ∃ W1, W1 = W.setCell ⟨gb, 7, none⟩ (.int .i64 (T : Nat)) := ⟨_, rfl⟩
  have hW1' := hW1
  rw [hgb, hT] at hW1'
  rw [← hW1'] at hg1 hbx1 hb1 hq1
  have HW1 := Lib.hid hW1
  have y5 := hbx.cell 5 _ rfl
  have y7 := hbx.cell 7 _ rfl
  have yf := hbx.frozen 7
  have z3 := hbx1.cell 3 _ rfl
  have z4 := hbx1.cell 4 _ rfl
  rw [← hgb, ← hT] at y5
  rw [← hgb] at y7 yf z3 z4 ⊢
  rw [← hT]
  simp only [Bool.false_eq_true, if_false] at y7
  have HT := Lib.hid hT
  by_cases hl : l = []
  · have hk := hq.nil hl
    subst hk
    have HE : Hid (∀ W', Below W1.heap.size W1 W' → W.grownBy W' (some gb) ∧ QS E W' l dp true (headP T l).2.1) := Lib.hid fun W' hb => ⟨by rw [hgb]; exact hg1.trans (grown_below hb _), by subst hl; have := hq1.bel hb; rw [hT]; exact this⟩
    clear hl hq hp h hbx hg1 hbx1 hb1 hq1 hW1 hW1' hgb hT
    go_enter Tryz.func37, Tryz.ntmps37
    go_upto_region 3 with fail
    rw [← HW1.out]
    clear y5 y7 yf
    go_quiet (fail)
    obtain ⟨w2, hw2⟩ : ∃ w2, w2 = W1.drewN nq := ⟨_, rfl⟩
    have hb2 : Below W1.heap.size W1 w2 := by rw [hw2]; exact Below.drewN W1 _
    rw [← hw2]
    have HB2 := Lib.hid hb2
    clear hw2 hb2
    go_wp2
    go_ret
    exact ⟨rfl, HE.out _ HB2.out⟩
  · obtain ⟨ap, A1, m1, c1, rfl, hkn, c0, cs, hok, _⟩ := hq.cons hl
    obtain ⟨p, hpp⟩ : ∃ p, p = (headP E.T l).2.1 := ⟨_, rfl⟩
    rw [← hpp] at c0
    rw [hT, ← hpp]
    have HE : Hid (∀ W', Below W1.heap.size W1 W' → W.grownBy (W'.setCell ⟨gb, 7, none⟩ (.int .i64 (p : Nat))) (some gb) ∧ QS E (W'.setCell ⟨gb, 7, none⟩ (.int .i64 (p : Nat))) l dp true p ∧ W'.frozen? ⟨gb, 7, none⟩ = false ∧ W'.cell? ⟨gb, 7, none⟩ = some (.int .i64 (E.T : Nat))) := Lib.hid fun W' hb => by
      have h1 := hbx1.below hb
      rw [hgb]
      exact ⟨(hg1.trans (grown_below hb _)).trans (BoxA.set_grown _ _ _ _), QS.setBad (l := l) (at_ := at_) h.ok (hb1.trans (hb.mono hb1.size)) h1 p, h1.frozen 7, h1.cell 7 _ rfl⟩
    have x0 := cell_keep hb1 c0
    have hlt : (k : Int) < (np : Int) := by omega
    have s := ByteArray.empty
    clear hl hq hp h hbx hg1 hbx1 hb1 hq1 hW1 hW1' hgb hT hpp c0 cs hok
    go_enter Tryz.func37, Tryz.ntmps37
    go_upto_region 3 with fail
    rw [← HW1.out]
    clear y5 y7 yf
    go_quiet (fail)
    obtain ⟨w3, hw2⟩ : ∃ w2, w2 = W1.drewN nq := ⟨_, rfl⟩
    have hb3 : Below W1.heap.size W1 w3 := by rw [hw2]; exact Below.drewN W1 _
    rw [← hw2]
    have HB3 := Lib.hid hb3
    have G3 : Hid (w3.cell? ⟨gb, 3, none⟩ = some (.slice (some ap) np cp)) := Lib.hid (cell_keep hb3 z3)
    have G4 : Hid (w3.cell? ⟨gb, 4, none⟩ = some (.int .i64 (k : Nat))) := Lib.hid (cell_keep hb3 z4)
    have G5 : Hid (w3.cell? (ap.add (k * 2)) = some (.int .i64 (p : Nat))) := Lib.hid (cell_keep hb3 x0)
    clear hw2 hb3 z3 z4 x0
    go_wp2_with fail
    rename_i K1 hK1
    refine wp_region_flowT 12 (by kernel_rfl) (by kernel_rfl) (RyF gb ap np cp k A1 m1 c1 s p) (RyF.below gb ap np cp k A1 m1 c1 s p) (by kernel_rfl) (by kernel_rfl) ?_ ?_
    case refine_1 =>
      intro i o hit ho ρ y w2 hb2 hreg hn hf hyb hyn
      obtain rfl | rfl | rfl | rfl | rfl | rfl | rfl | rfl | rfl | rfl | rfl | rfl : i = 0 ∨ i = 1 ∨ i = 2 ∨ i = 3 ∨ i = 4 ∨ i = 5 ∨ i = 6 ∨ i = 7 ∨ i = 8 ∨ i = 9 ∨ i = 10 ∨ i = 11 := by omega
      · cases ho
        rw [if_pos (show Region.wanted _ y = true from rfl)]
        have f0 : ρ (.tmp 0) = .pointer (some ⟨gb, 0, none⟩) := hf 0 (by kernel_rfl)
        exact ⟨f0, Below.refl _ _⟩
      · cases ho
        rw [if_pos (show Region.wanted _ y = true from rfl)]
        have f0 : ρ (.tmp 0) = .pointer (some ⟨gb, 0, none⟩) := hf 0 (by kernel_rfl)
        exact ⟨f0, Below.refl _ _⟩
      · cases ho
        rw [if_pos (show Region.wanted _ y = true from rfl)]
        have f26 : ρ (.tmp 26) = .pointer (some ⟨gb, 0, none⟩) := hn 1 _ 26 rfl (by kernel_rfl) rfl
        exact does_ok (v := .pointer (some ⟨gb, 0, none⟩)) (w' := w2) (by simp [go_sem, hreg.const, f26]) ⟨rfl, Below.refl _ _⟩
      · cases ho
        rw [if_pos (show Region.wanted _ y = true from rfl)]
        have f27 : ρ (.tmp 27) = .pointer (some ⟨gb, 0, none⟩) := hn 2 _ 27 rfl (by kernel_rfl) rfl
        exact does_ok (v := .pointer (some ⟨gb, 3, none⟩)) (w' := w2) (by simp [go_sem, hreg.const, f27]) ⟨rfl, Below.refl _ _⟩
      · cases ho
        rw [if_pos (show Region.wanted _ y = true from rfl)]
        have f28 : ρ (.tmp 28) = .pointer (some ⟨gb, 3, none⟩) := hn 3 _ 28 rfl (by kernel_rfl) rfl
        have k0 := cell_keep hb2 G3.out
        exact does_ok (v := .slice (some ap) np cp) (w' := w2) (by simp [go_sem, hreg.const, f28, k0]) ⟨rfl, Below.refl _ _⟩
      · cases ho
        rw [if_pos (show Region.wanted _ y = true from rfl)]
        have f0 : ρ (.tmp 0) = .pointer (some ⟨gb, 0, none⟩) := hf 0 (by kernel_rfl)
        exact ⟨f0, Below.refl _ _⟩
      · cases ho
        rw [if_pos (show Region.wanted _ y = true from rfl)]
        have f30 : ρ (.tmp 30) = .pointer (some ⟨gb, 0, none⟩) := hn 5 _ 30 rfl (by kernel_rfl) rfl
        exact does_ok (v := .pointer (some ⟨gb, 0, none⟩)) (w' := w2) (by simp [go_sem, hreg.const, f30]) ⟨rfl, Below.refl _ _⟩
      · cases ho
        rw [if_pos (show Region.wanted _ y = true from rfl)]
        have f31 : ρ (.tmp 31) = .pointer (some ⟨gb, 0, none⟩) := hn 6 _ 31 rfl (by kernel_rfl) rfl
        exact does_ok (v := .pointer (some ⟨gb, 4, none⟩)) (w' := w2) (by simp [go_sem, hreg.const, f31]) ⟨rfl, Below.refl _ _⟩
      · cases ho
        rw [if_pos (show Region.wanted _ y = true from rfl)]
        have f32 : ρ (.tmp 32) = .pointer (some ⟨gb, 4, none⟩) := hn 7 _ 32 rfl (by kernel_rfl) rfl
        have k0 := cell_keep hb2 G4.out
        exact does_ok (v := .int .i64 (k : Nat)) (w' := w2) (by simp [go_sem, hreg.const, f32, k0]) ⟨rfl, Below.refl _ _⟩
      · cases ho
        rw [if_pos (show Region.wanted _ y = true from rfl)]
        have f29 : ρ (.tmp 29) = .slice (some ap) np cp := hn 4 _ 29 rfl (by kernel_rfl) rfl
        have f33 : ρ (.tmp 33) = .int .i64 (k : Nat) := hn 8 _ 33 rfl (by kernel_rfl) rfl
        exact does_ok (v := .pointer (some (ap.add (k * 2)))) (w' := w2) (by simp [go_sem, hreg.const, f29, f33, hkn]) ⟨rfl, Below.refl _ _⟩
      · cases ho
        rw [if_pos (show Region.wanted _ y = true from rfl)]
        have f34 : ρ (.tmp 34) = .pointer (some (ap.add (k * 2))) := hn 9 _ 34 rfl (by kernel_rfl) rfl
        exact does_ok (v := .pointer (some (ap.add (k * 2)))) (w' := w2) (by simp [go_sem, hreg.const, f34]) ⟨rfl, Below.refl _ _⟩
      · cases ho
        rw [if_pos (show Region.wanted _ y = true from rfl)]
        have f35 : ρ (.tmp 35) = .pointer (some (ap.add (k * 2))) := hn 10 _ 35 rfl (by kernel_rfl) rfl
        have k0 := cell_keep hb2 G5.out
        exact does_ok (v := .int .i64 (p : Nat)) (w' := w2) (by simp [go_sem, hreg.const, f35, k0]) ⟨rfl, Below.refl _ _⟩
    case refine_2 =>
      intro a w2 hb2 hd hs hfacts hrest
      have q25 : a.tmps.getD 25 undef = .pointer (some ⟨gb, 0, none⟩) := hfacts 0 _ 25 (by decide) rfl rfl
      have q36 : a.tmps.getD 36 undef = .int .i64 (p : Nat) := hfacts 11 _ 36 (by decide) rfl rfl
      have ha := frame_ofP hd hs hrest [25, 26, 27, 28, 29, 30, 31, 32, 33, 34, 35, 36] (by kernel_rfl)
      simp only [q25, q36, List.foldl, List.setIfInBounds_toArray, List.set_cons_succ, List.set_cons_zero] at ha
      clear q25 q36 hd hs hfacts hrest
      generalize a.tmps.getD = gg at ha
      subst ha
      obtain ⟨e1, e2, e3, e4⟩ := HE.out w2 (Below.thn HB3.out hb2)
      have HE2 := Lib.hid (And.intro e1 e2)
      clear hb2 e1 e2
      simp only [List.drop_succ_cons, List.drop_zero]
      go_wp2
      go_ret
      exact ⟨rfl, HE2.out⟩
/-- On to the next piece. -/
theorem QS.adv {E : RE} {W : World} {l : List Pc} {dp : Int} {at_ : Nat} (h : QS E W l dp false at_) (hl : l ≠ []) : ∃ k : Nat, k ≤ 1000 ∧ W.cell? ⟨E.gb, 4, none⟩ = some (.int .i64 (k : Nat)) ∧ W.frozen? ⟨E.gb, 4, none⟩ = false ∧ QS E (W.setCell ⟨E.gb, 4, none⟩ (.int .i64 ((k : Int) + 1))) l.tail dp false at_ ∧ W.grownBy (W.setCell ⟨E.gb, 4, none⟩ (.int .i64 ((k : Int) + 1))) (some E.gb) := by
  obtain ⟨P, np, cp, i, hbx, hp⟩ := h.box
  obtain ⟨k, rfl, hq⟩ := hp rfl
  obtain ⟨_, _, _, _, _, hkn, _, _, _, _, _, _, hq2, _⟩ := hq.cons hl
  have hg := BoxA.set_grown W E.gb 4 (.int .i64 ((k : Int) + 1))
  exact ⟨k, by have := hq.n1; omega, hbx.cell 4 _ rfl, hbx.frozen 4, ⟨h.ok, h.below.grown hg h.below.size (fun k hk => by injection hk with hk; have := h.ok.gb; omega), P, np, cp, (k : Int) + 1, hbx.set 4 _, fun _ => ⟨k + 1, by omega, hq2⟩⟩, hg⟩
/-- The place moves behind a fault too. -/
theorem QS.advBad {E : RE} {W : World} {l : List Pc} {dp : Int} {at_ : Nat} (h : QS E W l dp true at_) : ∃ k : Int, W.cell? ⟨E.gb, 4, none⟩ = some (.int .i64 k) ∧ W.frozen? ⟨E.gb, 4, none⟩ = false ∧ ∀ k', QS E (W.setCell ⟨E.gb, 4, none⟩ (.int .i64 k')) l dp true at_ ∧ W.grownBy (W.setCell ⟨E.gb, 4, none⟩ (.int .i64 k')) (some E.gb) := by
  obtain ⟨P, np, cp, i, hbx, hp⟩ := h.box
  refine ⟨i, hbx.cell 4 _ rfl, hbx.frozen 4, fun k' => ?_⟩
  have hg := BoxA.set_grown W E.gb 4 (.int .i64 k')
  exact ⟨⟨h.ok, h.below.grown hg h.below.size (fun k hk => by injection hk with hk; have := h.ok.gb; omega), P, np, cp, k', hbx.set 4 _, fun e => by cases e⟩, hg⟩
/-- A store into the cell of the depth. -/
theorem QS.deep {E : RE} {W : World} {l : List Pc} {dp : Int} {wr : Bool} {at_ : Nat} (h : QS E W l dp wr at_) (dp' : Int) : QS E (W.setCell ⟨E.gb, 6, none⟩ (.int .i64 dp')) l dp' wr at_ ∧ W.grownBy (W.setCell ⟨E.gb, 6, none⟩ (.int .i64 dp')) (some E.gb) ∧ W.cell? ⟨E.gb, 6, none⟩ = some (.int .i64 dp) ∧ W.frozen? ⟨E.gb, 6, none⟩ = false := by
  obtain ⟨P, np, cp, i, h1, h2⟩ := h.box
  have hg := BoxA.set_grown W E.gb 6 (.int .i64 dp')
  exact ⟨⟨h.ok, h.below.grown hg h.below.size (fun k hk => by injection hk with hk; have := h.ok.gb; omega), P, np, cp, i, h1.set 6 _, h2⟩, hg, h1.cell 6 _ rfl, h1.frozen 6⟩
theorem QS.bad {E : RE} {W : World} {l : List Pc} {dp : Int} {wr : Bool} {at_ : Nat} (h : QS E W l dp wr at_) : W.cell? ⟨E.gb, 7, none⟩ = some (.int .i64 (if wr = true then (at_ : Int) else -1)) := by
  obtain ⟨P, np, cp, i, h1, h2⟩ := h.box
  exact h1.cell 7 _ rfl
end Go.Proofs.YtkkeodlnejckjaaGreat
