/- The chapter's example. -/
import Derived.Test.YtbmdjmnjbflfeaaFew
import Derived.Test.YtbmdjmnjbflfeaaToks
import Derived.Test.YtbmdjmnjbflfeaaEqTok
import Derived.Lib.SmallJoins
namespace Go.Proofs.Ytbmdjmnjbflfeaa
open Go.RowKit Go.Shelf
set_option linter.unusedVariables false
set_option linter.unusedSimpArgs false

def someC : Cf := ⟨[(65, 97, 26)], [⟨#[116, 104, 101]⟩], 4⟩
theorem some_key : ∀ k : Fin 26, (letB (65 + ((k.1 : Nat) : Int)) = true ∧ letB (97 + ((k.1 : Nat) : Int)) = true) := by decide
theorem some_ok : okTb someC.fo := by
  refine ⟨by decide, fun i h => ?_, fun i h k hk => ?_⟩
  · have h0 : i = 0 := by
      have : someC.fo.length = 1 := rfl
      omega
    subst h0
    refine ⟨?_, fun h => absurd h (by decide)⟩
    show 1 ≤ (26 : Int) ∧ (26 : Int) ≤ 256 ∧ ∀ k : Nat, (k : Int) < 26 → letB 65 = true ∧ letB 97 = true ∧ letB (65 + (k : Int)) = true ∧ letB (97 + (k : Int)) = true
    exact ⟨by decide, by decide, fun k hk => ⟨by decide, by decide, (some_key ⟨k, by omega⟩).1, (some_key ⟨k, by omega⟩).2⟩⟩
  · have h0 : i = 0 := by
      have : someC.fo.length = 1 := rfl
      omega
    subst h0
    have hk2 : (k : Int) < 26 := hk
    show fnd [(65, 97, 26)] (97 + (k : Int)) = none
    have e : hit (97 + (k : Int)) (65, 97, 26) = false := by
      unfold hit
      simp only
      have h1 : wrap32 (97 + (k : Int) - 65) = 32 + (k : Int) := by
        unfold wrap32
        omega
      rw [h1, show wrap32 26 = 26 from by unfold wrap32; omega]
      simp
      omega
    simp [fnd, e]
theorem some_may : mayC someC := by
  refine ⟨some_ok, by decide, by decide, by decide, fun i h => ?_⟩
  have h0 : i = 0 := by
    have : someC.st.length = 1 := rfl
    omega
  subst h0
  refine ⟨fun h => absurd h (by decide), ?_⟩
  have e : rnsL (bsL (stAt someC.st 0)) = [116, 104, 101] := by kernel_rfl
  refine ⟨fun r hr => ?_, by rw [e]; decide, by rw [e]; decide⟩
  rw [e] at hr
  unfold okR
  rw [eff_yes some_ok]
  simp at hr
  rcases hr with rfl | rfl | rfl <;> exact ⟨by decide, by kernel_rfl⟩
/-- The terms by a table that may be. -/
def tmB (c : Cf) : List (List Nat) → Nat → List (Nat × ByteArray)
  | [], _ => []
  | w :: ws, k => (k, strL (encsL ((w.take c.cap.toNat).map fun r : Nat => oneR c.fo (r : Int)))) :: tmB c ws (k + 1)
theorem tmB_eq (c : Cf) (h : okTb c.fo) : ∀ (ws : List (List Nat)) (k : Nat), tmG c ws k = tmB c ws k
  | [], _ => rfl
  | w :: ws, k => by
    unfold tmG tmB termS termL
    rw [eff_yes h, tmB_eq c h ws (k + 1)]
abbrev liveB : List Nat := [84, 104, 101, 32, 67, 97, 116, 115, 44, 32, 116, 104, 101, 32, 67, 65, 84, 83, 39, 32, 49, 50]
theorem live_toks : toksL someC liveB = [(⟨#[99, 97, 116, 115]⟩, 1), (⟨#[99, 97, 116, 115]⟩, 3), (⟨#[49, 50]⟩, 4)] := by
  unfold toksL termsL
  rw [if_pos some_may, tmB_eq someC some_ok]
  have e : tmB someC (wordsL liveB) 0 = [(0, ⟨#[116, 104, 101]⟩), (1, ⟨#[99, 97, 116, 115]⟩), (2, ⟨#[116, 104, 101]⟩), (3, ⟨#[99, 97, 116, 115]⟩), (4, ⟨#[49, 50]⟩)] := by kernel_rfl
  rw [e]
  have i1 : inS someC.st ⟨#[116, 104, 101]⟩ = true := by decide
  have i2 : inS someC.st ⟨#[99, 97, 116, 115]⟩ = false := by decide
  have i3 : inS someC.st ⟨#[49, 50]⟩ = false := by decide
  simp [i1, i2, i3]
set_option maxRecDepth 100000 in
set_option maxHeartbeats 2000000 in
theorem some_any (w : World) : Calls Try.prog 37 #[] w fun e w' => ∃ g, e = .returned (confV (some ⟨g, 0, none⟩) 1 1 (some ⟨g + 1, 0, none⟩) 1 1 someC.cap) ∧ RdC w' (some ⟨g, 0, none⟩) 1 1 (some ⟨g + 1, 0, none⟩) 1 1 someC ∧ Below w.heap.size w w' := by
  go_enter Try.func37, Try.ntmps37
  go_wp2
  obtain ⟨s, hs⟩ : ∃ s, s = w.heap.size := ⟨_, rfl⟩
  have h0 := World.alloc_heap_new w (.cells #[.slice (some ⟨s + 1, 0, none⟩) 1 1, .slice (some ⟨s + 1 + 1, 0, none⟩) 1 1, .int .i64 4] 25)
  have h1 := World.alloc_heap_new (w.alloc (.cells #[.slice (some ⟨s + 1, 0, none⟩) 1 1, .slice (some ⟨s + 1 + 1, 0, none⟩) 1 1, .int .i64 4] 25)) (.cells #[.int .i32 65, .int .i32 97, .int .i64 26] 84)
  have h2 := World.alloc_heap_new ((w.alloc (.cells #[.slice (some ⟨s + 1, 0, none⟩) 1 1, .slice (some ⟨s + 1 + 1, 0, none⟩) 1 1, .int .i64 4] 25)).alloc (.cells #[.int .i32 65, .int .i32 97, .int .i64 26] 84)) (.cells #[.string ⟨#[116, 104, 101]⟩] 9)
  have b1 : Below w.heap.size w (w.alloc (.cells #[.slice (some ⟨s + 1, 0, none⟩) 1 1, .slice (some ⟨s + 1 + 1, 0, none⟩) 1 1, .int .i64 4] 25)) := (Below.refl _ _).alloc (Nat.le_refl _) _
  obtain ⟨w1, hw1⟩ : ∃ w1, w1 = w.alloc (.cells #[.slice (some ⟨s + 1, 0, none⟩) 1 1, .slice (some ⟨s + 1 + 1, 0, none⟩) 1 1, .int .i64 4] 25) := ⟨_, rfl⟩
  have s1 : w1.heap.size = s + 1 := by rw [hw1, hs]; simp
  rw [← hw1] at h0 h1 h2 b1
  have b2 : Below w1.heap.size w1 (w1.alloc (.cells #[.int .i32 65, .int .i32 97, .int .i64 26] 84)) := (Below.refl _ _).alloc (Nat.le_refl _) _
  obtain ⟨w2, hw2⟩ : ∃ w2, w2 = w1.alloc (.cells #[.int .i32 65, .int .i32 97, .int .i64 26] 84) := ⟨_, rfl⟩
  have s2 : w2.heap.size = s + 1 + 1 := by rw [hw2]; simp; omega
  rw [← hw2] at h1 h2 b2
  have b3 : Below w2.heap.size w2 (w2.alloc (.cells #[.string ⟨#[116, 104, 101]⟩] 9)) := (Below.refl _ _).alloc (Nat.le_refl _) _
  rw [← hs, ← hw1, ← hw2]
  obtain ⟨w3, hw3⟩ : ∃ w3, w3 = w2.alloc (.cells #[.string ⟨#[116, 104, 101]⟩] 9) := ⟨_, rfl⟩
  rw [← hw3] at h2 b3 ⊢
  rw [← hs] at h0
  rw [s1] at h1
  rw [s2] at h2
  have h0' := (b3.block s (by omega)).trans ((b2.block s (by omega)).trans h0)
  have h1' := (b3.block (s + 1) (by omega)).trans h1
  obtain ⟨y0, y1, y2⟩ := cells3 h0'
  obtain ⟨z0, z1, z2⟩ := cells3 h1'
  have x0 : w3.cell? ⟨s + 1 + 1, 0, none⟩ = some (.string ⟨#[116, 104, 101]⟩) := by simp [World.cell?, h2]
  refine bodyPost_ret (v := confV (some ⟨s + 1, 0, none⟩) 1 1 (some ⟨s + 1 + 1, 0, none⟩) 1 1 someC.cap) (by simp [results, Try.results37, go_sem, y0, y1, y2, someC]) rfl ?_
  refine ⟨s + 1, rfl, ⟨⟨rfl, by decide, fun _ => ⟨_, rfl, fun j hj => ?_⟩⟩, ⟨rfl, by decide, fun _ => ⟨_, rfl, fun j hj => ?_⟩⟩, by decide, by decide, by decide, by decide, ?_, ?_⟩, by rw [hs]; exact Below.thn (Below.thn b1 b2) b3⟩
  · obtain rfl : j = 0 := by simp [someC] at hj; omega
    exact ⟨z0, z1, z2⟩
  · obtain rfl : j = 0 := by simp [someC] at hj; omega
    exact x0
  · intro x hx
    simp [someC] at hx
    subst hx
    exact ⟨by decide, by decide, by decide⟩
  · intro x hx
    simp [someC] at hx
    subst hx
    decide
theorem markC (C : Array Value) (n c : Nat) (w : World) : (convert 26 26 (.slice (some ⟨w.heap.size, 0, none⟩) n c)).run Try.prog (w.alloc (.cells C 5)) = .ok (.slice (some ⟨w.heap.size, 0, none⟩) n c) (w.alloc (.cells C 5 (C.size, C.size + 1))) :=
  Lib.run_convert_bytes_const (P := Try.prog) w 26 5 C n c Try.underlying26 Try.underlying5
theorem equalTk_same {w : World} {u v : Value} {a : List Tok} (ha : TS w u a) (hb : TS w v a) :
    Calls Try.prog 13 #[u, v] w fun e w' => e = .returned (.bool true) ∧ Below w.heap.size w w' :=
  (equalTk_ts ha hb).mono fun e w' h => ⟨h.1.trans (by rw [decide_eq_true rfl]), h.2⟩
set_option maxRecDepth 100000 in
set_option maxHeartbeats 4000000 in
theorem live_any (w : World) : Calls Try.prog 10 #[] w fun e w' => e = .returned (.bool true) ∧ Below w.heap.size w w' := by
  go_enter Try.func10, Try.ntmps10
  go_wp2_with fail
  refine (some_any w).mono ?_
  rintro e w1 ⟨g, rfl, hC, hb⟩
  have km := fun (C : Array Value) (n c : Nat) => markC C n c w1
  have hbA : Below w1.heap.size w1 (w1.alloc (.cells #[.int .u8 84, .int .u8 104, .int .u8 101, .int .u8 32, .int .u8 67, .int .u8 97, .int .u8 116, .int .u8 115, .int .u8 44, .int .u8 32, .int .u8 116, .int .u8 104, .int .u8 101, .int .u8 32, .int .u8 67, .int .u8 65, .int .u8 84, .int .u8 83, .int .u8 39, .int .u8 32, .int .u8 49, .int .u8 50] 5 (22, 23))) := (Below.refl _ _).alloc (Nat.le_refl _) _
  have hR : RdB (w1.alloc (.cells #[.int .u8 84, .int .u8 104, .int .u8 101, .int .u8 32, .int .u8 67, .int .u8 97, .int .u8 116, .int .u8 115, .int .u8 44, .int .u8 32, .int .u8 116, .int .u8 104, .int .u8 101, .int .u8 32, .int .u8 67, .int .u8 65, .int .u8 84, .int .u8 83, .int .u8 39, .int .u8 32, .int .u8 49, .int .u8 50] 5 (22, 23))) (some ⟨w1.heap.size, 0, none⟩) 22 liveB := ⟨Rd.new w1 5 liveB #[.int .u8 84, .int .u8 104, .int .u8 101, .int .u8 32, .int .u8 67, .int .u8 97, .int .u8 116, .int .u8 115, .int .u8 44, .int .u8 32, .int .u8 116, .int .u8 104, .int .u8 101, .int .u8 32, .int .u8 67, .int .u8 65, .int .u8 84, .int .u8 83, .int .u8 39, .int .u8 32, .int .u8 49, .int .u8 50] 22 (22, 23) (enc := encB) rfl rfl (by decide), by
    intro c hc
    simp [liveB] at hc
    omega⟩
  have CT := Lib.hid (Tokens_any _ 1 1 _ 1 1 someC (some ⟨w1.heap.size, 0, none⟩) 22 22 liveB _ (hC.below hbA) hR (Nat.le_refl _) (by decide) (by decide))
  rw [live_toks] at CT
  have HB1 := Lib.hid (Below.thn hb hbA)
  clear hb hC hR hbA
  go_wp2_with fail
  refine CT.out.mono ?_
  rintro e w2 ⟨v, rfl, ho, hb⟩
  have HB2 := Lib.hid (Below.thn HB1.out hb)
  have HT := Lib.hid (OwnK.ts ho)
  clear ho hb CT km
  have hk : RdK encTk 2 (w2.alloc (.cells #[.string ⟨#[99, 97, 116, 115]⟩, .int .i64 1, .string ⟨#[99, 97, 116, 115]⟩, .int .i64 3, .string ⟨#[49, 50]⟩, .int .i64 4] 33)) (some ⟨w2.heap.size, 0, none⟩) 3 [(⟨#[99, 97, 116, 115]⟩, 1), (⟨#[99, 97, 116, 115]⟩, 3), (⟨#[49, 50]⟩, 4)] := by
    obtain ⟨A, c, e, _, _, h⟩ := OwnK.rd encTk_len (OwnK.lit encTk_len w2 w2.heap.size 33 [(⟨#[99, 97, 116, 115]⟩, 1), (⟨#[99, 97, 116, 115]⟩, 3), (⟨#[49, 50]⟩, 4)] #[.string ⟨#[99, 97, 116, 115]⟩, .int .i64 1, .string ⟨#[99, 97, 116, 115]⟩, .int .i64 3, .string ⟨#[49, 50]⟩, .int .i64 4] 3 rfl rfl (Nat.le_refl _) (by decide))
    injection e with e1 e2 e3
    subst e1
    exact h
  have hbB : Below w2.heap.size w2 (w2.alloc (.cells #[.string ⟨#[99, 97, 116, 115]⟩, .int .i64 1, .string ⟨#[99, 97, 116, 115]⟩, .int .i64 3, .string ⟨#[49, 50]⟩, .int .i64 4] 33)) := (Below.refl _ _).alloc (Nat.le_refl _) _
  have CE := Lib.hid (equalTk_same (HT.out.below hbB) (show TS _ (.slice (some ⟨w2.heap.size, 0, none⟩) 3 3) [(⟨#[99, 97, 116, 115]⟩, 1), (⟨#[99, 97, 116, 115]⟩, 3), (⟨#[49, 50]⟩, 4)] from ⟨_, 3, 3, rfl, Nat.le_refl _, by decide, hk⟩))
  have HB3 := Lib.hid (Below.thn HB2.out hbB)
  clear hk hbB
  go_wp2_with fail
  refine CE.out.mono ?_
  rintro e w3 ⟨rfl, hb⟩
  have HB4 := Lib.hid (Below.thn HB3.out hb)
  clear hb CE
  go_wp2
  go_ret
  exact ⟨rfl, HB4.out⟩
end Go.Proofs.Ytbmdjmnjbflfeaa
