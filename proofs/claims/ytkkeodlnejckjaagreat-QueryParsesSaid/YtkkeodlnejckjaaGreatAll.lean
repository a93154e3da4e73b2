/- The terms that are no stop words, as one goes through them. -/
import Derived.Test.YtkkeodlnejckjaaGreatTerms
import Derived.Test.YtkkeodlnejckjaaGreatSrch
import Derived.Test.YtkkeodlnejckjaaGreatTold
namespace Go.Proofs.YtkkeodlnejckjaaGreat
open Go.RowKit Go.Shelf Go.Maps
set_option linter.unusedVariables false
set_option linter.unusedSimpArgs false
attribute [local go_sem] Oper.semAt_some

theorem roundIn_wide {n n' L : Nat} {P : Program} {l : Nat} {f : FuncId} {tmps : Array Value} {assign body : Code} {w : World} {R : Ending → World → Prop}
    (h : RoundIn Fence.wide n P l f tmps assign body w R) : RoundIn (Fence.wide.inRound L) n' P l f tmps assign body w R :=
  ⟨h.1, fun c cs _ => h.2 c cs (fun d hd => by cases hd)⟩
theorem terms_any (A : Option Addr) (n c : Nat) (B : Option Addr) (m d : Nat) (cap : Int) (T : Option Addr) (nt ct : Nat) (w : World) :
    Calls Tryz.prog 122 #[confV A n c B m d cap, .slice T nt ct] w fun e w' => e = .returned (.func (.func 129) #[] #[.pointer (some ⟨w.heap.size, 0, none⟩), .pointer (some ⟨w.heap.size + 1, 0, none⟩)]) ∧
      w' = (w.alloc (.cells #[.slice A n c, .slice B m d, .int .i64 cap] 25)).alloc (.cells #[.slice T nt ct] 26) := by
  go_enter Tryz.func122, Tryz.ntmps122
  go_wp2
  go_ret
  exact ⟨rfl, rfl⟩
theorem All_any (A : Option Addr) (n c : Nat) (B : Option Addr) (m d : Nat) (cap : Int) (T : Option Addr) (nt ct : Nat) (w : World) :
    Calls Tryz.prog 121 #[confV A n c B m d cap, .slice T nt ct] w fun e w' => e = .returned (.func (.func 127) #[] #[.pointer (some ⟨w.heap.size, 0, none⟩), .pointer (some ⟨w.heap.size + 1, 0, none⟩)]) ∧
      w' = (w.alloc (.cells #[.slice A n c, .slice B m d, .int .i64 cap] 25)).alloc (.cells #[.slice T nt ct] 26) := by
  go_enter Tryz.func121, Tryz.ntmps121
  go_wp2
  go_ret
  exact ⟨rfl, rfl⟩
/-- What is told of terms. -/
def fltL (st : List ByteArray) (pre : List (Nat × ByteArray)) : List (ByteArray × Nat) := (pre.filter fun x : Nat × ByteArray => !inS st x.2).map fun x => (x.2, x.1)
theorem flt_pre {st : List ByteArray} {a b : List (Nat × ByteArray)} (h : a <+: b) : fltL st a <+: fltL st b := (h.filter _).map _
theorem flt_yes {st : List ByteArray} {pre : List (Nat × ByteArray)} {x : Nat × ByteArray} (h : inS st x.2 = true) : fltL st (pre ++ [x]) = fltL st pre := by simp [fltL, h]
theorem flt_no {st : List ByteArray} {pre : List (Nat × ByteArray)} {x : Nat × ByteArray} (h : inS st x.2 = false) : fltL st (pre ++ [x]) = fltL st pre ++ [(x.2, x.1)] := by simp [fltL, h]
theorem toks_flt (cf : Cf) (l : List Nat) : toksL cf l = fltL cf.st (termsL cf l) := rfl

abbrev clT (b1 b2 : Nat) : Value := .func (.func 129) #[] #[.pointer (some ⟨b1, 0, none⟩), .pointer (some ⟨b2, 0, none⟩)]
abbrev AllFr (l : Nat) (Bc Bt B3 b1 b2 : Nat) (cv tv : Value) (x : Nat × ByteArray) : Act :=
  { tmps := #[.func (.yield l) #[] #[], .pointer (some ⟨Bc, 0, none⟩), .pointer (some ⟨Bt, 0, none⟩), .pointer (some ⟨B3, 0, none⟩), .int .i64 (x.1 : Nat), .string x.2, cv, tv, clT b1 b2, .int .i64 (x.1 : Nat), .string x.2, undef, undef, undef, undef, undef, undef, undef, undef, undef], defers := [] }
def AlI (w0 : World) (Bc B3 l : Nat) (A : Option Addr) (na c : Nat) (B : Option Addr) (m d : Nat) (cf : Cf) (J : List (ByteArray × Nat) → World → Prop) (pre : List (Nat × ByteArray)) (W : World) : Prop :=
  J (fltL cf.st pre) W ∧ Below w0.heap.size w0 W ∧ W.heap[Bc]? = some (.cells #[.slice A na c, .slice B m d, .int .i64 cf.cap] 25 (0, 0)) ∧ W.heap[B3]? = some (.cells #[.func (.yield l) #[] #[]] 181 (0, 0))
theorem alI_firm (w0 : World) (Bc B3 l : Nat) (A : Option Addr) (na c : Nat) (B : Option Addr) (m d : Nat) (cf : Cf) (J : List (ByteArray × Nat) → World → Prop) (D D' : Nat) (S : TypeId → Bool) (hJ : Firm D' S J) (hD : D' ≤ D) (h0 : w0.heap.size ≤ D) (h1 : Bc < D) (h2 : B3 < D) :
    Firm D S (AlI w0 Bc B3 l A na c B m d cf J) := by
  rintro s X Y ⟨hj, hb, hc, h3⟩ hst
  exact ⟨hJ _ _ _ hj (hst.mono hD), hb.trans ((hst.mono h0).belowB hb.size), hst.low _ _ h1 hc, hst.low _ _ h2 h3⟩
def AlX (cf : Cf) (l : List Nat) (Jx : List (ByteArray × Nat) → World → Prop) (c : Code) (pre : List (Nat × ByteArray)) (W : World) : Prop := c = .ret ∧ ∃ q, q <+: toksL cf l ∧ Jx q W
set_option maxRecDepth 100000 in
set_option maxHeartbeats 4000000 in
theorem all_seq (n Bc Bt : Nat) (hn : 2 ≤ n) (A : Option Addr) (na c : Nat) (B : Option Addr) (m d : Nat) (cf : Cf) (T : Option Addr) (nt ct : Nat) (l : List Nat) (S : TypeId → Bool) (hS : okS S) (w0 w : World)
    (hBc : w.heap[Bc]? = some (.cells #[.slice A na c, .slice B m d, .int .i64 cf.cap] 25 (0, 0))) (hBt : w.heap[Bt]? = some (.cells #[.slice T nt ct] 26 (0, 0)))
    (hb0 : Below w0.heap.size w0 w) (hR0 : RdC w0 A na c B m d cf) (ht : RdB w0 T nt l) (htc : nt ≤ ct) (htl : l.length ≤ 10000000) (hm : m ≤ 1000000) :
    SeqQ Fence.wide n Tryz.prog 127 #[.pointer (some ⟨Bc, 0, none⟩), .pointer (some ⟨Bt, 0, none⟩)] encK w0.heap.size S (toksL cf l) w := fun L J Jx W hW hJ hJx hY h0 => by
  have hlc := (Array.getElem?_eq_some_iff.1 hBc).1
  have hlt := (Array.getElem?_eq_some_iff.1 hBt).1
  have HJ : Hid (Firm W.heap.size S J) := hJ
  have HJx : Hid (Firm W.heap.size S Jx) := hJx
  have HY := Lib.hid hY
  have HS := Lib.hid hS
  have HR := Lib.hid hR0
  have HT := Lib.hid ht
  have hB := hb0.trans (hW.mono hb0.size)
  have hC0 := (hW.block Bc hlc).trans hBc
  have hC1 := (hW.block Bt hlt).trans hBt
  have hsz := hW.size
  -- the yield's box
  have hb1 : Below W.heap.size W (W.alloc (.cells #[.func (.yield L) #[] #[]] 181)) := (Below.refl _ _).alloc (Nat.le_refl _) _
  have h3 := World.alloc_heap_new W (.cells #[.func (.yield L) #[] #[]] 181)
  obtain ⟨W1, hW1⟩ : ∃ x, x = W.alloc (.cells #[.func (.yield L) #[] #[]] 181) := ⟨_, rfl⟩
  obtain ⟨B3, hB3⟩ : ∃ x, x = W.heap.size := ⟨_, rfl⟩
  have hs1 : W1.heap.size = B3 + 1 := by rw [hW1, hB3]; simp
  rw [← hW1] at hb1 h3
  rw [← hB3] at h3
  -- the two boxes of terms
  have hb2 : Below W1.heap.size W1 ((W1.alloc (.cells #[.slice A na c, .slice B m d, .int .i64 cf.cap] 25)).alloc (.cells #[.slice T nt ct] 26)) := ((Below.refl _ _).alloc (Nat.le_refl _) _).alloc (by simp) _
  have h4 : ((W1.alloc (.cells #[.slice A na c, .slice B m d, .int .i64 cf.cap] 25)).alloc (.cells #[.slice T nt ct] 26)).heap[W1.heap.size]? = some (.cells #[.slice A na c, .slice B m d, .int .i64 cf.cap] 25 (0, 0)) :=
    (Lib.alloc_old _ _ _ (by simp)).trans (World.alloc_heap_new W1 _)
  have h5 := World.alloc_heap_new (W1.alloc (.cells #[.slice A na c, .slice B m d, .int .i64 cf.cap] 25)) (.cells #[.slice T nt ct] 26)
  rw [World.size_alloc] at h5
  obtain ⟨W2, hW2⟩ : ∃ x, x = (W1.alloc (.cells #[.slice A na c, .slice B m d, .int .i64 cf.cap] 25)).alloc (.cells #[.slice T nt ct] 26) := ⟨_, rfl⟩
  rw [← hW2] at hb2 h4 h5
  have hs2 : W2.heap.size = B3 + 3 := by rw [hW2]; simp; omega
  rw [hs1] at h4 h5
  have hB2 : Below w0.heap.size w0 W2 := (hB.trans (hb1.mono hB.size)).trans (hb2.mono (by have := hB.size; omega))
  have hseq := terms_seq (n - 1) (B3 + 1) (B3 + 1 + 1) (by omega) A na c B m d cf T nt ct l S hS w0 W2 h4 h5 hB2 hR0 ht htc htl
  have hI : AlI w0 Bc B3 L A na c B m d cf J [] W2 := ⟨hJ _ _ _ (hJ _ _ _ h0 (Step.below hb1)) (Step.below hb2), hB2, (hb2.block Bc (by omega)).trans ((hb1.block Bc (by omega)).trans hC0), (hb2.block B3 (by omega)).trans h3⟩
  obtain ⟨c0, c1, c2⟩ := cells3 ((hb1.block Bc (by omega)).trans hC0)
  have hC1' := (hb1.block Bt (by omega)).trans hC1
  have t0 : W1.cell? ⟨Bt, 0, none⟩ = some (.slice T nt ct) := by simp [World.cell?, hC1']
  have C := Lib.hid (terms_any A na c B m d cf.cap T nt ct W1)
  rw [hW1] at c0 c1 c2 t0
  rw [← hW2, hs1] at C
  have HI := Lib.hid hI
  have HSQ := Lib.hid hseq
  have HW1 := Lib.hid hW1
  have HB3 := Lib.hid hB3
  have HSZ : Hid (W.heap.size = B3 ∧ W2.heap.size = B3 + 3 ∧ w0.heap.size ≤ B3 ∧ Bc < B3) := Lib.hid (by have := hB.size; omega)
  clear hBc hBt hb0 hR0 ht hW hJ hJx hY h0 hS hB hC0 hC1 hb1 h3 hW1 hB3 hs1 hb2 h4 h5 hW2 hs2 hB2 hseq hI hC1' hlc hlt hsz htc htl
  refine callsIn_of_wp_marks Tryz.func127 rfl trivial ?_ rfl
  simp only [Tryz.ntmps127, List.size_toArray, List.length_cons, List.length_nil, Nat.reduceAdd, Nat.reduceSub, Array.replicate_succ, Array.replicate_zero, List.push_toArray, List.append_toArray, List.nil_append, List.cons_append]
  gi_wp2_with fail
  rw [← HW1.out, ← HB3.out]
  clear HW1
  refine ⟨trivial, fun h => (by simp [Fence.wide] at h), (callsIn_wide.2 C.out).mono ?_⟩
  rintro e w9 ⟨rfl, h9⟩
  obtain rfl := h9.symm
  clear C c0 c1 c2 t0
  gi_wp2_with fail
  refine wpIn_range_Q (n := n) rfl (by omega) (gf := 129) (lb := #[.pointer (some ⟨B3 + 1, 0, none⟩), .pointer (some ⟨B3 + 1 + 1, 0, none⟩)]) rfl trivial (enters_of Tryz.func129 (by kernel_rfl) rfl)
    HSQ.out (by have := HSZ.out; omega) (Below.refl _ _) (fun _ => rfl)
    (AlI w0 Bc B3 L A na c B m d cf J) (AlX cf l Jx) (alI_firm w0 Bc B3 L A na c B m d cf J _ W.heap.size S HJ.out (by have := HSZ.out; omega) (by have := HSZ.out; omega) (by have := HSZ.out; omega) (by have := HSZ.out; omega)) ?firmx HI.out
    (fun pre x a' W' => a' = AllFr L Bc Bt B3 (B3 + 1) (B3 + 1 + 1) (confV A na c B m d cf.cap) (.slice T nt ct) x) (fun pre x a' s X Y h _ => h) ?assign ?body ?done ?stop
  case firmx =>
    rintro cc s X Y ⟨hc, q, hq, hj⟩ hst
    exact ⟨hc, q, hq, HJx.out _ _ _ hj (hst.mono (by have := HSZ.out; omega))⟩
  case assign =>
    intro L' pre x W' K hpx hI hK
    have HI := Lib.hid hI
    have HK := Lib.hid hK
    clear hI hK
    gi_wp2
    exact HK.out _ _ (Keep.refl _ _ _ _) HI.out rfl
  case body =>
    rintro L' pre ⟨pa, t⟩ a' W' hpx ⟨hj, hb, hc, h3⟩ rfl
    have hmay : mayC cf := by
      refine Classical.byContradiction fun hn => ?_
      unfold termsL at hpx
      rw [if_neg hn] at hpx
      have := hpx.length_le
      simp at this
    have HI := Lib.hid (show J (fltL cf.st pre) W' ∧ Below w0.heap.size w0 W' ∧ W'.heap[Bc]? = some (.cells #[.slice A na c, .slice B m d, .int .i64 cf.cap] 25 (0, 0)) ∧ W'.heap[B3]? = some (.cells #[.func (.yield L) #[] #[]] 181 (0, 0)) from ⟨hj, hb, hc, h3⟩)
    have C := Lib.hid (stops_any A na c B m d cf t W' (HR.out.below hb).st hm (may_sorted hmay))
    obtain ⟨c0, c1, c2⟩ := cells3 hc
    have HPX := Lib.hid hpx
    clear hj hb hc h3 hmay hpx
    by_cases hin : inS cf.st t = true
    · have HIN := Lib.hid hin
      gi_wp2_with fail
      refine ⟨trivial, fun h => (by simp [Fence.wide] at h), CallsIn.inRound L' ((callsIn_wide.2 C.out).mono ?_)⟩
      rintro e W3 ⟨rfl, hb3⟩
      rw [HIN.out]
      have HFin : Hid (∀ a, postQ W2.heap.size w0.heap.size S (AlI w0 Bc B3 L A na c B m d cf J) (AlX cf l Jx) (pre ++ [(pa, t)]) W' .normal a W3) := Lib.hid fun a => by
        refine ⟨Keep.below hb3, ?_⟩
        have hI : AlI w0 Bc B3 L A na c B m d cf J pre W3 := alI_firm w0 Bc B3 L A na c B m d cf J W2.heap.size W.heap.size S HJ.out (by have := HSZ.out; omega) (by have := HSZ.out; omega) (by have := HSZ.out; omega) (by have := HSZ.out; omega) pre W' W3 HI.out (Step.below hb3)
        obtain ⟨i1, i2⟩ := hI
        exact ⟨by rw [flt_yes HIN.out]; exact i1, i2⟩
      clear hb3 C c0 c1 c2 hin
      gi_wp2
      exact HFin.out _
    · have hin : inS cf.st t = false := by simpa using hin
      have HIN := Lib.hid hin
      gi_wp2_with fail
      refine ⟨trivial, fun h => (by simp [Fence.wide] at h), CallsIn.inRound L' ((callsIn_wide.2 C.out).mono ?_)⟩
      rintro e W3 ⟨rfl, hb3⟩
      rw [HIN.out]
      have hj3 := HJ.out _ _ _ HI.out.1 (Step.below hb3)
      have h33 := (hb3.block B3 (Array.getElem?_eq_some_iff.1 HI.out.2.2.2).1).trans HI.out.2.2.2
      have y0 : W3.cell? ⟨B3, 0, none⟩ = some (.func (.yield L) #[] #[]) := by simp [World.cell?, h33]
      have HC3 := Lib.hid ((hb3.block Bc (Array.getElem?_eq_some_iff.1 HI.out.2.2.1).1).trans HI.out.2.2.1)
      have H33 := Lib.hid h33
      have HB3' := Lib.hid (HI.out.2.1.trans (hb3.mono HI.out.2.1.size))
      have HK3 : Hid (Keep w0.heap.size W2.heap.size S W' W3) := Lib.hid (Keep.below hb3)
      have hpf : fltL cf.st pre ++ [(t, pa)] <+: toksL cf l := by
        have := flt_pre (st := cf.st) HPX.out
        rw [flt_no HIN.out] at this
        exact this
      obtain ⟨fn, tmps, assign, body, hy, hRd⟩ := HY.out (fltL cf.st pre) (t, pa) W3 hpf hj3
      dsimp only [encK] at hy
      have HRd := Lib.hid hRd
      have HPF := Lib.hid hpf
      clear hb3 hj3 h33 C c0 c1 c2 hin hRd hpf
      gi_wp2_with fail
      refine ⟨fun h => (by simp [Fence.wide] at h), (roundIn_wide HRd.out).mono ?_⟩
      rintro e W5 (⟨rfl, hJ5, hk5⟩ | ⟨rfl, hJ5, hk5⟩)
      · have HFin : Hid (∀ a, postQ W2.heap.size w0.heap.size S (AlI w0 Bc B3 L A na c B m d cf J) (AlX cf l Jx) (pre ++ [(pa, t)]) W' .normal a W5) := Lib.hid fun a =>
          ⟨HK3.out.trans (hk5.mono (Nat.le_refl _) (by have := HSZ.out; omega)), by rw [flt_no HIN.out]; exact hJ5, HB3'.out.trans (hk5.belowb HB3'.out.size), hk5.own _ _ _ _ HS.out.1 HC3.out, hk5.own _ _ _ _ HS.out.2.2.2.2.2.2 H33.out⟩
        clear hJ5 hk5 y0 hy
        gi_wp2
        exact HFin.out _
      · have HFin : Hid (∀ a, postQ W2.heap.size w0.heap.size S (AlI w0 Bc B3 L A na c B m d cf J) (AlX cf l Jx) (pre ++ [(pa, t)]) W' .ret a W5) := Lib.hid fun a =>
          ⟨HK3.out.trans (hk5.mono (Nat.le_refl _) (by have := HSZ.out; omega)), rfl, _, HPF.out, hJ5⟩
        clear hJ5 hk5 y0 hy
        gi_wp2
        exact HFin.out _
  case done =>
    rintro D W' hD ⟨hj, hb, hc, h3⟩ hK
    have HK := Lib.hid hK
    have HJL : Hid (J (toksL cf l) (W'.putObj D (.deferred none))) := Lib.hid (HJ.out _ _ _ (by rw [toks_flt]; exact hj) (Step.put hK rfl (by have := HSZ.out; omega)))
    clear hj hb hc h3 hK
    gi_wp2
    refine ⟨by simp, .inl ⟨_, _, rfl, run_takeDeferred HK.out, ?_⟩⟩
    exact ⟨.tuple #[], by simp [results, Tryz.results127, go_sem], ⟨_, rfl⟩, .inl HJL.out⟩
  case stop =>
    rintro D cc pre W' hD hpx ⟨rfl, q, hq, hj⟩ hK
    have HK := Lib.hid hK
    have HJL : Hid (Jx q (W'.putObj D (.deferred none))) := Lib.hid (HJx.out _ _ _ hj (Step.put hK rfl (by have := HSZ.out; omega)))
    have HQ := Lib.hid hq
    clear hj hK hq
    gi_wp2
    refine ⟨by simp, .inl ⟨_, _, rfl, run_takeDeferred HK.out, ?_⟩⟩
    exact ⟨.tuple #[], by simp [results, Tryz.results127, go_sem], ⟨_, rfl⟩, .inr ⟨q, HQ.out, HJL.out⟩⟩
end Go.Proofs.YtkkeodlnejckjaaGreat
