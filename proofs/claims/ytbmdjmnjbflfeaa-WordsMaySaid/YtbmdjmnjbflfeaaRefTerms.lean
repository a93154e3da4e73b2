/- A text's terms, each once, by the document. -/
import Derived.Test.YtbmdjmnjbflfeaaTermsW
import Derived.Test.YtbmdjmnjbflfeaaRefTk
import Derived.Test.YtbmdjmnjbflfeaaReg
namespace Go.Proofs.Ytbmdjmnjbflfeaa
open Go.RowKit Go.Shelf
set_option linter.unusedVariables false
set_option linter.unusedSimpArgs false

theorem encS_one : ∀ x : ByteArray, (encS x).oneCell' = true := fun _ => rfl
theorem infoS1 : (Try.prog.info? 9).map (fun i => (i.zero, i.size, i.bytes)) = some (some (.string .empty), 1, 16) := infoS
/-- A value that reads as strings. -/
def SR (w : World) (v : Value) (L : List ByteArray) : Prop := ∃ A n c, v = .slice A n c ∧ n ≤ c ∧ c ≤ 9223372036854775807 ∧ Rd encS w A n L
theorem SR.below {w w' : World} {v : Value} {L : List ByteArray} (h : SR w v L) (hb : Below w.heap.size w w') : SR w' v L := by
  obtain ⟨A, n, c, e, h1, h2, h3⟩ := h
  exact ⟨A, n, c, e, h1, h2, h3.below hb⟩
theorem SS.sr {w : World} {v : Value} {L : List ByteArray} (h : SS w v L) : SR w v L := by
  obtain ⟨A, n, c, e, h1, h2, h3⟩ := h
  refine ⟨A, n, c, e, h1, h2, h3.len, h3.max, fun hn => ?_⟩
  obtain ⟨ad, e2, hc⟩ := h3.cell hn
  refine ⟨ad, e2, fun j hj => ?_⟩
  have := hc j hj 0 (.string L[j]) rfl
  rwa [Nat.mul_one, Nat.add_zero] at this
theorem run_cutS_h (A : Option Addr) (n c m : Nat) (hc : m ≤ c) (W : World) : (Instr.slice 23 (.slice A n c) none (some (.int .i64 (m : Int))) none).run Try.prog W = .ok (.slice A m c) W := by
  rw [run_slice_h W 23 A n c (by rw [show Try.prog.elem 23 = 9 by kernel_rfl]; exact Try.underlying23) .i64 (m : Int) (Int.natCast_nonneg _) (by omega), show Try.prog.elem 23 = 9 by kernel_rfl]
  have hz : (sizeOf 9).run Try.prog W = .ok 1 W := by kernel_rfl
  simp [hz, sliced]
  intro _
  cases A <;> simp [Addr.add]
theorem below_own_nil {w w' : World} (h : w.grownBy w' (Value.slice none 0 0).ownBlock) : Below w.heap.size w w' := (Below.refl _ _).grown h (Nat.le_refl _) (fun k hk => by simp [Value.ownBlock] at hk)
theorem run_append_S {w : World} (b0 : Nat) {v : Value} {xs ys : List ByteArray} {A : Option Addr} {m c : Nat} (HO : OwnL encS 9 w b0 v xs) (HR : Rd encS w A m ys) (hl : xs.length + m ≤ 100000) (hb : b0 ≤ w.heap.size) :
    ∃ v1 w1, (Builtin.append_ #[23, 23] 23 #[v, .slice A m c]).run Try.prog w = .ok v1 w1 ∧ OwnL encS 9 w1 b0 v1 (xs ++ ys) ∧ w.grownBy w1 v.ownBlock :=  by
  obtain ⟨v1, w1, r1, o1, g1, _⟩ := run_append_rd (P := Try.prog) (c := c) b0 23 23 9 (.string .empty) 16 Try.underlying23 infoS1 rfl (by decide) encS_one HO HR (by omega) hb
  exact ⟨v1, w1, r1, o1, g1⟩
theorem take_map {L : List Tok} {k : Nat} {x : Tok} (h : ∃ hl : k < L.length, L[k] = x) (s : ByteArray) : s ∈ (L.take (k + 1)).map (·.1) ↔ s = x.1 ∨ s ∈ (L.take k).map (·.1) := by
  obtain ⟨hl, rfl⟩ := h
  rw [List.take_succ_eq_append_getElem hl, List.map_append, List.mem_append]
  simp only [List.map_cons, List.map_nil, List.mem_singleton]
  exact Or.comm
structure RtI (tk : List Tok) (ix : Nat) (o : List ByteArray) : Prop where
  so : o.Pairwise ltB
  me : ∀ s, s ∈ o ↔ s ∈ (tk.take ix).map (·.1)
theorem RtI.same {tk : List Tok} {ix : Nat} {o : List ByteArray} {x : Tok} (h : RtI tk ix o) (hx : ∃ hl : ix < tk.length, tk[ix] = x) (hm : x.1 ∈ o) : RtI tk (ix + 1) o :=
  ⟨h.so, fun s => by
    rw [take_map hx, ← h.me]
    constructor
    · exact .inr
    · rintro (rfl | h1)
      · exact hm
      · exact h1⟩
theorem RtI.put {tk : List Tok} {ix k : Nat} {o : List ByteArray} {x : Tok} (h : RtI tk ix o) (hx : ∃ hl : ix < tk.length, tk[ix] = x) (hk : k ≤ o.length) (h1 : ∀ j (hj : j < o.length), j < k → ltB o[j] x.1) (h2 : ∀ hj : k < o.length, ltB x.1 o[k]) : RtI tk (ix + 1) (o.take k ++ [x.1] ++ o.drop k) :=
  ⟨put_lt h.so hk h1 h2, fun s => by rw [put_mem, take_map hx, ← h.me]⟩
theorem RtI.end {tk : List Tok} {ix : Nat} {o : List ByteArray} (h : RtI tk ix o) (hi : tk.length ≤ ix) : o = eachB (tk.map (·.1)) :=
  sorted_ext _ _ h.so (each_lt _) fun s => by rw [h.me, List.take_of_length_le hi, each_mem]
def RtF (Ao : Option Addr) (no co : Nat) (n6 c6 ix k b0 : Nat) (o : List ByteArray) (t : ByteArray) (ad : Addr) : Nat → Value → World → Prop
  | 0 => fun v w => v = .slice none 0 0
  | 1 => fun v w => v = .slice Ao no co
  | 2 => fun v w => v = .int .i64 (k : Nat)
  | 3 => fun v w => v = .slice Ao k co
  | 4 => fun v w => ∃ (V57 : Value), v = V57 ∧ OwnL encS 9 w b0 V57 (o.take k)
  | 5 => fun v w => v = .slice (some ad) n6 c6
  | 6 => fun v w => v = .int .i64 (ix : Nat)
  | 7 => fun v w => v = .pointer (some (ad.add (ix * 2)))
  | 8 => fun v w => v = .pointer (some (ad.add (ix * 2)))
  | 9 => fun v w => v = .string t
  | 10 => fun v w => ∃ (V63 : Value), v = V63 ∧ ∃ a9, V63 = .slice (some a9) 1 1 ∧ Rd encS w (some a9) 1 [t]
  | _ => fun _ _ => True
theorem RtF.below (Ao : Option Addr) (no co : Nat) (n6 c6 ix k b0 : Nat) (o : List ByteArray) (t : ByteArray) (ad : Addr) : ∀ i v w w', Below w.heap.size w w' → RtF Ao no co n6 c6 ix k b0 o t ad i v w → RtF Ao no co n6 c6 ix k b0 o t ad i v w'
  | 0, _, _, _, _, h => h
  | 1, _, _, _, _, h => h
  | 2, _, _, _, _, h => h
  | 3, _, _, _, _, h => h
  | 4, _, _, _, hb, h => by
    obtain ⟨V57, e, g⟩ := h
    exact ⟨V57, e, g.below hb⟩
  | 5, _, _, _, _, h => h
  | 6, _, _, _, _, h => h
  | 7, _, _, _, _, h => h
  | 8, _, _, _, _, h => h
  | 9, _, _, _, _, h => h
  | 10, _, _, _, hb, h => by
    obtain ⟨V63, e, g⟩ := h
    exact ⟨V63, e, (by obtain ⟨a9, e9, h9⟩ := g; exact ⟨a9, e9, h9.below hb⟩)⟩
  | _ + 11, _, _, _, _, _ => trivial

set_option maxRecDepth 100000 in
set_option maxHeartbeats 8000000 in
theorem refTerms_any (A : Option Addr) (n c : Nat) (B : Option Addr) (m d : Nat) (cf : Cf) (T : Option Addr) (nt ct : Nat) (l : List Nat) (w : World) (h : RdC w A n c B m d cf) (ht : RdB w T nt l) (htc : nt ≤ ct) (htl : nt ≤ 10000) (htc2 : ct ≤ 9223372036854775807) (hm : m ≤ 1000000) :
    Calls Try.prog 35 #[confV A n c B m d cf.cap, .slice T nt ct] w fun e w' => ∃ v, e = .returned v ∧ SR w' v (eachB ((toksL cf l).map (·.1))) ∧ Below w.heap.size w w' := by
  have HR := Lib.hid h
  have hbx := (Below.refl w.heap.size w).alloc (Nat.le_refl _) (.cells #[.slice A n c, .slice B m d, .int .i64 cf.cap] 25)
  have hcell := World.alloc_heap_new w (.cells #[.slice A n c, .slice B m d, .int .i64 cf.cap] 25)
  obtain ⟨w1, hw1⟩ : ∃ w1, w1 = w.alloc (.cells #[.slice A n c, .slice B m d, .int .i64 cf.cap] 25) := ⟨_, rfl⟩
  rw [← hw1] at hbx hcell
  have CT := Lib.hid (refTokens_any A n c B m d cf T nt ct l w1 (h.below hbx) (ht.below hbx) htc (by omega) htc2 hm)
  have HLn := Lib.hid ht.len
  obtain ⟨c0, c1, c2⟩ := cells3 hcell
  obtain ⟨cp, hcp⟩ : ∃ cp, cp = cf.cap := ⟨_, rfl⟩
  rw [← hcp] at c2 CT hw1
  rw [← hcp]
  rw [hw1] at c0 c1 c2
  have HW1 := Lib.hid hw1
  have HB1 := Lib.hid hbx
  have HTN := Lib.hid htl
  clear h ht hbx hcell hw1 hcp htl hm
  go_enter Try.func35, Try.ntmps35
  go_wp2_with fail
  rw [← HW1.out]
  refine CT.out.mono ?_
  rintro e w2 ⟨v6, rfl, ho, hb⟩
  have HB2 := Lib.hid (Below.thn HB1.out hb)
  obtain ⟨tk, htk⟩ : ∃ tk, tk = toksL cf l := ⟨_, rfl⟩
  rw [← htk] at ho
  obtain ⟨A6, c6, rfl, h61, h62, h63⟩ := OwnK.rd encTk_len ho
  have htl : tk.length ≤ 10001 := by
    rw [htk]
    have := toks_len cf l
    have := HLn.out
    have := HTN.out
    omega
  obtain ⟨n6, hn6⟩ : ∃ n6, n6 = tk.length := ⟨_, rfl⟩
  rw [← hn6] at h61 h63 ⊢
  have hn6b : n6 ≤ 10001 := by omega
  have HN6 := Lib.hid hn6
  have HTE := Lib.hid htk
  have HI2 : Hid (Below w.heap.size w w2 ∧ RdK encTk 2 w2 A6 n6 tk) := Lib.hid ⟨HB2.out, h63⟩
  have HO2 : Hid (Rd encS w2 none 0 [] ∧ RtI tk 0 []) := Lib.hid ⟨Rd.empty _, List.Pairwise.nil, fun s => by simp⟩
  clear CT c0 c1 c2 HW1 HB1 hb ho h63 hn6 htk htl
  go_wp2_with fail
  go_loopw [5, 7] (fun x y wr => ∃ ix : Nat, ix ≤ n6 ∧ y = .int .i64 (ix : Nat) ∧ (∃ (Ao : Option Addr) (no co : Nat) (o : List ByteArray), x = .slice Ao no co ∧ no ≤ co ∧ co ≤ 9223372036854775807 ∧ no ≤ ix ∧ Hid (Rd encS wr Ao no o ∧ RtI tk ix o)) ∧ Hid (Below w.heap.size w wr ∧ RdK encTk 2 wr A6 n6 tk)) (fun _ y _ => n6 - (intOf y).toNat)
  case atStart => exact ⟨0, Nat.zero_le _, rfl, ⟨none, 0, 0, [], rfl, Nat.le_refl _, by decide, Nat.le_refl _, HO2⟩, HI2⟩
  case round =>
    obtain ⟨ix, hi, rfl, ⟨Ao, no, co, o, rfl, hnc, hco, hni, HO⟩, HI⟩ := hrel
    by_cases hlt : (ix : Int) < (n6 : Int)
    · have HIX := Lib.hid hlt
      go_wp2_with fail
      go_loopw [8] (fun z wy => ∃ k : Nat, k ≤ no ∧ z = .int .i64 (k : Nat) ∧ Hid (Below wr.heap.size wr wy ∧ ∀ j (hj : j < o.length) x, (∃ hl : ix < tk.length, tk[ix] = x) → j < k → ltB o[j] x.1)) (fun z _ => no - (intOf z).toNat)
      case atStart => exact ⟨0, Nat.zero_le _, rfl, Lib.hid ⟨Below.refl _ _, fun j hj x hx h => absurd h (Nat.not_lt_zero _)⟩⟩
      case round =>
        obtain ⟨k, hk, rfl, HK⟩ := hrel
        have HSO := Lib.hid (HO.out.1.below HK.out.1)
        have HBY := Lib.hid (Below.thn HI.out.1 HK.out.1)
        have HTK := Lib.hid (HI.out.2.below HK.out.1)
        obtain ⟨ad, x, rfl, HX, x0, x1⟩ := HTK.out.at2 (k := ix) (by omega)
        by_cases hkl : (k : Int) < (no : Int)
        · obtain ⟨ao, s, rfl, HS, e0⟩ := rdS_at HSO.out (k := k) (by omega)
          have g1 : decide ((k : Int) < (no : Int)) = true := decide_eq_true hkl
          by_cases hls : ltB s x.1
          · have hbl : Op.bytesLess s.toList x.1.toList = true := by rw [blS]; exact decide_eq_true hls
            have HLS := Lib.hid hls
            clear hls
            go_upto_region 7 with fail
            go_quiet (fail)
            clear e0 x0 x1 g1 hbl
            go_wp2
            refine ⟨⟨k + 1, by omega, by simp; try go_num, Lib.hid ⟨Below.thn HK.out.1 (Below.drewN _ _), fun j hj y hy hjk => ?_⟩⟩, by simp [intOf]; try omega⟩
            have hyx : y = x := by
              obtain ⟨hl, rfl⟩ := hy
              obtain ⟨hl2, e2⟩ := HX.out
              exact e2
            subst hyx
            rcases Nat.lt_or_ge j k with h1 | h1
            · exact HK.out.2 j hj y HX.out h1
            · obtain rfl : j = k := by omega
              obtain ⟨hl, e2⟩ := HS.out
              rw [e2]
              exact HLS.out
          · have hbl : Op.bytesLess s.toList x.1.toList = false := by rw [blS]; exact decide_eq_false hls
            have HLS := Lib.hid hls
            clear hls
            go_upto_region 7 with fail
            go_quiet (fail)
            obtain ⟨W5, hW5⟩ : ∃ W5, W5 = wr.drewN nq := ⟨_, rfl⟩
            have hb5 : Below wr.heap.size wr W5 := by rw [hW5]; exact Below.drewN wr _
            rw [← hW5]
            clear hW5
            clear hbl
            replace e0 := cell_keep hb5 e0
            replace x0 := cell_keep hb5 x0
            by_cases hst : s = x.1
            · have he : (s.toList == x.1.toList) = true := by rw [str_eqB]; exact decide_eq_true hst
              go_upto_region 9 with fail
              go_quiet (fail)
              obtain ⟨W6, hW6⟩ : ∃ W6, W6 = W5.drewN nq := ⟨_, rfl⟩
              have hb6 : Below W5.heap.size W5 W6 := by rw [hW6]; exact Below.drewN W5 _
              rw [← hW6]
              have HB56 := Lib.hid hb6
              have HB6 := Lib.hid (Below.thn (Below.thn HBY.out hb5) hb6)
              have HTK6 := Lib.hid ((HTK.out.below hb5).below hb6)
              have HSO6 := Lib.hid ((HSO.out.below hb5).below hb6)
              have HRT := Lib.hid HO.out.2
              clear hW6 hb6
              have HN : Hid (Rd encS W6 (some ao) no o ∧ RtI tk (ix + 1) o) := Lib.hid ⟨HSO6.out, RtI.same HRT.out HX.out (by
                obtain ⟨hl, e⟩ := HS.out
                rw [← hst, ← e]
                exact List.getElem_mem hl)⟩
              have HNB : Hid (Below w.heap.size w W6 ∧ RdK encTk 2 W6 (some ad) n6 tk) := Lib.hid ⟨HB6.out, HTK6.out⟩
              clear he hst e0 x0 x1 g1 hb5
              go_wp2
              exact ⟨⟨ix + 1, by omega, by simp; try go_num, ⟨some ao, no, co, o, rfl, hnc, hco, by omega, HN⟩, HNB⟩, by simp [intOf]; try omega⟩
            · have he : (s.toList == x.1.toList) = false := by rw [str_eqB]; exact decide_eq_false hst
              have H1 : Hid (∀ j (hj : j < o.length), j < k → ltB o[j] x.1) := Lib.hid fun j hj h => HK.out.2 j hj x HX.out h
              have H2 : Hid (∀ hj : k < o.length, ltB x.1 o[k]) := Lib.hid fun hj => by
                obtain ⟨hl, e⟩ := HS.out
                rw [e]
                exact ltB_tri3 HLS.out hst
              go_upto_region 9 with fail
              go_quiet (fail)
              obtain ⟨W6, hW6⟩ : ∃ W6, W6 = W5.drewN nq := ⟨_, rfl⟩
              have hb6 : Below W5.heap.size W5 W6 := by rw [hW6]; exact Below.drewN W5 _
              rw [← hW6]
              have HB56 := Lib.hid hb6
              have HB6 := Lib.hid (Below.thn (Below.thn HBY.out hb5) hb6)
              have HTK6 := Lib.hid ((HTK.out.below hb5).below hb6)
              have HSO6 := Lib.hid ((HSO.out.below hb5).below hb6)
              have HRT := Lib.hid HO.out.2
              clear hW6 hb6
              clear he hst e0 g1 hb5 HLS
              obtain ⟨b0, hb0e⟩ : ∃ b0, b0 = W6.heap.size := ⟨_, rfl⟩
              have hb0 : b0 ≤ W6.heap.size := by omega
              have hcut := run_cutS_h (some ao) no co k (by omega)
              have HO := HSO6
              have hx6 := HTK6.out.at2 (k := ix) (by omega)
              have X0 : Hid (W6.cell? (ad.add (ix * 2)) = some (.string x.1)) := Lib.hid (cell_keep HB56.out x0)
              obtain ⟨t, ht9⟩ : ∃ t, t = x.1 := ⟨_, rfl⟩
              rw [← ht9] at X0
              have HT9 := Lib.hid ht9
              have hkn : k ≤ no := hk
              have hk3 : k ≤ 10001 := by omega
              have hno3 : no ≤ 10001 := by omega
              have hlt6 := hlt
              have HB0 := Lib.hid hb0e
              clear hx6 ht9 x0 x1 hb0e 
              go_wp2_with fail
              refine wp_region_flowT 11 (by kernel_rfl) (by kernel_rfl) (RtF (some ao) no co n6 c6 ix k b0 o t ad) (RtF.below (some ao) no co n6 c6 ix k b0 o t ad) (by kernel_rfl) (by kernel_rfl) ?_ ?_
              case refine_1 =>
                intro i o hit ho ρ y w2 hb2 hreg hn hf hyb hyn
                obtain rfl | rfl | rfl | rfl | rfl | rfl | rfl | rfl | rfl | rfl | rfl : i = 0 ∨ i = 1 ∨ i = 2 ∨ i = 3 ∨ i = 4 ∨ i = 5 ∨ i = 6 ∨ i = 7 ∨ i = 8 ∨ i = 9 ∨ i = 10 := by omega
                · cases ho
                  rw [if_pos (show Region.wanted _ y = true from rfl)]
                  have f9 : ρ (.tmp 9) = .slice none 0 0 := hf 9 (by kernel_rfl)
                  exact ⟨f9, Below.refl _ _⟩
                · cases ho
                  rw [if_pos (show Region.wanted _ y = true from rfl)]
                  have f5 : ρ (.tmp 5) = .slice (some ao) no co := hf 5 (by kernel_rfl)
                  exact ⟨f5, Below.refl _ _⟩
                · cases ho
                  rw [if_pos (show Region.wanted _ y = true from rfl)]
                  have f8 : ρ (.tmp 8) = .int .i64 (k : Nat) := hf 8 (by kernel_rfl)
                  exact ⟨f8, Below.refl _ _⟩
                · cases ho
                  rw [if_pos (show Region.wanted _ y = true from rfl)]
                  have f54 : ρ (.tmp 54) = .slice (some ao) no co := hn 1 _ 54 rfl (by kernel_rfl) rfl
                  have f55 : ρ (.tmp 55) = .int .i64 (k : Nat) := hn 2 _ 55 rfl (by kernel_rfl) rfl
                  exact does_ok (v := .slice (some ao) k co) (w' := w2) (by simp [go_sem, hreg.const, f54, f55, hcut]) ⟨rfl, Below.refl _ _⟩
                · cases ho
                  rw [if_pos (show Region.wanted _ y = true from rfl)]
                  have f53 : ρ (.tmp 53) = .slice none 0 0 := hn 0 _ 53 rfl (by kernel_rfl) rfl
                  have f56 : ρ (.tmp 56) = .slice (some ao) k co := hn 3 _ 56 rfl (by kernel_rfl) rfl
                  obtain ⟨v1, w', r1, o1, g1, _⟩ := run_append_rd (P := Try.prog) (c := co) b0 23 23 9 (.string .empty) 16 Try.underlying23 infoS1 rfl (by decide) encS_one (OwnL.nil encS 9 w2 b0) ((HO.out.below hb2).take k hkn) (by simp; omega) (Nat.le_trans hb0 hb2.size)
                  exact does_ok (v := v1) (w' := w') (by simp only [execOp, List.getElem_toArray, List.getElem_cons_succ, List.getElem_cons_zero, resolve, invoke, builtin, Sem.run_bind, Sem.run_pure, Result.andThen_ok, List.map_toArray, List.map_cons, List.map_nil, f53, f56, r1]) ⟨⟨_, rfl, by simpa using o1⟩, below_own_nil g1⟩
                · cases ho
                  rw [if_pos (show Region.wanted _ y = true from rfl)]
                  have f6 : ρ (.tmp 6) = .slice (some ad) n6 c6 := hf 6 (by kernel_rfl)
                  exact ⟨f6, Below.refl _ _⟩
                · cases ho
                  rw [if_pos (show Region.wanted _ y = true from rfl)]
                  have f7 : ρ (.tmp 7) = .int .i64 (ix : Nat) := hf 7 (by kernel_rfl)
                  exact ⟨f7, Below.refl _ _⟩
                · cases ho
                  rw [if_pos (show Region.wanted _ y = true from rfl)]
                  have f58 : ρ (.tmp 58) = .slice (some ad) n6 c6 := hn 5 _ 58 rfl (by kernel_rfl) rfl
                  have f59 : ρ (.tmp 59) = .int .i64 (ix : Nat) := hn 6 _ 59 rfl (by kernel_rfl) rfl
                  exact does_ok (v := .pointer (some (ad.add (ix * 2)))) (w' := w2) (by simp [go_sem, hreg.const, f58, f59, hlt6]) ⟨rfl, Below.refl _ _⟩
                · cases ho
                  rw [if_pos (show Region.wanted _ y = true from rfl)]
                  have f60 : ρ (.tmp 60) = .pointer (some (ad.add (ix * 2))) := hn 7 _ 60 rfl (by kernel_rfl) rfl
                  exact does_ok (v := .pointer (some (ad.add (ix * 2)))) (w' := w2) (by simp [go_sem, hreg.const, f60, hlt6]) ⟨rfl, Below.refl _ _⟩
                · cases ho
                  rw [if_pos (show Region.wanted _ y = true from rfl)]
                  have f61 : ρ (.tmp 61) = .pointer (some (ad.add (ix * 2))) := hn 8 _ 61 rfl (by kernel_rfl) rfl
                  have x0 := cell_keep hb2 X0.out
                  exact does_ok (v := .string t) (w' := w2) (by simp [go_sem, hreg.const, f61, x0]) ⟨rfl, Below.refl _ _⟩
                · cases ho
                  rw [if_pos (show Region.wanted _ y = true from rfl)]
                  have f62 : ρ (.tmp 62) = .string t := hn 9 _ 62 rfl (by kernel_rfl) rfl
                  exact does_ok (v := .slice (some ⟨w2.heap.size, 0, none⟩) 1 1) (w' := w2.alloc (.cells #[.string t] 9)) (by simp [go_sem, hreg.const, f62]) ⟨⟨_, rfl, _, rfl, Rd.new w2 9 [t] #[.string t] 1 (0, 0) (enc := encS) rfl rfl (by decide)⟩, (Below.refl _ _).alloc (Nat.le_refl _) _⟩
              case refine_2 =>
                intro a w2 hb2 hd hs hfacts hrest
                obtain ⟨V57, q57, g57⟩ : ∃ (V57 : Value), a.tmps.getD 57 undef = V57 ∧ OwnL encS 9 w2 b0 V57 (o.take k) := hfacts 4 _ 57 (by decide) rfl rfl
                obtain ⟨V63, q63, g63⟩ : ∃ (V63 : Value), a.tmps.getD 63 undef = V63 ∧ ∃ a9, V63 = .slice (some a9) 1 1 ∧ Rd encS w2 (some a9) 1 [t] := hfacts 10 _ 63 (by decide) rfl rfl
                have ha := frame_ofP hd hs hrest [53, 54, 55, 56, 57, 58, 59, 60, 61, 62, 63] (by kernel_rfl)
                simp only [q57, q63, List.foldl, List.setIfInBounds_toArray, List.set_cons_succ, List.set_cons_zero] at ha
                clear q57 q63 hd hs hfacts hrest
                generalize a.tmps.getD = gg at ha
                subst ha
                obtain ⟨A57, c57, e57, l57, m57, _⟩ := OwnL.rd g57
                have hl57 : (o.take k).length = k := by
                  rw [List.length_take, HO.out.len]
                  omega
                rw [hl57] at e57 l57
                subst e57
                obtain ⟨a9, rfl, h9⟩ := g63
                obtain ⟨v64, w64, r64, o64, gr64⟩ := run_append_S (c := 1) b0 g57 h9 (by rw [hl57]; omega) (Nat.le_trans hb0 hb2.size)
                have hb64 : Below W6.heap.size W6 w64 := hb2.grown gr64 hb2.size (fun j hj => by have := (OwnL.base g57 j hj).1; have := HB0.out; omega)
                obtain ⟨A64, c64, e64, l64, m64, _⟩ := OwnL.rd o64
                have hl64 : (o.take k ++ [t]).length = k + 1 := by rw [List.length_append, hl57]; rfl
                rw [hl64] at e64 l64
                subst e64
                obtain ⟨A12, hcut12, _, hrd12⟩ := cut_rd (P := Try.prog) encS 23 9 Try.underlying23 infoS1 (some ao) no co k hkn hnc
                obtain ⟨v69, w69, r69, o69, gr69⟩ := run_append_S (c := co - k) b0 o64 (hrd12 w64 o (HO.out.below hb64)) (by rw [hl64]; omega) (Nat.le_trans hb0 hb64.size)
                have hb69 : Below W6.heap.size W6 w69 := hb64.grown gr69 hb64.size (fun j hj => by have := (OwnL.base o64 j hj).1; have := HB0.out; omega)
                obtain ⟨A69, c69, e69, l69, m69, r9⟩ := OwnL.rd o69
                have hl69 : (o.take k ++ [t] ++ o.drop k).length = no + 1 := by
                  rw [List.length_append, hl64, List.length_drop, HO.out.len]
                  omega
                rw [hl69] at e69 l69 r9
                subst e69
                have HN : Hid (Rd encS w69 A69 (no + 1) (o.take k ++ [t] ++ o.drop k) ∧ RtI tk (ix + 1) (o.take k ++ [t] ++ o.drop k)) := Lib.hid ⟨r9, by
                  rw [HT9.out]
                  exact RtI.put HRT.out HX.out (by rw [HO.out.len]; exact hkn) H1.out H2.out⟩
                have HNB : Hid (Below w.heap.size w w69 ∧ RdK encTk 2 w69 (some ad) n6 tk) := Lib.hid ⟨Below.thn HB6.out hb69, HTK6.out.below hb69⟩
                have hc8 := hcut12
                clear hb2 g57 h9 o64 gr64 o69 gr69 hb64 hb69 r9 hrd12 hcut12 hl57 hl64 hl69 hlt6 hcut
                simp only [List.drop_succ_cons, List.drop_zero]
                go_wp2_with (at_builtin; first | (refine wpl_append_run rfl _ _ _ rfl rfl rfl r64 ?_) | (refine wpl_append_run rfl _ _ _ rfl rfl rfl r69 ?_))
                exact ⟨⟨ix + 1, by omega, by simp; try go_num, ⟨A69, no + 1, c69, _, rfl, l69, m69, by omega, HN⟩, HNB⟩, by simp [intOf]; try omega⟩
        · have g1 : decide ((k : Int) < (no : Int)) = false := decide_eq_false hkl
          go_upto_region 7 with fail
          go_quiet (fail)
          obtain ⟨W5, hW5⟩ : ∃ W5, W5 = wr.drewN nq := ⟨_, rfl⟩
          have hb5 : Below wr.heap.size wr W5 := by rw [hW5]; exact Below.drewN wr _
          rw [← hW5]
          clear hW5
          replace x0 := cell_keep hb5 x0
          have H1 : Hid (∀ j (hj : j < o.length), j < k → ltB o[j] x.1) := Lib.hid fun j hj h => HK.out.2 j hj x HX.out h
          have H2 : Hid (∀ hj : k < o.length, ltB x.1 o[k]) := Lib.hid fun hj => by
            have := HSO.out.len
            omega
          go_upto_region 9 with fail
          go_quiet (fail)
          obtain ⟨W6, hW6⟩ : ∃ W6, W6 = W5.drewN nq := ⟨_, rfl⟩
          have hb6 : Below W5.heap.size W5 W6 := by rw [hW6]; exact Below.drewN W5 _
          rw [← hW6]
          have HB56 := Lib.hid hb6
          have HB6 := Lib.hid (Below.thn (Below.thn HBY.out hb5) hb6)
          have HTK6 := Lib.hid ((HTK.out.below hb5).below hb6)
          have HSO6 := Lib.hid ((HSO.out.below hb5).below hb6)
          have HRT := Lib.hid HO.out.2
          clear hW6 hb6
          clear g1 hb5
          obtain ⟨b0, hb0e⟩ : ∃ b0, b0 = W6.heap.size := ⟨_, rfl⟩
          have hb0 : b0 ≤ W6.heap.size := by omega
          have hcut := run_cutS_h Ao no co k (by omega)
          have HO := HSO6
          have hx6 := HTK6.out.at2 (k := ix) (by omega)
          have X0 : Hid (W6.cell? (ad.add (ix * 2)) = some (.string x.1)) := Lib.hid (cell_keep HB56.out x0)
          obtain ⟨t, ht9⟩ : ∃ t, t = x.1 := ⟨_, rfl⟩
          rw [← ht9] at X0
          have HT9 := Lib.hid ht9
          have hkn : k ≤ no := hk
          have hk3 : k ≤ 10001 := by omega
          have hno3 : no ≤ 10001 := by omega
          have hlt6 := hlt
          have HB0 := Lib.hid hb0e
          clear hx6 ht9 x0 x1 hb0e 
          go_wp2_with fail
          refine wp_region_flowT 11 (by kernel_rfl) (by kernel_rfl) (RtF Ao no co n6 c6 ix k b0 o t ad) (RtF.below Ao no co n6 c6 ix k b0 o t ad) (by kernel_rfl) (by kernel_rfl) ?_ ?_
          case refine_1 =>
            intro i o hit ho ρ y w2 hb2 hreg hn hf hyb hyn
            obtain rfl | rfl | rfl | rfl | rfl | rfl | rfl | rfl | rfl | rfl | rfl : i = 0 ∨ i = 1 ∨ i = 2 ∨ i = 3 ∨ i = 4 ∨ i = 5 ∨ i = 6 ∨ i = 7 ∨ i = 8 ∨ i = 9 ∨ i = 10 := by omega
            · cases ho
              rw [if_pos (show Region.wanted _ y = true from rfl)]
              have f9 : ρ (.tmp 9) = .slice none 0 0 := hf 9 (by kernel_rfl)
              exact ⟨f9, Below.refl _ _⟩
            · cases ho
              rw [if_pos (show Region.wanted _ y = true from rfl)]
              have f5 : ρ (.tmp 5) = .slice Ao no co := hf 5 (by kernel_rfl)
              exact ⟨f5, Below.refl _ _⟩
            · cases ho
              rw [if_pos (show Region.wanted _ y = true from rfl)]
              have f8 : ρ (.tmp 8) = .int .i64 (k : Nat) := hf 8 (by kernel_rfl)
              exact ⟨f8, Below.refl _ _⟩
            · cases ho
              rw [if_pos (show Region.wanted _ y = true from rfl)]
              have f54 : ρ (.tmp 54) = .slice Ao no co := hn 1 _ 54 rfl (by kernel_rfl) rfl
              have f55 : ρ (.tmp 55) = .int .i64 (k : Nat) := hn 2 _ 55 rfl (by kernel_rfl) rfl
              exact does_ok (v := .slice Ao k co) (w' := w2) (by simp [go_sem, hreg.const, f54, f55, hcut]) ⟨rfl, Below.refl _ _⟩
            · cases ho
              rw [if_pos (show Region.wanted _ y = true from rfl)]
              have f53 : ρ (.tmp 53) = .slice none 0 0 := hn 0 _ 53 rfl (by kernel_rfl) rfl
              have f56 : ρ (.tmp 56) = .slice Ao k co := hn 3 _ 56 rfl (by kernel_rfl) rfl
              obtain ⟨v1, w', r1, o1, g1, _⟩ := run_append_rd (P := Try.prog) (c := co) b0 23 23 9 (.string .empty) 16 Try.underlying23 infoS1 rfl (by decide) encS_one (OwnL.nil encS 9 w2 b0) ((HO.out.below hb2).take k hkn) (by simp; omega) (Nat.le_trans hb0 hb2.size)
              exact does_ok (v := v1) (w' := w') (by simp only [execOp, List.getElem_toArray, List.getElem_cons_succ, List.getElem_cons_zero, resolve, invoke, builtin, Sem.run_bind, Sem.run_pure, Result.andThen_ok, List.map_toArray, List.map_cons, List.map_nil, f53, f56, r1]) ⟨⟨_, rfl, by simpa using o1⟩, below_own_nil g1⟩
            · cases ho
              rw [if_pos (show Region.wanted _ y = true from rfl)]
              have f6 : ρ (.tmp 6) = .slice (some ad) n6 c6 := hf 6 (by kernel_rfl)
              exact ⟨f6, Below.refl _ _⟩
            · cases ho
              rw [if_pos (show Region.wanted _ y = true from rfl)]
              have f7 : ρ (.tmp 7) = .int .i64 (ix : Nat) := hf 7 (by kernel_rfl)
              exact ⟨f7, Below.refl _ _⟩
            · cases ho
              rw [if_pos (show Region.wanted _ y = true from rfl)]
              have f58 : ρ (.tmp 58) = .slice (some ad) n6 c6 := hn 5 _ 58 rfl (by kernel_rfl) rfl
              have f59 : ρ (.tmp 59) = .int .i64 (ix : Nat) := hn 6 _ 59 rfl (by kernel_rfl) rfl
              exact does_ok (v := .pointer (some (ad.add (ix * 2)))) (w' := w2) (by simp [go_sem, hreg.const, f58, f59, hlt6]) ⟨rfl, Below.refl _ _⟩
            · cases ho
              rw [if_pos (show Region.wanted _ y = true from rfl)]
              have f60 : ρ (.tmp 60) = .pointer (some (ad.add (ix * 2))) := hn 7 _ 60 rfl (by kernel_rfl) rfl
              exact does_ok (v := .pointer (some (ad.add (ix * 2)))) (w' := w2) (by simp [go_sem, hreg.const, f60, hlt6]) ⟨rfl, Below.refl _ _⟩
            · cases ho
              rw [if_pos (show Region.wanted _ y = true from rfl)]
              have f61 : ρ (.tmp 61) = .pointer (some (ad.add (ix * 2))) := hn 8 _ 61 rfl (by kernel_rfl) rfl
              have x0 := cell_keep hb2 X0.out
              exact does_ok (v := .string t) (w' := w2) (by simp [go_sem, hreg.const, f61, x0]) ⟨rfl, Below.refl _ _⟩
            · cases ho
              rw [if_pos (show Region.wanted _ y = true from rfl)]
              have f62 : ρ (.tmp 62) = .string t := hn 9 _ 62 rfl (by kernel_rfl) rfl
              exact does_ok (v := .slice (some ⟨w2.heap.size, 0, none⟩) 1 1) (w' := w2.alloc (.cells #[.string t] 9)) (by simp [go_sem, hreg.const, f62]) ⟨⟨_, rfl, _, rfl, Rd.new w2 9 [t] #[.string t] 1 (0, 0) (enc := encS) rfl rfl (by decide)⟩, (Below.refl _ _).alloc (Nat.le_refl _) _⟩
          case refine_2 =>
            intro a w2 hb2 hd hs hfacts hrest
            obtain ⟨V57, q57, g57⟩ : ∃ (V57 : Value), a.tmps.getD 57 undef = V57 ∧ OwnL encS 9 w2 b0 V57 (o.take k) := hfacts 4 _ 57 (by decide) rfl rfl
            obtain ⟨V63, q63, g63⟩ : ∃ (V63 : Value), a.tmps.getD 63 undef = V63 ∧ ∃ a9, V63 = .slice (some a9) 1 1 ∧ Rd encS w2 (some a9) 1 [t] := hfacts 10 _ 63 (by decide) rfl rfl
            have ha := frame_ofP hd hs hrest [53, 54, 55, 56, 57, 58, 59, 60, 61, 62, 63] (by kernel_rfl)
            simp only [q57, q63, List.foldl, List.setIfInBounds_toArray, List.set_cons_succ, List.set_cons_zero] at ha
            clear q57 q63 hd hs hfacts hrest
            generalize a.tmps.getD = gg at ha
            subst ha
            obtain ⟨A57, c57, e57, l57, m57, _⟩ := OwnL.rd g57
            have hl57 : (o.take k).length = k := by
              rw [List.length_take, HO.out.len]
              omega
            rw [hl57] at e57 l57
            subst e57
            obtain ⟨a9, rfl, h9⟩ := g63
            obtain ⟨v64, w64, r64, o64, gr64⟩ := run_append_S (c := 1) b0 g57 h9 (by rw [hl57]; omega) (Nat.le_trans hb0 hb2.size)
            have hb64 : Below W6.heap.size W6 w64 := hb2.grown gr64 hb2.size (fun j hj => by have := (OwnL.base g57 j hj).1; have := HB0.out; omega)
            obtain ⟨A64, c64, e64, l64, m64, _⟩ := OwnL.rd o64
            have hl64 : (o.take k ++ [t]).length = k + 1 := by rw [List.length_append, hl57]; rfl
            rw [hl64] at e64 l64
            subst e64
            obtain ⟨A12, hcut12, _, hrd12⟩ := cut_rd (P := Try.prog) encS 23 9 Try.underlying23 infoS1 Ao no co k hkn hnc
            obtain ⟨v69, w69, r69, o69, gr69⟩ := run_append_S (c := co - k) b0 o64 (hrd12 w64 o (HO.out.below hb64)) (by rw [hl64]; omega) (Nat.le_trans hb0 hb64.size)
            have hb69 : Below W6.heap.size W6 w69 := hb64.grown gr69 hb64.size (fun j hj => by have := (OwnL.base o64 j hj).1; have := HB0.out; omega)
            obtain ⟨A69, c69, e69, l69, m69, r9⟩ := OwnL.rd o69
            have hl69 : (o.take k ++ [t] ++ o.drop k).length = no + 1 := by
              rw [List.length_append, hl64, List.length_drop, HO.out.len]
              omega
            rw [hl69] at e69 l69 r9
            subst e69
            have HN : Hid (Rd encS w69 A69 (no + 1) (o.take k ++ [t] ++ o.drop k) ∧ RtI tk (ix + 1) (o.take k ++ [t] ++ o.drop k)) := Lib.hid ⟨r9, by
              rw [HT9.out]
              exact RtI.put HRT.out HX.out (by rw [HO.out.len]; exact hkn) H1.out H2.out⟩
            have HNB : Hid (Below w.heap.size w w69 ∧ RdK encTk 2 w69 (some ad) n6 tk) := Lib.hid ⟨Below.thn HB6.out hb69, HTK6.out.below hb69⟩
            have hc8 := hcut12
            clear hb2 g57 h9 o64 gr64 o69 gr69 hb64 hb69 r9 hrd12 hcut12 hl57 hl64 hl69 hlt6 hcut
            simp only [List.drop_succ_cons, List.drop_zero]
            go_wp2_with (at_builtin; first | (refine wpl_append_run rfl _ _ _ rfl rfl rfl r64 ?_) | (refine wpl_append_run rfl _ _ _ rfl rfl rfl r69 ?_))
            exact ⟨⟨ix + 1, by omega, by simp; try go_num, ⟨A69, no + 1, c69, _, rfl, l69, m69, by omega, HN⟩, HNB⟩, by simp [intOf]; try omega⟩
    · have HE : Hid (SR wr (.slice Ao no co) (eachB ((toksL cf l).map (·.1)))) := Lib.hid ⟨Ao, no, co, rfl, hnc, hco, by
        rw [← HTE.out, ← HO.out.2.end (by have := HN6.out; omega)]
        exact HO.out.1⟩
      go_wp2
      go_ret
      exact ⟨_, rfl, HE.out, HI.out.1⟩
end Go.Proofs.Ytbmdjmnjbflfeaa
