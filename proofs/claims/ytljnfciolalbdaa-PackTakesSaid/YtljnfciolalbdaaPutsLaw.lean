/- The law PackPuts. -/
import Derived.Test.YtljnfciolalbdaaPuts
import Derived.Test.YtljnfciolalbdaaOrder
namespace Go.Proofs.Ytljnfciolalbdaa
open Go.RowKit
set_option linter.unusedVariables false
set_option linter.unusedSimpArgs false

theorem OwnB.kept {w w' : World} {base : Nat} {v : Value} {l : List Nat} (h : OwnB w base v l) {g : Nat} (hg : w.grownBy w' (some g)) (hlt : g < base) : OwnB w' base v l :=
  ⟨h.1.kept hg (by
    cases hk : v.ownBlock with
    | none => exact .inl rfl
    | some k => exact .inr (fun e => by have := (h.1.base k hk).1; injection e with e; omega)), h.2⟩
theorem OwnB.rdB {w : World} {base : Nat} {A : Option Addr} {n c : Nat} {l : List Nat} (h : OwnB w base (.slice A n c) l) (hn : l.length = n) : RdB w A n l := by
  obtain ⟨A', c', e, h1, h2, h3⟩ := h.1.rd
  injection e with e1 e2 e3
  subst e1 e2 e3
  exact ⟨h3, h.2⟩
def PutI (w : World) (b2 n Co v : Nat) (Ao : Option Addr) (ra rc rd rg : Value) (b : List Nat) (wr : World) : Prop :=
  Below w.heap.size w wr ∧ (∃ l', OwnB wr w.heap.size (.slice Ao n Co) l' ∧ l'.length = n) ∧ OwnB wr b2 ra (b ++ be 2 (v % 65536)) ∧ OwnB wr b2 rc (b ++ be 4 (v % 4294967296)) ∧ OwnB wr b2 rd (b ++ be 8 v) ∧ OwnB wr b2 rg (b ++ varL (v % 4294967296))
theorem u8_flip : ∀ (a : Nat), a < 256 → bits .xor .u8 (a : Int) 255 = ((255 - a : Nat) : Int) := by decide +kernel
theorem be_mod (k v : Nat) : be k (v % 256 ^ k) = be k v := by
  have key : ∀ (j : Nat), j ≤ k → be j (v % 256 ^ k) = be j v := by
    intro j
    induction j with
    | zero => intro _; rfl
    | succ j ih =>
      intro hj
      unfold be
      rw [ih (by omega)]
      congr 1
      have e : 256 ^ k = 256 ^ j * 256 * 256 ^ (k - (j + 1)) := by rw [← Nat.pow_succ, ← Nat.pow_add]; congr 1; omega
      rw [e, Nat.mul_assoc, Nat.mod_mul_right_div_self, Nat.mod_mul_right_mod]
  exact key k (Nat.le_refl k)

set_option maxRecDepth 100000 in
set_option maxHeartbeats 4000000 in
theorem puts_law (A B : Option Addr) (n m c c' v : Nat) (b t : List Nat) (w : World) (ha : RdB w A n b) (hb : RdB w B m t) (hc1 : n ≤ c) (hc2 : m ≤ c') (hx1 : c ≤ 9223372036854775807) (hx2 : c' ≤ 9223372036854775807) (hv : v < 18446744073709551616) :
    Calls Try.prog 6 #[.slice A n c, .int .u64 v, .slice B m c'] w fun e w' => e = .returned (.bool true) ∧ Below w.heap.size w w' := by
  have HA := Lib.hid (ha.bs hc1 hx1)
  have HB := Lib.hid (hb.bs hc2 hx2)
  have hla := Lib.hid ha.len
  have hlb := Lib.hid hb.len
  have HV : Hid (v < 18446744073709551616) := hv
  clear ha hb hv
  by_cases hbig : 1000 < n ∨ 1000 < m
  · rcases (show 1000 < n ∨ (n ≤ 1000 ∧ 1000 < m) by omega) with hb | hb
    · have q1 : (1000 : Int) < (n : Int) := by omega
      clear hbig hb
      go_enter Try.func6, Try.ntmps6
      go_wp2_with fail
      refine (live_any _).mono ?_
      rintro e w1 ⟨rfl, hb⟩
      have KB := Lib.hid hb
      clear hb
      go_wp2_with fail
      refine (live_any _).mono ?_
      rintro e w2 ⟨rfl, hb⟩
      have KB2 := Lib.hid (Below.thn KB.out hb)
      clear hb KB
      go_wp2
      go_ret
      exact ⟨rfl, KB2.out⟩
    · have q1 : ¬ (1000 : Int) < (n : Int) := by omega
      have q2 : (1000 : Int) < (m : Int) := by omega
      clear hbig hb
      go_enter Try.func6, Try.ntmps6
      go_wp2_with fail
      refine (live_any _).mono ?_
      rintro e w1 ⟨rfl, hb⟩
      have KB := Lib.hid hb
      clear hb
      go_wp2_with fail
      refine (live_any _).mono ?_
      rintro e w2 ⟨rfl, hb⟩
      have KB2 := Lib.hid (Below.thn KB.out hb)
      clear hb KB
      go_wp2
      go_ret
      exact ⟨rfl, KB2.out⟩
  · have q1 : ¬ (1000 : Int) < (n : Int) := by omega
    have q2 : ¬ (1000 : Int) < (m : Int) := by omega
    have hla2 : Hid (b.length ≤ 1000) := Lib.hid (by rw [hla.out]; omega)
    have hlb2 : Hid (t.length ≤ 1000) := Lib.hid (by rw [hlb.out]; omega)
    clear hbig
    go_enter Try.func6, Try.ntmps6
    go_wp2_with fail
    refine (live_any _).mono ?_
    rintro e w1 ⟨rfl, hb⟩
    have KB := Lib.hid hb
    clear hb
    have HA := Lib.hid (HA.out.below KB.out)
    have HB := Lib.hid (HB.out.below KB.out)
    go_wp2_with fail
    refine (Join_bs _ (BS.nil _) HA.out (by have := hla2.out; simp; omega)).mono ?_
    rintro e w2 ⟨own, rfl, ho, hb⟩
    rw [List.nil_append] at ho
    have KB2 := Lib.hid (Below.thn KB.out hb)
    have HA2 := Lib.hid (HA.out.below hb)
    have HB2 := Lib.hid (HB.out.below hb)
    obtain ⟨Ao, Co, rfl, hC1, hC2, _⟩ := ho.1.rd
    rw [hla.out] at hC1
    have ho2 := ho.mono KB.out.size
    rw [hla.out] at ho2 ⊢
    have HO := Lib.hid ho2
    obtain ⟨b2, hb2⟩ : ∃ b2, b2 = w2.heap.size := ⟨_, rfl⟩
    have HG : Hid (∀ g, Ao = some ⟨g, 0, none⟩ → g < b2) := Lib.hid (fun g e => by subst e; rw [hb2]; exact (ho2.1.base g rfl).2)
    have KS : Hid (b2 ≤ w2.heap.size) := Lib.hid (by rw [hb2]; exact Nat.le_refl _)
    have HB2' : Hid (b2 = w2.heap.size) := hb2
    clear hb ho ho2 KB HA HB hb2
    have KB := KB2
    have HA := HA2
    have HB := HB2
    clear KB2 HA2 HB2
    go_wp2_with fail
    refine (Text_bs _ HO.out.bs HB.out (by have := hla2.out; omega)).mono ?_
    rintro e w3 ⟨x, rfl, hx, hb⟩
    have KBz := Lib.hid (Below.thn KB.out hb)
    have HAz := Lib.hid (HA.out.below hb)
    have HBz := Lib.hid (HB.out.below hb)
    have HOz := Lib.hid (HO.out.below hb)
    have KSz := Lib.hid (Nat.le_trans KS.out hb.size)
    clear hb KB HA HB HO KS
    have KB := KBz
    have HA := HAz
    have HB := HBz
    have HO := HOz
    have KS := KSz
    clear KBz HAz HBz HOz KSz
    have HX := Lib.hid hx.bs
    clear hx
    go_wp2_with fail
    refine (refText_bs _ HA.out HB.out (by have := hla2.out; omega)).mono ?_
    rintro e w4 ⟨y, rfl, hy, hb⟩
    have KBz := Lib.hid (Below.thn KB.out hb)
    have HAz := Lib.hid (HA.out.below hb)
    have HBz := Lib.hid (HB.out.below hb)
    have HOz := Lib.hid (HO.out.below hb)
    have HXz := Lib.hid (HX.out.below hb)
    have KSz := Lib.hid (Nat.le_trans KS.out hb.size)
    clear hb KB HA HB HO HX KS
    have KB := KBz
    have HA := HAz
    have HB := HBz
    have HO := HOz
    have HX := HXz
    have KS := KSz
    clear KBz HAz HBz HOz HXz KSz
    have HY := Lib.hid hy.bs
    clear hy
    have hsl := run_cut_hm Ao n Co n n (Nat.le_refl _) hC1
    have e16 := wrap16 v
    have hn1 : n ≤ 9223372036854775807 := by omega
    go_wp2_with fail
    rw [show (v : Int) % 65536 = ((v % 65536 : Nat) : Int) by omega]
    refine (U16_bs (v % 65536) _ ((OwnB.rdB HO.out hla.out).bs (Nat.le_refl _) hn1) (by omega) (by have := hla2.out; omega)).mono ?_
    rintro e w5 ⟨ra, rfl, hr, hb⟩
    have KBz := Lib.hid (Below.thn KB.out hb)
    have HAz := Lib.hid (HA.out.below hb)
    have HBz := Lib.hid (HB.out.below hb)
    have HOz := Lib.hid (HO.out.below hb)
    have HXz := Lib.hid (HX.out.below hb)
    have HYz := Lib.hid (HY.out.below hb)
    have HRa := Lib.hid (hr.mono KS.out)
    clear hr
    have KSz := Lib.hid (Nat.le_trans KS.out hb.size)
    clear hb KB HA HB HO HX HY KS
    have KB := KBz
    have HA := HAz
    have HB := HBz
    have HO := HOz
    have HX := HXz
    have HY := HYz
    have KS := KSz
    clear KBz HAz HBz HOz HXz HYz KSz
    go_wp2_with fail
    rw [show (v : Int) % 4294967296 = ((v % 4294967296 : Nat) : Int) by omega]
    refine (U32_bs (v % 4294967296) _ HO.out.bs (by omega) (by have := hla2.out; omega)).mono ?_
    rintro e w6 ⟨rc, rfl, hr, hb⟩
    have KBz := Lib.hid (Below.thn KB.out hb)
    have HAz := Lib.hid (HA.out.below hb)
    have HBz := Lib.hid (HB.out.below hb)
    have HOz := Lib.hid (HO.out.below hb)
    have HXz := Lib.hid (HX.out.below hb)
    have HYz := Lib.hid (HY.out.below hb)
    have HRaz := Lib.hid (HRa.out.below hb)
    have HRc := Lib.hid (hr.mono KS.out)
    clear hr
    have KSz := Lib.hid (Nat.le_trans KS.out hb.size)
    clear hb KB HA HB HO HX HY HRa KS
    have KB := KBz
    have HA := HAz
    have HB := HBz
    have HO := HOz
    have HX := HXz
    have HY := HYz
    have HRa := HRaz
    have KS := KSz
    clear KBz HAz HBz HOz HXz HYz HRaz KSz
    go_wp2_with fail
    refine (U64_bs v _ HO.out.bs HV.out (by have := hla2.out; omega)).mono ?_
    rintro e w7 ⟨rd, rfl, hr, hb⟩
    have KBz := Lib.hid (Below.thn KB.out hb)
    have HAz := Lib.hid (HA.out.below hb)
    have HBz := Lib.hid (HB.out.below hb)
    have HOz := Lib.hid (HO.out.below hb)
    have HXz := Lib.hid (HX.out.below hb)
    have HYz := Lib.hid (HY.out.below hb)
    have HRaz := Lib.hid (HRa.out.below hb)
    have HRcz := Lib.hid (HRc.out.below hb)
    have HRd := Lib.hid (hr.mono KS.out)
    clear hr
    have KSz := Lib.hid (Nat.le_trans KS.out hb.size)
    clear hb KB HA HB HO HX HY HRa HRc KS
    have KB := KBz
    have HA := HAz
    have HB := HBz
    have HO := HOz
    have HX := HXz
    have HY := HYz
    have HRa := HRaz
    have HRc := HRcz
    have KS := KSz
    clear KBz HAz HBz HOz HXz HYz HRaz HRcz KSz
    go_wp2_with fail
    rw [show (v : Int) % 4294967296 = ((v % 4294967296 : Nat) : Int) by omega]
    refine (Var_bs (v % 4294967296) _ HO.out.bs (by omega) (by have := hla2.out; omega)).mono ?_
    rintro e w8 ⟨rg, rfl, hr, hb⟩
    have KBz := Lib.hid (Below.thn KB.out hb)
    have HAz := Lib.hid (HA.out.below hb)
    have HBz := Lib.hid (HB.out.below hb)
    have HOz := Lib.hid (HO.out.below hb)
    have HXz := Lib.hid (HX.out.below hb)
    have HYz := Lib.hid (HY.out.below hb)
    have HRaz := Lib.hid (HRa.out.below hb)
    have HRcz := Lib.hid (HRc.out.below hb)
    have HRdz := Lib.hid (HRd.out.below hb)
    have HRg := Lib.hid (hr.mono KS.out)
    clear hr
    have KSz := Lib.hid (Nat.le_trans KS.out hb.size)
    clear hb KB HA HB HO HX HY HRa HRc HRd KS
    have KB := KBz
    have HA := HAz
    have HB := HBz
    have HO := HOz
    have HX := HXz
    have HY := HYz
    have HRa := HRaz
    have HRc := HRcz
    have HRd := HRdz
    have KS := KSz
    clear KBz HAz HBz HOz HXz HYz HRaz HRcz HRdz KSz
    go_wp2_with fail
    refine (Same_bs _ HO.out.bs HA.out).mono ?_
    rintro e w9 ⟨rfl, hb⟩
    have KBz := Lib.hid (Below.thn KB.out hb)
    have HAz := Lib.hid (HA.out.below hb)
    have HBz := Lib.hid (HB.out.below hb)
    have HOz := Lib.hid (HO.out.below hb)
    have HXz := Lib.hid (HX.out.below hb)
    have HYz := Lib.hid (HY.out.below hb)
    have HRaz := Lib.hid (HRa.out.below hb)
    have HRcz := Lib.hid (HRc.out.below hb)
    have HRdz := Lib.hid (HRd.out.below hb)
    have HRgz := Lib.hid (HRg.out.below hb)
    have KSz := Lib.hid (Nat.le_trans KS.out hb.size)
    clear hb KB HA HB HO HX HY HRa HRc HRd HRg KS
    have KB := KBz
    have HA := HAz
    have HB := HBz
    have HO := HOz
    have HX := HXz
    have HY := HYz
    have HRa := HRaz
    have HRc := HRcz
    have HRd := HRdz
    have HRg := HRgz
    have KS := KSz
    clear KBz HAz HBz HOz HXz HYz HRaz HRcz HRdz HRgz KSz
    rw [cmpL_self, decide_eq_true rfl]
    go_wp2_with fail
    refine (Same_bs _ HX.out HY.out).mono ?_
    rintro e w10 ⟨rfl, hb⟩
    have KBz := Lib.hid (Below.thn KB.out hb)
    have HAz := Lib.hid (HA.out.below hb)
    have HBz := Lib.hid (HB.out.below hb)
    have HOz := Lib.hid (HO.out.below hb)
    have HRaz := Lib.hid (HRa.out.below hb)
    have HRcz := Lib.hid (HRc.out.below hb)
    have HRdz := Lib.hid (HRd.out.below hb)
    have HRgz := Lib.hid (HRg.out.below hb)
    have KSz := Lib.hid (Nat.le_trans KS.out hb.size)
    clear hb KB HA HB HO HRa HRc HRd HRg KS
    have KB := KBz
    have HA := HAz
    have HB := HBz
    have HO := HOz
    have HRa := HRaz
    have HRc := HRcz
    have HRd := HRdz
    have HRg := HRgz
    have KS := KSz
    clear KBz HAz HBz HOz HRaz HRcz HRdz HRgz KSz
    rw [cmpL_self, decide_eq_true rfl]
    clear hsl e16
    go_wp2_with fail
    have HI0 : Hid (PutI w b2 n Co v Ao ra rc rd rg b w10) := Lib.hid ⟨KB.out, ⟨b, HO.out, hla.out⟩, HRa.out, HRc.out, HRd.out, HRg.out⟩
    clear HO HRa HRc HRd HRg KB HA HB
    go_loopw [81] (fun z wr => ∃ k : Nat, z = .int .i64 k ∧ k ≤ n ∧ Hid (PutI w b2 n Co v Ao ra rc rd rg b wr)) (fun z _ => n - (intOf z).toNat)
    case atStart => exact ⟨0, rfl, Nat.zero_le _, HI0⟩
    case round =>
      clear HI0
      obtain ⟨k, rfl, hk, HI⟩ := hrel
      by_cases hlt : (k : Int) < (n : Int)
      · obtain ⟨l', ho, hl'⟩ := HI.out.2.1
        obtain ⟨g, C', heq, hg1, hg2, _⟩ := ho.op hl' (by omega)
        injection heq with q3 q4 q5
        subst q3 q5
        have hgb := HG.out g rfl
        obtain ⟨hget, hgx⟩ := ho.get hl' (i := k) (by omega)
        have hfl := u8_flip _ hgx
        obtain ⟨p, hp⟩ : ∃ p, p = l'.getD k 0 := ⟨_, rfl⟩
        rw [← hp] at hget hgx hfl
        obtain ⟨q, hq⟩ : ∃ q, q = 255 - p := ⟨_, rfl⟩
        rw [← hq] at hfl
        obtain ⟨⟨cv, _, hc2'⟩, hs1, hs2⟩ := ho.put hl' (i := k) (x := q) (by omega) (by omega)
        have HN : Hid (PutI w b2 n Co v (some ⟨g, 0, none⟩) ra rc rd rg b (wr.setCell ⟨g, k, none⟩ (.int .u8 (q : Int)))) := Lib.hid ⟨below_grown HI.out.1 hs2 hg1, ⟨_, hs1, by rw [List.length_set]; exact hl'⟩, HI.out.2.2.1.kept hs2 hgb, HI.out.2.2.2.1.kept hs2 hgb, HI.out.2.2.2.2.1.kept hs2 hgb, HI.out.2.2.2.2.2.kept hs2 hgb⟩
        have q6 : k < n := by omega
        clear hp hq hs1 hs2 ho hl' hg1 hg2 hgb
        go_wp2
        exact ⟨⟨k + 1, by go_num, by omega, HN⟩, by simp [intOf]; omega⟩
      · have KB := Lib.hid HI.out.1
        have HAz := Lib.hid (HA.out.below KB.out)
        have HRa := Lib.hid HI.out.2.2.1.bs
        have HRc := Lib.hid HI.out.2.2.2.1.bs
        have HRd := Lib.hid HI.out.2.2.2.2.1.bs
        have HRg := Lib.hid HI.out.2.2.2.2.2.bs
        clear HI HA HB
        have HA := HAz
        clear HAz
        go_wp2_with fail
        rw [show (v : Int) % 65536 = ((v % 65536 : Nat) : Int) by omega]
        refine (Number_bs (v % 65536) 2 _ (by have := HV.out; omega) (by decide)).mono ?_
        rintro e w21 ⟨r1, rfl, hr, hb⟩
        have KBz := Lib.hid (Below.thn KB.out hb)
        have HAz := Lib.hid (HA.out.below hb)
        have HRaz := Lib.hid (HRa.out.below hb)
        have HRcz := Lib.hid (HRc.out.below hb)
        have HRdz := Lib.hid (HRd.out.below hb)
        have HRgz := Lib.hid (HRg.out.below hb)
        clear hb KB HA HRa HRc HRd HRg
        have KB := KBz
        have HA := HAz
        have HRa := HRaz
        have HRc := HRcz
        have HRd := HRdz
        have HRg := HRgz
        clear KBz HAz HRaz HRcz HRdz HRgz
        have HN := Lib.hid hr.bs
        clear hr
        go_wp2_with fail
        refine (Join_bs _ HA.out HN.out (by have := hla2.out; have := be_length 2 (v % 65536); omega)).mono ?_
        rintro e w22 ⟨r2, rfl, hr, hb⟩
        have KBz := Lib.hid (Below.thn KB.out hb)
        have HAz := Lib.hid (HA.out.below hb)
        have HRaz := Lib.hid (HRa.out.below hb)
        have HRcz := Lib.hid (HRc.out.below hb)
        have HRdz := Lib.hid (HRd.out.below hb)
        have HRgz := Lib.hid (HRg.out.below hb)
        clear hb KB HA HRa HRc HRd HRg
        have KB := KBz
        have HA := HAz
        have HRa := HRaz
        have HRc := HRcz
        have HRd := HRdz
        have HRg := HRgz
        clear KBz HAz HRaz HRcz HRdz HRgz
        have HJ := Lib.hid hr.bs
        clear hr HN
        go_wp2_with fail
        refine (Same_bs _ HRa.out HJ.out).mono ?_
        rintro e w23 ⟨rfl, hb⟩
        have KBz := Lib.hid (Below.thn KB.out hb)
        have HAz := Lib.hid (HA.out.below hb)
        have HRcz := Lib.hid (HRc.out.below hb)
        have HRdz := Lib.hid (HRd.out.below hb)
        have HRgz := Lib.hid (HRg.out.below hb)
        clear hb KB HA HRc HRd HRg
        have KB := KBz
        have HA := HAz
        have HRc := HRcz
        have HRd := HRdz
        have HRg := HRgz
        clear KBz HAz HRcz HRdz HRgz
        rw [cmpL_self, decide_eq_true rfl]
        clear HJ
        go_wp2_with fail
        rw [show (v : Int) % 4294967296 = ((v % 4294967296 : Nat) : Int) by omega]
        refine (Number_bs (v % 4294967296) 4 _ (by have := HV.out; omega) (by decide)).mono ?_
        rintro e w24 ⟨r1, rfl, hr, hb⟩
        have KBz := Lib.hid (Below.thn KB.out hb)
        have HAz := Lib.hid (HA.out.below hb)
        have HRcz := Lib.hid (HRc.out.below hb)
        have HRdz := Lib.hid (HRd.out.below hb)
        have HRgz := Lib.hid (HRg.out.below hb)
        clear hb KB HA HRc HRd HRg
        have KB := KBz
        have HA := HAz
        have HRc := HRcz
        have HRd := HRdz
        have HRg := HRgz
        clear KBz HAz HRcz HRdz HRgz
        have HN := Lib.hid hr.bs
        clear hr
        go_wp2_with fail
        refine (Join_bs _ HA.out HN.out (by have := hla2.out; have := be_length 4 (v % 4294967296); omega)).mono ?_
        rintro e w25 ⟨r2, rfl, hr, hb⟩
        have KBz := Lib.hid (Below.thn KB.out hb)
        have HAz := Lib.hid (HA.out.below hb)
        have HRcz := Lib.hid (HRc.out.below hb)
        have HRdz := Lib.hid (HRd.out.below hb)
        have HRgz := Lib.hid (HRg.out.below hb)
        clear hb KB HA HRc HRd HRg
        have KB := KBz
        have HA := HAz
        have HRc := HRcz
        have HRd := HRdz
        have HRg := HRgz
        clear KBz HAz HRcz HRdz HRgz
        have HJ := Lib.hid hr.bs
        clear hr HN
        go_wp2_with fail
        refine (Same_bs _ HRc.out HJ.out).mono ?_
        rintro e w26 ⟨rfl, hb⟩
        have KBz := Lib.hid (Below.thn KB.out hb)
        have HAz := Lib.hid (HA.out.below hb)
        have HRdz := Lib.hid (HRd.out.below hb)
        have HRgz := Lib.hid (HRg.out.below hb)
        clear hb KB HA HRd HRg
        have KB := KBz
        have HA := HAz
        have HRd := HRdz
        have HRg := HRgz
        clear KBz HAz HRdz HRgz
        rw [cmpL_self, decide_eq_true rfl]
        clear HJ
        go_wp2_with fail
        refine (Number_bs v 8 _ HV.out (by decide)).mono ?_
        rintro e w27 ⟨r1, rfl, hr, hb⟩
        have KBz := Lib.hid (Below.thn KB.out hb)
        have HAz := Lib.hid (HA.out.below hb)
        have HRdz := Lib.hid (HRd.out.below hb)
        have HRgz := Lib.hid (HRg.out.below hb)
        clear hb KB HA HRd HRg
        have KB := KBz
        have HA := HAz
        have HRd := HRdz
        have HRg := HRgz
        clear KBz HAz HRdz HRgz
        have HN := Lib.hid hr.bs
        clear hr
        go_wp2_with fail
        refine (Join_bs _ HA.out HN.out (by have := hla2.out; have := be_length 8 v; omega)).mono ?_
        rintro e w28 ⟨r2, rfl, hr, hb⟩
        have KBz := Lib.hid (Below.thn KB.out hb)
        have HAz := Lib.hid (HA.out.below hb)
        have HRdz := Lib.hid (HRd.out.below hb)
        have HRgz := Lib.hid (HRg.out.below hb)
        clear hb KB HA HRd HRg
        have KB := KBz
        have HA := HAz
        have HRd := HRdz
        have HRg := HRgz
        clear KBz HAz HRdz HRgz
        have HJ := Lib.hid hr.bs
        clear hr HN
        go_wp2_with fail
        refine (Same_bs _ HRd.out HJ.out).mono ?_
        rintro e w29 ⟨rfl, hb⟩
        have KBz := Lib.hid (Below.thn KB.out hb)
        have HAz := Lib.hid (HA.out.below hb)
        have HRgz := Lib.hid (HRg.out.below hb)
        clear hb KB HA HRg
        have KB := KBz
        have HA := HAz
        have HRg := HRgz
        clear KBz HAz HRgz
        rw [cmpL_self, decide_eq_true rfl]
        clear HJ
        go_wp2_with fail
        rw [show (v : Int) % 4294967296 = ((v % 4294967296 : Nat) : Int) by omega]
        refine (refVar_bs (v % 4294967296) _ (by omega)).mono ?_
        rintro e w30 ⟨r1, rfl, hr, hb⟩
        have KBz := Lib.hid (Below.thn KB.out hb)
        have HAz := Lib.hid (HA.out.below hb)
        have HRgz := Lib.hid (HRg.out.below hb)
        clear hb KB HA HRg
        have KB := KBz
        have HA := HAz
        have HRg := HRgz
        clear KBz HAz HRgz
        have HN := Lib.hid hr.bs
        clear hr
        go_wp2_with fail
        refine (Join_bs _ HA.out HN.out (by have := hla2.out; have := (varL_len (show v % 4294967296 < 4294967296 by omega)).2; omega)).mono ?_
        rintro e w31 ⟨r2, rfl, hr, hb⟩
        have KBz := Lib.hid (Below.thn KB.out hb)
        have HAz := Lib.hid (HA.out.below hb)
        have HRgz := Lib.hid (HRg.out.below hb)
        clear hb KB HA HRg
        have KB := KBz
        have HA := HAz
        have HRg := HRgz
        clear KBz HAz HRgz
        have HJ := Lib.hid hr.bs
        clear hr HN
        go_wp2_with fail
        refine (Same_bs _ HRg.out HJ.out).mono ?_
        rintro e w32 ⟨rfl, hb⟩
        have KBz := Lib.hid (Below.thn KB.out hb)
        have HAz := Lib.hid (HA.out.below hb)
        clear hb KB HA
        have KB := KBz
        have HA := HAz
        clear KBz HAz
        rw [cmpL_self, decide_eq_true rfl]
        clear HJ
        go_wp2_with fail
        rw [show (v : Int) % 4294967296 = ((v % 4294967296 : Nat) : Int) by omega]
        refine (Size_any (v % 4294967296) _ (by omega)).mono ?_
        rintro e w40 ⟨rfl, hw40⟩
        subst hw40
        go_wp2_with fail
        rw [show (v : Int) % 4294967296 = ((v % 4294967296 : Nat) : Int) by omega]
        refine (refVar_bs (v % 4294967296) _ (by omega)).mono ?_
        rintro e w41 ⟨r, rfl, hr, hb⟩
        obtain ⟨Ar, cr, rfl, _, _, _⟩ := hr.1.rd
        have KBz := Lib.hid (Below.thn KB.out hb)
        clear hr hb
        go_wp2
        go_ret
        exact ⟨rfl, KBz.out⟩
end Go.Proofs.Ytljnfciolalbdaa
