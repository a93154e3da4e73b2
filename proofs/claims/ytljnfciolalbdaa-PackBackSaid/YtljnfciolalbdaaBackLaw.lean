/- The law PackBack. -/
import Derived.Test.YtljnfciolalbdaaBackMath
import Derived.Test.YtljnfciolalbdaaOrder
namespace Go.Proofs.Ytljnfciolalbdaa
open Go.RowKit
set_option linter.unusedVariables false
set_option linter.unusedSimpArgs false

abbrev encU : Nat → Value := fun c => .int .u64 (c : Int)
/-- Numbers that are read. -/
structure RdU (w : World) (A : Option Addr) (n : Nat) (l : List Nat) : Prop where
  rd : Rd encU w A n l
  lt : ∀ c ∈ l, c < 18446744073709551616
theorem RdU.below {w w' : World} {A : Option Addr} {n : Nat} {l : List Nat} (h : RdU w A n l) (hb : Below w.heap.size w w') : RdU w' A n l := ⟨h.rd.below hb, h.lt⟩
theorem RdU.at {w : World} {A : Option Addr} {n : Nat} {l : List Nat} (h : RdU w A n l) {k : Nat} (hk : k < n) : ∃ (ad : Addr) (x : Nat), A = some ad ∧ Hid (x = l.getD k 0) ∧ x < 18446744073709551616 ∧ w.cell? (ad.add k) = some (.int .u64 (x : Int)) := by
  obtain ⟨ad, e, hc⟩ := h.rd.cell (by omega)
  have hl : k < l.length := by rw [h.rd.len]; exact hk
  refine ⟨ad, l.getD k 0, e, Lib.hid rfl, ?_, ?_⟩
  · rw [List.getD_eq_getElem?_getD, List.getElem?_eq_getElem hl]
    exact h.lt _ (by simp)
  · rw [hc k hl, List.getD_eq_getElem?_getD, List.getElem?_eq_getElem hl]
    rfl
theorem rem4 (k r : Nat) (h : k % 4 = r) : (k : Int) % 4 = (r : Int) ∧ Int.tmod (k : Int) 4 = (r : Int) := by
  have e : Int.tmod (k : Int) 4 = (k : Int) % 4 := Int.tmod_eq_emod_of_nonneg (by omega)
  rw [e]
  omega

set_option maxRecDepth 100000 in
set_option maxHeartbeats 4000000 in
theorem back_law (A B : Option Addr) (n m c c' : Nat) (vs t : List Nat) (w : World) (ha : RdU w A n vs) (hb : RdB w B m t) (hn : n ≤ 9223372036854775807) (hc2 : m ≤ c') (hx2 : c' ≤ 9223372036854775807) :
    Calls Try.prog 9 #[.slice A n c, .slice B m c'] w fun e w' => e = .returned (.bool true) ∧ Below w.heap.size w w' := by
  have HA := Lib.hid ha
  have HB := Lib.hid (hb.bs hc2 hx2)
  have hla := Lib.hid ha.rd.len
  have hlb := Lib.hid hb.len
  clear ha hb
  by_cases hbig : 100 < n ∨ 255 < m
  · rcases (show 100 < n ∨ (n ≤ 100 ∧ 255 < m) by omega) with hb | hb
    · have q1 : (100 : Int) < (n : Int) := by omega
      clear hbig hb
      go_enter Try.func9, Try.ntmps9
      go_wp2_with fail
      refine (live_any _).mono ?_
      rintro e w1 ⟨rfl, hb⟩
      have KB := Lib.hid hb
      clear hb
      go_wp2_with fail
      refine (live_any _).mono ?_
      rintro e w2 ⟨rfl, hb⟩
      have KB2 := Lib.hid (Below.thn KB.out hb)
      clear hb KB
      go_wp2
      go_ret
      exact ⟨rfl, KB2.out⟩
    · have q1 : ¬ (100 : Int) < (n : Int) := by omega
      have q2 : (255 : Int) < (m : Int) := by omega
      clear hbig hb
      go_enter Try.func9, Try.ntmps9
      go_wp2_with fail
      refine (live_any _).mono ?_
      rintro e w1 ⟨rfl, hb⟩
      have KB := Lib.hid hb
      clear hb
      go_wp2_with fail
      refine (live_any _).mono ?_
      rintro e w2 ⟨rfl, hb⟩
      have KB2 := Lib.hid (Below.thn KB.out hb)
      clear hb KB
      go_wp2
      go_ret
      exact ⟨rfl, KB2.out⟩
  · have q1 : ¬ (100 : Int) < (n : Int) := by omega
    have q2 : ¬ (255 : Int) < (m : Int) := by omega
    have hla2 : Hid (vs.length ≤ 100) := Lib.hid (by rw [hla.out]; omega)
    have hlb2 : Hid (t.length ≤ 255) := Lib.hid (by rw [hlb.out]; omega)
    clear hbig
    go_enter Try.func9, Try.ntmps9
    go_wp2_with fail
    refine (live_any _).mono ?_
    rintro e w1 ⟨rfl, hb⟩
    have KB := Lib.hid hb
    clear hb
    go_wp2_with fail
    go_loopw [5, 28] (fun y z wr => ∃ k : Nat, z = .int .i64 k ∧ k ≤ n ∧ Hid (OwnB wr w.heap.size y (packF 0 (vs.take k))) ∧ Hid (Below w.heap.size w wr)) (fun _ z _ => n - (intOf z).toNat)
    case atStart => exact ⟨0, rfl, Nat.zero_le _, Lib.hid (OwnB.nil _ _), KB⟩
    case round =>
      clear KB
      obtain ⟨k, rfl, hk, HO, KB⟩ := hrel
      by_cases hlt : (k : Int) < (n : Int)
      · obtain ⟨ad, v, rfl, HX, hvb, hcell⟩ := (HA.out.below KB.out).at (k := k) (by omega)
        have hpl : (packF 0 (vs.take k)).length ≤ 800 := by
          have h1 := packF_len (vs.take k) 0
          rw [List.length_take] at h1
          have := hla2.out
          omega
        have HP := Lib.hid (packF_take (vs := vs) (k := k) (by rw [hla.out]; omega))
        rw [← HX.out] at HP
        have e16 := wrap16 v
        have hpl2 := Lib.hid hpl
        clear hpl
        rcases (show k % 4 = 0 ∨ k % 4 = 1 ∨ k % 4 = 2 ∨ k % 4 = 3 by omega) with hr | hr | hr | hr
        · obtain ⟨m1, m2⟩ := rem4 k 0 hr
          have HQ : Hid (packF 0 (vs.take (k + 1)) = packF 0 (vs.take k) ++ varL (v % 4294967296)) := Lib.hid (HP.out.trans (congrArg _ (show putL k v = varL (v % 4294967296) from if_pos hr)))
          clear hr HP
          go_wp2_with fail
          rw [show (v : Int) % 4294967296 = ((v % 4294967296 : Nat) : Int) by omega]
          refine (Var_bs (v % 4294967296) _ HO.out.bs (by omega) (by have := hpl2.out; omega)).mono ?_
          rintro e w2 ⟨r, rfl, hr, hb⟩
          rw [← HQ.out] at hr
          have HO2 := Lib.hid (hr.mono KB.out.size)
          have KB2 := Lib.hid (Below.thn KB.out hb)
          clear hr hb
          go_wp2
          exact ⟨⟨k + 1, by go_num, by omega, HO2, KB2⟩, by simp [intOf]; omega⟩
        · obtain ⟨m1, m2⟩ := rem4 k 1 hr
          have HQ : Hid (packF 0 (vs.take (k + 1)) = packF 0 (vs.take k) ++ be 8 v) := Lib.hid (HP.out.trans (congrArg _ (show putL k v = be 8 v from by unfold putL; rw [if_neg (by omega), if_pos hr])))
          clear hr HP
          go_wp2_with fail
          refine (U64_bs v _ HO.out.bs (by omega) (by have := hpl2.out; omega)).mono ?_
          rintro e w2 ⟨r, rfl, hr, hb⟩
          rw [← HQ.out] at hr
          have HO2 := Lib.hid (hr.mono KB.out.size)
          have KB2 := Lib.hid (Below.thn KB.out hb)
          clear hr hb
          go_wp2
          exact ⟨⟨k + 1, by go_num, by omega, HO2, KB2⟩, by simp [intOf]; omega⟩
        · obtain ⟨m1, m2⟩ := rem4 k 2 hr
          have HQ : Hid (packF 0 (vs.take (k + 1)) = packF 0 (vs.take k) ++ be 2 (v % 65536)) := Lib.hid (HP.out.trans (congrArg _ (show putL k v = be 2 (v % 65536) from by unfold putL; rw [if_neg (by omega), if_neg (by omega), if_pos hr])))
          clear hr HP
          go_wp2_with fail
          rw [show (v : Int) % 65536 = ((v % 65536 : Nat) : Int) by omega]
          refine (U16_bs (v % 65536) _ HO.out.bs (by omega) (by have := hpl2.out; omega)).mono ?_
          rintro e w2 ⟨r, rfl, hr, hb⟩
          rw [← HQ.out] at hr
          have HO2 := Lib.hid (hr.mono KB.out.size)
          have KB2 := Lib.hid (Below.thn KB.out hb)
          clear hr hb
          go_wp2
          exact ⟨⟨k + 1, by go_num, by omega, HO2, KB2⟩, by simp [intOf]; omega⟩
        · obtain ⟨m1, m2⟩ := rem4 k 3 hr
          have HQ : Hid (packF 0 (vs.take (k + 1)) = packF 0 (vs.take k) ++ be 4 (v % 4294967296)) := Lib.hid (HP.out.trans (congrArg _ (show putL k v = be 4 (v % 4294967296) from by unfold putL; rw [if_neg (by omega), if_neg (by omega), if_neg (by omega)])))
          clear hr HP
          go_wp2_with fail
          rw [show (v : Int) % 4294967296 = ((v % 4294967296 : Nat) : Int) by omega]
          refine (U32_bs (v % 4294967296) _ HO.out.bs (by omega) (by have := hpl2.out; omega)).mono ?_
          rintro e w2 ⟨r, rfl, hr, hb⟩
          rw [← HQ.out] at hr
          have HO2 := Lib.hid (hr.mono KB.out.size)
          have KB2 := Lib.hid (Below.thn KB.out hb)
          clear hr hb
          go_wp2
          exact ⟨⟨k + 1, by go_num, by omega, HO2, KB2⟩, by simp [intOf]; omega⟩
      · have HO1 : Hid (OwnB wr w.heap.size u5 (packF 0 vs)) := Lib.hid (by
          have h := HO.out
          rwa [List.take_of_length_le (by rw [hla.out]; omega)] at h)
        have hpl : Hid ((packF 0 vs).length ≤ 800) := Lib.hid (by
          have h1 := packF_len vs 0
          have := hla2.out
          omega)
        clear HO
        go_wp2_with fail
        refine (Text_bs _ HO1.out.bs (HB.out.below KB.out) (by have := hpl.out; omega)).mono ?_
        rintro e w2 ⟨x, rfl, hx, hb⟩
        have eT : textL (packF 0 vs) t = packF 0 vs ++ (t.length :: t) := if_pos hlb2.out
        have eE : textE t = 0 := if_pos hlb2.out
        rw [eT] at hx
        rw [eE]
        have HX := Lib.hid hx.bs
        have KB2 := Lib.hid (Below.thn KB.out hb)
        clear hb hx KB HO1 eT eE
        go_wp2_with fail
        refine (Read_bs _ HX.out (by have := hpl.out; have := hlb2.out; rw [List.length_append, List.length_cons]; omega)).mono ?_
        rintro e w3 ⟨g, rfl, hg, hrd, hb⟩
        have HG : Hid (w.heap.size ≤ g) := Lib.hid (by have := KB2.out.size; omega)
        have HRD := Lib.hid hrd
        have KB3 := Lib.hid (Below.thn KB2.out hb)
        clear hb hrd hg KB2
        go_wp2_with fail
        generalize w2.heap.size = lo at HRD
        go_loopw [73] (fun z wr => ∃ k : Nat, z = .int .i64 k ∧ k ≤ n ∧ Hid (Rdr wr g (packF k (vs.drop k) ++ (t.length :: t)) 0 lo g) ∧ Hid (Below w.heap.size w wr)) (fun z _ => n - (intOf z).toNat)
        case atStart => exact ⟨0, rfl, Nat.zero_le _, HRD, KB3⟩
        case round =>
          clear HRD KB3
          obtain ⟨k, rfl, hk, HRD, KB⟩ := hrel
          by_cases hlt : (k : Int) < (n : Int)
          · obtain ⟨ad, v, rfl, HX, hvb, hcell⟩ := (HA.out.below KB.out).at (k := k) (by omega)
            have HP := Lib.hid (packF_drop (vs := vs) (k := k) (by rw [hla.out]; omega))
            rw [← HX.out] at HP
            have e16 := wrap16 v
            rcases (show k % 4 = 0 ∨ k % 4 = 1 ∨ k % 4 = 2 ∨ k % 4 = 3 by omega) with hr | hr | hr | hr
            · obtain ⟨m1, m2⟩ := rem4 k 0 hr
              have HQ : Hid (packF k (vs.drop k) ++ (t.length :: t) = varL (v % 4294967296) ++ (packF (k + 1) (vs.drop (k + 1)) ++ (t.length :: t))) := Lib.hid (by rw [HP.out, show putL k v = varL (v % 4294967296) from if_pos hr, List.append_assoc])
              have HR2 := HRD
              rw [HQ.out] at HR2
              clear hr HP HRD HQ
              go_wp2_with fail
              refine (RVar_any HR2.out).mono ?_
              rintro e w4 ⟨rfl, hrd, hgr⟩
              obtain ⟨t1, t2⟩ := take_varL (v % 4294967296) (by omega) (packF (k + 1) (vs.drop (k + 1)) ++ (t.length :: t))
              rw [t1, t2] at hrd
              rw [t1]
              clear t1 t2
              have HR3 := Lib.hid hrd
              have KB4 := Lib.hid (below_grown KB.out hgr HG.out)
              clear hrd hgr KB HR2
              have b1 : (((v % 4294967296 : Nat) : Int) == (v : Int) % 4294967296) = true := by simp
              go_wp2
              exact ⟨⟨k + 1, by go_num, by omega, HR3, KB4⟩, by simp [intOf]; omega⟩
            · obtain ⟨m1, m2⟩ := rem4 k 1 hr
              have HQ : Hid (packF k (vs.drop k) ++ (t.length :: t) = be 8 v ++ (packF (k + 1) (vs.drop (k + 1)) ++ (t.length :: t))) := Lib.hid (by rw [HP.out, show putL k v = be 8 v from by unfold putL; rw [if_neg (by omega), if_pos hr], List.append_assoc])
              have HR2 := HRD
              rw [HQ.out] at HR2
              clear hr HP HRD HQ
              go_wp2_with fail
              refine (RU64_any HR2.out).mono ?_
              rintro e w4 ⟨rfl, hrd, hgr⟩
              rw [raw_be] at hrd
              rw [raw_be, show beN ((be 8 v, packF (k + 1) (vs.drop (k + 1)) ++ (t.length :: t), (0 : Int)) : List Nat × List Nat × Int).1 = v from (beN_be 8 v).trans (Nat.mod_eq_of_lt (by omega))]
              have HR3 := Lib.hid hrd
              have KB4 := Lib.hid (below_grown KB.out hgr HG.out)
              clear hrd hgr KB HR2
              skip
              go_wp2
              exact ⟨⟨k + 1, by go_num, by omega, HR3, KB4⟩, by simp [intOf]; omega⟩
            · obtain ⟨m1, m2⟩ := rem4 k 2 hr
              have HQ : Hid (packF k (vs.drop k) ++ (t.length :: t) = be 2 (v % 65536) ++ (packF (k + 1) (vs.drop (k + 1)) ++ (t.length :: t))) := Lib.hid (by rw [HP.out, show putL k v = be 2 (v % 65536) from by unfold putL; rw [if_neg (by omega), if_neg (by omega), if_pos hr], List.append_assoc])
              have HR2 := HRD
              rw [HQ.out] at HR2
              clear hr HP HRD HQ
              go_wp2_with fail
              refine (RU16_any HR2.out).mono ?_
              rintro e w4 ⟨rfl, hrd, hgr⟩
              rw [raw_be] at hrd
              rw [raw_be, show beN ((be 2 (v % 65536), packF (k + 1) (vs.drop (k + 1)) ++ (t.length :: t), (0 : Int)) : List Nat × List Nat × Int).1 = (v % 65536) from (beN_be 2 (v % 65536)).trans (Nat.mod_eq_of_lt (by omega))]
              have HR3 := Lib.hid hrd
              have KB4 := Lib.hid (below_grown KB.out hgr HG.out)
              clear hrd hgr KB HR2
              have b1 : (((v % 65536 : Nat) : Int) == (v : Int) % 65536) = true := by simp
              go_wp2
              exact ⟨⟨k + 1, by go_num, by omega, HR3, KB4⟩, by simp [intOf]; omega⟩
            · obtain ⟨m1, m2⟩ := rem4 k 3 hr
              have HQ : Hid (packF k (vs.drop k) ++ (t.length :: t) = be 4 (v % 4294967296) ++ (packF (k + 1) (vs.drop (k + 1)) ++ (t.length :: t))) := Lib.hid (by rw [HP.out, show putL k v = be 4 (v % 4294967296) from by unfold putL; rw [if_neg (by omega), if_neg (by omega), if_neg (by omega)], List.append_assoc])
              have HR2 := HRD
              rw [HQ.out] at HR2
              clear hr HP HRD HQ
              go_wp2_with fail
              refine (RU32_any HR2.out).mono ?_
              rintro e w4 ⟨rfl, hrd, hgr⟩
              rw [raw_be] at hrd
              rw [raw_be, show beN ((be 4 (v % 4294967296), packF (k + 1) (vs.drop (k + 1)) ++ (t.length :: t), (0 : Int)) : List Nat × List Nat × Int).1 = (v % 4294967296) from (beN_be 4 (v % 4294967296)).trans (Nat.mod_eq_of_lt (by omega))]
              have HR3 := Lib.hid hrd
              have KB4 := Lib.hid (below_grown KB.out hgr HG.out)
              clear hrd hgr KB HR2
              have b1 : (((v % 4294967296 : Nat) : Int) == (v : Int) % 4294967296) = true := by simp
              go_wp2
              exact ⟨⟨k + 1, by go_num, by omega, HR3, KB4⟩, by simp [intOf]; omega⟩
          · have hkn : k = n := by omega
            have HR2 : Hid (Rdr wr g (t.length :: t) 0 lo g) := Lib.hid (by
              have h := HRD.out
              rwa [List.drop_eq_nil_of_le (by rw [hla.out]; omega)] at h)
            clear HRD hkn
            go_wp2_with fail
            refine (RText_any 255 (by decide) HR2.out).mono ?_
            rintro e w4 ⟨r, rfl, hbs, hrd, hgr⟩
            rw [txt_back t hlb2.out] at hbs hrd
            have HS := Lib.hid hbs
            have HR3 := Lib.hid hrd
            have KB4 := Lib.hid (below_grown KB.out hgr HG.out)
            clear hbs hrd hgr KB HR2
            go_wp2_with fail
            refine (Same_bs _ HS.out (HB.out.below KB4.out)).mono ?_
            rintro e w5 ⟨rfl, hb⟩
            rw [cmpL_self, decide_eq_true rfl]
            have HR4 := Lib.hid (HR3.out.below hb)
            have KB5 := Lib.hid (Below.thn KB4.out hb)
            clear hb KB4 HR3
            go_wp2_with fail
            refine (End_any HR4.out).mono ?_
            rintro e w6 ⟨rfl, rfl⟩
            rw [show endE [] 0 = 0 by decide]
            go_wp2_with fail
            refine (RLeft_any HR4.out).mono ?_
            rintro e w6 ⟨rfl, rfl⟩
            go_wp2
            go_ret
            exact ⟨rfl, KB5.out⟩
end Go.Proofs.Ytljnfciolalbdaa
