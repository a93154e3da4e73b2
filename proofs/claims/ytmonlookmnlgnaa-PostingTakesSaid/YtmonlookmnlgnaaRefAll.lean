/- Postings gone through: the document's. -/
import Derived.Test.YtmonlookmnlgnaaRefTake
import Derived.Test.YtmonlookmnlgnaaTold
namespace Go.Proofs.Ytmonlookmnlgnaa
open Go.RowKit
set_option linter.unusedVariables false
set_option linter.unusedSimpArgs false

theorem row_kept_apart {w w' : World} {b s k b' s' k' : Nat} {e e' : TypeId} {u v : Value} {xs ys : List Value} (hu : w.ownsRow b' e' s' u k' ys) (hv : w.ownsRow b e s v k xs) (hne : e' ≠ e) (hg : w.grownBy w' v.ownBlock) : w'.ownsRow b' e' s' u k' ys :=
  hu.kept hg (rows_apart hu hv hne)
/-- As one goes: what is gathered. -/
def GaI (w : World) (x6 x7 : Value) (pre : List El) (W : World) : Prop := W.ownsRow w.heap.size 32 2 x6 pre.length (pre.flatMap encX) ∧ W.ownsRow w.heap.size 3 1 x7 pre.length (pre.flatMap encN) ∧
  (∀ y ∈ pre, OwnL encI 3 W w.heap.size (slE y) y.2.1.2 ∧ y.2.1.1 < 4294967296 ∧ ∀ j, (slE y).ownBlock = some j → x7.ownBlock ≠ some j) ∧ Below w.heap.size w W
theorem GaI.below {w : World} {x6 x7 : Value} {pre : List El} {W W' : World} (h : GaI w x6 x7 pre W) (hb : Below W.heap.size W W') : GaI w x6 x7 pre W' :=
  ⟨OwnK.below (enc := encX) h.1 hb, OwnK.below (enc := encN) h.2.1 hb, fun y hy => ⟨(h.2.2.1 y hy).1.below hb, (h.2.2.1 y hy).2⟩, Below.thn h.2.2.2 hb⟩
theorem GaI.told {w : World} {x6 x7 : Value} {pre : List El} {W : World} {L : List (Nat × Po)} (h : GaI w x6 x7 pre W) (hL : pre.map mA = L) : LS W x6 (L.map (·.2)) ∧ IS W x7 (L.map fun x => (x.1 : Int)) := by
  have h1 := gathered h.1 (fun y hy => ⟨(h.2.2.1 y hy).1, (h.2.2.1 y hy).2.1⟩)
  have h2 := gatheredN h.2.1
  subst hL
  rw [List.map_map, List.map_map]
  exact ⟨h1, h2⟩
/-- One more: first the posting, then where it ends. -/
theorem GaI.app {w : World} {x6 x7 : Value} {pre : List El} {x : El} {W : World} (h : GaI w x6 x7 pre W) (ho : OwnL encI 3 W w.heap.size (slE x) x.2.1.2) (hd : x.2.1.1 < 4294967296) (hsep : ∀ j, (slE x).ownBlock = some j → x7.ownBlock ≠ some j) (hl : pre.length ≤ 1000000000)
    (C : Array Value) (hC : C = (encX x).toArray) : ∃ v1 w2, (Builtin.append_ #[22, 22] 22 #[x6, .slice (some ⟨W.heap.size, 0, none⟩) 1 1]).run Try.prog (W.alloc (.cells C 32)) = .ok v1 w2 ∧
      ∃ v2 w3, (Builtin.append_ #[30, 30] 30 #[x7, .slice (some ⟨w2.heap.size, 0, none⟩) 1 1]).run Try.prog (w2.alloc (.cells #[.int .i64 (x.1 : Nat)] 3)) = .ok v2 w3 ∧ GaI w v1 v2 (pre ++ [x]) w3 ∧
      (∃ g c, v1 = .slice (some ⟨g, 0, none⟩) (pre.length + 1) c) ∧ (∃ g c, v2 = .slice (some ⟨g, 0, none⟩) (pre.length + 1) c) ∧ (∀ g y z, Box2 W g 32 y z → x6.ownBlock ≠ some g → Box2 w3 g 32 y z) ∧ W.heap.size ≤ w3.heap.size := by
  obtain ⟨h1, h2, h3, h4⟩ := h
  have hba := (Below.refl W.heap.size W).alloc (Nat.le_refl _) (.cells C 32)
  have hrd := RdK.one (enc := encX) (sz := 2) W 32 x C (0, 0) hC rfl
  have a1 := OwnK.below (enc := encX) h1 hba
  have a2 := OwnK.below (enc := encN) h2 hba
  obtain ⟨v1, w2, r1, o1, g1, at1⟩ := run_append_rdK (P := Try.prog) (enc := encX) (c := 1) w.heap.size 22 22 32 (.agg #[.int .u32 0, .slice none 0 0]) 32 Try.underlying22 infoP rfl (by decide) (by decide) (fun _ => rfl) encX_one a1 hrd (by omega) (by have := h4.size; simp; omega)
  have b1 : Below w.heap.size w w2 := (Below.thn h4 hba).grown g1 (Below.thn h4 hba).size (fun k hk => (OwnK.base a1 k hk).1)
  have a3 := row_kept_apart a2 a1 (by decide) g1
  have key1 : ∀ y ∈ pre ++ [x], OwnL encI 3 w2 w.heap.size (slE y) y.2.1.2 ∧ y.2.1.1 < 4294967296 ∧ ∀ j, (slE y).ownBlock = some j → x7.ownBlock ≠ some j := by
    intro y hy
    have hy' : OwnL encI 3 W w.heap.size (slE y) y.2.1.2 ∧ y.2.1.1 < 4294967296 ∧ ∀ j, (slE y).ownBlock = some j → x7.ownBlock ≠ some j := by
      rcases List.mem_append.1 hy with hy | hy
      · exact h3 y hy
      · simp at hy; subst hy; exact ⟨ho, hd, hsep⟩
    exact ⟨row_kept_apart (hy'.1.below hba) a1 (by decide) g1, hy'.2⟩
  have hbb := (Below.refl w2.heap.size w2).alloc (Nat.le_refl _) (.cells #[.int .i64 (x.1 : Nat)] 3)
  have hrd2 := RdK.one (enc := encN) (sz := 1) w2 3 x #[.int .i64 (x.1 : Nat)] (0, 0) rfl rfl
  have a4 := OwnK.below (enc := encN) a3 hbb
  have o1' := OwnK.below o1 hbb
  obtain ⟨v2, w3, r2, o2, g2, at2⟩ := run_append_rdK (P := Try.prog) (enc := encN) (c := 1) w.heap.size 30 30 3 (.int .i64 0) 8 Try.underlying30 infoI rfl (by decide) (by decide) (fun _ => rfl) encN_one a4 hrd2 (by omega) (by have := b1.size; simp; omega)
  have b2 := Below.thn b1 hbb
  have p1 : w3.ownsRow w.heap.size 32 2 v1 (pre ++ [x]).length ((pre ++ [x]).flatMap encX) := row_kept_apart o1' a4 (by decide) g2
  have p2 : w3.ownsRow w.heap.size 3 1 v2 (pre ++ [x]).length ((pre ++ [x]).flatMap encN) := o2
  refine ⟨v1, w2, r1, v2, w3, r2, ⟨p1, p2, fun y hy => ?_, b2.grown g2 b2.size (fun k hk => (OwnK.base a4 k hk).1)⟩, ownsRow_succ (by simpa using p1), ownsRow_succ (by simpa using p2), fun g y z hb hne => ?_, Nat.le_trans hba.size (Nat.le_trans g1.size (Nat.le_trans hbb.size g2.size))⟩
  · obtain ⟨q1, q2, q3⟩ := key1 y hy
    have q4 := q1.below hbb
    refine ⟨q4.kept g2 ?_, q2, fun j hj => ?_⟩
    · cases hob : (slE y).ownBlock with
      | none => exact .inl rfl
      | some k => right; intro e; exact q3 k hob e.symm
    · rcases at2 with e | e
      · rw [e]; exact q3 j hj
      · rw [e]; intro e'
        have e2 : (w2.alloc (.cells #[.int .i64 (x.1 : Nat)] 3)).heap.size = j := by injection e'
        have := (q1.base j hj).2
        simp at e2
        omega
  · have k1 := (hb.below hba).kept g1 (fun e => hne e.symm)
    have k2 := k1.below hbb
    exact k2.kept g2 (fun e => Box2.not_row k2 (by decide) a4 e)

set_option maxRecDepth 100000 in
set_option maxHeartbeats 4000000 in
theorem refAll_any (A : Option Addr) (n c : Nat) (b : List Nat) (prev : Nat) (w : World) (hl : RdB w A n b) (hc : n ≤ c) (hc2 : c ≤ 9223372036854775807) (hm : n ≤ 1000000) (hp : prev < 4294967296) :
    Calls Try.prog 29 #[.slice A n c, .int .u32 (prev : Nat)] w (ToldE (allL b prev) w) := by
  have HL := Lib.hid hl
  have HLn := Lib.hid hl.len
  have hp' : prev ≤ 4294967295 := by omega
  clear hl hp
  have H0 : Hid (GaI w (.slice (some ⟨w.heap.size, 0, none⟩) 0 0) (.slice (some ⟨w.heap.size + 1, 0, none⟩) 0 0) [] ((w.alloc (.cells #[] 32)).alloc (.cells #[] 3))) := Lib.hid (by
    have a1 := OwnK.lit (enc := encX) (sz := 2) (fun _ => rfl) w w.heap.size 32 [] #[] 0 rfl rfl (Nat.le_refl _) (by decide)
    have a2 := OwnK.lit (enc := encN) (sz := 1) (fun _ => rfl) (w.alloc (.cells #[] 32)) w.heap.size 3 [] #[] 0 rfl rfl (by simp) (by decide)
    simp only [World.size_alloc] at a2
    exact ⟨OwnK.below a1 ((Below.refl _ _).alloc (Nat.le_refl _) _), a2, (fun y hy => by cases hy), ((Below.refl _ _).alloc (Nat.le_refl _) _).alloc (by simp) _⟩)
  go_enter Try.func29, Try.ntmps29
  go_wp2_with fail
  go_loopw [1, 6, 7, 8] (fun x1 x6 x7 x8 wr => ∃ at_ la : Nat, x8 = .int .i64 at_ ∧ x1 = .int .u32 la ∧ at_ ≤ n ∧ la ≤ 4294967295 ∧ Hid (∃ pre : List El, allL b prev = pre.map mA ++ allAt b at_ la ∧ GaI w x6 x7 pre wr)) (fun _ _ _ x8 _ => n - (intOf x8).toNat)
  case atStart => exact ⟨0, prev, rfl, rfl, by omega, hp', Lib.hid ⟨[], rfl, by simpa using H0.out⟩⟩
  case round =>
    obtain ⟨at_, la, rfl, rfl, hat, hla, HI⟩ := hrel
    obtain ⟨pre, hall, hga⟩ := HI.out
    have HAll := Lib.hid hall
    have HGa := Lib.hid hga
    clear hall hga HI
    by_cases hlt : (at_ : Int) < (n : Int)
    · have C := Lib.hid (refTake_bs (.slice A n c) b (at_ : Int) la wr ((HL.out.below HGa.out.2.2.2).bs hc hc2) (by omega) (by rw [HLn.out]; omega))
      unfold TakeE at C
      obtain ⟨T, hT⟩ : ∃ T, T = tkR b (at_ : Int) la := ⟨_, rfl⟩
      rw [← hT] at C
      have HT := Lib.hid hT
      obtain ⟨⟨d, xs⟩, en, er⟩ := T
      simp only at C
      clear hT
      go_wp2_with fail
      refine C.out.mono ?_
      rintro e W2 ⟨u, rfl, ho, hb⟩
      obtain ⟨A5, c5, hu, hl5, hc5, _⟩ := ho.rd
      subst hu
      obtain ⟨nx, hnx⟩ : ∃ nx, nx = xs.length := ⟨_, rfl⟩
      rw [← hnx] at ho hl5 ⊢
      have HG2 := Lib.hid (HGa.out.below hb)
      by_cases her : er = 0
      · subst her
        have hok := tkR_ok (b := b) (k := at_) (prev := la) (by rw [← HT.out])
        rw [← HT.out] at hok
        simp only at hok
        obtain ⟨k1, k2, k3⟩ := hok
        rw [HLn.out] at k2
        obtain ⟨e2, rfl⟩ : ∃ e2 : Nat, en = e2 := ⟨en.toNat, by omega⟩
        have hd : d ≤ 2147483647 := k3.2.1
        have HSt : Hid (allAt b at_ la = (e2, (d, xs)) :: allAt b e2 d) := Lib.hid (allAt_step (by rw [HLn.out]; omega) HT.out.symm)
        have hplen : pre.length ≤ 1000000000 := by
          have h1 := allL_len b prev
          rw [HAll.out] at h1
          simp at h1
          have := HLn.out
          omega
        have hba := (Below.refl W2.heap.size W2).alloc (Nat.le_refl _) (.cells #[.int .u32 (d : Nat), .slice A5 nx c5] 32)
        have hbx := Box2.new W2 32 (.int .u32 (d : Nat)) (.slice A5 nx c5)
        have hga3 := HG2.out.below hba
        have ho3 := (ho.below hba).mono HGa.out.2.2.2.size
        obtain ⟨v1, w4, r1, v2, w5, r2, hga5, ⟨g6, c6, hv1⟩, ⟨g7, c7, hv2⟩, hkb, _⟩ := hga3.app (x := (e2, (d, xs), A5, nx, c5)) ho3 (by show d < _; omega) (fun j hj e => by
          have h1 := (ho.base j hj).1
          have h2 := (World.ownsRow.lt HGa.out.2.1 j e).2
          omega) hplen #[.int .u32 (d : Nat), .slice A5 nx c5] rfl
        have hb5 := hkb _ _ _ hbx (fun e => by
          have h2 := (World.ownsRow.lt HG2.out.1 _ e).2
          omega)
        obtain ⟨f0, f1, _, _⟩ := hbx.facts
        obtain ⟨q0, q1, _, _⟩ := hb5.facts
        have HG5 := Lib.hid hga5
        have HAl : Hid (allL b prev = (pre ++ [(e2, (d, xs), A5, nx, c5)]).map mA ++ allAt b e2 d) := Lib.hid (by rw [HAll.out, HSt.out]; simp [mA])
        subst hv1
        subst hv2
        obtain ⟨pl, hpl⟩ : ∃ pl, pl = pre.length := ⟨_, rfl⟩
        rw [← hpl] at r1 r2 HG5
        simp only [World.size_alloc] at r1
        clear ho hb hba hbx hga3 ho3 hga5 hkb hb5 C hpl hnx
        go_wp2_with (first | (at_builtin; refine wpl_append_run rfl _ _ _ rfl rfl rfl r1 ?_) | (at_builtin; refine wpl_append_run rfl _ _ _ rfl rfl rfl r2 ?_))
        exact ⟨⟨e2, d, rfl, rfl, by omega, by omega, Lib.hid ⟨_, HAl.out, HG5.out⟩⟩, by simp [intOf]; omega⟩
      · have hL : pre.map mA = allL b prev := by
          rw [HAll.out, allAt_no (by rw [← HT.out]; exact fun h => her h.2), List.append_nil]
        have HG3 := Lib.hid (HG2.out.below ((Below.refl W2.heap.size W2).alloc (Nat.le_refl _) (.cells #[.int .u32 (d : Nat), .slice A5 nx c5] 32)))
        obtain ⟨t1, t2⟩ := HG3.out.told hL
        have HT1 := Lib.hid t1
        have HT2 := Lib.hid t2
        have q1 : (er == 0) = false := by simp [her]
        have q2 : (er != 0) = true := by simp [her]
        clear ho hb hL t1 t2 C hnx
        go_wp2
        go_ret2
        exact ⟨_, _, rfl, HT1.out, HT2.out, HG3.out.2.2.2⟩
    · have hL : pre.map mA = allL b prev := by
        rw [HAll.out, allAt_no (by rw [HLn.out]; omega), List.append_nil]
      obtain ⟨t1, t2⟩ := HGa.out.told hL
      have HT1 := Lib.hid t1
      have HT2 := Lib.hid t2
      clear hL t1 t2
      go_wp2
      go_ret2
      exact ⟨_, _, rfl, HT1.out, HT2.out, HGa.out.2.2.2⟩
end Go.Proofs.Ytmonlookmnlgnaa
