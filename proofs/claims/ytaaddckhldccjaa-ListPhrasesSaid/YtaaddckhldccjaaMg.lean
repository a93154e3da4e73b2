import Derived.Test.YtaaddckhldccjaaSrtI
import Derived.Test.YtaaddckhldccjaaPst
import Derived.Test.YtaaddckhldccjaaRangeX
import Derived.Test.YtaaddckhldccjaaRowsA
import Derived.Test.YtaaddckhldccjaaRegT

/- Postings put together: plain law. -/
namespace Go.Proofs.Ytaaddckhldccjaa
open Go.RowKit
set_option linter.unusedVariables false
set_option linter.unusedSimpArgs false

theorem docs_up {l : List Po} (h : Rt l) : Up (docsOf l) := by
  unfold docsOf Up
  rw [List.pairwise_map, List.pairwise_iff_getElem]
  intro i j hi hj hij
  exact rt_lt h j i hij hj
theorem docs_mem {l : List Po} {d : Nat} : d ∈ docsOf l ↔ ∃ p ∈ l, p.1 = d := by simp [docsOf]
/-- All documents, rising. -/
def docM (ls : List VV) : List Nat := ls.foldl (fun a x => eitherL a (docsOf x.l)) []
theorem docM_go : ∀ (ls : List VV) (a : List Nat), allRt ls → Up a → Up (ls.foldl (fun a x => eitherL a (docsOf x.l)) a) ∧ ∀ d, d ∈ ls.foldl (fun a x => eitherL a (docsOf x.l)) a ↔ (d ∈ a ∨ ∃ x ∈ ls, d ∈ docsOf x.l)
  | [], a, _, h => ⟨h, fun d => by simp⟩
  | x :: ls, a, hr, h => by
    have hx : Up (docsOf x.l) := docs_up (hr x (by simp))
    obtain ⟨h1, h2⟩ := docM_go ls (eitherL a (docsOf x.l)) (fun y hy => hr y (by simp [hy])) (either_up _ _ _ (Nat.le_refl _) h hx)
    refine ⟨h1, fun d => ?_⟩
    rw [List.foldl_cons, h2 d, either_mem _ _ _ (Nat.le_refl _) d]
    simp only [List.mem_cons, exists_eq_or_imp, or_assoc]
theorem docM_up {ls : List VV} (h : allRt ls) : Up (docM ls) := (docM_go ls [] h List.Pairwise.nil).1
theorem docM_mem {ls : List VV} (h : allRt ls) (d : Nat) : d ∈ docM ls ↔ ∃ x ∈ ls, d ∈ docsOf x.l := by
  have := (docM_go ls [] h List.Pairwise.nil).2 d
  unfold docM
  rw [this]
  simp
theorem docM_lt {ls : List VV} (h : allRt ls) {d : Nat} (hd : d ∈ docM ls) : d < 4294967296 := by
  obtain ⟨x, hx, hd⟩ := (docM_mem h d).1 hd
  obtain ⟨p, hp, rfl⟩ := docs_mem.1 hd
  have := (rt_at (h x hx) hp).2.2.1
  omega
/-- Where a document's words stand, of all lists. -/
def posM (ls : List VV) (d : Nat) : List Int := cmpI (sortI (ls.flatMap fun x => posDoc x.l d))
theorem posM_up (ls : List VV) (d : Nat) : UpI (posM ls d) := sc_up _
theorem posM_mem (ls : List VV) (d : Nat) (z : Int) : z ∈ posM ls d ↔ ∃ x ∈ ls, z ∈ posDoc x.l d := by unfold posM; rw [sc_mem, List.mem_flatMap]
theorem okPos_upI {l : List Int} (h : okPos l) : UpI l := by
  unfold UpI
  rw [List.pairwise_iff_getElem]
  intro i j hi hj hij
  have := okPos_up h j i hij hj
  unfold ltB stAt at this
  rw [List.getD_eq_getElem?_getD, List.getD_eq_getElem?_getD, List.getElem?_eq_getElem hi, List.getElem?_eq_getElem hj] at this
  simpa using this
open Classical in
noncomputable def mgE (ls : List VV) : Int := if allRt ls then (if ∀ d ∈ docM ls, (posM ls d).length ≤ 2000 then 0 else 3) else 160
open Classical in
noncomputable def mgX (ls : List VV) : List Po := if allRt ls ∧ ∀ d ∈ docM ls, (posM ls d).length ≤ 2000 then (docM ls).map fun d => (d, posM ls d) else []
theorem mg_no {ls : List VV} (h : ¬ allRt ls) : mgE ls = 160 ∧ mgX ls = [] := ⟨by unfold mgE; rw [if_neg h], by unfold mgX; rw [if_neg fun hh => h hh.1]⟩
theorem mg_long {ls : List VV} (h : allRt ls) {d : Nat} (hd : d ∈ docM ls) (hl : ¬ (posM ls d).length ≤ 2000) : mgE ls = 3 ∧ mgX ls = [] :=
  ⟨by unfold mgE; rw [if_pos h, if_neg fun hh => hl (hh d hd)], by unfold mgX; rw [if_neg fun hh => hl (hh.2 d hd)]⟩
theorem mg_yes {ls : List VV} (h : allRt ls) (hl : ∀ d ∈ docM ls, (posM ls d).length ≤ 2000) : mgE ls = 0 ∧ mgX ls = (docM ls).map fun d => (d, posM ls d) :=
  ⟨by unfold mgE; rw [if_pos h, if_pos hl], by unfold mgX; rw [if_pos ⟨h, hl⟩]⟩
end Go.Proofs.Ytaaddckhldccjaa

/- Postings put together: what stands as one goes. -/
namespace Go.Proofs.Ytaaddckhldccjaa
open Go.RowKit
set_option linter.unusedVariables false
set_option linter.unusedSimpArgs false

set_option maxRecDepth 100000 in
set_option maxHeartbeats 1000000 in
theorem CloneVV_any (A : Option Addr) (n c : Nat) (xs : List VV) (w : World) (ht : Rd encVV w A n xs) (hn : n ≤ 1000000) (hc : n ≤ c) (hc2 : c ≤ 9223372036854775807) :
    Calls Try.prog 55 #[.slice A n c] w fun e w' => ∃ v, e = .returned v ∧ OwnV w' w.heap.size v xs ∧ Below w.heap.size w w' := by
  have HT := Lib.hid ht
  clear ht
  cases A with
  | none =>
    have HN : Hid (xs = []) := Lib.hid (by
      rcases Nat.eq_zero_or_pos n with h | h
      · exact List.eq_nil_of_length_eq_zero (by rw [HT.out.len, h])
      · obtain ⟨_, h1, _⟩ := HT.out.cell h
        cases h1)
    have hnil := fun W : World => Lib.run_eql_slice_nil (P := Try.prog) W 25 28 none n c 0 0 Try.underlying25
    go_enter Try.func55, Try.ntmps55
    go_wp2
    go_ret
    exact ⟨_, rfl, by rw [HN.out]; exact OwnL.nil _ _ _ _, Below.refl _ _⟩
  | some ad =>
    have hnil := fun W : World => Lib.run_eql_slice_nil (P := Try.prog) W 25 28 (some ad) n c 0 0 Try.underlying25
    have H0 := OwnL.lit (enc := encVV) w w.heap.size 28 [] #[] 0 rfl rfl (Nat.le_refl _) (by decide)
    have HB0 := (Below.refl w.heap.size w).alloc (Nat.le_refl _) (.cells #[] 28)
    obtain ⟨v1, w2, r1, o1, g1, at1⟩ := run_append_rd (P := Try.prog) (c := c) w.heap.size 25 25 28 (.slice none 0 0) 24 Try.underlying25 infoVV rfl (by decide) encVV_one H0 (HT.out.below HB0) (by simp; omega) (by simp)
    have HX : Hid (OwnV w2 w.heap.size v1 xs ∧ Below w.heap.size w w2) := Lib.hid (by
      rw [List.nil_append] at o1
      exact ⟨o1, HB0.grown g1 (by simp) (fun k hk => (H0.base k hk).1)⟩)
    clear o1 g1 at1 H0 HB0
    go_enter Try.func55, Try.ntmps55
    go_wp2_with (at_builtin; refine wpl_append_run rfl _ _ _ rfl rfl rfl r1 ?_)
    go_ret
    exact ⟨_, rfl, HX.out.1, HX.out.2⟩
/-- The least document that lists begin with. -/
def LeR (ls : List VV) (d : Nat) (b : Bool) : Prop := (b = false → ∀ x ∈ ls, x.l = []) ∧ (b = true → (∃ x ∈ ls, ∃ p r, x.l = p :: r ∧ p.1 = d) ∧ ∀ x ∈ ls, ∀ p r, x.l = p :: r → d ≤ p.1)
def LeE (ls : List VV) (w : World) (e : Ending) (w' : World) : Prop := ∃ (d : Nat) (b : Bool), e = .returned (.tuple #[.int .u32 (d : Nat), .bool b]) ∧ d ≤ 4294967295 ∧ LeR ls d b ∧ w' = w
theorem le_step_no {ls : List VV} {k d : Nat} {b : Bool} {x : VV} (h : ∃ hl : k < ls.length, ls[k] = x) (h1 : LeR (ls.take k) d b) (h2 : x.l = [] ∨ (b = true ∧ ∃ p r, x.l = p :: r ∧ d ≤ p.1)) : LeR (ls.take (k + 1)) d b := by
  obtain ⟨hl, rfl⟩ := h
  rw [List.take_succ_eq_append_getElem hl]
  refine ⟨fun hb y hy => ?_, fun hb => ⟨?_, fun y hy p r e => ?_⟩⟩
  · rcases List.mem_append.1 hy with hy | hy
    · exact h1.1 hb y hy
    · rw [List.mem_singleton] at hy
      subst hy
      rcases h2 with h2 | ⟨h2, _⟩
      · exact h2
      · rw [hb] at h2; cases h2
  · obtain ⟨y, hy, h3⟩ := (h1.2 hb).1
    exact ⟨y, List.mem_append_left _ hy, h3⟩
  · rcases List.mem_append.1 hy with hy | hy
    · exact (h1.2 hb).2 y hy p r e
    · rw [List.mem_singleton] at hy
      subst hy
      rcases h2 with h2 | ⟨_, p', r', e', hd⟩
      · rw [h2] at e; cases e
      · rw [e'] at e; cases e; exact hd
theorem le_step_yes {ls : List VV} {k d : Nat} {b : Bool} {x : VV} {p : Po} {r : List Po} (h : ∃ hl : k < ls.length, ls[k] = x) (h1 : LeR (ls.take k) d b) (h2 : x.l = p :: r) (h3 : b = false ∨ p.1 < d) : LeR (ls.take (k + 1)) p.1 true := by
  obtain ⟨hl, rfl⟩ := h
  rw [List.take_succ_eq_append_getElem hl]
  refine ⟨fun hb => (by cases hb), fun _ => ⟨⟨ls[k], List.mem_append_right _ (List.mem_singleton.2 rfl), p, r, h2, rfl⟩, fun y hy p' r' e => ?_⟩⟩
  rcases List.mem_append.1 hy with hy | hy
  · cases b with
    | false => rw [h1.1 rfl y hy] at e; cases e
    | true =>
      have := (h1.2 rfl).2 y hy p' r' e
      rcases h3 with h3 | h3
      · cases h3
      · omega
  · rw [List.mem_singleton] at hy
    subst hy
    rw [h2] at e
    cases e
    exact Nat.le_refl _
set_option maxRecDepth 100000 in
set_option maxHeartbeats 4000000 in
theorem least_any (A : Option Addr) (n c : Nat) (ls : List VV) (w : World) (h : RdVV w A n ls) :
    Calls Try.prog 56 #[.slice A n c] w (LeE ls w) := by
  have HR := Lib.hid h
  have hn := h.rd.max
  have HLn := Lib.hid h.len
  clear h
  go_enter Try.func56, Try.ntmps56
  go_wp2_with fail
  go_loop [4, 5, 10] (fun p q x => ∃ (k d : Nat) (b : Bool), x = .int .i64 (k : Nat) ∧ k ≤ n ∧ p = .int .u32 (d : Nat) ∧ d ≤ 4294967295 ∧ q = .bool b ∧ Hid (LeR (ls.take k) d b)) (fun _ _ x => n - (intOf x).toNat)
  case atStart => exact ⟨0, 0, false, rfl, Nat.zero_le _, rfl, by decide, rfl, Lib.hid ⟨fun _ x hx => by simp at hx, fun h => (by cases h)⟩⟩
  case round =>
    obtain ⟨k, d, b, rfl, hk, rfl, hd, rfl, HI⟩ := hrel
    by_cases hlt : (k : Int) < (n : Int)
    · obtain ⟨ad, x, rfl, HX, HXO, hxm, x0⟩ := HR.out.at (k := k) (by omega)
      by_cases hx0 : (x.n : Int) > 0
      · obtain ⟨ax, B, m, c1, dd, l, eA, HP, p0, p1, hm1, hm2, HRI, hdd⟩ := HXO.out.rd.at (k := 0) (by omega)
        rw [Nat.zero_mul, Addr.add_zero'] at p0
        rw [eA] at x0
        have HXL : Hid (x.l = (dd, l) :: x.l.drop 1) := Lib.hid (by
          obtain ⟨hl, e9⟩ := HP.out
          rw [← e9]
          exact List.drop_eq_getElem_cons hl)
        have hx0n : 0 < x.n := by omega
        cases b
        · have HN : Hid (LeR (ls.take (k + 1)) dd true) := Lib.hid (le_step_yes HX.out HI.out HXL.out (.inl rfl))
          clear p1
          go_wp2
          exact ⟨⟨k + 1, dd, true, by simp; try go_num, by omega, rfl, hdd, rfl, HN⟩, by simp [intOf]; omega⟩
        · by_cases hlt2 : (dd : Int) < (d : Int)
          · have HN : Hid (LeR (ls.take (k + 1)) dd true) := Lib.hid (le_step_yes HX.out HI.out HXL.out (.inr (by show dd < d; omega)))
            clear p1
            go_wp2
            exact ⟨⟨k + 1, dd, true, by simp; try go_num, by omega, rfl, hdd, rfl, HN⟩, by simp [intOf]; omega⟩
          · have HN : Hid (LeR (ls.take (k + 1)) d true) := Lib.hid (le_step_no HX.out HI.out (.inr ⟨rfl, _, _, HXL.out, by show d ≤ dd; omega⟩))
            clear p1
            go_wp2
            exact ⟨⟨k + 1, d, true, by simp; try go_num, by omega, rfl, hd, rfl, HN⟩, by simp [intOf]; omega⟩
      · have HN : Hid (LeR (ls.take (k + 1)) d b) := Lib.hid (le_step_no HX.out HI.out (.inl (List.eq_nil_of_length_eq_zero (by have := HXO.out.rd.len; omega))))
        go_wp2
        exact ⟨⟨k + 1, d, b, by simp; try go_num, by omega, rfl, hd, rfl, HN⟩, by simp [intOf]; omega⟩
    · have HF : Hid (LeR ls d b) := Lib.hid (by have := HI.out; rwa [List.take_of_length_le (by have := HLn.out; omega)] at this)
      go_wp2
      refine bodyPost_ret (v := .tuple #[.int .u32 (d : Nat), .bool b]) (by simp [results, Try.results56, go_sem]) rfl ⟨d, b, rfl, hd, HF.out, rfl⟩
theorem cutPo (x : VV) (h1 : 1 ≤ x.n) (hc : x.n ≤ x.c) : ∃ A', (∀ W : World, (Instr.slice 28 (.slice x.A x.n x.c) (some (.int .i64 1)) none none).run Try.prog W = .ok (.slice A' (x.n - 1) (x.c - 1)) W) ∧ ∀ (w : World), RdPo w x.A x.n x.l → RdPo w A' (x.n - 1) (x.l.drop 1) := by
  have hs : ∀ W : World, (sizeOf 32).run Try.prog W = .ok 2 W := fun W => by kernel_rfl
  refine ⟨if x.c = 1 then x.A else x.A.map (·.add (1 * 2)), fun W => ?_, fun w h => h.drop x.c 1 h1 hc⟩
  rw [run_slice_l W 28 x.A x.n x.c (by rw [show Try.prog.elem 28 = 32 by kernel_rfl]; exact Try.underlying28) .i64 1 (by decide) (by omega), show Try.prog.elem 28 = 32 by kernel_rfl, hs]
  simp [sliced, Result.andThen]
theorem own_setV {w : World} {base G n c : Nat} {ls : List VV} (h : OwnV w base (.slice (some ⟨G, 0, none⟩) n c) ls) (i : Nat) (x : VV) : OwnV (w.setCell ⟨G, i, none⟩ (encVV x)) base (.slice (some ⟨G, 0, none⟩) n c) (ls.set i x) := by
  obtain ⟨A, c', e, _⟩ := h.rd
  injection e with _ e2 _
  subst e2
  exact (h.set i x).1
theorem ownV_at {w : World} {base G n c : Nat} {ls : List VV} (h : OwnV w base (.slice (some ⟨G, 0, none⟩) n c) ls) {k : Nat} (hk : k < n) : ∃ (hl : k < ls.length), w.cell? ⟨G, k, none⟩ = some (encVV ls[k]) ∧ w.frozen? ⟨G, k, none⟩ = false := by
  obtain ⟨A, c', e, _, _, h3⟩ := h.rd
  injection e with e1 e2 e3
  have hl : k < ls.length := by omega
  subst e2
  exact ⟨hl, (h.cellAt k hl).1, (h.cellAt k hl).2⟩
/-- What lies in a block that stays. -/
theorem ownsRow_same {W W' : World} {b s n : Nat} {e : TypeId} {v : Value} {xs : List Value} (h : W.ownsRow b e s v n xs) (hs : ∀ g, v.ownBlock = some g → g < W.heap.size → b ≤ g → W'.heap[g]? = W.heap[g]?) : W'.ownsRow b e s v n xs := by
  refine ⟨h.1, ?_⟩
  rcases h.2 with h2 | ⟨g, cap, cur, rfl, h4, h5, h6⟩
  · exact .inl h2
  · exact .inr ⟨g, cap, cur, rfl, h4, (hs g rfl (Array.getElem?_eq_some_iff.1 h5).1 h4).trans h5, h6⟩
theorem OutJ.bx {b q : Nat} {o : Value} {os : List DV} {W W' : World} (h : OutJ b o os W) (hb : BX q W W') (hq : q < b) : OutJ b o os W' := h.same fun k hk hl => hb.block k hl (by omega)
theorem OutJ.pushB {b : Nat} {o : Value} {os : List DV} {W : World} (h : OutJ b o os W) (hb : b ≤ W.heap.size) (x : DV) (hx : OwnI W b (slV x) x.1.2) (hd : x.1.1 < 4294967296) (hl : os.length ≤ 1000000000) :
    ∃ A' c' w2, (Builtin.append_ #[28, 28] 28 #[o, .slice (some ⟨W.heap.size, 0, none⟩) 1 1]).run Try.prog (W.alloc (.cells #[.int .u32 (x.1.1 : Nat), slV x] 32)) = .ok (.slice A' (os.length + 1) c') w2 ∧ OutJ b (.slice A' (os.length + 1) c') (os ++ [x]) w2 ∧
      Below b W w2 ∧ os.length + 1 ≤ c' ∧ c' ≤ 9223372036854775807 := by
  have hba : Below W.heap.size W (W.alloc (.cells #[.int .u32 (x.1.1 : Nat), slV x] 32)) := (Below.refl _ _).alloc (Nat.le_refl _) _
  have hrd := RdK.one (enc := encD) (sz := 2) W 32 x #[.int .u32 (x.1.1 : Nat), slV x] (0, 0) rfl rfl
  have a1 := OwnK.below (enc := encD) h.own hba
  obtain ⟨v1, w2, r1, o1, g1, _⟩ := run_append_rdK (P := Try.prog) (enc := encD) (c := 1) b 28 28 32 (.agg #[.int .u32 0, .slice none 0 0]) 32 Try.underlying28 infoP rfl (by decide) (by decide) (fun _ => rfl) encD_one a1 hrd (by omega) (by simp; omega)
  obtain ⟨A', c', e, h1, h2, _⟩ := OwnK.rd (enc := encD) (fun _ => rfl) o1
  have hlen : (os ++ [x]).length = os.length + 1 := by simp
  rw [hlen] at e h1
  subst e
  refine ⟨A', c', w2, r1, ⟨o1, fun y hy => ?_⟩, (hba.mono hb).grown g1 (by simp; omega) (fun k hk => (OwnK.base a1 k hk).1), h1, h2⟩
  have hy' : OwnI W b (slV y) y.1.2 ∧ y.1.1 < 4294967296 := by
    rcases List.mem_append.1 hy with hy | hy
    · exact h.rows y hy
    · rw [List.mem_singleton] at hy; subst hy; exact ⟨hx, hd⟩
  exact ⟨apart_own (hy'.1.below hba) a1 (by decide) g1, hy'.2⟩
/-- What is left of lists. -/
def CurR (ls : List VV) (lim : Nat → Nat) (cur : List VV) : Prop := cur.length = ls.length ∧ ∀ (j : Nat) (x y : VV), (∃ h : j < ls.length, ls[j] = x) → (∃ h : j < cur.length, cur[j] = y) → y.l = x.l.filter fun p => decide (lim j ≤ p.1)
theorem CurR.start (ls : List VV) : CurR ls (fun _ => 0) ls := ⟨rfl, fun j x y hx hy => by
  obtain ⟨_, rfl⟩ := hx
  obtain ⟨_, rfl⟩ := hy
  exact (List.filter_eq_self.2 fun p _ => by simp).symm⟩
theorem rt_pw {l : List Po} (h : Rt l) : l.Pairwise fun a b => a.1 < b.1 := by
  rw [List.pairwise_iff_getElem]
  intro i j hi hj hij
  exact rt_lt h j i hij hj
theorem filt_filt {l : List Po} {a b : Nat} (h : a ≤ b) : (l.filter fun p => decide (a ≤ p.1)).filter (fun p => decide (b ≤ p.1)) = l.filter fun p => decide (b ≤ p.1) := by
  rw [List.filter_filter]
  refine List.filter_congr fun p _ => ?_
  by_cases hb : b ≤ p.1
  · simp [hb, show a ≤ p.1 by omega]
  · simp [hb]
/-- A list that begins with the document. -/
theorem head_is {l : List Po} (hr : Rt l) {lim d : Nat} {p : Po} {r : List Po} (h : (l.filter fun p => decide (lim ≤ p.1)) = p :: r) (hd : p.1 = d) : posDoc l d = p.2 ∧ r = l.filter fun p => decide (d + 1 ≤ p.1) := by
  have hp : p ∈ l.filter fun p => decide (lim ≤ p.1) := by rw [h]; simp
  have hp2 := (List.mem_filter.1 hp)
  have hpw := (rt_pw hr).filter fun p => decide (lim ≤ p.1)
  rw [h] at hpw
  have hl : lim ≤ p.1 := by simpa using hp2.2
  subst hd
  refine ⟨posDoc_mem hr hp2.1, ?_⟩
  rw [← filt_filt (show lim ≤ p.1 + 1 by omega), h, List.filter_cons_of_neg (by simp)]
  exact (List.filter_eq_self.2 fun q hq => by
    have := (List.pairwise_cons.1 hpw).1 q hq
    simp; omega).symm
/-- A list that does not. -/
theorem head_not {l : List Po} (hr : Rt l) {lim d : Nat} (hl : lim ≤ d) (h : ∀ p r, (l.filter fun p => decide (lim ≤ p.1)) = p :: r → d < p.1) : posDoc l d = [] ∧ (l.filter fun p => decide (lim ≤ p.1)) = l.filter fun p => decide (d + 1 ≤ p.1) := by
  have hpw := (rt_pw hr).filter fun p => decide (lim ≤ p.1)
  have hall : ∀ q ∈ l.filter (fun p => decide (lim ≤ p.1)), d < q.1 := by
    cases hc : l.filter fun p => decide (lim ≤ p.1) with
    | nil => intro q hq; cases hq
    | cons p r =>
      have h1 := h p r hc
      rw [hc] at hpw
      intro q hq
      rcases List.mem_cons.1 hq with rfl | hq
      · exact h1
      · have := (List.pairwise_cons.1 hpw).1 q hq
        omega
  refine ⟨posDoc_not fun q hq e => ?_, ?_⟩
  · have := hall q (List.mem_filter.2 ⟨hq, by simp; omega⟩)
    omega
  · rw [← filt_filt (show lim ≤ d + 1 by omega)]
    exact (List.filter_eq_self.2 fun q hq => by have := hall q hq; simp; omega).symm
theorem cur_at {ls cur : List VV} {lim : Nat → Nat} (h : CurR ls lim cur) {y : VV} (hy : y ∈ cur) : ∃ j x, (∃ hl : j < ls.length, ls[j] = x) ∧ x ∈ ls ∧ y.l = x.l.filter fun p => decide (lim j ≤ p.1) := by
  obtain ⟨j, hj, rfl⟩ := List.getElem_of_mem hy
  have hj' : j < ls.length := by rw [← h.1]; exact hj
  exact ⟨j, ls[j], ⟨hj', rfl⟩, List.getElem_mem hj', h.2 j _ _ ⟨hj', rfl⟩ ⟨hj, rfl⟩⟩
theorem cur_of {ls cur : List VV} {lim : Nat → Nat} (h : CurR ls lim cur) {x : VV} (hx : x ∈ ls) : ∃ j y, y ∈ cur ∧ y.l = x.l.filter fun p => decide (lim j ≤ p.1) := by
  obtain ⟨j, hj, rfl⟩ := List.getElem_of_mem hx
  have hj' : j < cur.length := by rw [h.1]; exact hj
  exact ⟨j, cur[j], List.getElem_mem hj', h.2 j _ _ ⟨hj, rfl⟩ ⟨hj', rfl⟩⟩
/-- The least one is the next one. -/
theorem least_next {ls cur : List VV} {lim d : Nat} (ha : allRt ls) (h : CurR ls (fun _ => lim) cur) (hl : LeR cur d true) : d ∈ docM ls ∧ lim ≤ d ∧ ∀ d' ∈ docM ls, d' < d → d' < lim := by
  obtain ⟨⟨y, hy, p, r, e, rfl⟩, hmin⟩ := hl.2 rfl
  obtain ⟨j, x, _, hx, hyl⟩ := cur_at h hy
  have hp : p ∈ x.l.filter fun p => decide (lim ≤ p.1) := by rw [← hyl, e]; simp
  obtain ⟨hp1, hp2⟩ := List.mem_filter.1 hp
  refine ⟨(docM_mem ha _).2 ⟨x, hx, docs_mem.2 ⟨p, hp1, rfl⟩⟩, by simpa using hp2, fun d' hd' hlt => ?_⟩
  refine Nat.lt_of_not_le fun hge => ?_
  obtain ⟨x', hx', hd''⟩ := (docM_mem ha d').1 hd'
  obtain ⟨q, hq, rfl⟩ := docs_mem.1 hd''
  obtain ⟨_, y', hy', hyl'⟩ := cur_of h hx'
  have hq' : q ∈ y'.l := by rw [hyl']; exact List.mem_filter.2 ⟨hq, by simpa using hge⟩
  cases hc : y'.l with
  | nil => rw [hc] at hq'; cases hq'
  | cons p' r' =>
    have h1 := hmin y' hy' p' r' hc
    have hpw := (rt_pw (ha x' hx')).filter fun p => decide (lim ≤ p.1)
    rw [← hyl', hc] at hpw
    rw [hc] at hq'
    rcases List.mem_cons.1 hq' with rfl | hq'
    · omega
    · have := (List.pairwise_cons.1 hpw).1 q hq'
      omega
theorem least_end {ls cur : List VV} {lim d : Nat} (ha : allRt ls) (h : CurR ls (fun _ => lim) cur) (hl : LeR cur d false) : (docM ls).filter (fun d => decide (d < lim)) = docM ls := by
  refine List.filter_eq_self.2 fun d' hd' => ?_
  obtain ⟨x', hx', hd''⟩ := (docM_mem ha d').1 hd'
  obtain ⟨q, hq, rfl⟩ := docs_mem.1 hd''
  obtain ⟨_, y', hy', hyl'⟩ := cur_of h hx'
  rw [hl.1 rfl y' hy'] at hyl'
  have := List.filter_eq_nil_iff.1 hyl'.symm q hq
  simpa using this
theorem docs_next {l : List Nat} (hu : Up l) {lim d : Nat} (hd : d ∈ l) (hl : lim ≤ d) (h : ∀ d' ∈ l, d' < d → d' < lim) : l.filter (fun x => decide (x < d + 1)) = l.filter (fun x => decide (x < lim)) ++ [d] := by
  refine up_ext (hu.filter _) ?_ fun z => ?_
  · refine List.pairwise_append.2 ⟨hu.filter _, by simp, fun a ha b hb => ?_⟩
    rw [List.mem_singleton] at hb
    have := (List.mem_filter.1 ha).2
    simp at this
    omega
  · rw [List.mem_append, List.mem_filter, List.mem_filter, List.mem_singleton]
    constructor
    · rintro ⟨h1, h2⟩
      simp only [decide_eq_true_eq] at h2
      rcases Nat.lt_or_ge z d with h3 | h3
      · exact .inl ⟨h1, by simpa using h z h1 h3⟩
      · exact .inr (by omega)
    · rintro (⟨h1, h2⟩ | rfl)
      · simp only [decide_eq_true_eq] at h2
        exact ⟨h1, by simp; omega⟩
      · exact ⟨hd, by simp⟩
end Go.Proofs.Ytaaddckhldccjaa

/- Postings put together: one document. -/
namespace Go.Proofs.Ytaaddckhldccjaa
open Go.RowKit
set_option linter.unusedVariables false
set_option linter.unusedSimpArgs false

structure MgI (w W0 : World) (gl n cl gp d lim : Nat) (ls : List VV) (i : Nat) (cur : List VV) (pv : Value) (W : World) : Prop where
  bx : BX gl W0 W
  box : Box2 W gp 32 (.int .u32 (d : Nat)) pv
  pos : OwnI W W0.heap.size pv ((ls.take i).flatMap fun x => posDoc x.l d)
  left : OwnV W w.heap.size (.slice (some ⟨gl, 0, none⟩) n cl) cur
  cr : CurR ls (fun j => if j < i then d + 1 else lim) cur
  ok : ∀ y ∈ cur, y.ok w
theorem MgI.below {w W0 : World} {gl n cl gp d lim : Nat} {ls : List VV} {i : Nat} {cur : List VV} {pv : Value} {W W' : World} (h : MgI w W0 gl n cl gp d lim ls i cur pv W) (hb : Below W.heap.size W W') : MgI w W0 gl n cl gp d lim ls i cur pv W' :=
  ⟨h.bx.trans (BX.of hb), h.box.below hb, h.pos.below hb, h.left.below hb, h.cr, h.ok⟩
theorem flat_step {ls : List VV} {i : Nat} {x : VV} (d : Nat) (h : ∃ hl : i < ls.length, ls[i] = x) : ((ls.take (i + 1)).flatMap fun x => posDoc x.l d) = ((ls.take i).flatMap fun x => posDoc x.l d) ++ posDoc x.l d := by
  obtain ⟨hl, rfl⟩ := h
  rw [List.take_succ_eq_append_getElem hl, List.flatMap_append]
  simp
theorem MgI.skip {w W0 : World} {gl n cl gp d lim : Nat} {ls : List VV} {i : Nat} {cur : List VV} {pv : Value} {W : World} (h : MgI w W0 gl n cl gp d lim ls i cur pv W) {x y : VV} (hx : ∃ hl : i < ls.length, ls[i] = x) (hy : ∃ hl : i < cur.length, cur[i] = y) (hr : Rt x.l) (hlim : lim ≤ d)
    (hn : ∀ p r, y.l = p :: r → d < p.1) : MgI w W0 gl n cl gp d lim ls (i + 1) cur pv W := by
  have e1 := h.cr.2 i x y hx hy
  simp only [Nat.lt_irrefl, if_false] at e1
  obtain ⟨h1, h2⟩ := head_not hr hlim (fun p r e => hn p r (e1.trans e))
  refine ⟨h.bx, h.box, by rw [flat_step d hx, h1, List.append_nil]; exact h.pos, h.left, ⟨h.cr.1, fun j x' y' hx' hy' => ?_⟩, h.ok⟩
  by_cases hj : j = i
  · subst hj
    have ex : x' = x := by obtain ⟨_, e⟩ := hx; obtain ⟨_, e'⟩ := hx'; rw [← e, ← e']
    have ey : y' = y := by obtain ⟨_, e⟩ := hy; obtain ⟨_, e'⟩ := hy'; rw [← e, ← e']
    subst ex
    subst ey
    show y'.l = x'.l.filter fun p => decide ((if j < j + 1 then d + 1 else lim) ≤ p.1)
    rw [if_pos (by omega), e1, h2]
  · have := h.cr.2 j x' y' hx' hy'
    rw [this]
    show x'.l.filter (fun p => decide ((if j < i then d + 1 else lim) ≤ p.1)) = x'.l.filter fun p => decide ((if j < i + 1 then d + 1 else lim) ≤ p.1)
    by_cases hji : j < i
    · rw [if_pos hji, if_pos (by omega)]
    · rw [if_neg hji, if_neg (by omega)]
theorem MgI.take {w W0 : World} {gl n cl gp d lim : Nat} {ls : List VV} {i : Nat} {cur : List VV} {pv : Value} {W : World} (h : MgI w W0 gl n cl gp d lim ls i cur pv W) {x y y' : VV} {l : List Int} {r : List Po} (hx : ∃ hl : i < ls.length, ls[i] = x) (hy : ∃ hl : i < cur.length, cur[i] = y) (hr : Rt x.l)
    (hl : y.l = (d, l) :: r) (hy' : y'.l = r) (hok : y'.ok w) (hgl : gl < W0.heap.size) (hgp : W0.heap.size ≤ gp) {v1 : Value} {W1 : World} (ho : OwnI W1 W0.heap.size v1 (((ls.take i).flatMap fun x => posDoc x.l d) ++ l)) (hg : W.grownBy W1 pv.ownBlock) :
    MgI w W0 gl n cl gp d lim ls (i + 1) (cur.set i y') v1 ((W1.setCell ⟨gp, 1, none⟩ v1).setCell ⟨gl, i, none⟩ (encVV y')) := by
  have e1 := h.cr.2 i x y hx hy
  simp only [Nat.lt_irrefl, if_false] at e1
  obtain ⟨h1, h2⟩ := head_is hr (e1.symm.trans hl) rfl
  have g1 := grownBy_set W1 ⟨gp, 1, none⟩ v1
  have g2 := grownBy_set (W1.setCell ⟨gp, 1, none⟩ v1) ⟨gl, i, none⟩ (encVV y')
  have hn0 := Box2.not_row h.box (show 32 ≠ 3 by decide) h.pos
  have b1 := h.box.kept hg hn0
  have hn1 := Box2.not_row b1 (show 32 ≠ 3 by decide) ho
  have hpb : ∀ k, pv.ownBlock = some k → W0.heap.size ≤ k := fun k hk => (OwnL.base h.pos k hk).1
  have hvb : v1.ownBlock = none ∨ v1.ownBlock ≠ some gl := by
    cases hob : v1.ownBlock with
    | none => exact .inl rfl
    | some k => exact .inr (fun e => by have := (OwnL.base ho k hob).1; injection e with e; omega)
  refine ⟨?_, ?_, ?_, own_setV (OwnL.kept (apart_own h.left h.pos (by decide) hg) g1 (.inr (fun e => by have e' : some gl = some gp := e; injection e' with e'; omega))) i y', ⟨by simpa using h.cr.1, fun j x' z hx' hz => ?_⟩, fun z hz => ?_⟩
  · have s1 : BX gl W0 W1 := ⟨hg.os.trans h.bx.os, hg.tape.trans h.bx.tape, hg.output.trans h.bx.output, Nat.le_trans h.bx.size hg.size, fun k hk hq => (hg.block k (Nat.lt_of_lt_of_le hk h.bx.size) (fun e => by have := hpb k e.symm; omega)).trans (h.bx.block k hk hq)⟩
    have s2 : BX gl W0 (W1.setCell ⟨gp, 1, none⟩ v1) := ⟨g1.os.trans s1.os, g1.tape.trans s1.tape, g1.output.trans s1.output, Nat.le_trans s1.size g1.size, fun k hk hq => (g1.block k (Nat.lt_of_lt_of_le hk s1.size) (fun e => by injection e with e; simp at e; omega)).trans (s1.block k hk hq)⟩
    exact ⟨g2.os.trans s2.os, g2.tape.trans s2.tape, g2.output.trans s2.output, Nat.le_trans s2.size g2.size, fun k hk hq => (g2.block k (Nat.lt_of_lt_of_le hk s2.size) (fun e => by injection e with e; exact hq e)).trans (s2.block k hk hq)⟩
  · exact (b1.set1 v1).kept g2 (fun e => by injection e with e; simp at e; omega)
  · rw [flat_step d hx, h1]
    exact OwnL.kept (OwnL.kept ho g1 (.inr hn1.symm)) g2 hvb
  · by_cases hj : j = i
    · subst hj
      have ex : x' = x := by obtain ⟨_, e⟩ := hx; obtain ⟨_, e'⟩ := hx'; rw [← e, ← e']
      subst ex
      obtain ⟨hzl, hz⟩ := hz
      rw [List.getElem_set_self] at hz
      subst hz
      show y'.l = x'.l.filter fun p => decide ((if j < j + 1 then d + 1 else lim) ≤ p.1)
      rw [if_pos (by omega), hy', h2]
    · obtain ⟨hzl, hz⟩ := hz
      rw [List.getElem_set_ne (by omega)] at hz
      have := h.cr.2 j x' z hx' ⟨by simpa using hzl, hz⟩
      rw [this]
      show x'.l.filter (fun p => decide ((if j < i then d + 1 else lim) ≤ p.1)) = x'.l.filter fun p => decide ((if j < i + 1 then d + 1 else lim) ≤ p.1)
      by_cases hji : j < i
      · rw [if_pos hji, if_pos (by omega)]
      · rw [if_neg hji, if_neg (by omega)]
  · rcases List.mem_or_eq_of_mem_set hz with hz | rfl
    · exact h.ok z hz
    · exact hok
/-- What stands between two documents. -/
structure MgO (w : World) (b gl n cl lim : Nat) (ls cur : List VV) (o : Value) (os : List DV) (W : World) : Prop where
  be : Below w.heap.size w W
  bs : b ≤ W.heap.size
  left : OwnV W w.heap.size (.slice (some ⟨gl, 0, none⟩) n cl) cur
  cr : CurR ls (fun _ => lim) cur
  ok : ∀ y ∈ cur, y.ok w
  out : OutJ b o os W
  eq : os.map (·.1) = ((docM ls).filter fun d => decide (d < lim)).map fun d => (d, posM ls d)
  le : ∀ d ∈ (docM ls).filter (fun d => decide (d < lim)), (posM ls d).length ≤ 2000
theorem MgO.rd {w : World} {b gl n cl lim : Nat} {ls cur : List VV} {o : Value} {os : List DV} {W : World} (h : MgO w b gl n cl lim ls cur o os W) : RdVV W (some ⟨gl, 0, none⟩) n cur := by
  obtain ⟨A, c, e, _, _, r⟩ := OwnL.rd h.left
  injection e with e1 e2 e3
  subst e1
  subst e2
  exact ⟨r, fun y hy => (h.ok y hy).below h.be⟩
theorem MgO.start {w : World} {b gl n cl lim : Nat} {ls cur : List VV} {o : Value} {os : List DV} {W W1 : World} (h : MgO w b gl n cl lim ls cur o os W) (d : Nat) (hW1 : W1 = W.alloc (.cells #[.int .u32 (d : Nat), .slice none 0 0] 32)) : MgI w W gl n cl W.heap.size d lim ls 0 cur (.slice none 0 0) W1 := by
  subst hW1
  have hb : Below W.heap.size W (W.alloc (.cells #[.int .u32 (d : Nat), .slice none 0 0] 32)) := (Below.refl _ _).alloc (Nat.le_refl _) _
  exact ⟨BX.of hb, Box2.new _ _ _ _, OwnL.nil _ _ _ _, h.left.below hb, by simpa using h.cr, h.ok⟩
end Go.Proofs.Ytaaddckhldccjaa

/- What is merged. -/
namespace Go.Proofs.Ytaaddckhldccjaa
open Go.RowKit Go.Shelf
set_option linter.unusedVariables false
set_option linter.unusedSimpArgs false

def PG (gp : Nat) (ax : Addr) (yn yc : Nat) (pv : Value) (B : Option Addr) (m c1 : Nat) : Nat → Value → World → Prop
  | 0 => fun v w => v = .pointer (some ⟨gp, 1, none⟩)
  | 1 => fun v w => v = pv
  | 2 => fun v w => v = .slice (some ax) yn yc
  | 3 => fun v w => v = .pointer (some ax)
  | 4 => fun v w => v = .pointer (some ⟨ax.block, ax.off + 1, none⟩)
  | 5 => fun v w => v = .slice B m c1
  | _ => fun _ _ => True
theorem PG.below (gp : Nat) (ax : Addr) (yn yc : Nat) (pv : Value) (B : Option Addr) (m c1 : Nat) : ∀ i v w w', Below w.heap.size w w' → PG gp ax yn yc pv B m c1 i v w → PG gp ax yn yc pv B m c1 i v w'
  | 0, _, _, _, _, h => h
  | 1, _, _, _, _, h => h
  | 2, _, _, _, _, h => h
  | 3, _, _, _, _, h => h
  | 4, _, _, _, _, h => h
  | 5, _, _, _, _, h => h
  | _ + 6, _, _, _, _, _ => trivial

theorem pos_len120 {ls : List VV} (h : shortP ls) {x : VV} (hx : x ∈ ls) {p : Po} (hp : p ∈ x.l) : p.2.length ≤ 120 := (h.2 x hx).2 p hp
theorem posDoc_len120 {ls : List VV} (h : shortP ls) {x : VV} (hx : x ∈ ls) (d : Nat) : (posDoc x.l d).length ≤ 120 := by
  unfold posDoc
  cases hf : x.l.find? fun q => q.1 == d with
  | none => simp
  | some q => exact pos_len120 h hx (List.mem_of_find?_eq_some hf)
theorem flat_len_go {L : List VV} (d : Nat) : ∀ k, L.length ≤ k → (∀ x ∈ L, (posDoc x.l d).length ≤ 120) → (L.flatMap fun x => posDoc x.l d).length ≤ 120 * k := by
  induction L with
  | nil => intro k _ _; simp
  | cons x L ih =>
    intro k hk h
    cases k with
    | zero => simp at hk
    | succ k =>
      have h1 := ih k (by simpa using hk) fun y hy => h y (by simp [hy])
      have h2 := h x (by simp)
      rw [List.flatMap_cons, List.length_append]
      omega
theorem flat_len120 {ls : List VV} (h : shortP ls) {i : Nat} (hi : i ≤ ls.length) (d : Nat) : ((ls.take i).flatMap fun x => posDoc x.l d).length ≤ 2400 := by
  have := flat_len_go (L := ls.take i) d 20 (by rw [List.length_take]; have := h.1; omega) fun x hx => posDoc_len120 h (List.mem_of_mem_take hx) d
  omega
theorem cur_ge {ls cur : List VV} {lim d : Nat} (ha : allRt ls) (h : CurR ls (fun _ => lim) cur) (hl : LeR cur d true) {x : VV} (hx : x ∈ ls) {q : Po} (hq : q ∈ x.l.filter fun p => decide (lim ≤ p.1)) : d ≤ q.1 := by
  obtain ⟨hq1, hq2⟩ := List.mem_filter.1 hq
  refine Nat.le_of_not_lt fun hlt => ?_
  have := (least_next ha h hl).2.2 q.1 ((docM_mem ha _).2 ⟨x, hx, docs_mem.2 ⟨q, hq1, rfl⟩⟩) hlt
  simp at hq2
  omega
theorem BX.grown {q : Nat} {W0 W W' : World} (h : BX q W0 W) {row : Option Nat} (hg : W.grownBy W' row) (hr : ∀ k, row = some k → W0.heap.size ≤ k) : BX q W0 W' :=
  ⟨hg.os.trans h.os, hg.tape.trans h.tape, hg.output.trans h.output, Nat.le_trans h.size hg.size, fun k hk hq => (hg.block k (Nat.lt_of_lt_of_le hk h.size) (fun e => by have := hr k e.symm; omega)).trans (h.block k hk hq)⟩
/-- Sorted, each once, and put back. -/
theorem MgI.done {w W0 : World} {gl n cl gp d lim : Nat} {ls cur : List VV} {pv : Value} {W W6 W7 : World} (h : MgI w W0 gl n cl gp d lim ls n cur pv W) (hgl : gl < W0.heap.size) (hgp : W0.heap.size ≤ gp) {l6 : List Int} {v7 : Value} {l7 : List Int}
    (h6 : W.grownBy W6 pv.ownBlock) (o6 : OwnI W6 W0.heap.size pv l6) (h7 : W6.grownBy W7 pv.ownBlock) (o7 : OwnI W7 W0.heap.size v7 l7) :
    Box2 W6 gp 32 (.int .u32 (d : Nat)) pv ∧ Box2 W7 gp 32 (.int .u32 (d : Nat)) pv ∧ BX gl W0 (W7.setCell ⟨gp, 1, none⟩ v7) ∧ Box2 (W7.setCell ⟨gp, 1, none⟩ v7) gp 32 (.int .u32 (d : Nat)) v7 ∧
      OwnI (W7.setCell ⟨gp, 1, none⟩ v7) W0.heap.size v7 l7 ∧ OwnV (W7.setCell ⟨gp, 1, none⟩ v7) w.heap.size (.slice (some ⟨gl, 0, none⟩) n cl) cur := by
  have hn0 := Box2.not_row h.box (show 32 ≠ 3 by decide) h.pos
  have b6 := h.box.kept h6 hn0
  have b7 := b6.kept h7 hn0
  have hn7 := Box2.not_row b7 (show 32 ≠ 3 by decide) o7
  have g8 := grownBy_set W7 ⟨gp, 1, none⟩ v7
  have hpb : ∀ k, pv.ownBlock = some k → W0.heap.size ≤ k := fun k hk => (OwnL.base h.pos k hk).1
  have e6 := apart_own h.left h.pos (by decide) h6
  have e7 := apart_own e6 o6 (by decide) h7
  refine ⟨b6, b7, ((h.bx.grown h6 hpb).grown h7 hpb).grown g8 (fun k hk => by cases hk; exact hgp), b7.set1 _, OwnL.kept o7 g8 (.inr hn7.symm), OwnL.kept e7 g8 (.inr (fun e => by
    have e' : some gl = some gp := e
    injection e' with e'
    omega))⟩
theorem MgO.next {w : World} {b gl n cl lim d : Nat} {ls cur cur' : List VV} {o o' : Value} {os : List DV} {W W8 W9 : World} (h : MgO w b gl n cl lim ls cur o os W) (ha : allRt ls) (hln : ls.length = n) (hd : d ∈ docM ls) (hl : lim ≤ d) (hlt : ∀ d' ∈ docM ls, d' < d → d' < lim)
    (hgw : w.heap.size ≤ gl) (hgb : gl < b) (hbx : BX gl W W8) (hv : OwnV W8 w.heap.size (.slice (some ⟨gl, 0, none⟩) n cl) cur') (hcr : CurR ls (fun j => if j < n then d + 1 else lim) cur') (hok : ∀ y ∈ cur', y.ok w)
    (h9 : Below b W8 W9) (x : DV) (hx : x.1 = (d, posM ls d)) (hlen : (posM ls d).length ≤ 2000) (ho : OutJ b o' (os ++ [x]) W9) : MgO w b gl n cl (d + 1) ls cur' o' (os ++ [x]) W9 := by
  have hb8 : b ≤ W8.heap.size := Nat.le_trans h.bs hbx.size
  have e := docs_next (docM_up ha) hd hl hlt
  refine ⟨(h.be.trans (hbx.below h.be.size hgw)).trans (h9.mono (by omega)), Nat.le_trans hb8 h9.size, ownsRow_same hv fun g hg _ _ => h9.block g (by
    have e' : some gl = some g := hg
    injection e' with e'
    omega), ⟨hcr.1, fun j x' y' hx' hy' => ?_⟩, hok, ho, by rw [List.map_append, h.eq, e, List.map_append]; simp [hx], fun d' hd' => ?_⟩
  · have := hcr.2 j x' y' hx' hy'
    simp only [show j < n from by rw [← hln]; exact hx'.1, if_true] at this
    exact this
  · rw [e] at hd'
    rcases List.mem_append.1 hd' with hd' | hd'
    · exact h.le d' hd'
    · rw [List.mem_singleton] at hd'
      subst hd'
      exact hlen
theorem docM_len_go : ∀ (ls : List VV) (a : List Nat) (k : Nat), ls.length ≤ k → (∀ x ∈ ls, x.l.length ≤ 40) → (ls.foldl (fun a x => eitherL a (docsOf x.l)) a).length ≤ a.length + 40 * k
  | [], a, k, _, _ => by simp
  | x :: ls, a, 0, h, _ => by simp at h
  | x :: ls, a, k + 1, h, hx => by
    have h1 := docM_len_go ls (eitherL a (docsOf x.l)) k (by simpa using h) fun y hy => hx y (by simp [hy])
    have h2 := either_len _ a (docsOf x.l) (Nat.le_refl _)
    have h3 := hx x (by simp)
    have h4 : (docsOf x.l).length = x.l.length := by simp [docsOf]
    rw [List.foldl_cons]
    omega
theorem docM_len {ls : List VV} (h : shortP ls) (hl : ∀ x ∈ ls, x.l.length = x.n) : (docM ls).length ≤ 800 := by
  have := docM_len_go ls [] 20 h.1 fun x hx => by rw [hl x hx]; exact (h.2 x hx).1
  rw [List.length_nil, Nat.zero_add] at this
  exact this
def lenV : Value → Nat
  | .slice _ n _ => n
  | _ => 0
set_option maxRecDepth 100000 in
set_option maxHeartbeats 8000000 in
theorem Merge_any (A : Option Addr) (n c : Nat) (ls : List VV) (w : World) (h : RdVV w A n ls) (hc : n ≤ c) (hc2 : c ≤ 9223372036854775807) (hsh : shortB ls = true) :
    Calls Try.prog 33 #[.slice A n c] w fun e w' => ∃ v, e = .returned (.tuple #[v, .int .i64 (mgE ls)]) ∧ LS w' v (mgX ls) ∧ Below w.heap.size w w' := by
  have HS := Lib.hid (of_decide_eq_true hsh : shortP ls)
  have HR := Lib.hid h
  have HLn := Lib.hid h.len
  have hn20 : n ≤ 20 := by rw [← h.len]; exact HS.out.1
  have C := Lib.hid (allRight_any A n c ls w h (by omega))
  clear h hsh
  go_enter Try.func33, Try.ntmps33
  go_wp2_with fail
  refine C.out.mono ?_
  rintro e9 w1 ⟨rfl, hb⟩
  have HB1 := Lib.hid hb
  clear hb C
  by_cases ha : allRt ls
  case neg =>
    rw [allRtB_f ha]
    have HE := Lib.hid (mg_no ha)
    clear ha
    go_wp2
    refine bodyPost_ret (v := .tuple #[.slice none 0 0, .int .i64 160]) (by simp [results, Try.results33, go_sem]) rfl ⟨_, by rw [HE.out.1], by rw [HE.out.2]; exact ⟨none, 0, 0, rfl, Nat.le_refl _, by decide, RdPo.empty _⟩, HB1.out⟩
  rw [allRtB_t ha]
  have HA := Lib.hid ha
  clear ha
  have C := Lib.hid (CloneVV_any A n c ls w1 (HR.out.below HB1.out).rd (by omega) hc hc2)
  go_wp2_with fail
  refine C.out.mono ?_
  rintro e9 w2 ⟨v2, rfl, ho2, hb2⟩
  have HB2 := Lib.hid (Below.thn HB1.out hb2)
  have HW12 := Lib.hid HB1.out.size
  by_cases hn0 : n = 0
  · obtain ⟨A2, c2, rfl, l2, m2, hrd2⟩ := OwnL.rd ho2
    have hls : ls = [] := List.eq_nil_of_length_eq_zero (by rw [HLn.out]; exact hn0)
    have HE := Lib.hid (mg_yes HA.out (fun d hd => by rw [hls] at hd; cases hd))
    have HX : Hid (mgX ls = []) := Lib.hid (by rw [HE.out.2, hls]; rfl)
    have C56 : Hid (Calls Try.prog 56 #[.slice A2 ls.length c2] w2 (LeE ls w2)) := Lib.hid (least_any A2 ls.length c2 ls w2 ⟨hrd2, fun y hy => by rw [hls] at hy; cases hy⟩)
    have HLS := Lib.hid hls
    obtain ⟨nz, hnz⟩ : ∃ nz, nz = ls.length := ⟨_, rfl⟩
    rw [← hnz] at C56 ⊢
    clear C ho2 hb2 hrd2 hls hnz l2
    go_wp2_with fail
    go_loopw [4] (fun o wr => o = .slice none 0 0 ∧ Hid (w2 = wr)) (fun _ _ => 0)
    case atStart => exact ⟨rfl, Lib.hid rfl⟩
    case round =>
      obtain ⟨rfl, hw⟩ := hrel
      obtain rfl := hw.out
      go_wp2_with fail
      refine C56.out.mono ?_
      rintro e9 w9 ⟨d, bq, rfl, hd, hle, rfl⟩
      have hbq : bq = false := by
        cases bq with
        | false => rfl
        | true =>
          obtain ⟨x, hx, _⟩ := (hle.2 rfl).1
          rw [HLS.out] at hx
          cases hx
      subst hbq
      clear hle C56 hw
      go_wp2
      refine bodyPost_ret (v := .tuple #[.slice none 0 0, .int .i64 0]) (by simp [results, Try.results33, go_sem]) rfl ⟨_, by rw [HE.out.1], by rw [HX.out]; exact ⟨none, 0, 0, rfl, Nat.le_refl _, by decide, RdPo.empty _⟩, HB2.out⟩
  have hnpos : 0 < n := by omega
  obtain ⟨gl, cl, rfl, hgl1, hgl2, hnl, hcl⟩ := OwnL.place ho2 (by rw [HLn.out]; exact hnpos)
  have hlen := HLn.out
  rw [hlen] at ho2 hnl ⊢
  have HGL := Lib.hid (And.intro hgl1 hgl2)
  obtain ⟨b, hbz⟩ : ∃ b, b = w2.heap.size := ⟨_, rfl⟩
  have HBZ := Lib.hid hbz
  have HO0 : Hid (MgO w b gl n cl 0 ls ls (.slice none 0 0) [] w2) := Lib.hid ⟨HB2.out, by rw [hbz]; exact Nat.le_refl _, OwnL.mono ho2 HW12.out, CurR.start ls, fun y hy => HR.out.ok y hy, OutJ.nil _ _, by simp, fun d hd => by simp at hd⟩
  obtain ⟨K, hK⟩ : ∃ K, K = (docM ls).length := ⟨_, rfl⟩
  have HK := Lib.hid hK
  clear C ho2 hb2 hgl1 hgl2 hbz hlen hn0 hK
  go_wp2_with fail
  go_loopw [4] (fun o wr => ∃ (Ao : Option Addr) (no co : Nat), o = .slice Ao no co ∧ no ≤ co ∧ co ≤ 9223372036854775807 ∧ Hid (∃ lim cur os, os.length = no ∧ MgO w b gl n cl lim ls cur (.slice Ao no co) os wr)) (fun o _ => K - lenV o)
  case atStart => exact ⟨none, 0, 0, rfl, Nat.le_refl _, by decide, Lib.hid ⟨0, ls, [], rfl, HO0.out⟩⟩
  case round =>
    obtain ⟨Ao, no, co, rfl, hno, hco, HI⟩ := hrel
    obtain ⟨lim, cur, os, h1, h2⟩ := HI.out
    have HO := Lib.hid h2
    have HNO := Lib.hid h1
    clear h1 h2 HI HO0
    have C := Lib.hid (least_any (some ⟨gl, 0, none⟩) n cl cur wr HO.out.rd)
    go_wp2_with fail
    refine C.out.mono ?_
    rintro e9 w9 ⟨d, bq, rfl, hd, hle, rfl⟩
    have HLE := Lib.hid hle
    clear hle C
    cases bq
    · have hfull := least_end HA.out HO.out.cr HLE.out
      have HE := Lib.hid (mg_yes HA.out (by have := HO.out.le; rwa [hfull] at this))
      have HLS9 : Hid (LS w9 (.slice Ao no co) (mgX ls)) := Lib.hid (by
        have h1 := HO.out.out.ls
        rw [HO.out.eq, hfull, ← HE.out.2] at h1
        exact h1)
      have HBE := Lib.hid HO.out.be
      clear hfull
      go_wp2
      refine bodyPost_ret (v := .tuple #[.slice Ao no co, .int .i64 0]) (by simp [results, Try.results33, go_sem]) rfl ⟨_, by rw [HE.out.1], HLS9.out, HBE.out⟩
    · have HNx := Lib.hid (least_next HA.out HO.out.cr HLE.out)
      obtain ⟨gp, hgp⟩ : ∃ gp, gp = w9.heap.size := ⟨_, rfl⟩
      obtain ⟨wA, hwA⟩ : ∃ wA, wA = w9.alloc (.cells #[.int .u32 (d : Nat), .slice none 0 0] 32) := ⟨_, rfl⟩
      have hz : ∀ (W : World), (Instr.build 32 #[(0, .int .u32 (d : Nat))]).run Try.prog W = .ok (.agg #[.int .u32 (d : Nat), .slice none 0 0]) W := fun W => run_build W 32 _ _ (by kernel_rfl)
      have HI0 : Hid (MgI w w9 gl n cl gp d lim ls 0 cur (.slice none 0 0) wA) := Lib.hid (by rw [hgp]; exact HO.out.start d hwA)
      have HWA := Lib.hid hwA
      have HGP := Lib.hid hgp
      have HGL9 : Hid (gl < w9.heap.size ∧ w.heap.size ≤ gl) := Lib.hid ⟨Nat.lt_of_lt_of_le (by rw [HBZ.out]; exact HGL.out.2) HO.out.bs, Nat.le_trans HW12.out HGL.out.1⟩
      clear hwA hgp
      go_wp2_with fail
      rw [← HWA.out, ← HGP.out]
      clear hz
      go_loopw [28] (fun y wq => ∃ i : Nat, y = .int .i64 (i : Nat) ∧ i ≤ n ∧ Hid (∃ cur' pv, MgI w w9 gl n cl gp d lim ls i cur' pv wq)) (fun y _ => n - (intOf y).toNat)
      case atStart => exact ⟨0, rfl, Nat.zero_le _, Lib.hid ⟨_, _, HI0.out⟩⟩
      case round =>
        obtain ⟨i, rfl, hi, HJ⟩ := hrel
        obtain ⟨cur', pv, h1⟩ := HJ.out
        have HM := Lib.hid h1
        clear h1 HJ
        have HBq : Hid (Below w.heap.size w wr) := Lib.hid (HO.out.be.trans (HM.out.bx.below HO.out.be.size HGL9.out.2))
        by_cases hli : (i : Int) < (n : Int)
        · obtain ⟨hlc, x0, xf⟩ := ownV_at HM.out.left (k := i) (by omega)
          obtain ⟨y, hy⟩ : ∃ y, y = cur'[i] := ⟨_, rfl⟩
          have HY : Hid (∃ hl : i < cur'.length, cur'[i] = y) := Lib.hid ⟨hlc, hy.symm⟩
          rw [← hy] at x0
          replace x0 : wr.cell? ⟨gl, i, none⟩ = some (.slice y.A y.n y.c) := x0
          have HYok : Hid (y.ok w) := Lib.hid (HM.out.ok y (by rw [hy]; exact List.getElem_mem hlc))
          have HXi : Hid (∃ x, (∃ hl : i < ls.length, ls[i] = x) ∧ x ∈ ls) := Lib.hid (by
            have hl : i < ls.length := by rw [← HM.out.cr.1]; exact hlc
            exact ⟨ls[i], ⟨hl, rfl⟩, List.getElem_mem hl⟩)
          obtain ⟨x, hx1, hx2⟩ := HXi.out
          have HX := Lib.hid hx1
          have HXm := Lib.hid hx2
          have HYL : Hid (y.l = x.l.filter fun p => decide (lim ≤ p.1)) := Lib.hid (by
            have := HM.out.cr.2 i x y hx1 HY.out
            simpa using this)
          have hynx : y.n ≤ 9223372036854775807 := HYok.out.rd.max
          clear hy hx1 hx2 hlc HXi
          by_cases hy0 : (y.n : Int) > 0
          · obtain ⟨ax, B, m, c1, dd, lp, eA, HP, p0, p1, hm1, hm2, HRI, hdd⟩ := (HYok.out.below HBq.out).rd.at (k := 0) (by omega)
            rw [Nat.zero_mul, Addr.add_zero'] at p0 p1
            have HRL : Hid (y.l = (dd, lp) :: y.l.drop 1) := Lib.hid (by
              obtain ⟨hl, e9⟩ := HP.out
              rw [← e9]
              exact List.drop_eq_getElem_cons hl)
            have hyn1 : 0 < y.n := by omega
            have hyn0 : (0 : Int) < (y.n : Int) := by omega
            by_cases hdq : dd = d
            · subst hdq
              obtain ⟨A1, hcut, hcr⟩ := cutPo y (by omega) HYok.out.nc
              have HCR := Lib.hid hcr
              obtain ⟨Ap, cp, epv, lp1, mp1, hrp⟩ := OwnL.rd HM.out.pos
              obtain ⟨g0, g1, g2, g3⟩ := HM.out.box.facts
              rw [eA] at x0 hcut
              obtain ⟨yn, hyn⟩ : ∃ yn, yn = y.n := ⟨_, rfl⟩
              obtain ⟨yc, hyc⟩ : ∃ yc, yc = y.c := ⟨_, rfl⟩
              rw [← hyn, ← hyc] at x0 hcut
              rw [← hyn] at hyn0 hyn1 hy0 hynx
              have G1 := Lib.hid g1
              have P1 := Lib.hid p1
              have HYN := Lib.hid (And.intro hyn hyc)
              have HXC := Lib.hid x0
              have HXF := Lib.hid xf
              have HPV := Lib.hid epv
              have hqd : ((dd : Int) == (dd : Int)) = true := by simp
              clear hcr hrp epv hyn hyc
              go_upto_region 13 with fail
              refine wp_region_flowT 6 (by kernel_rfl) (by kernel_rfl) (PG gp ax yn yc pv B m c1) (PG.below gp ax yn yc pv B m c1) (by kernel_rfl) (by kernel_rfl) ?_ ?_
              case refine_1 =>
                intro i o hit ho ρ y w2 hb2 hreg hn hf hyb hyn
                obtain rfl | rfl | rfl | rfl | rfl | rfl : i = 0 ∨ i = 1 ∨ i = 2 ∨ i = 3 ∨ i = 4 ∨ i = 5 := by omega
                · cases ho
                  rw [if_pos (show Region.wanted _ y = true from rfl)]
                  have f8 : ρ (.tmp 8) = .pointer (some ⟨gp, 0, none⟩) := hf 8 (by kernel_rfl)
                  exact does_ok (v := .pointer (some ⟨gp, 1, none⟩)) (w' := w2) (by simp [go_sem, hreg.const, f8]) ⟨rfl, Below.refl _ _⟩
                · cases ho
                  rw [if_pos (show Region.wanted _ y = true from rfl)]
                  have f44 : ρ (.tmp 44) = .pointer (some ⟨gp, 1, none⟩) := hn 0 _ 44 rfl (by kernel_rfl) rfl
                  have k0 := cell_keep hb2 G1.out
                  exact does_ok (v := pv) (w' := w2) (by simp [go_sem, hreg.const, f44, k0]) ⟨rfl, Below.refl _ _⟩
                · cases ho
                  rw [if_pos (show Region.wanted _ y = true from rfl)]
                  have f10 : ρ (.tmp 10) = .slice (some ax) yn yc := hf 10 (by kernel_rfl)
                  exact ⟨f10, Below.refl _ _⟩
                · cases ho
                  rw [if_pos (show Region.wanted _ y = true from rfl)]
                  have f46 : ρ (.tmp 46) = .slice (some ax) yn yc := hn 2 _ 46 rfl (by kernel_rfl) rfl
                  exact does_ok (v := .pointer (some ax)) (w' := w2) (by simp [go_sem, hreg.const, f46, hyn0, hyn1, Addr.add_zero']) ⟨rfl, Below.refl _ _⟩
                · cases ho
                  rw [if_pos (show Region.wanted _ y = true from rfl)]
                  have f47 : ρ (.tmp 47) = .pointer (some ax) := hn 3 _ 47 rfl (by kernel_rfl) rfl
                  exact does_ok (v := .pointer (some ⟨ax.block, ax.off + 1, none⟩)) (w' := w2) (by simp [go_sem, hreg.const, f47]) ⟨rfl, Below.refl _ _⟩
                · cases ho
                  rw [if_pos (show Region.wanted _ y = true from rfl)]
                  have f48 : ρ (.tmp 48) = .pointer (some ⟨ax.block, ax.off + 1, none⟩) := hn 4 _ 48 rfl (by kernel_rfl) rfl
                  have k0 := cell_keep hb2 P1.out
                  exact does_ok (v := .slice B m c1) (w' := w2) (by simp [go_sem, hreg.const, f48, k0]) ⟨rfl, Below.refl _ _⟩
              case refine_2 =>
                intro a w2 hb2 hd hs hfacts hrest
                have q45 : a.tmps.getD 45 undef = pv := hfacts 1 _ 45 (by decide) rfl rfl
                have q49 : a.tmps.getD 49 undef = .slice B m c1 := hfacts 5 _ 49 (by decide) rfl rfl
                have ha := frame_ofP hd hs hrest [44, 45, 46, 47, 48, 49] (by kernel_rfl)
                simp only [q45, q49, List.foldl, List.setIfInBounds_toArray, List.set_cons_succ, List.set_cons_zero] at ha
                clear q45 q49 hd hs hfacts hrest
                generalize a.tmps.getD = gg at ha
                subst ha
                have HM2 := Lib.hid (HM.out.below hb2)
                have hB2 : Below w.heap.size w w2 := Below.thn HBq.out hb2
                obtain ⟨v1, W1, r1, o1, ga1, _⟩ := run_append_rd (P := Try.prog) (c := c1) w9.heap.size 26 26 3 (.int .i64 0) 8 Try.underlying26 infoI rfl (by decide) encI_one HM2.out.pos (HRI.out.below hb2) (by
                  have h1 := flat_len120 HS.out (HLn.out ▸ hi) dd
                  have h2 := HRI.out.len
                  have h3 := pos_len120 HS.out HXm.out (by
                    have : (dd, lp) ∈ y.l := by rw [HRL.out]; simp
                    rw [HYL.out] at this
                    exact (List.mem_filter.1 this).1)
                  simp only at h3
                  omega) (by have := HM2.out.bx.size; exact this)
                obtain ⟨A5, c5, rfl, l5, m5, _⟩ := OwnL.rd o1
                obtain ⟨n5, hn5⟩ : ∃ n5, n5 = (((ls.take i).flatMap fun x => posDoc x.l dd) ++ lp).length := ⟨_, rfl⟩
                rw [← hn5] at r1 l5 o1
                obtain ⟨ym, hym⟩ : ∃ ym, ym = yn - 1 := ⟨_, rfl⟩
                obtain ⟨yd, hyd⟩ : ∃ yd, yd = yc - 1 := ⟨_, rfl⟩
                rw [← hym, ← hyd] at hcut
                have hok' : VV.ok ⟨A1, ym, yd, y.l.drop 1⟩ w := ⟨by have := HYok.out.nc; have := HYN.out; show ym ≤ yd; omega, by have := HYok.out.c2; have := HYN.out; show yd ≤ _; omega, by
                  have := HCR.out w HYok.out.rd
                  show RdPo w A1 ym (y.l.drop 1)
                  rw [hym, HYN.out.1]
                  exact this⟩
                have hgpw : w9.heap.size ≤ gp := by rw [HGP.out]; exact Nat.le_refl _
                have HN : Hid (MgI w w9 gl n cl gp dd lim ls (i + 1) (cur'.set i ⟨A1, ym, yd, y.l.drop 1⟩) (.slice A5 n5 c5) ((W1.setCell ⟨gp, 1, none⟩ (.slice A5 n5 c5)).setCell ⟨gl, i, none⟩ (.slice A1 ym yd))) := Lib.hid
                  (HM2.out.take HX.out HY.out (HA.out x HXm.out) HRL.out rfl hok' HGL9.out.1 hgpw o1 ga1)
                have hn1 := Box2.not_row HM2.out.box (show 32 ≠ 3 by decide) HM2.out.pos
                have b5 := HM2.out.box.kept ga1 hn1
                obtain ⟨y0, y1, y2, y3⟩ := b5.facts
                have hlf := OwnL.kept (apart_own HM2.out.left HM2.out.pos (by decide) ga1) (grownBy_set W1 ⟨gp, 1, none⟩ (.slice A5 n5 c5)) (.inr (fun e => by
                  have e' : some gl = some gp := e
                  injection e' with e'
                  have := HGL9.out.1
                  omega))
                obtain ⟨_, z0, z1⟩ := ownV_at hlf (k := i) (by omega)
                clear hn5 hym hyd hok' hgpw hn1 b5 hlf o1 ga1 hB2 hb2 x0 xf g0 g1 g2 g3 p0 p1
                simp only [List.drop_succ_cons, List.drop_zero]
                go_wp2_with (first | (at_builtin; refine wpl_append_run rfl _ _ _ rfl rfl rfl r1 ?_) | fail)
                exact ⟨⟨i + 1, by simp; try go_num, by omega, Lib.hid ⟨_, _, HN.out⟩⟩, by simp [intOf]; omega⟩
            · have HN : Hid (MgI w w9 gl n cl gp d lim ls (i + 1) cur' pv wr) := Lib.hid (HM.out.skip HX.out HY.out (HA.out x HXm.out) HNx.out.2.1 fun p r e => by
                rw [HRL.out] at e
                cases e
                have h1 := cur_ge HA.out HO.out.cr HLE.out HXm.out (q := (dd, lp)) (by
                  have : (dd, lp) ∈ y.l := by rw [HRL.out]; simp
                  rwa [HYL.out] at this)
                show d < dd
                have h2 : d ≤ dd := h1
                omega)
              have hqd : ((dd : Int) == (d : Int)) = false := by simp; omega
              rw [eA] at x0
              clear p1
              go_wp2
              exact ⟨⟨i + 1, by simp; try go_num, by omega, Lib.hid ⟨_, _, HN.out⟩⟩, by simp [intOf]; omega⟩
          · have HN : Hid (MgI w w9 gl n cl gp d lim ls (i + 1) cur' pv wr) := Lib.hid (HM.out.skip HX.out HY.out (HA.out x HXm.out) HNx.out.2.1 fun p r e => by
              have := HYok.out.rd.len
              rw [e] at this
              simp at this
              omega)
            go_wp2
            exact ⟨⟨i + 1, by simp; try go_num, by omega, Lib.hid ⟨_, _, HN.out⟩⟩, by simp [intOf]; omega⟩
        · obtain rfl : i = n := by omega
          obtain ⟨Ap, cp, rfl, lp, mp, _⟩ := OwnL.rd HM.out.pos
          obtain ⟨acc, hacc⟩ : ∃ acc, acc = (ls.take i).flatMap fun x => posDoc x.l d := ⟨_, rfl⟩
          have hal : acc.length ≤ 2400 := by rw [hacc]; exact flat_len120 HS.out (by rw [HLn.out]; exact Nat.le_refl _) d
          have hpm : cmpI (sortI acc) = posM ls d := by
            rw [hacc, List.take_of_length_le (by rw [HLn.out]; exact Nat.le_refl _)]
            rfl
          have hpos := HM.out.pos
          rw [← hacc] at hpos lp HM
          obtain ⟨na, hna⟩ : ∃ na, na = acc.length := ⟨_, rfl⟩
          have hnal : na ≤ 2400 := by rw [hna]; exact hal
          rw [← hna] at hpos lp HM
          have C57 := Lib.hid (SortI_own w9.heap.size (.slice Ap na cp) acc wr hpos (by omega))
          obtain ⟨g0, g1, g2, g3⟩ := HM.out.box.facts
          have HPM := Lib.hid hpm
          have HAL := Lib.hid hal
          have HPV := Lib.hid hpos
          have hgpw : Hid (w9.heap.size ≤ gp) := Lib.hid (by rw [HGP.out]; exact Nat.le_refl _)
          clear hacc hal hpm hpos hna
          go_wp2_with fail
          refine C57.out.mono ?_
          rintro e9 W6 ⟨rfl, o6, h6⟩
          have hn0 := Box2.not_row HM.out.box (show 32 ≠ 3 by decide) HPV.out
          have b6 := HM.out.box.kept h6 hn0
          obtain ⟨f0, f1, f2, f3⟩ := b6.facts
          have C58 := Lib.hid (CompactI_own w9.heap.size (.slice Ap na cp) (sortI acc) W6 o6 (by rw [sortI_len]; have := HAL.out; omega))
          rw [HPM.out] at C58
          have H6 := Lib.hid (And.intro h6 o6)
          clear g0 g1 g2 g3 C57 h6 o6 hn0 b6
          go_wp2_with fail
          refine C58.out.mono ?_
          rintro e9 W7 ⟨v7, rfl, o7, h7, _⟩
          obtain ⟨b6, b7, hbx, b8, o8, hv8⟩ := HM.out.done HGL9.out.1 hgpw.out H6.out.1 H6.out.2 h7 o7
          obtain ⟨A7, c7, rfl, l7, m7, _⟩ := OwnL.rd o7
          obtain ⟨np, hnp⟩ : ∃ np, np = (posM ls d).length := ⟨_, rfl⟩
          rw [← hnp] at hbx b8 o8 hv8 l7 ⊢
          have HNP := Lib.hid hnp
          obtain ⟨W8, hW8⟩ : ∃ W8, W8 = W7.setCell ⟨gp, 1, none⟩ (.slice A7 np c7) := ⟨_, rfl⟩
          rw [← hW8] at hbx b8 o8 hv8
          have HB8 := Lib.hid hbx
          have HX8 := Lib.hid b8
          have HO8 := Lib.hid o8
          have HV8 := Lib.hid hv8
          have HW8 := Lib.hid hW8
          obtain ⟨y0, y1, y2, y3⟩ := b7.facts
          clear f0 f1 f2 f3 C58 b6 b7 hbx b8 o8 hv8 h7 o7 hnp H6 hW8
          go_upto_region 18 with fail
          rw [← HW8.out]
          clear y0 y1 y2 y3 HW8
          obtain ⟨z0, z1, z2, z3⟩ := HX8.out.facts
          by_cases hlong : (np : Int) > 2000
          · have HE := Lib.hid (mg_long HA.out HNx.out.1 (by rw [← HNP.out]; omega))
            have HBE : Hid (Below w.heap.size w W8) := Lib.hid (HO.out.be.trans (HB8.out.below HO.out.be.size HGL9.out.2))
            go_wp2
            refine bodyPost_ret (v := .tuple #[.slice none 0 0, .int .i64 3]) (by simp [results, Try.results33, go_sem]) rfl ⟨_, by rw [HE.out.1], by rw [HE.out.2]; exact ⟨none, 0, 0, rfl, Nat.le_refl _, by decide, RdPo.empty _⟩, HBE.out⟩
          · have hgb : gl < b := by rw [HBZ.out]; exact HGL.out.2
            have hbs := HO.out.bs
            have hbx8 := HB8.out
            have ho8 := HO8.out
            have hv8 := HV8.out
            have hdl : os.length < K := by
              have h1 := congrArg List.length HO.out.eq
              rw [List.length_map, List.length_map] at h1
              have h2 := congrArg List.length (docs_next (docM_up HA.out) HNx.out.1 HNx.out.2.1 HNx.out.2.2)
              rw [List.length_append, List.length_singleton] at h2
              have h3 := List.length_filter_le (fun x => decide (x < d + 1)) (docM ls)
              have h4 := HK.out
              omega
            obtain ⟨A', c', W9, r4, ho4, hb4, hc4, hc5⟩ := (HO.out.out.bx hbx8 hgb).pushB (Nat.le_trans hbs hbx8.size) ((d, posM ls d), A7, np, c7) (OwnL.mono ho8 hbs) (docM_lt HA.out HNx.out.1) (by
              have h1 := docM_len HS.out fun x hx => (HR.out.ok x hx).rd.len
              have h2 := HK.out
              omega)
            have hMN := HO.out.next HA.out HLn.out HNx.out.1 HNx.out.2.1 HNx.out.2.2 HGL9.out.2 hgb hbx8 hv8 HM.out.cr HM.out.ok hb4 ((d, posM ls d), A7, np, c7) rfl (by rw [← HNP.out]; omega) ho4
            rw [HNO.out] at r4 hc4 hMN hdl
            obtain ⟨nm, hnm⟩ : ∃ nm, nm = no + 1 := ⟨_, rfl⟩
            rw [← hnm] at r4 hc4 hMN
            have HMN : Hid (∃ lim cur os, os.length = nm ∧ MgO w b gl _ cl lim ls cur (.slice A' nm c') os W9) := Lib.hid ⟨_, _, _, by rw [List.length_append, HNO.out, hnm]; rfl, hMN⟩
            have HKN : Hid (no < K ∧ nm = no + 1) := Lib.hid ⟨hdl, hnm⟩
            clear hbx8 ho8 hv8 z2 z3 ho4 hb4 hMN hnm hdl hbs hgb
            go_wp2_with (first | (at_builtin; refine wpl_append_run rfl _ _ _ rfl rfl rfl r4 ?_) | fail)
            exact ⟨⟨A', nm, c', rfl, hc4, hc5, HMN⟩, by have := HKN.out; simp [lenV]; omega⟩
end Go.Proofs.Ytaaddckhldccjaa
