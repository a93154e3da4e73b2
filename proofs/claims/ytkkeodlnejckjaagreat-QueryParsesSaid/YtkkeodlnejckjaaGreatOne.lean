import Derived.Test.YtkkeodlnejckjaaGreatRefTk

/- Terms are their own terms: plain Lean. -/
namespace Go.Proofs.YtkkeodlnejckjaaGreat
open Go.RowKit
set_option linter.unusedVariables false
set_option linter.unusedSimpArgs false

theorem wdG_let : ∀ (rs cur : List Nat), (∀ r ∈ cur, letB (r : Int) = true) → ∀ w ∈ wdG rs cur, w ≠ [] ∧ ∀ r ∈ w, letB (r : Int) = true
  | [], cur, h, w, hw => by
    unfold wdG at hw
    split at hw
    · cases hw
    · rename_i hc
      simp only [List.mem_singleton] at hw
      subst hw
      exact ⟨hc, h⟩
  | r :: rs, cur, h, w, hw => by
    unfold wdG at hw
    split at hw
    · rename_i hr
      exact wdG_let rs (cur ++ [r]) (by
        intro x hx
        rcases List.mem_append.1 hx with h1 | h1
        · exact h x h1
        · rw [List.mem_singleton] at h1
          subst h1
          exact hr) w hw
    · split at hw
      · exact wdG_let rs [] (by simp) w hw
      · rename_i hc
        rcases List.mem_cons.1 hw with rfl | h1
        · exact ⟨hc, h⟩
        · exact wdG_let rs [] (by simp) w h1
theorem wdG_all : ∀ (rs cur : List Nat), (∀ r ∈ rs, letB (r : Int) = true) → cur ++ rs ≠ [] → wdG rs cur = [cur ++ rs]
  | [], cur, _, h => by
    unfold wdG
    rw [List.append_nil] at h ⊢
    rw [if_neg h]
  | r :: rs, cur, hl, h => by
    unfold wdG
    rw [if_pos (hl r (by simp)), wdG_all rs (cur ++ [r]) (fun x hx => hl x (by simp [hx])) (by simp)]
    simp
theorem let_32 {r : Int} (h : letB r = true) : -2147483648 ≤ r ∧ r ≤ 2147483647 := by
  have := letB_rng h
  omega
theorem termL_let (cf : Cf) {w : List Nat} (hl : ∀ r ∈ w, letB (r : Int) = true) : ∀ r ∈ termL cf w, letB r = true ∧ oneR (eff cf.fo) r = r := by
  intro r hr
  unfold termL at hr
  obtain ⟨x, hx, rfl⟩ := List.mem_map.1 hr
  have h := hl x (List.mem_of_mem_take hx)
  have h2 := let_32 h
  exact ⟨by rw [oneE_let _ h2.1 h2.2]; exact h, oneE_fix _ h2.1 h2.2⟩
theorem termL_len (cf : Cf) (w : List Nat) : (termL cf w).length ≤ cf.cap.toNat := by
  unfold termL
  rw [List.length_map, List.length_take]
  omega
theorem bsL_term (cf : Cf) (w : List Nat) : bsL (termS cf w) = encsL (termL cf w) := bsL_strL (encsL_byt _)
theorem rns_term (cf : Cf) {w : List Nat} (hl : ∀ r ∈ w, letB (r : Int) = true) : (rnsL (bsL (termS cf w))).map (fun n : Nat => (n : Int)) = termL cf w := by
  rw [bsL_term]
  exact rns_encs _ fun r hr => letB_rune (termL_let cf hl r hr).1
theorem rns_term_len (cf : Cf) {w : List Nat} (hl : ∀ r ∈ w, letB (r : Int) = true) : (rnsL (bsL (termS cf w))).length ≤ cf.cap.toNat := by
  have := congrArg List.length (rns_term cf hl)
  rw [List.length_map] at this
  rw [this]
  exact termL_len cf w
theorem rns_term_let (cf : Cf) {w : List Nat} (hl : ∀ r ∈ w, letB (r : Int) = true) : ∀ r ∈ rnsL (bsL (termS cf w)), letB (r : Int) = true := by
  intro r hr
  have : (r : Int) ∈ (rnsL (bsL (termS cf w))).map (fun n : Nat => (n : Int)) := List.mem_map.2 ⟨r, hr, rfl⟩
  rw [rns_term cf hl] at this
  exact (termL_let cf hl _ this).1
theorem words_term (cf : Cf) (h1 : 1 ≤ cf.cap) {w : List Nat} (hn : w ≠ []) (hl : ∀ r ∈ w, letB (r : Int) = true) : wordsL (bsL (termS cf w)) = [rnsL (bsL (termS cf w))] := by
  unfold wordsL
  rw [wdG_all _ [] (rns_term_let cf hl)]
  · rfl
  · rw [List.nil_append]
    intro h
    have := congrArg List.length (rns_term cf hl)
    rw [h] at this
    cases w with
    | nil => exact hn rfl
    | cons a rest =>
      unfold termL at this
      rw [List.length_map, List.length_map, List.length_take] at this
      simp at this
      omega
theorem term_own (cf : Cf) {w : List Nat} (hl : ∀ r ∈ w, letB (r : Int) = true) : termS cf (rnsL (bsL (termS cf w))) = termS cf w := by
  have h : termL cf (rnsL (bsL (termS cf w))) = termL cf w := by
    conv => lhs; unfold termL
    rw [List.take_of_length_le (rns_term_len cf hl)]
    have h2 : (rnsL (bsL (termS cf w))).map (fun r : Nat => oneR (eff cf.fo) (r : Int)) = ((rnsL (bsL (termS cf w))).map (fun n : Nat => (n : Int))).map (oneR (eff cf.fo)) := by
      rw [List.map_map]; rfl
    rw [h2, rns_term cf hl]
    calc (termL cf w).map (oneR (eff cf.fo)) = (termL cf w).map id := List.map_congr_left fun r hr => (termL_let cf hl r hr).2
      _ = termL cf w := List.map_id _
  show strL (encsL (termL cf (rnsL (bsL (termS cf w))))) = termS cf w
  rw [h]
  rfl
theorem encL_le2 {r : Int} (h : letB r = true) : (encL r).length ≤ 2 := by
  have := letB_rng h
  obtain ⟨n, rfl⟩ : ∃ n : Nat, r = (n : Int) := ⟨r.toNat, by omega⟩
  rcases Nat.lt_or_ge n 128 with h1 | h1
  · rw [encL_one h1]; simp
  · rw [encL_two h1 (by omega)]; simp
theorem encs_two : ∀ (rs : List Int), (∀ r ∈ rs, letB r = true) → (encsL rs).length ≤ 2 * rs.length
  | [], _ => by simp [encsL]
  | r :: rs, h => by
    have h1 := encL_le2 (h r (by simp))
    have h2 := encs_two rs fun x hx => h x (by simp [hx])
    unfold encsL at h2 ⊢
    rw [List.flatMap_cons, List.length_append, List.length_cons]
    omega
theorem term_size (cf : Cf) {w : List Nat} (hl : ∀ r ∈ w, letB (r : Int) = true) : (termS cf w).size ≤ 2 * cf.cap.toNat := by
  rw [← bsL_len, bsL_term]
  have h1 := encs_two (termL cf w) fun r hr => (termL_let cf hl r hr).1
  have h2 := termL_len cf w
  omega
theorem tmG_mem (cf : Cf) : ∀ (ws : List (List Nat)) (k : Nat), ∀ y ∈ tmG cf ws k, ∃ w ∈ ws, y.2 = termS cf w
  | [], _, y, hy => by cases hy
  | w :: ws, k, y, hy => by
    unfold tmG at hy
    rcases List.mem_cons.1 hy with rfl | h
    · exact ⟨w, by simp, rfl⟩
    · obtain ⟨u, hu, e⟩ := tmG_mem cf ws (k + 1) y h
      exact ⟨u, by simp [hu], e⟩
theorem tmG_rise (cf : Cf) : ∀ (ws : List (List Nat)) (k : Nat), (tmG cf ws k).Pairwise fun x y => x.1 < y.1
  | [], _ => List.Pairwise.nil
  | w :: ws, k => by
    unfold tmG
    refine List.Pairwise.cons (fun y hy => ?_) (tmG_rise cf ws (k + 1))
    have := (tmG_pos cf ws (k + 1) y hy).1
    show k < y.1
    omega
/-- What is so of each token. -/
structure TokOk (cf : Cf) (l : List Nat) (x : ByteArray × Nat) : Prop where
  one : wordsL (bsL x.1) = [rnsL (bsL x.1)]
  same : termS cf (rnsL (bsL x.1)) = x.1
  no : inS cf.st x.1 = false
  size : x.1.size ≤ 2 * cf.cap.toNat
  runes : (rnsL (bsL x.1)).length ≤ cf.cap.toNat
  pos : x.2 < (wordsL l).length
theorem toks_ok {cf : Cf} (hm : mayC cf) (l : List Nat) : ∀ x ∈ toksL cf l, TokOk cf l x := by
  intro x hx
  have hp := toks_pos cf l x hx
  unfold toksL at hx
  obtain ⟨y, hy, rfl⟩ := List.mem_map.1 hx
  obtain ⟨hy, hno⟩ := List.mem_filter.1 hy
  unfold termsL at hy
  rw [if_pos hm] at hy
  obtain ⟨w, hw, e⟩ := tmG_mem cf _ _ y hy
  obtain ⟨hn, hl⟩ := wdG_let _ [] (by simp) w hw
  obtain ⟨k, t⟩ := y
  simp only at e
  subst e
  exact ⟨words_term cf hm.2.1 hn hl, term_own cf hl, by simpa using hno, term_size cf hl, rns_term_len cf hl, hp⟩
theorem toks_rise (cf : Cf) (l : List Nat) : (toksL cf l).Pairwise fun x y => x.2 < y.2 := by
  unfold toksL termsL
  split
  · exact List.Pairwise.map _ (fun a b h => h) ((tmG_rise cf _ _).filter _)
  · exact List.Pairwise.nil
/-- The place ahead of the token numbered k. -/
def lastP (L : List (ByteArray × Nat)) : Nat → Int
  | 0 => -1
  | k + 1 => match L[k]? with
    | some x => (x.2 : Int)
    | none => -1
theorem last_lt {cf : Cf} {l : List Nat} {k : Nat} {x : ByteArray × Nat} (h : ∃ hk : k < (toksL cf l).length, (toksL cf l)[k] = x) : ¬ ((x.2 : Int) ≤ lastP (toksL cf l) k) := by
  obtain ⟨hk, rfl⟩ := h
  cases k with
  | zero => show ¬ _ ≤ (-1 : Int); omega
  | succ j =>
    have h1 := List.pairwise_iff_getElem.1 (toks_rise cf l) j (j + 1) (by omega) hk (by omega)
    have h2 : lastP (toksL cf l) (j + 1) = ((toksL cf l)[j].2 : Int) := by
      show (match (toksL cf l)[j]? with | some x => (x.2 : Int) | none => -1) = _
      rw [List.getElem?_eq_getElem (by omega)]
    rw [h2]
    omega
theorem last_next {L : List (ByteArray × Nat)} {k : Nat} {x : ByteArray × Nat} (h : ∃ hk : k < L.length, L[k] = x) : (x.2 : Int) = lastP L (k + 1) := by
  obtain ⟨hk, rfl⟩ := h
  show _ = (match L[k]? with | some x => (x.2 : Int) | none => -1)
  rw [List.getElem?_eq_getElem hk]
theorem last_end (cf : Cf) (l : List Nat) (k : Nat) : lastP (toksL cf l) k < ((wordsL l).length : Nat) := by
  cases k with
  | zero => show (-1 : Int) < _; omega
  | succ j =>
    show (match (toksL cf l)[j]? with | some x => (x.2 : Int) | none => -1) < _
    split
    · rename_i x hx
      have := toks_pos cf l x (List.mem_of_getElem? hx)
      omega
    · omega
/-- A text of one word has one term. -/
theorem terms_one {cf : Cf} (hm : mayC cf) {l : List Nat} {w : List Nat} (h : wordsL l = [w]) : termsL cf l = [(0, termS cf w)] := by
  unfold termsL
  rw [if_pos hm, h]
  rfl
end Go.Proofs.YtkkeodlnejckjaaGreat

/- The term of a text's one word; whether a text is a stop word. -/
namespace Go.Proofs.YtkkeodlnejckjaaGreat
open Go.RowKit Go.Shelf
set_option linter.unusedVariables false
set_option linter.unusedSimpArgs false
attribute [local go_sem] Oper.semAt_some

open Classical in
/-- A text's one word's term, and the fault. -/
noncomputable def oneX (cf : Cf) (l : List Nat) : ByteArray × Int :=
  if mayC cf then (match wordsL l with
    | [] => (⟨#[]⟩, 4)
    | [wd] => (termS cf wd, 0)
    | _ => (⟨#[]⟩, 3)) else (⟨#[]⟩, 140)
/-- The boxes. -/
structure OnI (w : World) (A : Option Addr) (n c : Nat) (B : Option Addr) (m d : Nat) (cap : Int) (s : ByteArray) (e : Int) (W : World) : Prop where
  be : Below w.heap.size w W
  cb : W.heap[w.heap.size]? = some (.cells #[.slice A n c, .slice B m d, .int .i64 cap] 25 (0, 0))
  b1 : Boxed W (w.heap.size + 1) 9 (.string s)
  b2 : Boxed W (w.heap.size + 1 + 1) 32 (.int .i64 e)
def S942 (t : TypeId) : Bool := t == 9 || t == 32
theorem okS942 : okS S942 := ⟨rfl, rfl, rfl, rfl, rfl, rfl, rfl⟩
section
variable {w : World} {A : Option Addr} {n c : Nat} {B : Option Addr} {m d : Nat} {cap : Int} {s : ByteArray} {e : Int} {W W' : World}
theorem OnI.below (h : OnI w A n c B m d cap s e W) (hb : Below W.heap.size W W') : OnI w A n c B m d cap s e W' :=
  ⟨Below.thn h.be hb, (hb.block _ (Array.getElem?_eq_some_iff.1 h.cb).1).trans h.cb, Boxed.below h.b1 hb, Boxed.below h.b2 hb⟩
theorem OnI.set2 (h : OnI w A n c B m d cap s e W) (s' : ByteArray) (e' : Int) : OnI w A n c B m d cap s' e' ((W.setCell ⟨w.heap.size + 1, 0, none⟩ (.string s')).setCell ⟨w.heap.size + 1 + 1, 0, none⟩ (.int .i64 e')) := by
  have k1 := (h.b2.other (show w.heap.size + 1 + 1 ≠ w.heap.size + 1 by omega) (.string s'))
  refine ⟨(h.be.setCell (p := ⟨w.heap.size + 1, 0, none⟩) (by simp) _).setCell (p := ⟨w.heap.size + 1 + 1, 0, none⟩) (by simp; omega) _, ?_, ?_, k1.set _⟩
  · have h1 := (grownBy_setCell' W (w.heap.size + 1) (.string s')).block w.heap.size (Array.getElem?_eq_some_iff.1 h.cb).1 (by simp)
    have h2 := (grownBy_setCell' (W.setCell ⟨w.heap.size + 1, 0, none⟩ (.string s')) (w.heap.size + 1 + 1) (.int .i64 e')).block w.heap.size (by simp; exact (Array.getElem?_eq_some_iff.1 h.cb).1) (by simp; omega)
    exact h2.trans (h1.trans h.cb)
  · exact (h.b1.set _).other (show w.heap.size + 1 ≠ w.heap.size + 1 + 1 by omega) _
theorem OnI.keep2 (h : OnI w A n c B m d cap s e W) (D : Nat) (s' : ByteArray) (e' : Int) : Keep w.heap.size D S942 W ((W.setCell ⟨w.heap.size + 1, 0, none⟩ (.string s')).setCell ⟨w.heap.size + 1 + 1, 0, none⟩ (.int .i64 e')) :=
  (setKeep h.b1 rfl (by omega) _).trans (setKeep (h.b2.other (show w.heap.size + 1 + 1 ≠ w.heap.size + 1 by omega) (.string s')) rfl (by omega) _)
theorem OnI.firm (D : Nat) (hD : w.heap.size < D) : Firm D S942 (fun (_ : Unit) W => OnI w A n c B m d cap s e W) := by
  rintro u X Y h hst
  exact ⟨h.be.trans ((hst.mono (by omega)).belowB h.be.size), hst.low _ _ hD h.cb, Boxed.step h.b1 hst rfl, Boxed.step h.b2 hst rfl⟩
theorem OnI.facts (h : OnI w A n c B m d cap s e W) (s' : ByteArray) : (W.cell? ⟨w.heap.size + 1, 0, none⟩ = some (.string s) ∧ W.frozen? ⟨w.heap.size + 1, 0, none⟩ = false) ∧
    ((W.setCell ⟨w.heap.size + 1, 0, none⟩ (.string s')).cell? ⟨w.heap.size + 1 + 1, 0, none⟩ = some (.int .i64 e) ∧ (W.setCell ⟨w.heap.size + 1, 0, none⟩ (.string s')).frozen? ⟨w.heap.size + 1 + 1, 0, none⟩ = false) := by
  have k1 := (h.b2.other (show w.heap.size + 1 + 1 ≠ w.heap.size + 1 by omega) (.string s'))
  exact ⟨⟨h.b1.cell, h.b1.frozen⟩, ⟨k1.cell, k1.frozen⟩⟩
end
abbrev OnFr (g g5 : Nat) (A : Option Addr) (n c : Nat) (B : Option Addr) (m d : Nat) (cap : Int) (T : Option Addr) (nt ct : Nat) (x : Nat × ByteArray) : Act :=
  { tmps := #[confV A n c B m d cap, .slice T nt ct, .pointer (some ⟨g, 0, none⟩), undef, .pointer (some ⟨g + 1, 0, none⟩), .pointer (some ⟨g + 1 + 1, 0, none⟩), .int .i64 1, undef, .string x.2, confV A n c B m d cap, .bool true, .bool false, .slice T nt ct, .int .i64 1, .bool false, .int .i64 1, .bool false, .bool false, .int .i64 1, .bool false, confV A n c B m d cap, .slice T nt ct, .func (.func 129) #[] #[.pointer (some ⟨g5, 0, none⟩), .pointer (some ⟨g5 + 1, 0, none⟩)], .int .i64 (x.1 : Nat), .string x.2, undef], defers := [] }
set_option maxRecDepth 100000 in
set_option maxHeartbeats 4000000 in
theorem One_any (A : Option Addr) (n c : Nat) (B : Option Addr) (m d : Nat) (cf : Cf) (T : Option Addr) (nt ct : Nat) (l : List Nat) (w : World) (hR : RdC w A n c B m d cf) (ht : RdB w T nt l) (htc : nt ≤ ct) (htl : l.length ≤ 10000000) :
    Calls Tryz.prog 112 #[confV A n c B m d cf.cap, .slice T nt ct] w fun e w' => e = .returned (.tuple #[.string (oneX cf l).1, .int .i64 (oneX cf l).2]) ∧ Below w.heap.size w w' := by
  obtain ⟨w3, hw3⟩ : ∃ w3, w3 = ((w.alloc (.cells #[.slice A n c, .slice B m d, .int .i64 cf.cap] 25)).alloc (.cells #[.string ⟨#[]⟩] 9)).alloc (.cells #[.int .i64 0] 32) := ⟨_, rfl⟩
  have hI : OnI w A n c B m d cf.cap ⟨#[]⟩ 0 w3 := by
    subst hw3
    have h0 := World.alloc_heap_new w (.cells #[.slice A n c, .slice B m d, .int .i64 cf.cap] 25)
    have b1 := Boxed.new (w.alloc (.cells #[.slice A n c, .slice B m d, .int .i64 cf.cap] 25)) 9 (.string ⟨#[]⟩)
    have b2 := Boxed.new ((w.alloc (.cells #[.slice A n c, .slice B m d, .int .i64 cf.cap] 25)).alloc (.cells #[.string ⟨#[]⟩] 9)) 32 (.int .i64 0)
    simp only [World.size_alloc] at b1 b2
    exact ⟨(((Below.refl _ _).alloc (Nat.le_refl _) _).alloc (by simp) _).alloc (by simp; omega) _, (Lib.alloc_old _ _ _ (by simp; omega)).trans ((Lib.alloc_old _ _ _ (by simp)).trans h0), b1.alloc _, b2⟩
  have hs3 : w3.heap.size = w.heap.size + 3 := by rw [hw3]; simp
  obtain ⟨c0, c1, c2⟩ := cells3 hI.cb
  have C1 := Lib.hid (may_any A n c B m d cf w3 (hR.below hI.be))
  have HR := Lib.hid hR
  have HT := Lib.hid ht
  have HTL := Lib.hid htl
  have HTC := Lib.hid htc
  have HI3 := Lib.hid hI
  have HW3 := Lib.hid hw3
  have HS3 := Lib.hid hs3
  obtain ⟨cp, hcp⟩ : ∃ cp, cp = cf.cap := ⟨_, rfl⟩
  have HCP := Lib.hid hcp
  rw [← hcp] at c2 C1 HI3 HW3
  rw [← hcp]
  rw [HW3.out] at c0 c1 c2
  clear hR ht htl htc hI hw3 hs3 hcp
  refine (callsIn_wide (n := 10)).1 ?_
  refine callsIn_of_wp_marks Tryz.func112 rfl trivial ?_ rfl
  simp only [Tryz.ntmps112, List.size_toArray, List.length_cons, List.length_nil, Nat.reduceAdd, Nat.reduceSub, Array.replicate_succ, Array.replicate_zero, List.push_toArray, List.append_toArray, List.nil_append, List.cons_append]
  gi_wp2_with fail
  rw [← HW3.out]
  refine ⟨trivial, (callsIn_wide.2 C1.out).mono ?_⟩
  rintro e W4 ⟨⟨b, rfl, hbm⟩, hb⟩
  have HMAY := Lib.hid hbm
  have HI4 := Lib.hid (HI3.out.below hb)
  clear hb hbm C1 c0 c1 c2 HW3 HI3
  cases b
  case false =>
    have hn : ¬ mayC cf := fun h => by have := HMAY.out.2 h; simp at this
    obtain ⟨⟨x1, x2⟩, ⟨x3, x4⟩⟩ := HI4.out.facts ⟨#[]⟩
    have HI9 := Lib.hid (HI4.out.set2 ⟨#[]⟩ 140)
    have r1 := HI9.out.b1.cell
    have r2 := HI9.out.b2.cell
    have HX : Hid (oneX cf l = (⟨#[]⟩, 140)) := Lib.hid (by unfold oneX; rw [if_neg hn])
    clear hn
    gi_wp2
    exact ⟨.tuple #[.string ⟨#[]⟩, .int .i64 140], by simp [results, Tryz.results112, go_sem, r1, r2], by rw [HX.out], HI9.out.be⟩
  have hm : mayC cf := HMAY.out.1 rfl
  have HM := Lib.hid hm
  have C2 := Lib.hid (Count_any T nt ct l W4 (HT.out.below HI4.out.be) HTC.out)
  clear HMAY hm
  gi_wp2_with fail
  refine ⟨trivial, (callsIn_wide.2 C2.out).mono ?_⟩
  rintro e W5 ⟨rfl, hb⟩
  have HI5 := Lib.hid (HI4.out.below hb)
  clear hb C2 HI4
  have hcase : (wordsL l = [] ∨ (∃ wd, wordsL l = [wd])) ∨ ∃ k : Nat, (wordsL l).length = k + 2 := by
    match h : wordsL l with
    | [] => exact .inl (.inl rfl)
    | [wd] => exact .inl (.inr ⟨wd, rfl⟩)
    | _ :: _ :: r => exact .inr ⟨r.length, by simp⟩
  rcases hcase with (h0 | ⟨wd, h1⟩) | ⟨k, hk⟩
  · have HX : Hid (oneX cf l = (⟨#[]⟩, 4)) := Lib.hid (by unfold oneX; rw [if_pos HM.out, h0])
    have hl0 : (wordsL l).length = 0 := by rw [h0]; rfl
    rw [hl0]
    clear h0 hl0
    obtain ⟨⟨x1, x2⟩, ⟨x3, x4⟩⟩ := HI5.out.facts ⟨#[]⟩
    have HI9 := Lib.hid (HI5.out.set2 ⟨#[]⟩ 4)
    have r1 := HI9.out.b1.cell
    have r2 := HI9.out.b2.cell
    gi_wp2
    exact ⟨.tuple #[.string ⟨#[]⟩, .int .i64 4], by simp [results, Tryz.results112, go_sem, r1, r2], by rw [HX.out], HI9.out.be⟩
  · have HX : Hid (oneX cf l = (termS cf wd, 0)) := Lib.hid (by unfold oneX; rw [if_pos HM.out, h1])
    have HT1 := Lib.hid (terms_one HM.out h1)
    have hl1 : (wordsL l).length = 1 := by rw [h1]; rfl
    rw [hl1]
    clear h1 hl1
    obtain ⟨c0, c1, c2⟩ := cells3 HI5.out.cb
    gi_wp2_with fail
    refine ⟨trivial, (callsIn_wide.2 (terms_any A n c B m d cp T nt ct W5)).mono ?_⟩
    rintro e W9 ⟨rfl, h9⟩
    clear c0 c1 c2
    have hb9 : Below W5.heap.size W5 W9 := by rw [h9]; exact ((Below.refl _ _).alloc (Nat.le_refl _) _).alloc (by simp) _
    have hBc : W9.heap[W5.heap.size]? = some (.cells #[.slice A n c, .slice B m d, .int .i64 cf.cap] 25 (0, 0)) := by
      rw [h9, ← HCP.out]
      exact (Lib.alloc_old _ _ _ (by simp)).trans (World.alloc_heap_new W5 _)
    have hBt : W9.heap[W5.heap.size + 1]? = some (.cells #[.slice T nt ct] 26 (0, 0)) := by
      rw [h9]
      have := World.alloc_heap_new (W5.alloc (.cells #[.slice A n c, .slice B m d, .int .i64 cp] 25)) (.cells #[.slice T nt ct] 26)
      rwa [World.size_alloc] at this
    have HI9 := Lib.hid (HI5.out.below hb9)
    have HSQ := Lib.hid (terms_seq 9 W5.heap.size (W5.heap.size + 1) (by omega) A n c B m d cf T nt ct l S942 okS942 w W9 hBc hBt HI9.out.be HR.out HT.out HTC.out HTL.out)
    have HSZ : Hid (w.heap.size + 3 ≤ W9.heap.size) := Lib.hid (by have := HI9.out.b2.lt; omega)
    clear h9 hb9 hBc hBt
    gi_wp2_with fail
    refine wpIn_range_Q (n := 10) rfl (by omega) (gf := 129) (lb := #[.pointer (some ⟨W5.heap.size, 0, none⟩), .pointer (some ⟨W5.heap.size + 1, 0, none⟩)]) rfl trivial (enters_of Tryz.func129 (by kernel_rfl) rfl) HSQ.out (by have := HSZ.out; omega) (Below.refl _ _) (fun _ => rfl)
      (fun pre W => pre = [] ∧ OnI w A n c B m d cp ⟨#[]⟩ 0 W) (fun cc pre W => cc = .ret ∧ OnI w A n c B m d cp (termS cf wd) 0 W) (fun pre X Y h hst => ⟨h.1, OnI.firm _ (by have := HSZ.out; omega) () _ _ h.2 hst⟩) (fun cc pre X Y h hst => ⟨h.1, OnI.firm _ (by have := HSZ.out; omega) () _ _ h.2 hst⟩) ⟨rfl, HI9.out⟩
      (fun pre x a' W' => a' = OnFr w.heap.size W5.heap.size A n c B m d cp T nt ct x) (fun pre x a' s X Y h _ => h) ?assign ?body ?done ?stop
    case assign =>
      intro L' pre x W' K hpx hI hK
      have HI := Lib.hid hI
      have HK := Lib.hid hK
      clear hI hK
      gi_wp2
      exact HK.out _ _ (Keep.refl _ _ _ _) HI.out rfl
    case body =>
      rintro L' pre ⟨at', x⟩ a' W' hpx ⟨h0, hI⟩ rfl
      subst h0
      have hx : x = termS cf wd := by
        rw [HT1.out] at hpx
        have := List.cons_prefix_cons.1 hpx
        exact congrArg Prod.snd this.1
      subst hx
      obtain ⟨⟨x1, x2⟩, ⟨x3, x4⟩⟩ := hI.facts (termS cf wd)
      have HFin : Hid (∀ a, postQ W9.heap.size w.heap.size S942 (fun pre W => pre = [] ∧ OnI w A n c B m d cp ⟨#[]⟩ 0 W) (fun cc pre W => cc = .ret ∧ OnI w A n c B m d cp (termS cf wd) 0 W) ([] ++ [(at', termS cf wd)]) W' .ret a ((W'.setCell ⟨w.heap.size + 1, 0, none⟩ (.string (termS cf wd))).setCell ⟨w.heap.size + 1 + 1, 0, none⟩ (.int .i64 0))) := Lib.hid fun a => ⟨hI.keep2 _ _ _, rfl, hI.set2 _ _⟩
      clear hI hpx
      gi_wp2
      exact HFin.out _
    case done =>
      rintro D W' hD ⟨h0, hI⟩ hK
      rw [HT1.out] at h0
      cases h0
    case stop =>
      rintro D cc pre W' hD hpx ⟨rfl, hI⟩ hK
      have HK := Lib.hid hK
      have HI8 : Hid (OnI w A n c B m d cp (termS cf wd) 0 (W'.putObj D (.deferred none))) := Lib.hid (OnI.firm W9.heap.size (by have := HSZ.out; omega) () _ _ hI (Step.put hK rfl hD))
      have r1 := HI8.out.b1.cell
      have r2 := HI8.out.b2.cell
      clear hK hI hpx
      gi_wp2
      refine ⟨by simp, .inl ⟨_, _, rfl, run_takeDeferred HK.out, ?_⟩⟩
      exact ⟨.tuple #[.string (termS cf wd), .int .i64 0], by simp [results, Tryz.results112, go_sem, r1, r2], by rw [HX.out], HI8.out.be⟩
  · have HX : Hid (oneX cf l = (⟨#[]⟩, 3)) := Lib.hid (by
      unfold oneX
      rw [if_pos HM.out]
      match h : wordsL l with
      | [] => rw [h] at hk; simp at hk
      | [wd] => rw [h] at hk; simp at hk
      | _ :: _ :: r => rfl)
    have hk3 : ((k + 2 : Nat) : Int) ≤ 9223372036854775807 := by have := wordsL_len l; have := HTL.out; omega
    rw [hk]
    clear hk
    have hk2 : ((k + 2 : Nat) : Int) > 1 := by omega
    have hk0 : (((k + 2 : Nat) : Int) == 0) = false := by simp; omega
    obtain ⟨q, hq⟩ : ∃ q, q = ((k + 2 : Nat) : Int) := ⟨_, rfl⟩
    rw [← hq] at hk2 hk0 hk3 ⊢
    clear hq
    obtain ⟨⟨x1, x2⟩, ⟨x3, x4⟩⟩ := HI5.out.facts ⟨#[]⟩
    have HI9 := Lib.hid (HI5.out.set2 ⟨#[]⟩ 3)
    have r1 := HI9.out.b1.cell
    have r2 := HI9.out.b2.cell
    gi_wp2
    exact ⟨.tuple #[.string ⟨#[]⟩, .int .i64 3], by simp [results, Tryz.results112, go_sem, r1, r2], by rw [HX.out], HI9.out.be⟩
end Go.Proofs.YtkkeodlnejckjaaGreat
