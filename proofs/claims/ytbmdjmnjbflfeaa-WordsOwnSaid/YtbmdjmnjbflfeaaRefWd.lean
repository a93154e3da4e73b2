import Derived.Test.YtbmdjmnjbflfeaaRefTm
import Derived.Test.YtbmdjmnjbflfeaaRegJ
import Derived.BigQuiet

/- The words of a text, by the document. -/
namespace Go.Proofs.Ytbmdjmnjbflfeaa
open Go.RowKit Go.Shelf
set_option linter.unusedVariables false
set_option linter.unusedSimpArgs false

/-- Words as they are gathered: those that are done, the one under way. -/
def wdS (s : List (List Nat) × List Nat) (r : Nat) : List (List Nat) × List Nat := if letB (r : Nat) = true then (s.1, s.2 ++ [r]) else if s.2 = [] then (s.1, []) else (s.1 ++ [s.2], [])
def wdF (rs : List Nat) : List (List Nat) × List Nat := rs.foldl wdS ([], [])
theorem wdF_gen : ∀ (rs : List Nat) (d : List (List Nat)) (c : List Nat), (rs.foldl wdS (d, c)).1 ++ (if (rs.foldl wdS (d, c)).2 = [] then [] else [(rs.foldl wdS (d, c)).2]) = d ++ wdG rs c
  | [], d, c => by unfold wdG; split <;> simp_all
  | r :: rs, d, c => by
    rw [List.foldl_cons]
    unfold wdG
    by_cases hl : letB (r : Nat) = true
    · rw [if_pos hl, show wdS (d, c) r = (d, c ++ [r]) from by simp [wdS, hl]]
      exact wdF_gen rs d (c ++ [r])
    · rw [if_neg hl]
      by_cases hc : c = []
      · rw [if_pos hc, show wdS (d, c) r = (d, []) from by simp [wdS, hl, hc]]
        exact wdF_gen rs d []
      · rw [if_neg hc, show wdS (d, c) r = (d ++ [c], []) from by simp [wdS, hl, hc], wdF_gen rs (d ++ [c]) []]
        simp
theorem wdF_words (rs : List Nat) : (wdF rs).1 ++ (if (wdF rs).2 = [] then [] else [(wdF rs).2]) = wdG rs [] := by
  have := wdF_gen rs [] []
  rw [List.nil_append] at this
  exact this
theorem wdF_snoc (rs : List Nat) (r : Nat) : wdF (rs ++ [r]) = wdS (wdF rs) r := by simp [wdF, List.foldl_append]
theorem wdF_take {rs : List Nat} {i r : Nat} (hx : ∃ hl : i < rs.length, rs[i] = r) : wdF (rs.take (i + 1)) = wdS (wdF (rs.take i)) r := by
  obtain ⟨hl, rfl⟩ := hx
  rw [List.take_succ_eq_append_getElem hl, wdF_snoc]
/-- No word is under way just if no letter stands ahead. -/
theorem wdF_none {rs : List Nat} {i r : Nat} (hx : ∃ hl : i < rs.length, rs[i] = r) : (wdF (rs.take (i + 1))).2 = [] ↔ letB (r : Nat) = false := by
  rw [wdF_take hx]
  unfold wdS
  by_cases hl : letB (r : Nat) = true
  · simp [hl]
  · by_cases hc : (wdF (rs.take i)).2 = [] <;> simp [hl, hc]
theorem infoSl : (Try.prog.info? 47).map (fun i => (i.zero, i.size, i.bytes)) = some (some (.slice none 0 0), 1, 24) := by kernel_rfl
abbrev encV : Value → Value := fun v => v
/-- Words that are done. -/
def WsD (w : World) (base : Nat) (v : Value) (d : List (List Nat)) : Prop := ∃ vs : List Value, OwnL encV 47 w base v vs ∧ vs.length = d.length ∧ (∀ u ∈ vs, u.oneCell' = true) ∧ ∀ i (h : i < vs.length) (h' : i < d.length), OwnL encR 21 w base vs[i] d[i]
/-- .. and one under way. -/
def WsL (w : World) (base : Nat) (v : Value) (d : List (List Nat)) (c : List Nat) : Prop := ∃ (vs : List Value) (V : Value), OwnL encV 47 w base v (vs ++ [V]) ∧ vs.length = d.length ∧ (∀ u ∈ vs ++ [V], u.oneCell' = true) ∧ (∀ i (h : i < vs.length) (h' : i < d.length), OwnL encR 21 w base vs[i] d[i]) ∧ OwnL encR 21 w base V c ∧ ∀ i (h : i < vs.length), ∀ k, V.ownBlock = some k → vs[i].ownBlock ≠ some k
theorem WsL.done {w : World} {base : Nat} {v : Value} {d : List (List Nat)} {c : List Nat} (h : WsL w base v d c) : WsD w base v (d ++ [c]) := by
  obtain ⟨vs, V, h1, h2, h3, h4, h5, h6⟩ := h
  refine ⟨vs ++ [V], h1, by simp [h2], h3, fun i hi hi' => ?_⟩
  rcases Nat.lt_or_ge i vs.length with hlt | hge
  · rw [List.getElem_append_left hlt, List.getElem_append_left (by omega)]
    exact h4 i hlt (by omega)
  · have e : i = vs.length := by simp at hi; omega
    subst e
    rw [List.getElem_append_right (Nat.le_refl _), List.getElem_append_right (by omega)]
    simpa [h2] using h5
theorem WsD.below {w w' : World} {base : Nat} {v : Value} {d : List (List Nat)} (h : WsD w base v d) (hb : Below w.heap.size w w') : WsD w' base v d := by
  obtain ⟨vs, h1, h2, h3, h4⟩ := h
  exact ⟨vs, h1.below hb, h2, h3, fun i hi hi' => (h4 i hi hi').below hb⟩
theorem WsL.below {w w' : World} {base : Nat} {v : Value} {d : List (List Nat)} {c : List Nat} (h : WsL w base v d c) (hb : Below w.heap.size w w') : WsL w' base v d c := by
  obtain ⟨vs, V, h1, h2, h3, h4, h5, h6⟩ := h
  exact ⟨vs, V, h1.below hb, h2, h3, fun i hi hi' => (h4 i hi hi').below hb, h5.below hb, h6⟩
/-- The world as the last word grows: as it is, with the new row of one, behind the append, behind the store. -/
structure Det3 (W0 W1 W2 W3 : World) (S : Nat → Prop) (wr : World) : Prop where
  z : ¬ S 14 → wr = W0
  a : S 14 → ¬ S 15 → wr = W1
  b : S 15 → ¬ S 17 → wr = W2
  c : S 17 → wr = W3
theorem Det3.next {W0 W1 W2 W3 wr : World} {S : Nat → Prop} (h : Det3 W0 W1 W2 W3 S wr) {i : Nat} (h1 : i ≠ 14) (h2 : i ≠ 15) (h3 : i ≠ 17) : Det3 W0 W1 W2 W3 (fun k => k = i ∨ S k) wr :=
  ⟨fun hs => h.z fun h' => hs (.inr h'), fun ha hb => h.a (ha.resolve_left (Ne.symm h1)) fun h' => hb (.inr h'), fun hb hc => h.b (hb.resolve_left (Ne.symm h2)) fun h' => hc (.inr h'), fun hc => h.c (hc.resolve_left (Ne.symm h3))⟩
theorem Det3.al {W0 W1 W2 W3 : World} {S : Nat → Prop} (h : Det3 W0 W1 W2 W3 S W0) (hb : ¬ S 15) (hc : ¬ S 17) : Det3 W0 W1 W2 W3 (fun k => k = 14 ∨ S k) W1 :=
  ⟨fun hs => absurd (.inl rfl) hs, fun _ _ => rfl, fun h' => absurd (h'.resolve_left (by decide)) hb, fun h' => absurd (h'.resolve_left (by decide)) hc⟩
theorem Det3.ap {W0 W1 W2 W3 : World} {S : Nat → Prop} (h : Det3 W0 W1 W2 W3 S W1) (ha : S 14) (hc : ¬ S 17) : Det3 W0 W1 W2 W3 (fun k => k = 15 ∨ S k) W2 :=
  ⟨fun hs => absurd (.inr ha) hs, fun _ hs => absurd (.inl rfl) hs, fun _ _ => rfl, fun h' => absurd (h'.resolve_left (by decide)) hc⟩
theorem Det3.st {W0 W1 W2 : World} {G nd : Nat} {v1 : Value} {S : Nat → Prop} (h : Det3 W0 W1 W2 (W2.setCell ⟨G, nd, none⟩ v1) S W2) (hb : S 15) (h14 : S 14) : Det3 W0 W1 W2 (W2.setCell ⟨G, nd, none⟩ v1) (fun k => k = 17 ∨ S k) (W2.setCell ⟨G, nd, none⟩ v1) :=
  ⟨fun hs => absurd (.inr h14) hs, fun _ hs => absurd (.inr hb) hs, fun _ hs => absurd (.inl rfl) hs, fun _ => rfl⟩
theorem own_cell {α : Type} {enc : α → Value} {e : TypeId} {w : World} {base : Nat} {v : Value} {l : List α} (h : OwnL enc e w base v l) : ∀ k, v.ownBlock = some k → ∃ C fr, w.heap[k]? = some (.cells C e fr) := by
  intro k hk
  rcases h.2 with ⟨rfl, _⟩ | ⟨g, cap, cur, rfl, _, hh, _⟩
  · simp [Value.ownBlock] at hk
  · simp only [Value.ownBlock, Option.some.injEq] at hk
    subst hk
    exact ⟨_, _, hh⟩
theorem OwnL.cellAt' {w : World} {base : Nat} {v : Value} {vs : List Value} {V : Value} (h : OwnL encV 47 w base v (vs ++ [V])) {G n c nd : Nat} (hv : v = .slice (some ⟨G, 0, none⟩) n c) (hn : nd = vs.length) : w.cell? ⟨G, nd, none⟩ = some V := by
  subst hn
  obtain ⟨A, c', e, _, _, h3⟩ := h.rd
  rw [hv] at e
  injection e with e1 e2 e3
  subst e1
  obtain ⟨ad, e4, hc⟩ := h3.cell (by simp)
  injection e4 with e4
  subst e4
  have := hc vs.length (by simp)
  rw [add_lit0] at this
  simpa using this
/-- A new word begins: a nil slice is put behind. -/
theorem wsD_new {w : World} {base : Nat} {v : Value} {d : List (List Nat)} (h : WsD w base v d) (hl : d.length ≤ 10000000) (hb : base ≤ w.heap.size) : ∃ v1 w1, (Builtin.append_ #[62, 62] 62 #[v, .slice (some ⟨w.heap.size, 0, none⟩) 1 1]).run Try.prog (w.alloc (.cells #[.slice none 0 0] 47)) = .ok v1 w1 ∧ WsL w1 base v1 d [] ∧ (∀ {b' : Nat} {L : List Nat} {A : Option Addr} {n c : Nat}, OwnL encR 21 w b' (.slice A n c) L → OwnL encR 21 w1 b' (.slice A n c) L) ∧ Below base w w1 := by
  obtain ⟨vs, h1, h2, h3, h4⟩ := h
  have hbA : Below w.heap.size w (w.alloc (.cells #[.slice none 0 0] 47)) := (Below.refl _ _).alloc (Nat.le_refl _) _
  have hR := Rd.new w 47 [Value.slice none 0 0] #[.slice none 0 0] 1 (0, 0) (enc := encV) rfl rfl (by decide)
  have hA := h1.below hbA
  have one : ∀ x : {u : Value // u.oneCell' = true}, (x.1).oneCell' = true := fun x => x.2
  obtain ⟨vt, rfl⟩ : ∃ vt : List {u : Value // u.oneCell' = true}, vs = vt.map (·.1) := ⟨vs.attach.map fun x => ⟨x.1, h3 x.1 x.2⟩, by simp⟩
  have hA' : OwnL (fun x : {u : Value // u.oneCell' = true} => x.1) 47 (w.alloc (.cells #[.slice none 0 0] 47)) base v vt := by
    have := hA
    unfold OwnL at this ⊢
    rw [List.length_map, List.map_map] at this
    exact this
  have hR' : Rd (fun x : {u : Value // u.oneCell' = true} => x.1) (w.alloc (.cells #[.slice none 0 0] 47)) (some ⟨w.heap.size, 0, none⟩) 1 [⟨.slice none 0 0, rfl⟩] :=
    Rd.new w 47 [⟨.slice none 0 0, rfl⟩] #[.slice none 0 0] 1 (0, 0) (enc := fun x : {u : Value // u.oneCell' = true} => x.1) rfl rfl (by decide)
  obtain ⟨v1, w1, r1, o1, g1, at1⟩ := run_append_rd (P := Try.prog) (c := 1) base 62 62 47 (.slice none 0 0) 24 Try.underlying62 infoSl rfl (by decide) one hA' hR' (by rw [List.length_map] at h2; omega) (by simp; omega)
  have keep : ∀ {b' : Nat} {L : List Nat} {u : Value}, OwnL encR 21 w b' u L → OwnL encR 21 w1 b' u L := by
    intro b' L u ho
    refine (ho.below hbA).kept g1 ?_
    cases hu : u.ownBlock with
    | none => exact .inl rfl
    | some k =>
      right
      intro e
      obtain ⟨C, fr, hc⟩ := own_cell (ho.below hbA) k hu
      obtain ⟨C', fr', hc'⟩ := own_cell hA' k e.symm
      rw [hc] at hc'
      cases hc'
  refine ⟨v1, w1, r1, ⟨vt.map (·.1), .slice none 0 0, ?_, h2, fun u hu => ?_, fun i hi hi' => keep (h4 i hi hi'), OwnL.nil _ _ _ _, fun i hi k hk => by simp [Value.ownBlock] at hk⟩, fun ho => keep ho, (hbA.mono hb).grown g1 (by simp; omega) (fun j hj => (hA'.base j hj).1)⟩
  · have := o1
    unfold OwnL at this ⊢
    rw [List.map_append] at this
    simpa using this
  · rcases List.mem_append.1 hu with hu | hu
    · exact h3 u hu
    · simp at hu
      subst hu
      rfl
/-- The last word grows. -/
theorem wsL_grow {w : World} {base : Nat} {v : Value} {d : List (List Nat)} {c : List Nat} (h : WsL w base v d c) (r : Nat) (hl : d.length ≤ 10000000) (hcl : c.length ≤ 10000000) (hb : base ≤ w.heap.size) :
    ∃ G cG V v1 W2, v = .slice (some ⟨G, 0, none⟩) (d.length + 1) cG ∧ d.length + 1 ≤ cG ∧ w.cell? ⟨G, d.length, none⟩ = some V ∧ (w.alloc (.cells #[.int .i32 (r : Int)] 21)).cell? ⟨G, d.length, none⟩ = some V ∧
      (Builtin.append_ #[47, 47] 47 #[V, .slice (some ⟨w.heap.size, 0, none⟩) 1 1]).run Try.prog (w.alloc (.cells #[.int .i32 (r : Int)] 21)) = .ok v1 W2 ∧
      W2.frozen? ⟨G, d.length, none⟩ = false ∧ W2.cell? ⟨G, d.length, none⟩ = some V ∧ v1.oneCell' = true ∧ (∃ A' n' c', v1 = .slice A' n' c') ∧ (∃ A' n' c', V = .slice A' n' c') ∧
      WsL (W2.setCell ⟨G, d.length, none⟩ v1) base (.slice (some ⟨G, 0, none⟩) (d.length + 1) cG) d (c ++ [r]) ∧ Below base w (W2.setCell ⟨G, d.length, none⟩ v1) ∧
      ∀ {b' : Nat} {L : List Nat} {A : Option Addr} {n c : Nat}, OwnL encR 21 w b' (.slice A n c) L → (∀ k, V.ownBlock = some k → (Value.slice A n c).ownBlock ≠ some k) → OwnL encR 21 (W2.setCell ⟨G, d.length, none⟩ v1) b' (.slice A n c) L := by
  obtain ⟨vs, V, h1, h2, h3, h4, h5, h6⟩ := h
  obtain ⟨G, cG, rfl, hbG, hG, hlc, _⟩ := h1.place (by simp)
  have hlen : (vs ++ [V]).length = d.length + 1 := by simp [h2]
  have hcell := h1.cellAt d.length (by omega)
  have hge : (vs ++ [V])[d.length]'(by omega) = V := by
    rw [List.getElem_append_right (by omega)]
    simp [h2]
  rw [hge] at hcell
  have hbA : Below w.heap.size w (w.alloc (.cells #[.int .i32 (r : Int)] 21)) := (Below.refl _ _).alloc (Nat.le_refl _) _
  have hR := Rd.new w 21 [r] #[.int .i32 (r : Int)] 1 (0, 0) (enc := encR) rfl rfl (by decide)
  have hA := h5.below hbA
  obtain ⟨v1, W2, r1, o1, g1, at1⟩ := run_append_rd (P := Try.prog) (c := 1) base 47 47 21 (.int .i32 0) 4 Try.underlying47 infoR rfl (by decide) encR_one hA hR (by omega) (by simp; omega)
  have hGV : V.ownBlock ≠ some G := by
    intro e
    obtain ⟨C, fr, hc⟩ := own_cell h5 G e
    obtain ⟨C', fr', hc'⟩ := own_cell h1 G rfl
    rw [hc] at hc'
    cases hc'
  have hg2 : W2.heap[G]? = w.heap[G]? := (g1.block G (by simp; omega) (fun e => hGV e.symm)).trans (hbA.block G hG)
  have houter : OwnL encV 47 W2 base (.slice (some ⟨G, 0, none⟩) (vs ++ [V]).length cG) (vs ++ [V]) := (h1.below hbA).kept g1 (.inr (fun e => hGV e.symm))
  have hset := OwnL.set houter d.length v1
  have hsl : (vs ++ [V]).set d.length v1 = vs ++ [v1] := by
    rw [List.set_append_right _ _ (by omega), ← h2, Nat.sub_self]
    rfl
  rw [hsl] at hset
  have inner : ∀ {b' : Nat} {L : List Nat} {u : Value}, OwnL encR 21 W2 b' u L → OwnL encR 21 (W2.setCell ⟨G, d.length, none⟩ v1) b' u L := by
    intro b' L u ho
    refine ho.kept hset.2 ?_
    cases hu : u.ownBlock with
    | none => exact .inl rfl
    | some k =>
      right
      intro e
      obtain ⟨C, fr, hc⟩ := own_cell ho k hu
      obtain ⟨C', fr', hc'⟩ := own_cell houter G rfl
      cases e
      rw [hc] at hc'
      cases hc'
  have keep : ∀ {b' : Nat} {L : List Nat} {u : Value}, OwnL encR 21 w b' u L → (∀ k, V.ownBlock = some k → u.ownBlock ≠ some k) → OwnL encR 21 (W2.setCell ⟨G, d.length, none⟩ v1) b' u L := by
    intro b' L u ho hne
    refine inner ((ho.below hbA).kept g1 ?_)
    cases hu : u.ownBlock with
    | none => exact .inl rfl
    | some k => exact .inr fun e => hne k e.symm hu
  obtain ⟨A', c', hv1, _, _, _⟩ := OwnL.rd o1
  obtain ⟨A9, c9, hV9, _, _, _⟩ := OwnL.rd h5
  refine ⟨G, cG, V, v1, W2, by rw [hlen], by omega, hcell.1, ?_, r1, ?_, ?_, by rw [hv1]; rfl, ⟨A', _, c', hv1⟩, ⟨_, _, _, hV9⟩, ⟨vs, v1, ?_, h2, fun u hu => ?_, fun i hi hi' => keep (h4 i hi hi') (fun k hk => h6 i hi k hk), inner o1, fun i hi k hk => ?_⟩, ?_, fun ho hne => keep ho hne⟩
  · exact cell_keep hbA hcell.1
  · rw [World.frozen?_of_block hg2]; exact hcell.2
  · rw [World.cell?_of_block hg2]; exact hcell.1
  · have e2 : (vs ++ [v1]).length = d.length + 1 := by simp [h2]
    have h9 := hset.1
    rw [hlen] at h9
    unfold OwnL at h9 ⊢
    rw [e2] at h9 ⊢
    exact h9
  · rcases List.mem_append.1 hu with hu | hu
    · exact h3 u (List.mem_append_left _ hu)
    · simp at hu
      subst hu
      rw [hv1]
      rfl
  · rcases at1 with e | e
    · rw [e] at hk; exact h6 i hi k hk
    · rw [e] at hk
      intro e2
      have := (h4 i hi (by omega)).base k e2
      simp at hk
      omega
  · have hbW : Below base w W2 := (hbA.mono hb).grown g1 (by simp; omega) (fun j hj => (hA.base j hj).1)
    exact hbW.setCell (p := ⟨G, d.length, none⟩) hbG v1
def WdF (G nd cG : Nat) (ad : Addr) (n4 c4 ix r n0 : Nat) (V v1 : Value) : Nat → Value → World → Prop
  | 0 => fun v w => v = .slice (some ⟨G, 0, none⟩) (nd + 1) cG
  | 1 => fun v w => v = .slice (some ⟨G, 0, none⟩) (nd + 1) cG
  | 2 => fun v w => v = .int .i64 ((nd : Int) + 1)
  | 3 => fun v w => v = .int .i64 (nd : Nat)
  | 4 => fun v w => v = .slice (some ⟨G, 0, none⟩) (nd + 1) cG
  | 5 => fun v w => v = .slice (some ⟨G, 0, none⟩) (nd + 1) cG
  | 6 => fun v w => v = .int .i64 ((nd : Int) + 1)
  | 7 => fun v w => v = .int .i64 (nd : Nat)
  | 8 => fun v w => v = .pointer (some ⟨G, nd, none⟩)
  | 9 => fun v w => v = V
  | 10 => fun v w => v = .slice (some ad) n4 c4
  | 11 => fun v w => v = .int .i64 (ix : Nat)
  | 12 => fun v w => v = .pointer (some (ad.add ix))
  | 13 => fun v w => v = .int .i32 (r : Int)
  | 14 => fun v w => v = .slice (some ⟨n0, 0, none⟩) 1 1
  | 15 => fun v w => v = v1
  | 16 => fun v w => v = .pointer (some ⟨G, nd, none⟩)
  | 17 => fun v w => v = undef
  | _ => fun _ _ => True
theorem WdF.keep (G nd cG : Nat) (ad : Addr) (n4 c4 ix r n0 : Nat) (V v1 : Value) : ∀ i v w w', True → WdF G nd cG ad n4 c4 ix r n0 V v1 i v w → WdF G nd cG ad n4 c4 ix r n0 V v1 i v w'
  | 0, _, _, _, _, h => h
  | 1, _, _, _, _, h => h
  | 2, _, _, _, _, h => h
  | 3, _, _, _, _, h => h
  | 4, _, _, _, _, h => h
  | 5, _, _, _, _, h => h
  | 6, _, _, _, _, h => h
  | 7, _, _, _, _, h => h
  | 8, _, _, _, _, h => h
  | 9, _, _, _, _, h => h
  | 10, _, _, _, _, h => h
  | 11, _, _, _, _, h => h
  | 12, _, _, _, _, h => h
  | 13, _, _, _, _, h => h
  | 14, _, _, _, _, h => h
  | 15, _, _, _, _, h => h
  | 16, _, _, _, _, h => h
  | 17, _, _, _, _, h => h
  | _ + 18, _, _, _, _, _ => trivial

end Go.Proofs.Ytbmdjmnjbflfeaa

/- The words of a text, by the document: the walk. -/
namespace Go.Proofs.Ytbmdjmnjbflfeaa
open Go.RowKit Go.Shelf
set_option linter.unusedVariables false
set_option linter.unusedSimpArgs false

theorem WsD.byV {w : World} {base : Nat} {v : Value} {d : List (List Nat)} (h : WsD w base v d) : ∃ A c, v = .slice A d.length c ∧ d.length ≤ c := by
  obtain ⟨vs, h1, h2, _⟩ := h
  obtain ⟨A, c, e, h3, _⟩ := h1.rd
  exact ⟨A, c, by rw [e, h2], by omega⟩
/-- The runes of a text stand apart from a word that grows. -/
structure WdI (w : World) (base : Nat) (v lv : Value) (rs : List Nat) (i : Nat) (wr : World) : Prop where
  below : Below w.heap.size w wr
  runes : OwnL encR 21 wr w.heap.size lv rs
  apart : base ≤ wr.heap.size ∧ ∀ k, lv.ownBlock = some k → k < base
  out : ((wdF (rs.take i)).2 = [] → WsD wr base v (wdF (rs.take i)).1) ∧ ((wdF (rs.take i)).2 ≠ [] → WsL wr base v (wdF (rs.take i)).1 (wdF (rs.take i)).2)
theorem ws_sep {w : World} {base : Nat} {V lv : Value} {c rs : List Nat} {b' : Nat} (h : OwnL encR 21 w base V c) (hl : ∀ k, lv.ownBlock = some k → k < base) : ∀ k, V.ownBlock = some k → lv.ownBlock ≠ some k := by
  intro k hk e
  have := (h.base k hk).1
  have := hl k e
  omega
theorem wdF_len (rs : List Nat) : (wdF rs).1.length ≤ rs.length ∧ (wdF rs).2.length ≤ rs.length := by
  have key : ∀ (rs : List Nat) (d : List (List Nat)) (c : List Nat), (rs.foldl wdS (d, c)).1.length + (rs.foldl wdS (d, c)).2.length ≤ d.length + c.length + rs.length := by
    intro rs
    induction rs with
    | nil => intro d c; simp
    | cons r rs ih =>
      intro d c
      rw [List.foldl_cons]
      have h := ih (wdS (d, c) r).1 (wdS (d, c) r).2
      have h2 : (wdS (d, c) r).1.length + (wdS (d, c) r).2.length ≤ d.length + c.length + 1 := by
        unfold wdS
        split
        · simp; omega
        · split
          · simp <;> omega
          · simp <;> omega
      simp only [List.length_cons]
      have e : (wdS (d, c) r) = ((wdS (d, c) r).1, (wdS (d, c) r).2) := rfl
      rw [← e] at h
      omega
  have := key rs [] []
  simp only [List.length_nil] at this
  unfold wdF
  omega
set_option maxRecDepth 100000 in
set_option maxHeartbeats 8000000 in
theorem refWords_any (A : Option Addr) (n c : Nat) (l : List Nat) (w : World) (hl : RdB w A n l) (hc : n ≤ c) (hn : n ≤ 10000000) (hc2 : c ≤ 9223372036854775807) :
    Calls Try.prog 38 #[.slice A n c] w fun e w' => ∃ v, e = .returned v ∧ WsD w' w.heap.size v (wordsL l) ∧ Below w.heap.size w w' := by
  have C := Lib.hid (refRn_any A n c l w hl hc hn hc2)
  have hll := hl.len
  have hrl := rnsL_len l
  obtain ⟨rs, hrs⟩ : ∃ rs, rs = rnsL l := ⟨_, rfl⟩
  have HRS := Lib.hid hrs
  rw [← hrs] at C hrl
  have HRL := Lib.hid (show rs.length ≤ 10000000 by omega)
  clear hl hll hrl hrs
  go_enter Try.func38, Try.ntmps38
  go_wp2_with fail
  refine C.out.mono ?_
  rintro e w1 ⟨lv, rfl, ho, hb⟩
  obtain ⟨A4, c4, hlv, h41, h42, h43⟩ := ho.rd
  obtain ⟨n4, hn4⟩ : ∃ n4, n4 = rs.length := ⟨_, rfl⟩
  obtain ⟨bs, hbs⟩ : ∃ bs, bs = w1.heap.size := ⟨_, rfl⟩
  have HI1 : Hid (WdI w bs (.slice none 0 0) lv rs 0 w1) := Lib.hid ⟨hb, ho, ⟨by omega, fun k hk => by rw [hbs]; exact (ho.base k hk).2⟩, ⟨fun _ => ⟨[], OwnL.nil _ _ _ _, rfl, (fun u hu => by cases hu), fun i hi => by cases hi⟩, fun h => absurd rfl h⟩⟩
  have HBS : Hid (w.heap.size ≤ bs) := Lib.hid (by have := hb.size; omega)
  have HN4 := Lib.hid hn4
  rw [← hn4] at hlv h41
  have hn4b : n4 ≤ 10000000 := by have := HRL.out; omega
  subst hlv
  clear ho hb h43 C hn4 hbs
  go_wp2_with fail
  go_loopw [3, 5] (fun x y wr => ∃ ix : Nat, ix ≤ n4 ∧ y = .int .i64 (ix : Nat) ∧ Hid (WdI w bs x (.slice A4 n4 c4) rs ix wr)) (fun _ y _ => n4 - (intOf y).toNat)
  case atStart => exact ⟨0, Nat.zero_le _, rfl, HI1⟩
  case round =>
    obtain ⟨ix, hi, rfl, HI⟩ := hrel
    by_cases hlt : (ix : Int) < (n4 : Int)
    · have hrd : Rd encR wr A4 n4 rs := by
        obtain ⟨A5, c5, e, _, _, h⟩ := HI.out.runes.rd
        injection e with e1 e2 e3
        subst e1
        rw [HN4.out]
        exact h
      obtain ⟨ad, r, rfl, HX, k0⟩ := rdR_at hrd (k := ix) (by omega)
      have HST := Lib.hid (wdF_take HX.out)
      have hil : ix < n4 := by omega
      cases hlr : letB (r : Int)
      · have HNx : Hid (WdI w bs u3 (.slice (some ad) n4 c4) rs (ix + 1) wr) := Lib.hid ⟨HI.out.below, HI.out.runes, HI.out.apart, by
          rw [HST.out]
          unfold wdS
          rw [if_neg (by rw [hlr]; decide)]
          by_cases hc0 : (wdF (rs.take ix)).2 = []
          · rw [if_pos hc0]
            exact ⟨fun _ => HI.out.out.1 hc0, fun h => absurd rfl h⟩
          · rw [if_neg hc0]
            exact ⟨fun _ => (HI.out.out.2 hc0).done, fun h => absurd rfl h⟩⟩
        have C := Lib.hid (refLetter_f hlr)
        clear hlr hrd
        go_wp2_with fail
        refine (C.out wr).mono ?_
        rintro e w9 ⟨rfl, h9⟩
        obtain rfl := h9.symm
        clear k0 C
        go_wp2
        exact ⟨⟨ix + 1, by omega, by simp; try go_num, HNx⟩, by simp [intOf]; try omega⟩
      · have HLR := Lib.hid hlr
        have C := Lib.hid (refLetter_t hlr)
        have hdl := wdF_len (rs.take ix)
        rw [List.length_take] at hdl
        obtain ⟨d, hd⟩ : ∃ d, d = (wdF (rs.take ix)).1 := ⟨_, rfl⟩
        obtain ⟨cu, hcu⟩ : ∃ cu, cu = (wdF (rs.take ix)).2 := ⟨_, rfl⟩
        have hst := HST.out
        unfold wdS at hst
        rw [if_pos hlr, ← hd, ← hcu] at hst
        have HST2 := Lib.hid hst
        have HDL : Hid (d.length ≤ 10000000 ∧ cu.length ≤ 10000000) := Lib.hid (by rw [hd, hcu]; omega)
        have HOut := Lib.hid HI.out.out
        rw [← hd, ← hcu] at HOut
        have HCU := Lib.hid hcu
        clear hlr hrd hst hd hcu hdl
        by_cases hc0 : cu = []
        · -- a word begins
          have hprev : ix = 0 ∨ ∃ ix' r' : Nat, ix = ix' + 1 ∧ wr.cell? (ad.add ix') = some (.int .i32 (r' : Int)) ∧ letB (r' : Nat) = false := by
            rcases Nat.eq_zero_or_pos ix with h | h
            · exact .inl h
            · right
              obtain ⟨ix', rfl⟩ : ∃ ix', ix = ix' + 1 := ⟨ix - 1, by omega⟩
              have hrd : Rd encR wr (some ad) n4 rs := by
                obtain ⟨A5, c5, e, _, _, h⟩ := HI.out.runes.rd
                injection e with e1 e2 e3
                subst e1
                rw [HN4.out]
                exact h
              obtain ⟨ad', r', e, HX', k1⟩ := rdR_at hrd (k := ix') (by omega)
              injection e with e
              subst e
              exact ⟨ix', r', rfl, k1, (wdF_none HX'.out).1 (by rw [← HCU.out]; exact hc0)⟩
          have hD := HOut.out.1 hc0
          obtain ⟨v9, w9, r9, hL9, kp9, hb9⟩ := wsD_new hD HDL.out.1 HI.out.apart.1
          have HI9 : Hid (WsL w9 bs v9 d [] ∧ OwnL encR 21 w9 w.heap.size (.slice (some ad) n4 c4) rs ∧ Below w.heap.size w w9 ∧ bs ≤ w9.heap.size) := Lib.hid ⟨hL9, kp9 HI.out.runes, HI.out.below.trans (hb9.mono HBS.out), Nat.le_trans HI.out.apart.1 hb9.size⟩
          have HC0 := Lib.hid hc0
          clear hD hL9 kp9 hb9 hc0
          rcases hprev with h0 | ⟨ix', r', h0, k1, hnl⟩
          · have g0 : ((ix : Int) == 0) = true := by simp; omega
            have H0 := Lib.hid h0
            clear h0
            go_wp2_with fail
            refine (C.out wr).mono ?_
            rintro e wz ⟨rfl, h9⟩
            obtain rfl := h9.symm
            go_wp2_with (at_builtin; refine wpl_append_run rfl _ _ _ rfl rfl rfl r9 ?_)
            clear k0 C g0 r9
            obtain ⟨G, cG, V, v1, W2, hv9, hcG, kW0, kW1, r1, kF, kW2, hone, ⟨A', n', c', hv1⟩, ⟨A8, n8, c8, hV8⟩, hL2, hb2, kp2⟩ := wsL_grow (w := w9.drew) (HI9.out.1.below (Below.drew (Below.refl _ _))) r HDL.out.1 (by simp) (show bs ≤ w9.drew.heap.size from HI9.out.2.2.2)
            obtain ⟨nd, hnd⟩ : ∃ nd, nd = d.length := ⟨_, rfl⟩
            rw [← hnd] at hv9 hcG kW0 kW1 kF kW2 hL2 hb2 kp2
            have hsep : ∀ k, V.ownBlock = some k → (Value.slice (some ad) n4 c4).ownBlock ≠ some k := by
              obtain ⟨vs, V', h1, h2, h3, h4, h5, h6⟩ := HI9.out.1
              have e1 := (h1.cellAt' hv9 (by rw [hnd, h2])).symm.trans kW0
              have e2 : V' = V := by injection e1
              subst e2
              exact ws_sep (rs := rs) (b' := 0) h5 HI.out.apart.2
            have hro := kp2 (OwnL.below HI9.out.2.1 (Below.drew (Below.refl _ _))) hsep
            have hND : nd ≤ 10000000 := by have := HDL.out.1; omega
            obtain ⟨W1, hW1⟩ : ∃ W1, W1 = w9.drew.alloc (.cells #[.int .i32 (r : Int)] 21) := ⟨_, rfl⟩
            obtain ⟨n0, hn0⟩ : ∃ n0, n0 = w9.drew.heap.size := ⟨_, rfl⟩
            rw [← hW1] at kW1 r1
            rw [← hn0, hV8] at r1
            have hnd1 : (nd : Int) < (nd : Int) + 1 := by omega
            have hwr : IntKind.i64.wrap (nd : Int) = (nd : Int) := by rw [IntKind.wrap_i64]; omega
            have hnd2 : nd < nd + 1 := by omega
            have kR : w9.drew.cell? (ad.add ix) = some (.int .i32 (r : Int)) := by
              have hrd : Rd encR w9 (some ad) n4 rs := by
                obtain ⟨A5, c5, e, _, _, h⟩ := HI9.out.2.1.rd
                injection e with e1 e2 e3
                subst e1
                rw [HN4.out]
                exact h
              obtain ⟨ad', r', e, HX', k1⟩ := rdR_at hrd (k := ix) (by omega)
              injection e with e
              subst e
              obtain ⟨_, e1⟩ := HX.out
              obtain ⟨_, e2⟩ := HX'.out
              rw [← e1, e2]
              exact k1
            have hj1 : (ix : Int) < (n4 : Int) := hlt
            have hj2 : ix < n4 := hil
            have HFin : Hid (WdI w bs (.slice (some ⟨G, 0, none⟩) (nd + 1) cG) (.slice (some ad) n4 c4) rs (ix + 1) (W2.setCell ⟨G, nd, none⟩ v1)) := Lib.hid ⟨HI9.out.2.2.1.trans ((Below.drew (Below.refl _ _)).trans (hb2.mono HBS.out)), hro, ⟨Nat.le_trans HI9.out.2.2.2 hb2.size, HI.out.apart.2⟩, by
              rw [HST2.out]
              simp only
              refine ⟨fun h => absurd h (by simp), fun _ => ?_⟩
              rw [HC0.out]; exact hL2⟩
            have HV9 := Lib.hid hv9
            subst hv9
            clear hL2 hb2 kp2 hsep hro hone hnd
            refine wp_region_flowJ (by kernel_rfl) (WdF G nd cG ad n4 c4 ix r n0 V v1) (fun _ _ => True) (fun S wq => Det3 w9.drew W1 W2 (W2.setCell ⟨G, nd, none⟩ v1) S wq) (WdF.keep G nd cG ad n4 c4 ix r n0 V v1) ?_ (by kernel_rfl) (by kernel_rfl) ?_ ?_
            case refine_1 => exact ⟨fun _ => rfl, fun h => h.elim, fun h => h.elim, fun h => h.elim⟩
            case refine_2 =>
              intro i o ho ρ y w2 S hJ hnS hneeds hcl hreg hn hf hyb hyn
              have hi := (Array.getElem?_eq_some_iff.1 ho).1
              rcases Nat.lt_or_ge i 18 with hi2 | hi2
              case inr => simp at hi; omega
              obtain rfl | rfl | rfl | rfl | rfl | rfl | rfl | rfl | rfl | rfl | rfl | rfl | rfl | rfl | rfl | rfl | rfl | rfl : i = 0 ∨ i = 1 ∨ i = 2 ∨ i = 3 ∨ i = 4 ∨ i = 5 ∨ i = 6 ∨ i = 7 ∨ i = 8 ∨ i = 9 ∨ i = 10 ∨ i = 11 ∨ i = 12 ∨ i = 13 ∨ i = 14 ∨ i = 15 ∨ i = 16 ∨ i = 17 := by omega
              · cases ho
                rw [if_pos (show Region.wanted _ y = true from rfl)]
                have f3 : ρ (.tmp 3) = .slice (some ⟨G, 0, none⟩) (nd + 1) cG := hf 3 (by kernel_rfl)
                exact ⟨f3, trivial, hJ.next (by decide) (by decide) (by decide)⟩
              · cases ho
                rw [if_pos (show Region.wanted _ y = true from rfl)]
                have f3 : ρ (.tmp 3) = .slice (some ⟨G, 0, none⟩) (nd + 1) cG := hf 3 (by kernel_rfl)
                exact ⟨f3, trivial, hJ.next (by decide) (by decide) (by decide)⟩
              · cases ho
                rw [if_pos (show Region.wanted _ y = true from rfl)]
                have f35 : ρ (.tmp 35) = .slice (some ⟨G, 0, none⟩) (nd + 1) cG := hn 1 _ 35 rfl (by kernel_rfl) rfl
                exact does_ok (v := .int .i64 ((nd : Int) + 1)) (w' := w2) (by simp [go_sem, hreg.const, f35]) ⟨rfl, trivial, hJ.next (by decide) (by decide) (by decide)⟩
              · cases ho
                rw [if_pos (show Region.wanted _ y = true from rfl)]
                have f36 : ρ (.tmp 36) = .int .i64 ((nd : Int) + 1) := hn 2 _ 36 rfl (by kernel_rfl) rfl
                exact does_ok (v := .int .i64 (nd : Nat)) (w' := w2) (by simp [go_sem, hreg.const, f36, hwr]) ⟨rfl, trivial, hJ.next (by decide) (by decide) (by decide)⟩
              · cases ho
                rw [if_pos (show Region.wanted _ y = true from rfl)]
                have f3 : ρ (.tmp 3) = .slice (some ⟨G, 0, none⟩) (nd + 1) cG := hf 3 (by kernel_rfl)
                exact ⟨f3, trivial, hJ.next (by decide) (by decide) (by decide)⟩
              · cases ho
                rw [if_pos (show Region.wanted _ y = true from rfl)]
                have f3 : ρ (.tmp 3) = .slice (some ⟨G, 0, none⟩) (nd + 1) cG := hf 3 (by kernel_rfl)
                exact ⟨f3, trivial, hJ.next (by decide) (by decide) (by decide)⟩
              · cases ho
                rw [if_pos (show Region.wanted _ y = true from rfl)]
                have f39 : ρ (.tmp 39) = .slice (some ⟨G, 0, none⟩) (nd + 1) cG := hn 5 _ 39 rfl (by kernel_rfl) rfl
                exact does_ok (v := .int .i64 ((nd : Int) + 1)) (w' := w2) (by simp [go_sem, hreg.const, f39]) ⟨rfl, trivial, hJ.next (by decide) (by decide) (by decide)⟩
              · cases ho
                rw [if_pos (show Region.wanted _ y = true from rfl)]
                have f40 : ρ (.tmp 40) = .int .i64 ((nd : Int) + 1) := hn 6 _ 40 rfl (by kernel_rfl) rfl
                exact does_ok (v := .int .i64 (nd : Nat)) (w' := w2) (by simp [go_sem, hreg.const, f40, hwr]) ⟨rfl, trivial, hJ.next (by decide) (by decide) (by decide)⟩
              · cases ho
                rw [if_pos (show Region.wanted _ y = true from rfl)]
                have f38 : ρ (.tmp 38) = .slice (some ⟨G, 0, none⟩) (nd + 1) cG := hn 4 _ 38 rfl (by kernel_rfl) rfl
                have f41 : ρ (.tmp 41) = .int .i64 (nd : Nat) := hn 7 _ 41 rfl (by kernel_rfl) rfl
                exact does_ok (v := .pointer (some ⟨G, nd, none⟩)) (w' := w2) (by simp [go_sem, hreg.const, f38, f41, hnd1, hnd2, hcG]) ⟨rfl, trivial, hJ.next (by decide) (by decide) (by decide)⟩
              · cases ho
                rw [if_pos (show Region.wanted _ y = true from rfl)]
                have f42 : ρ (.tmp 42) = .pointer (some ⟨G, nd, none⟩) := hn 8 _ 42 rfl (by kernel_rfl) rfl
                have hn15 : ¬ S 15 := fun h => hnS (hcl 15 _ rfl h 9 (by kernel_rfl))
                have k0 : w2.cell? ⟨G, nd, none⟩ = some V := by
                  by_cases h14 : S 14
                  · rw [hJ.a h14 hn15]; exact kW1
                  · rw [hJ.z h14]; exact kW0
                exact does_ok (v := V) (w' := w2) (by simp [go_sem, hreg.const, f42, k0]) ⟨rfl, trivial, hJ.next (by decide) (by decide) (by decide)⟩
              · cases ho
                rw [if_pos (show Region.wanted _ y = true from rfl)]
                have f4 : ρ (.tmp 4) = .slice (some ad) n4 c4 := hf 4 (by kernel_rfl)
                exact ⟨f4, trivial, hJ.next (by decide) (by decide) (by decide)⟩
              · cases ho
                rw [if_pos (show Region.wanted _ y = true from rfl)]
                have f5 : ρ (.tmp 5) = .int .i64 (ix : Nat) := hf 5 (by kernel_rfl)
                exact ⟨f5, trivial, hJ.next (by decide) (by decide) (by decide)⟩
              · cases ho
                rw [if_pos (show Region.wanted _ y = true from rfl)]
                have f44 : ρ (.tmp 44) = .slice (some ad) n4 c4 := hn 10 _ 44 rfl (by kernel_rfl) rfl
                have f45 : ρ (.tmp 45) = .int .i64 (ix : Nat) := hn 11 _ 45 rfl (by kernel_rfl) rfl
                exact does_ok (v := .pointer (some (ad.add ix))) (w' := w2) (by simp [go_sem, hreg.const, f44, f45, hj1, hj2]) ⟨rfl, trivial, hJ.next (by decide) (by decide) (by decide)⟩
              · cases ho
                rw [if_pos (show Region.wanted _ y = true from rfl)]
                have f46 : ρ (.tmp 46) = .pointer (some (ad.add ix)) := hn 12 _ 46 rfl (by kernel_rfl) rfl
                have hn14 : ¬ S 14 := fun h => hnS (hcl 14 _ rfl h 13 (by kernel_rfl))
                have k0 : w2.cell? (ad.add ix) = some (.int .i32 (r : Int)) := by rw [hJ.z hn14]; exact kR
                exact does_ok (v := .int .i32 (r : Int)) (w' := w2) (by simp [go_sem, hreg.const, f46, k0]) ⟨rfl, trivial, hJ.next (by decide) (by decide) (by decide)⟩
              · cases ho
                rw [if_pos (show Region.wanted _ y = true from rfl)]
                have f47 : ρ (.tmp 47) = .int .i32 (r : Int) := hn 13 _ 47 rfl (by kernel_rfl) rfl
                have hn15 : ¬ S 15 := fun h => hnS (hcl 15 _ rfl h 14 (by kernel_rfl))
                have hn17 : ¬ S 17 := fun h => hn15 (hcl 17 _ rfl h 15 (by kernel_rfl))
                obtain rfl := hJ.z hnS
                exact does_ok (v := .slice (some ⟨n0, 0, none⟩) 1 1) (w' := W1) (by rw [hW1, hn0]; simp [go_sem, hreg.const, f47]) ⟨rfl, trivial, hJ.al hn15 hn17⟩
              · cases ho
                rw [if_pos (show Region.wanted _ y = true from rfl)]
                have f43 : ρ (.tmp 43) = V := hn 9 _ 43 rfl (by kernel_rfl) rfl
                have f48 : ρ (.tmp 48) = .slice (some ⟨n0, 0, none⟩) 1 1 := hn 14 _ 48 rfl (by kernel_rfl) rfl
                have h14 : S 14 := hneeds 14 (by kernel_rfl)
                have hn17 : ¬ S 17 := fun h => hnS (hcl 17 _ rfl h 15 (by kernel_rfl))
                obtain rfl := (hJ.a h14 hnS).symm
                exact does_ok (v := v1) (w' := W2) (by simp only [execOp, List.getElem_toArray, List.getElem_cons_succ, List.getElem_cons_zero, resolve, invoke, builtin, Sem.run_bind, Sem.run_pure, Result.andThen_ok, List.map_toArray, List.map_cons, List.map_nil, f43, f48, hV8, r1]) ⟨rfl, trivial, hJ.ap h14 hn17⟩
              · cases ho
                rw [if_pos (show Region.wanted _ y = true from rfl)]
                have f34 : ρ (.tmp 34) = .slice (some ⟨G, 0, none⟩) (nd + 1) cG := hn 0 _ 34 rfl (by kernel_rfl) rfl
                have f37 : ρ (.tmp 37) = .int .i64 (nd : Nat) := hn 3 _ 37 rfl (by kernel_rfl) rfl
                exact does_ok (v := .pointer (some ⟨G, nd, none⟩)) (w' := w2) (by simp [go_sem, hreg.const, f34, f37, hnd1, hnd2, hcG]) ⟨rfl, trivial, hJ.next (by decide) (by decide) (by decide)⟩
              · cases ho
                rw [if_pos (show Region.wanted _ y = true from rfl)]
                have f49 : ρ (.tmp 49) = v1 := hn 15 _ 49 rfl (by kernel_rfl) rfl
                have f50 : ρ (.tmp 50) = .pointer (some ⟨G, nd, none⟩) := hn 16 _ 50 rfl (by kernel_rfl) rfl
                have h15 : S 15 := hneeds 15 (by kernel_rfl)
                obtain rfl := (hJ.b h15 hnS).symm
                exact does_skip (w' := W2.setCell ⟨G, nd, none⟩ v1) (by simp [go_sem, f49, f50, kF, kW2, hv1]) ⟨rfl, trivial, hJ.st h15 (hcl 15 _ rfl h15 14 (by kernel_rfl))⟩
            case refine_3 =>
              intro a wz S hJ hall hd3 hs hfacts hrest
              have q36 : a.tmps.getD 36 undef = .int .i64 ((nd : Int) + 1) := hfacts 2 _ 36 rfl rfl
              have ha := frame_of hd3 hs hrest [34, 35, 36, 37, 38, 39, 40, 41, 42, 43, 44, 45, 46, 47, 48, 49, 50] (by kernel_rfl)
              simp only [q36, List.foldl, List.setIfInBounds_toArray, List.set_cons_succ, List.set_cons_zero] at ha
              clear q36 hd3 hs hfacts hrest
              generalize a.tmps.getD = gg at ha
              subst ha
              obtain rfl := hJ.c (hall 17 (by decide))
              clear hJ hall kW0 kW1 r1 kF kW2 kR hW1 hn0 hv1 hV8
              go_wp2
              exact ⟨⟨ix + 1, by omega, by simp; try go_num, HFin⟩, by simp [intOf]; try omega⟩
          · have g0 : ((ix : Int) == 0) = false := by simp; omega
            have gi : (ix : Int) - 1 = (ix' : Int) := by omega
            have him : ix' < n4 := by omega
            have him2 : (ix' : Int) < (n4 : Int) := by omega
            have C2 := Lib.hid (refLetter_f hnl)
            clear h0 hnl
            go_wp2_with fail
            refine (C.out wr).mono ?_
            rintro e wz ⟨rfl, h9⟩
            obtain rfl := h9.symm
            go_wp2_with fail
            refine (C2.out wr).mono ?_
            rintro e wz ⟨rfl, h9⟩
            obtain rfl := h9.symm
            go_wp2_with (at_builtin; refine wpl_append_run rfl _ _ _ rfl rfl rfl r9 ?_)
            clear k0 k1 C C2 g0 gi him him2 r9
            obtain ⟨G, cG, V, v1, W2, hv9, hcG, kW0, kW1, r1, kF, kW2, hone, ⟨A', n', c', hv1⟩, ⟨A8, n8, c8, hV8⟩, hL2, hb2, kp2⟩ := wsL_grow (w := w9.drew) (HI9.out.1.below (Below.drew (Below.refl _ _))) r HDL.out.1 (by simp) (show bs ≤ w9.drew.heap.size from HI9.out.2.2.2)
            obtain ⟨nd, hnd⟩ : ∃ nd, nd = d.length := ⟨_, rfl⟩
            rw [← hnd] at hv9 hcG kW0 kW1 kF kW2 hL2 hb2 kp2
            have hsep : ∀ k, V.ownBlock = some k → (Value.slice (some ad) n4 c4).ownBlock ≠ some k := by
              obtain ⟨vs, V', h1, h2, h3, h4, h5, h6⟩ := HI9.out.1
              have e1 := (h1.cellAt' hv9 (by rw [hnd, h2])).symm.trans kW0
              have e2 : V' = V := by injection e1
              subst e2
              exact ws_sep (rs := rs) (b' := 0) h5 HI.out.apart.2
            have hro := kp2 (OwnL.below HI9.out.2.1 (Below.drew (Below.refl _ _))) hsep
            have hND : nd ≤ 10000000 := by have := HDL.out.1; omega
            obtain ⟨W1, hW1⟩ : ∃ W1, W1 = w9.drew.alloc (.cells #[.int .i32 (r : Int)] 21) := ⟨_, rfl⟩
            obtain ⟨n0, hn0⟩ : ∃ n0, n0 = w9.drew.heap.size := ⟨_, rfl⟩
            rw [← hW1] at kW1 r1
            rw [← hn0, hV8] at r1
            have hnd1 : (nd : Int) < (nd : Int) + 1 := by omega
            have hwr : IntKind.i64.wrap (nd : Int) = (nd : Int) := by rw [IntKind.wrap_i64]; omega
            have hnd2 : nd < nd + 1 := by omega
            have kR : w9.drew.cell? (ad.add ix) = some (.int .i32 (r : Int)) := by
              have hrd : Rd encR w9 (some ad) n4 rs := by
                obtain ⟨A5, c5, e, _, _, h⟩ := HI9.out.2.1.rd
                injection e with e1 e2 e3
                subst e1
                rw [HN4.out]
                exact h
              obtain ⟨ad', r', e, HX', k1⟩ := rdR_at hrd (k := ix) (by omega)
              injection e with e
              subst e
              obtain ⟨_, e1⟩ := HX.out
              obtain ⟨_, e2⟩ := HX'.out
              rw [← e1, e2]
              exact k1
            have hj1 : (ix : Int) < (n4 : Int) := hlt
            have hj2 : ix < n4 := hil
            have HFin : Hid (WdI w bs (.slice (some ⟨G, 0, none⟩) (nd + 1) cG) (.slice (some ad) n4 c4) rs (ix + 1) (W2.setCell ⟨G, nd, none⟩ v1)) := Lib.hid ⟨HI9.out.2.2.1.trans ((Below.drew (Below.refl _ _)).trans (hb2.mono HBS.out)), hro, ⟨Nat.le_trans HI9.out.2.2.2 hb2.size, HI.out.apart.2⟩, by
              rw [HST2.out]
              simp only
              refine ⟨fun h => absurd h (by simp), fun _ => ?_⟩
              rw [HC0.out]; exact hL2⟩
            have HV9 := Lib.hid hv9
            subst hv9
            clear hL2 hb2 kp2 hsep hro hone hnd
            refine wp_region_flowJ (by kernel_rfl) (WdF G nd cG ad n4 c4 ix r n0 V v1) (fun _ _ => True) (fun S wq => Det3 w9.drew W1 W2 (W2.setCell ⟨G, nd, none⟩ v1) S wq) (WdF.keep G nd cG ad n4 c4 ix r n0 V v1) ?_ (by kernel_rfl) (by kernel_rfl) ?_ ?_
            case refine_1 => exact ⟨fun _ => rfl, fun h => h.elim, fun h => h.elim, fun h => h.elim⟩
            case refine_2 =>
              intro i o ho ρ y w2 S hJ hnS hneeds hcl hreg hn hf hyb hyn
              have hi := (Array.getElem?_eq_some_iff.1 ho).1
              rcases Nat.lt_or_ge i 18 with hi2 | hi2
              case inr => simp at hi; omega
              obtain rfl | rfl | rfl | rfl | rfl | rfl | rfl | rfl | rfl | rfl | rfl | rfl | rfl | rfl | rfl | rfl | rfl | rfl : i = 0 ∨ i = 1 ∨ i = 2 ∨ i = 3 ∨ i = 4 ∨ i = 5 ∨ i = 6 ∨ i = 7 ∨ i = 8 ∨ i = 9 ∨ i = 10 ∨ i = 11 ∨ i = 12 ∨ i = 13 ∨ i = 14 ∨ i = 15 ∨ i = 16 ∨ i = 17 := by omega
              · cases ho
                rw [if_pos (show Region.wanted _ y = true from rfl)]
                have f3 : ρ (.tmp 3) = .slice (some ⟨G, 0, none⟩) (nd + 1) cG := hf 3 (by kernel_rfl)
                exact ⟨f3, trivial, hJ.next (by decide) (by decide) (by decide)⟩
              · cases ho
                rw [if_pos (show Region.wanted _ y = true from rfl)]
                have f3 : ρ (.tmp 3) = .slice (some ⟨G, 0, none⟩) (nd + 1) cG := hf 3 (by kernel_rfl)
                exact ⟨f3, trivial, hJ.next (by decide) (by decide) (by decide)⟩
              · cases ho
                rw [if_pos (show Region.wanted _ y = true from rfl)]
                have f35 : ρ (.tmp 35) = .slice (some ⟨G, 0, none⟩) (nd + 1) cG := hn 1 _ 35 rfl (by kernel_rfl) rfl
                exact does_ok (v := .int .i64 ((nd : Int) + 1)) (w' := w2) (by simp [go_sem, hreg.const, f35]) ⟨rfl, trivial, hJ.next (by decide) (by decide) (by decide)⟩
              · cases ho
                rw [if_pos (show Region.wanted _ y = true from rfl)]
                have f36 : ρ (.tmp 36) = .int .i64 ((nd : Int) + 1) := hn 2 _ 36 rfl (by kernel_rfl) rfl
                exact does_ok (v := .int .i64 (nd : Nat)) (w' := w2) (by simp [go_sem, hreg.const, f36, hwr]) ⟨rfl, trivial, hJ.next (by decide) (by decide) (by decide)⟩
              · cases ho
                rw [if_pos (show Region.wanted _ y = true from rfl)]
                have f3 : ρ (.tmp 3) = .slice (some ⟨G, 0, none⟩) (nd + 1) cG := hf 3 (by kernel_rfl)
                exact ⟨f3, trivial, hJ.next (by decide) (by decide) (by decide)⟩
              · cases ho
                rw [if_pos (show Region.wanted _ y = true from rfl)]
                have f3 : ρ (.tmp 3) = .slice (some ⟨G, 0, none⟩) (nd + 1) cG := hf 3 (by kernel_rfl)
                exact ⟨f3, trivial, hJ.next (by decide) (by decide) (by decide)⟩
              · cases ho
                rw [if_pos (show Region.wanted _ y = true from rfl)]
                have f39 : ρ (.tmp 39) = .slice (some ⟨G, 0, none⟩) (nd + 1) cG := hn 5 _ 39 rfl (by kernel_rfl) rfl
                exact does_ok (v := .int .i64 ((nd : Int) + 1)) (w' := w2) (by simp [go_sem, hreg.const, f39]) ⟨rfl, trivial, hJ.next (by decide) (by decide) (by decide)⟩
              · cases ho
                rw [if_pos (show Region.wanted _ y = true from rfl)]
                have f40 : ρ (.tmp 40) = .int .i64 ((nd : Int) + 1) := hn 6 _ 40 rfl (by kernel_rfl) rfl
                exact does_ok (v := .int .i64 (nd : Nat)) (w' := w2) (by simp [go_sem, hreg.const, f40, hwr]) ⟨rfl, trivial, hJ.next (by decide) (by decide) (by decide)⟩
              · cases ho
                rw [if_pos (show Region.wanted _ y = true from rfl)]
                have f38 : ρ (.tmp 38) = .slice (some ⟨G, 0, none⟩) (nd + 1) cG := hn 4 _ 38 rfl (by kernel_rfl) rfl
                have f41 : ρ (.tmp 41) = .int .i64 (nd : Nat) := hn 7 _ 41 rfl (by kernel_rfl) rfl
                exact does_ok (v := .pointer (some ⟨G, nd, none⟩)) (w' := w2) (by simp [go_sem, hreg.const, f38, f41, hnd1, hnd2, hcG]) ⟨rfl, trivial, hJ.next (by decide) (by decide) (by decide)⟩
              · cases ho
                rw [if_pos (show Region.wanted _ y = true from rfl)]
                have f42 : ρ (.tmp 42) = .pointer (some ⟨G, nd, none⟩) := hn 8 _ 42 rfl (by kernel_rfl) rfl
                have hn15 : ¬ S 15 := fun h => hnS (hcl 15 _ rfl h 9 (by kernel_rfl))
                have k0 : w2.cell? ⟨G, nd, none⟩ = some V := by
                  by_cases h14 : S 14
                  · rw [hJ.a h14 hn15]; exact kW1
                  · rw [hJ.z h14]; exact kW0
                exact does_ok (v := V) (w' := w2) (by simp [go_sem, hreg.const, f42, k0]) ⟨rfl, trivial, hJ.next (by decide) (by decide) (by decide)⟩
              · cases ho
                rw [if_pos (show Region.wanted _ y = true from rfl)]
                have f4 : ρ (.tmp 4) = .slice (some ad) n4 c4 := hf 4 (by kernel_rfl)
                exact ⟨f4, trivial, hJ.next (by decide) (by decide) (by decide)⟩
              · cases ho
                rw [if_pos (show Region.wanted _ y = true from rfl)]
                have f5 : ρ (.tmp 5) = .int .i64 (ix : Nat) := hf 5 (by kernel_rfl)
                exact ⟨f5, trivial, hJ.next (by decide) (by decide) (by decide)⟩
              · cases ho
                rw [if_pos (show Region.wanted _ y = true from rfl)]
                have f44 : ρ (.tmp 44) = .slice (some ad) n4 c4 := hn 10 _ 44 rfl (by kernel_rfl) rfl
                have f45 : ρ (.tmp 45) = .int .i64 (ix : Nat) := hn 11 _ 45 rfl (by kernel_rfl) rfl
                exact does_ok (v := .pointer (some (ad.add ix))) (w' := w2) (by simp [go_sem, hreg.const, f44, f45, hj1, hj2]) ⟨rfl, trivial, hJ.next (by decide) (by decide) (by decide)⟩
              · cases ho
                rw [if_pos (show Region.wanted _ y = true from rfl)]
                have f46 : ρ (.tmp 46) = .pointer (some (ad.add ix)) := hn 12 _ 46 rfl (by kernel_rfl) rfl
                have hn14 : ¬ S 14 := fun h => hnS (hcl 14 _ rfl h 13 (by kernel_rfl))
                have k0 : w2.cell? (ad.add ix) = some (.int .i32 (r : Int)) := by rw [hJ.z hn14]; exact kR
                exact does_ok (v := .int .i32 (r : Int)) (w' := w2) (by simp [go_sem, hreg.const, f46, k0]) ⟨rfl, trivial, hJ.next (by decide) (by decide) (by decide)⟩
              · cases ho
                rw [if_pos (show Region.wanted _ y = true from rfl)]
                have f47 : ρ (.tmp 47) = .int .i32 (r : Int) := hn 13 _ 47 rfl (by kernel_rfl) rfl
                have hn15 : ¬ S 15 := fun h => hnS (hcl 15 _ rfl h 14 (by kernel_rfl))
                have hn17 : ¬ S 17 := fun h => hn15 (hcl 17 _ rfl h 15 (by kernel_rfl))
                obtain rfl := hJ.z hnS
                exact does_ok (v := .slice (some ⟨n0, 0, none⟩) 1 1) (w' := W1) (by rw [hW1, hn0]; simp [go_sem, hreg.const, f47]) ⟨rfl, trivial, hJ.al hn15 hn17⟩
              · cases ho
                rw [if_pos (show Region.wanted _ y = true from rfl)]
                have f43 : ρ (.tmp 43) = V := hn 9 _ 43 rfl (by kernel_rfl) rfl
                have f48 : ρ (.tmp 48) = .slice (some ⟨n0, 0, none⟩) 1 1 := hn 14 _ 48 rfl (by kernel_rfl) rfl
                have h14 : S 14 := hneeds 14 (by kernel_rfl)
                have hn17 : ¬ S 17 := fun h => hnS (hcl 17 _ rfl h 15 (by kernel_rfl))
                obtain rfl := (hJ.a h14 hnS).symm
                exact does_ok (v := v1) (w' := W2) (by simp only [execOp, List.getElem_toArray, List.getElem_cons_succ, List.getElem_cons_zero, resolve, invoke, builtin, Sem.run_bind, Sem.run_pure, Result.andThen_ok, List.map_toArray, List.map_cons, List.map_nil, f43, f48, hV8, r1]) ⟨rfl, trivial, hJ.ap h14 hn17⟩
              · cases ho
                rw [if_pos (show Region.wanted _ y = true from rfl)]
                have f34 : ρ (.tmp 34) = .slice (some ⟨G, 0, none⟩) (nd + 1) cG := hn 0 _ 34 rfl (by kernel_rfl) rfl
                have f37 : ρ (.tmp 37) = .int .i64 (nd : Nat) := hn 3 _ 37 rfl (by kernel_rfl) rfl
                exact does_ok (v := .pointer (some ⟨G, nd, none⟩)) (w' := w2) (by simp [go_sem, hreg.const, f34, f37, hnd1, hnd2, hcG]) ⟨rfl, trivial, hJ.next (by decide) (by decide) (by decide)⟩
              · cases ho
                rw [if_pos (show Region.wanted _ y = true from rfl)]
                have f49 : ρ (.tmp 49) = v1 := hn 15 _ 49 rfl (by kernel_rfl) rfl
                have f50 : ρ (.tmp 50) = .pointer (some ⟨G, nd, none⟩) := hn 16 _ 50 rfl (by kernel_rfl) rfl
                have h15 : S 15 := hneeds 15 (by kernel_rfl)
                obtain rfl := (hJ.b h15 hnS).symm
                exact does_skip (w' := W2.setCell ⟨G, nd, none⟩ v1) (by simp [go_sem, f49, f50, kF, kW2, hv1]) ⟨rfl, trivial, hJ.st h15 (hcl 15 _ rfl h15 14 (by kernel_rfl))⟩
            case refine_3 =>
              intro a wz S hJ hall hd3 hs hfacts hrest
              have q36 : a.tmps.getD 36 undef = .int .i64 ((nd : Int) + 1) := hfacts 2 _ 36 rfl rfl
              have ha := frame_of hd3 hs hrest [34, 35, 36, 37, 38, 39, 40, 41, 42, 43, 44, 45, 46, 47, 48, 49, 50] (by kernel_rfl)
              simp only [q36, List.foldl, List.setIfInBounds_toArray, List.set_cons_succ, List.set_cons_zero] at ha
              clear q36 hd3 hs hfacts hrest
              generalize a.tmps.getD = gg at ha
              subst ha
              obtain rfl := hJ.c (hall 17 (by decide))
              clear hJ hall kW0 kW1 r1 kF kW2 kR hW1 hn0 hv1 hV8
              go_wp2
              exact ⟨⟨ix + 1, by omega, by simp; try go_num, HFin⟩, by simp [intOf]; try omega⟩
        · -- it goes on
          have hprev : ∃ ix' r' : Nat, ix = ix' + 1 ∧ wr.cell? (ad.add ix') = some (.int .i32 (r' : Int)) ∧ letB (r' : Nat) = true := by
            have hpos : 0 < ix := by
              rcases Nat.eq_zero_or_pos ix with h | h
              · exact absurd (by rw [HCU.out, h]; rfl) hc0
              · exact h
            obtain ⟨ix', rfl⟩ : ∃ ix', ix = ix' + 1 := ⟨ix - 1, by omega⟩
            have hrd : Rd encR wr (some ad) n4 rs := by
              obtain ⟨A5, c5, e, _, _, h⟩ := HI.out.runes.rd
              injection e with e1 e2 e3
              subst e1
              rw [HN4.out]
              exact h
            obtain ⟨ad', r', e, HX', k1⟩ := rdR_at hrd (k := ix') (by omega)
            injection e with e
            subst e
            refine ⟨ix', r', rfl, k1, ?_⟩
            cases hb : letB (r' : Nat) with
            | true => rfl
            | false => exact absurd (by rw [HCU.out]; exact (wdF_none HX'.out).2 hb) hc0
          have HI9 : Hid (WsL wr bs u3 d cu ∧ OwnL encR 21 wr w.heap.size (.slice (some ad) n4 c4) rs ∧ Below w.heap.size w wr ∧ bs ≤ wr.heap.size) := Lib.hid ⟨HOut.out.2 hc0, HI.out.runes, HI.out.below, HI.out.apart.1⟩
          clear hc0
          obtain ⟨ix', r', h0, k1, hnl⟩ := hprev
          have g0 : ((ix : Int) == 0) = false := by simp; omega
          have gi : (ix : Int) - 1 = (ix' : Int) := by omega
          have him : ix' < n4 := by omega
          have him2 : (ix' : Int) < (n4 : Int) := by omega
          have C2 := Lib.hid (refLetter_t hnl)
          clear h0 hnl
          go_wp2_with fail
          refine (C.out wr).mono ?_
          rintro e wz ⟨rfl, h9⟩
          obtain rfl := h9.symm
          go_wp2_with fail
          refine (C2.out wr).mono ?_
          rintro e wz ⟨rfl, h9⟩
          obtain rfl := h9.symm
          go_wp2_with fail
          clear k0 k1 C C2 g0 gi him him2
          obtain ⟨G, cG, V, v1, W2, hv9, hcG, kW0, kW1, r1, kF, kW2, hone, ⟨A', n', c', hv1⟩, ⟨A8, n8, c8, hV8⟩, hL2, hb2, kp2⟩ := wsL_grow (w := wr.drew) (HI9.out.1.below (Below.drew (Below.refl _ _))) r HDL.out.1 HDL.out.2 (show bs ≤ wr.drew.heap.size from HI9.out.2.2.2)
          obtain ⟨nd, hnd⟩ : ∃ nd, nd = d.length := ⟨_, rfl⟩
          rw [← hnd] at hv9 hcG kW0 kW1 kF kW2 hL2 hb2 kp2
          have hsep : ∀ k, V.ownBlock = some k → (Value.slice (some ad) n4 c4).ownBlock ≠ some k := by
            obtain ⟨vs, V', h1, h2, h3, h4, h5, h6⟩ := HI9.out.1
            have e1 := (h1.cellAt' hv9 (by rw [hnd, h2])).symm.trans kW0
            have e2 : V' = V := by injection e1
            subst e2
            exact ws_sep (rs := rs) (b' := 0) h5 HI.out.apart.2
          have hro := kp2 (OwnL.below HI9.out.2.1 (Below.drew (Below.refl _ _))) hsep
          have hND : nd ≤ 10000000 := by have := HDL.out.1; omega
          obtain ⟨W1, hW1⟩ : ∃ W1, W1 = wr.drew.alloc (.cells #[.int .i32 (r : Int)] 21) := ⟨_, rfl⟩
          obtain ⟨n0, hn0⟩ : ∃ n0, n0 = wr.drew.heap.size := ⟨_, rfl⟩
          rw [← hW1] at kW1 r1
          rw [← hn0, hV8] at r1
          have hnd1 : (nd : Int) < (nd : Int) + 1 := by omega
          have hwr : IntKind.i64.wrap (nd : Int) = (nd : Int) := by rw [IntKind.wrap_i64]; omega
          have hnd2 : nd < nd + 1 := by omega
          have kR : wr.drew.cell? (ad.add ix) = some (.int .i32 (r : Int)) := by
            have hrd : Rd encR wr (some ad) n4 rs := by
              obtain ⟨A5, c5, e, _, _, h⟩ := HI9.out.2.1.rd
              injection e with e1 e2 e3
              subst e1
              rw [HN4.out]
              exact h
            obtain ⟨ad', r', e, HX', k1⟩ := rdR_at hrd (k := ix) (by omega)
            injection e with e
            subst e
            obtain ⟨_, e1⟩ := HX.out
            obtain ⟨_, e2⟩ := HX'.out
            rw [← e1, e2]
            exact k1
          have hj1 : (ix : Int) < (n4 : Int) := hlt
          have hj2 : ix < n4 := hil
          have HFin : Hid (WdI w bs (.slice (some ⟨G, 0, none⟩) (nd + 1) cG) (.slice (some ad) n4 c4) rs (ix + 1) (W2.setCell ⟨G, nd, none⟩ v1)) := Lib.hid ⟨HI9.out.2.2.1.trans ((Below.drew (Below.refl _ _)).trans (hb2.mono HBS.out)), hro, ⟨Nat.le_trans HI9.out.2.2.2 hb2.size, HI.out.apart.2⟩, by
            rw [HST2.out]
            simp only
            refine ⟨fun h => absurd h (by simp), fun _ => ?_⟩
            exact hL2⟩
          have HV9 := Lib.hid hv9
          subst hv9
          clear hL2 hb2 kp2 hsep hro hone hnd
          refine wp_region_flowJ (by kernel_rfl) (WdF G nd cG ad n4 c4 ix r n0 V v1) (fun _ _ => True) (fun S wq => Det3 wr.drew W1 W2 (W2.setCell ⟨G, nd, none⟩ v1) S wq) (WdF.keep G nd cG ad n4 c4 ix r n0 V v1) ?_ (by kernel_rfl) (by kernel_rfl) ?_ ?_
          case refine_1 => exact ⟨fun _ => rfl, fun h => h.elim, fun h => h.elim, fun h => h.elim⟩
          case refine_2 =>
            intro i o ho ρ y w2 S hJ hnS hneeds hcl hreg hn hf hyb hyn
            have hi := (Array.getElem?_eq_some_iff.1 ho).1
            rcases Nat.lt_or_ge i 18 with hi2 | hi2
            case inr => simp at hi; omega
            obtain rfl | rfl | rfl | rfl | rfl | rfl | rfl | rfl | rfl | rfl | rfl | rfl | rfl | rfl | rfl | rfl | rfl | rfl : i = 0 ∨ i = 1 ∨ i = 2 ∨ i = 3 ∨ i = 4 ∨ i = 5 ∨ i = 6 ∨ i = 7 ∨ i = 8 ∨ i = 9 ∨ i = 10 ∨ i = 11 ∨ i = 12 ∨ i = 13 ∨ i = 14 ∨ i = 15 ∨ i = 16 ∨ i = 17 := by omega
            · cases ho
              rw [if_pos (show Region.wanted _ y = true from rfl)]
              have f3 : ρ (.tmp 3) = .slice (some ⟨G, 0, none⟩) (nd + 1) cG := hf 3 (by kernel_rfl)
              exact ⟨f3, trivial, hJ.next (by decide) (by decide) (by decide)⟩
            · cases ho
              rw [if_pos (show Region.wanted _ y = true from rfl)]
              have f3 : ρ (.tmp 3) = .slice (some ⟨G, 0, none⟩) (nd + 1) cG := hf 3 (by kernel_rfl)
              exact ⟨f3, trivial, hJ.next (by decide) (by decide) (by decide)⟩
            · cases ho
              rw [if_pos (show Region.wanted _ y = true from rfl)]
              have f35 : ρ (.tmp 35) = .slice (some ⟨G, 0, none⟩) (nd + 1) cG := hn 1 _ 35 rfl (by kernel_rfl) rfl
              exact does_ok (v := .int .i64 ((nd : Int) + 1)) (w' := w2) (by simp [go_sem, hreg.const, f35]) ⟨rfl, trivial, hJ.next (by decide) (by decide) (by decide)⟩
            · cases ho
              rw [if_pos (show Region.wanted _ y = true from rfl)]
              have f36 : ρ (.tmp 36) = .int .i64 ((nd : Int) + 1) := hn 2 _ 36 rfl (by kernel_rfl) rfl
              exact does_ok (v := .int .i64 (nd : Nat)) (w' := w2) (by simp [go_sem, hreg.const, f36, hwr]) ⟨rfl, trivial, hJ.next (by decide) (by decide) (by decide)⟩
            · cases ho
              rw [if_pos (show Region.wanted _ y = true from rfl)]
              have f3 : ρ (.tmp 3) = .slice (some ⟨G, 0, none⟩) (nd + 1) cG := hf 3 (by kernel_rfl)
              exact ⟨f3, trivial, hJ.next (by decide) (by decide) (by decide)⟩
            · cases ho
              rw [if_pos (show Region.wanted _ y = true from rfl)]
              have f3 : ρ (.tmp 3) = .slice (some ⟨G, 0, none⟩) (nd + 1) cG := hf 3 (by kernel_rfl)
              exact ⟨f3, trivial, hJ.next (by decide) (by decide) (by decide)⟩
            · cases ho
              rw [if_pos (show Region.wanted _ y = true from rfl)]
              have f39 : ρ (.tmp 39) = .slice (some ⟨G, 0, none⟩) (nd + 1) cG := hn 5 _ 39 rfl (by kernel_rfl) rfl
              exact does_ok (v := .int .i64 ((nd : Int) + 1)) (w' := w2) (by simp [go_sem, hreg.const, f39]) ⟨rfl, trivial, hJ.next (by decide) (by decide) (by decide)⟩
            · cases ho
              rw [if_pos (show Region.wanted _ y = true from rfl)]
              have f40 : ρ (.tmp 40) = .int .i64 ((nd : Int) + 1) := hn 6 _ 40 rfl (by kernel_rfl) rfl
              exact does_ok (v := .int .i64 (nd : Nat)) (w' := w2) (by simp [go_sem, hreg.const, f40, hwr]) ⟨rfl, trivial, hJ.next (by decide) (by decide) (by decide)⟩
            · cases ho
              rw [if_pos (show Region.wanted _ y = true from rfl)]
              have f38 : ρ (.tmp 38) = .slice (some ⟨G, 0, none⟩) (nd + 1) cG := hn 4 _ 38 rfl (by kernel_rfl) rfl
              have f41 : ρ (.tmp 41) = .int .i64 (nd : Nat) := hn 7 _ 41 rfl (by kernel_rfl) rfl
              exact does_ok (v := .pointer (some ⟨G, nd, none⟩)) (w' := w2) (by simp [go_sem, hreg.const, f38, f41, hnd1, hnd2, hcG]) ⟨rfl, trivial, hJ.next (by decide) (by decide) (by decide)⟩
            · cases ho
              rw [if_pos (show Region.wanted _ y = true from rfl)]
              have f42 : ρ (.tmp 42) = .pointer (some ⟨G, nd, none⟩) := hn 8 _ 42 rfl (by kernel_rfl) rfl
              have hn15 : ¬ S 15 := fun h => hnS (hcl 15 _ rfl h 9 (by kernel_rfl))
              have k0 : w2.cell? ⟨G, nd, none⟩ = some V := by
                by_cases h14 : S 14
                · rw [hJ.a h14 hn15]; exact kW1
                · rw [hJ.z h14]; exact kW0
              exact does_ok (v := V) (w' := w2) (by simp [go_sem, hreg.const, f42, k0]) ⟨rfl, trivial, hJ.next (by decide) (by decide) (by decide)⟩
            · cases ho
              rw [if_pos (show Region.wanted _ y = true from rfl)]
              have f4 : ρ (.tmp 4) = .slice (some ad) n4 c4 := hf 4 (by kernel_rfl)
              exact ⟨f4, trivial, hJ.next (by decide) (by decide) (by decide)⟩
            · cases ho
              rw [if_pos (show Region.wanted _ y = true from rfl)]
              have f5 : ρ (.tmp 5) = .int .i64 (ix : Nat) := hf 5 (by kernel_rfl)
              exact ⟨f5, trivial, hJ.next (by decide) (by decide) (by decide)⟩
            · cases ho
              rw [if_pos (show Region.wanted _ y = true from rfl)]
              have f44 : ρ (.tmp 44) = .slice (some ad) n4 c4 := hn 10 _ 44 rfl (by kernel_rfl) rfl
              have f45 : ρ (.tmp 45) = .int .i64 (ix : Nat) := hn 11 _ 45 rfl (by kernel_rfl) rfl
              exact does_ok (v := .pointer (some (ad.add ix))) (w' := w2) (by simp [go_sem, hreg.const, f44, f45, hj1, hj2]) ⟨rfl, trivial, hJ.next (by decide) (by decide) (by decide)⟩
            · cases ho
              rw [if_pos (show Region.wanted _ y = true from rfl)]
              have f46 : ρ (.tmp 46) = .pointer (some (ad.add ix)) := hn 12 _ 46 rfl (by kernel_rfl) rfl
              have hn14 : ¬ S 14 := fun h => hnS (hcl 14 _ rfl h 13 (by kernel_rfl))
              have k0 : w2.cell? (ad.add ix) = some (.int .i32 (r : Int)) := by rw [hJ.z hn14]; exact kR
              exact does_ok (v := .int .i32 (r : Int)) (w' := w2) (by simp [go_sem, hreg.const, f46, k0]) ⟨rfl, trivial, hJ.next (by decide) (by decide) (by decide)⟩
            · cases ho
              rw [if_pos (show Region.wanted _ y = true from rfl)]
              have f47 : ρ (.tmp 47) = .int .i32 (r : Int) := hn 13 _ 47 rfl (by kernel_rfl) rfl
              have hn15 : ¬ S 15 := fun h => hnS (hcl 15 _ rfl h 14 (by kernel_rfl))
              have hn17 : ¬ S 17 := fun h => hn15 (hcl 17 _ rfl h 15 (by kernel_rfl))
              obtain rfl := hJ.z hnS
              exact does_ok (v := .slice (some ⟨n0, 0, none⟩) 1 1) (w' := W1) (by rw [hW1, hn0]; simp [go_sem, hreg.const, f47]) ⟨rfl, trivial, hJ.al hn15 hn17⟩
            · cases ho
              rw [if_pos (show Region.wanted _ y = true from rfl)]
              have f43 : ρ (.tmp 43) = V := hn 9 _ 43 rfl (by kernel_rfl) rfl
              have f48 : ρ (.tmp 48) = .slice (some ⟨n0, 0, none⟩) 1 1 := hn 14 _ 48 rfl (by kernel_rfl) rfl
              have h14 : S 14 := hneeds 14 (by kernel_rfl)
              have hn17 : ¬ S 17 := fun h => hnS (hcl 17 _ rfl h 15 (by kernel_rfl))
              obtain rfl := (hJ.a h14 hnS).symm
              exact does_ok (v := v1) (w' := W2) (by simp only [execOp, List.getElem_toArray, List.getElem_cons_succ, List.getElem_cons_zero, resolve, invoke, builtin, Sem.run_bind, Sem.run_pure, Result.andThen_ok, List.map_toArray, List.map_cons, List.map_nil, f43, f48, hV8, r1]) ⟨rfl, trivial, hJ.ap h14 hn17⟩
            · cases ho
              rw [if_pos (show Region.wanted _ y = true from rfl)]
              have f34 : ρ (.tmp 34) = .slice (some ⟨G, 0, none⟩) (nd + 1) cG := hn 0 _ 34 rfl (by kernel_rfl) rfl
              have f37 : ρ (.tmp 37) = .int .i64 (nd : Nat) := hn 3 _ 37 rfl (by kernel_rfl) rfl
              exact does_ok (v := .pointer (some ⟨G, nd, none⟩)) (w' := w2) (by simp [go_sem, hreg.const, f34, f37, hnd1, hnd2, hcG]) ⟨rfl, trivial, hJ.next (by decide) (by decide) (by decide)⟩
            · cases ho
              rw [if_pos (show Region.wanted _ y = true from rfl)]
              have f49 : ρ (.tmp 49) = v1 := hn 15 _ 49 rfl (by kernel_rfl) rfl
              have f50 : ρ (.tmp 50) = .pointer (some ⟨G, nd, none⟩) := hn 16 _ 50 rfl (by kernel_rfl) rfl
              have h15 : S 15 := hneeds 15 (by kernel_rfl)
              obtain rfl := (hJ.b h15 hnS).symm
              exact does_skip (w' := W2.setCell ⟨G, nd, none⟩ v1) (by simp [go_sem, f49, f50, kF, kW2, hv1]) ⟨rfl, trivial, hJ.st h15 (hcl 15 _ rfl h15 14 (by kernel_rfl))⟩
          case refine_3 =>
            intro a wz S hJ hall hd3 hs hfacts hrest
            have q36 : a.tmps.getD 36 undef = .int .i64 ((nd : Int) + 1) := hfacts 2 _ 36 rfl rfl
            have ha := frame_of hd3 hs hrest [34, 35, 36, 37, 38, 39, 40, 41, 42, 43, 44, 45, 46, 47, 48, 49, 50] (by kernel_rfl)
            simp only [q36, List.foldl, List.setIfInBounds_toArray, List.set_cons_succ, List.set_cons_zero] at ha
            clear q36 hd3 hs hfacts hrest
            generalize a.tmps.getD = gg at ha
            subst ha
            obtain rfl := hJ.c (hall 17 (by decide))
            clear hJ hall kW0 kW1 r1 kF kW2 kR hW1 hn0 hv1 hV8
            go_wp2
            exact ⟨⟨ix + 1, by omega, by simp; try go_num, HFin⟩, by simp [intOf]; try omega⟩
    · have HT : Hid (WsD wr w.heap.size u3 (wordsL l)) := Lib.hid (by
        have h := HI.out.out
        rw [List.take_of_length_le (by rw [← HN4.out]; omega)] at h
        have hw := wdF_words rs
        unfold wordsL
        rw [← HRS.out, ← hw]
        have mono : ∀ d, WsD wr bs u3 d → WsD wr w.heap.size u3 d := fun d ⟨vs, h1, h2, h3, h4⟩ => ⟨vs, h1.mono HBS.out, h2, h3, fun i hi hi' => (h4 i hi hi').mono HBS.out⟩
        by_cases hc0 : (wdF rs).2 = []
        · rw [if_pos hc0, List.append_nil]
          exact mono _ (h.1 hc0)
        · rw [if_neg hc0]
          exact mono _ (h.2 hc0).done)
      go_wp2
      go_ret
      exact ⟨_, rfl, HT.out, HI.out.below⟩
end Go.Proofs.Ytbmdjmnjbflfeaa
