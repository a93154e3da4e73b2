/- The words of a text, by the document. -/
import Derived.Test.YtbmdjmnjbflfeaaRefTm
import Derived.Test.YtbmdjmnjbflfeaaRegJ
namespace Go.Proofs.Ytbmdjmnjbflfeaa
open Go.RowKit Go.Shelf
set_option linter.unusedVariables false
set_option linter.unusedSimpArgs false

/-- Words as they are gathered: those that are done, the one under way. -/
def wdS (s : List (List Nat) × List Nat) (r : Nat) : List (List Nat) × List Nat := if letB (r : Nat) = true then (s.1, s.2 ++ [r]) else if s.2 = [] then (s.1, []) else (s.1 ++ [s.2], [])
def wdF (rs : List Nat) : List (List Nat) × List Nat := rs.foldl wdS ([], [])
theorem wdF_gen : ∀ (rs : List Nat) (d : List (List Nat)) (c : List Nat), (rs.foldl wdS (d, c)).1 ++ (if (rs.foldl wdS (d, c)).2 = [] then [] else [(rs.foldl wdS (d, c)).2]) = d ++ wdG rs c
  | [], d, c => by unfold wdG; split <;> simp_all
  | r :: rs, d, c => by
    rw [List.foldl_cons]
    unfold wdG
    by_cases hl : letB (r : Nat) = true
    · rw [if_pos hl, show wdS (d, c) r = (d, c ++ [r]) from by simp [wdS, hl]]
      exact wdF_gen rs d (c ++ [r])
    · rw [if_neg hl]
      by_cases hc : c = []
      · rw [if_pos hc, show wdS (d, c) r = (d, []) from by simp [wdS, hl, hc]]
        exact wdF_gen rs d []
      · rw [if_neg hc, show wdS (d, c) r = (d ++ [c], []) from by simp [wdS, hl, hc], wdF_gen rs (d ++ [c]) []]
        simp
theorem wdF_words (rs : List Nat) : (wdF rs).1 ++ (if (wdF rs).2 = [] then [] else [(wdF rs).2]) = wdG rs [] := by
  have := wdF_gen rs [] []
  rw [List.nil_append] at this
  exact this
theorem wdF_snoc (rs : List Nat) (r : Nat) : wdF (rs ++ [r]) = wdS (wdF rs) r := by simp [wdF, List.foldl_append]
theorem wdF_take {rs : List Nat} {i r : Nat} (hx : ∃ hl : i < rs.length, rs[i] = r) : wdF (rs.take (i + 1)) = wdS (wdF (rs.take i)) r := by
  obtain ⟨hl, rfl⟩ := hx
  rw [List.take_succ_eq_append_getElem hl, wdF_snoc]
/-- No word is under way just if no letter stands ahead. -/
theorem wdF_none {rs : List Nat} {i r : Nat} (hx : ∃ hl : i < rs.length, rs[i] = r) : (wdF (rs.take (i + 1))).2 = [] ↔ letB (r : Nat) = false := by
  rw [wdF_take hx]
  unfold wdS
  by_cases hl : letB (r : Nat) = true
  · simp [hl]
  · by_cases hc : (wdF (rs.take i)).2 = [] <;> simp [hl, hc]
theorem infoSl : (Try.prog.info? 47).map (fun i => (i.zero, i.size, i.bytes)) = some (some (.slice none 0 0), 1, 24) := by kernel_rfl
abbrev encV : Value → Value := fun v => v
/-- Words that are done. -/
def WsD (w : World) (base : Nat) (v : Value) (d : List (List Nat)) : Prop := ∃ vs : List Value, OwnL encV 47 w base v vs ∧ vs.length = d.length ∧ (∀ u ∈ vs, u.oneCell' = true) ∧ ∀ i (h : i < vs.length) (h' : i < d.length), OwnL encR 21 w base vs[i] d[i]
/-- .. and one under way. -/
def WsL (w : World) (base : Nat) (v : Value) (d : List (List Nat)) (c : List Nat) : Prop := ∃ (vs : List Value) (V : Value), OwnL encV 47 w base v (vs ++ [V]) ∧ vs.length = d.length ∧ (∀ u ∈ vs ++ [V], u.oneCell' = true) ∧ (∀ i (h : i < vs.length) (h' : i < d.length), OwnL encR 21 w base vs[i] d[i]) ∧ OwnL encR 21 w base V c ∧ ∀ i (h : i < vs.length), ∀ k, V.ownBlock = some k → vs[i].ownBlock ≠ some k
theorem WsL.done {w : World} {base : Nat} {v : Value} {d : List (List Nat)} {c : List Nat} (h : WsL w base v d c) : WsD w base v (d ++ [c]) := by
  obtain ⟨vs, V, h1, h2, h3, h4, h5, h6⟩ := h
  refine ⟨vs ++ [V], h1, by simp [h2], h3, fun i hi hi' => ?_⟩
  rcases Nat.lt_or_ge i vs.length with hlt | hge
  · rw [List.getElem_append_left hlt, List.getElem_append_left (by omega)]
    exact h4 i hlt (by omega)
  · have e : i = vs.length := by simp at hi; omega
    subst e
    rw [List.getElem_append_right (Nat.le_refl _), List.getElem_append_right (by omega)]
    simpa [h2] using h5
theorem WsD.below {w w' : World} {base : Nat} {v : Value} {d : List (List Nat)} (h : WsD w base v d) (hb : Below w.heap.size w w') : WsD w' base v d := by
  obtain ⟨vs, h1, h2, h3, h4⟩ := h
  exact ⟨vs, h1.below hb, h2, h3, fun i hi hi' => (h4 i hi hi').below hb⟩
theorem WsL.below {w w' : World} {base : Nat} {v : Value} {d : List (List Nat)} {c : List Nat} (h : WsL w base v d c) (hb : Below w.heap.size w w') : WsL w' base v d c := by
  obtain ⟨vs, V, h1, h2, h3, h4, h5, h6⟩ := h
  exact ⟨vs, V, h1.below hb, h2, h3, fun i hi hi' => (h4 i hi hi').below hb, h5.below hb, h6⟩
/-- The world as the last word grows: as it is, with the new row of one, behind the append, behind the store. -/
structure Det3 (W0 W1 W2 W3 : World) (S : Nat → Prop) (wr : World) : Prop where
  z : ¬ S 14 → wr = W0
  a : S 14 → ¬ S 15 → wr = W1
  b : S 15 → ¬ S 17 → wr = W2
  c : S 17 → wr = W3
theorem Det3.next {W0 W1 W2 W3 wr : World} {S : Nat → Prop} (h : Det3 W0 W1 W2 W3 S wr) {i : Nat} (h1 : i ≠ 14) (h2 : i ≠ 15) (h3 : i ≠ 17) : Det3 W0 W1 W2 W3 (fun k => k = i ∨ S k) wr :=
  ⟨fun hs => h.z fun h' => hs (.inr h'), fun ha hb => h.a (ha.resolve_left (Ne.symm h1)) fun h' => hb (.inr h'), fun hb hc => h.b (hb.resolve_left (Ne.symm h2)) fun h' => hc (.inr h'), fun hc => h.c (hc.resolve_left (Ne.symm h3))⟩
theorem Det3.al {W0 W1 W2 W3 : World} {S : Nat → Prop} (h : Det3 W0 W1 W2 W3 S W0) (hb : ¬ S 15) (hc : ¬ S 17) : Det3 W0 W1 W2 W3 (fun k => k = 14 ∨ S k) W1 :=
  ⟨fun hs => absurd (.inl rfl) hs, fun _ _ => rfl, fun h' => absurd (h'.resolve_left (by decide)) hb, fun h' => absurd (h'.resolve_left (by decide)) hc⟩
theorem Det3.ap {W0 W1 W2 W3 : World} {S : Nat → Prop} (h : Det3 W0 W1 W2 W3 S W1) (ha : S 14) (hc : ¬ S 17) : Det3 W0 W1 W2 W3 (fun k => k = 15 ∨ S k) W2 :=
  ⟨fun hs => absurd (.inr ha) hs, fun _ hs => absurd (.inl rfl) hs, fun _ _ => rfl, fun h' => absurd (h'.resolve_left (by decide)) hc⟩
theorem Det3.st {W0 W1 W2 : World} {G nd : Nat} {v1 : Value} {S : Nat → Prop} (h : Det3 W0 W1 W2 (W2.setCell ⟨G, nd, none⟩ v1) S W2) (hb : S 15) (h14 : S 14) : Det3 W0 W1 W2 (W2.setCell ⟨G, nd, none⟩ v1) (fun k => k = 17 ∨ S k) (W2.setCell ⟨G, nd, none⟩ v1) :=
  ⟨fun hs => absurd (.inr h14) hs, fun _ hs => absurd (.inr hb) hs, fun _ hs => absurd (.inl rfl) hs, fun _ => rfl⟩
theorem own_cell {α : Type} {enc : α → Value} {e : TypeId} {w : World} {base : Nat} {v : Value} {l : List α} (h : OwnL enc e w base v l) : ∀ k, v.ownBlock = some k → ∃ C fr, w.heap[k]? = some (.cells C e fr) := by
  intro k hk
  rcases h.2 with ⟨rfl, _⟩ | ⟨g, cap, cur, rfl, _, hh, _⟩
  · simp [Value.ownBlock] at hk
  · simp only [Value.ownBlock, Option.some.injEq] at hk
    subst hk
    exact ⟨_, _, hh⟩
theorem OwnL.cellAt' {w : World} {base : Nat} {v : Value} {vs : List Value} {V : Value} (h : OwnL encV 47 w base v (vs ++ [V])) {G n c nd : Nat} (hv : v = .slice (some ⟨G, 0, none⟩) n c) (hn : nd = vs.length) : w.cell? ⟨G, nd, none⟩ = some V := by
  subst hn
  obtain ⟨A, c', e, _, _, h3⟩ := h.rd
  rw [hv] at e
  injection e with e1 e2 e3
  subst e1
  obtain ⟨ad, e4, hc⟩ := h3.cell (by simp)
  injection e4 with e4
  subst e4
  have := hc vs.length (by simp)
  rw [add_lit0] at this
  simpa using this
/-- A new word begins: a nil slice is put behind. -/
theorem wsD_new {w : World} {base : Nat} {v : Value} {d : List (List Nat)} (h : WsD w base v d) (hl : d.length ≤ 10000000) (hb : base ≤ w.heap.size) : ∃ v1 w1, (Builtin.append_ #[62, 62] 62 #[v, .slice (some ⟨w.heap.size, 0, none⟩) 1 1]).run Try.prog (w.alloc (.cells #[.slice none 0 0] 47)) = .ok v1 w1 ∧ WsL w1 base v1 d [] ∧ (∀ {b' : Nat} {L : List Nat} {A : Option Addr} {n c : Nat}, OwnL encR 21 w b' (.slice A n c) L → OwnL encR 21 w1 b' (.slice A n c) L) ∧ Below base w w1 := by
  obtain ⟨vs, h1, h2, h3, h4⟩ := h
  have hbA : Below w.heap.size w (w.alloc (.cells #[.slice none 0 0] 47)) := (Below.refl _ _).alloc (Nat.le_refl _) _
  have hR := Rd.new w 47 [Value.slice none 0 0] #[.slice none 0 0] 1 (0, 0) (enc := encV) rfl rfl (by decide)
  have hA := h1.below hbA
  have one : ∀ x : {u : Value // u.oneCell' = true}, (x.1).oneCell' = true := fun x => x.2
  obtain ⟨vt, rfl⟩ : ∃ vt : List {u : Value // u.oneCell' = true}, vs = vt.map (·.1) := ⟨vs.attach.map fun x => ⟨x.1, h3 x.1 x.2⟩, by simp⟩
  have hA' : OwnL (fun x : {u : Value // u.oneCell' = true} => x.1) 47 (w.alloc (.cells #[.slice none 0 0] 47)) base v vt := by
    have := hA
    unfold OwnL at this ⊢
    rw [List.length_map, List.map_map] at this
    exact this
  have hR' : Rd (fun x : {u : Value // u.oneCell' = true} => x.1) (w.alloc (.cells #[.slice none 0 0] 47)) (some ⟨w.heap.size, 0, none⟩) 1 [⟨.slice none 0 0, rfl⟩] :=
    Rd.new w 47 [⟨.slice none 0 0, rfl⟩] #[.slice none 0 0] 1 (0, 0) (enc := fun x : {u : Value // u.oneCell' = true} => x.1) rfl rfl (by decide)
  obtain ⟨v1, w1, r1, o1, g1, at1⟩ := run_append_rd (P := Try.prog) (c := 1) base 62 62 47 (.slice none 0 0) 24 Try.underlying62 infoSl rfl (by decide) one hA' hR' (by rw [List.length_map] at h2; omega) (by simp; omega)
  have keep : ∀ {b' : Nat} {L : List Nat} {u : Value}, OwnL encR 21 w b' u L → OwnL encR 21 w1 b' u L := by
    intro b' L u ho
    refine (ho.below hbA).kept g1 ?_
    cases hu : u.ownBlock with
    | none => exact .inl rfl
    | some k =>
      right
      intro e
      obtain ⟨C, fr, hc⟩ := own_cell (ho.below hbA) k hu
      obtain ⟨C', fr', hc'⟩ := own_cell hA' k e.symm
      rw [hc] at hc'
      cases hc'
  refine ⟨v1, w1, r1, ⟨vt.map (·.1), .slice none 0 0, ?_, h2, fun u hu => ?_, fun i hi hi' => keep (h4 i hi hi'), OwnL.nil _ _ _ _, fun i hi k hk => by simp [Value.ownBlock] at hk⟩, fun ho => keep ho, (hbA.mono hb).grown g1 (by simp; omega) (fun j hj => (hA'.base j hj).1)⟩
  · have := o1
    unfold OwnL at this ⊢
    rw [List.map_append] at this
    simpa using this
  · rcases List.mem_append.1 hu with hu | hu
    · exact h3 u hu
    · simp at hu
      subst hu
      rfl
/-- The last word grows. -/
theorem wsL_grow {w : World} {base : Nat} {v : Value} {d : List (List Nat)} {c : List Nat} (h : WsL w base v d c) (r : Nat) (hl : d.length ≤ 10000000) (hcl : c.length ≤ 10000000) (hb : base ≤ w.heap.size) :
    ∃ G cG V v1 W2, v = .slice (some ⟨G, 0, none⟩) (d.length + 1) cG ∧ d.length + 1 ≤ cG ∧ w.cell? ⟨G, d.length, none⟩ = some V ∧ (w.alloc (.cells #[.int .i32 (r : Int)] 21)).cell? ⟨G, d.length, none⟩ = some V ∧
      (Builtin.append_ #[47, 47] 47 #[V, .slice (some ⟨w.heap.size, 0, none⟩) 1 1]).run Try.prog (w.alloc (.cells #[.int .i32 (r : Int)] 21)) = .ok v1 W2 ∧
      W2.frozen? ⟨G, d.length, none⟩ = false ∧ W2.cell? ⟨G, d.length, none⟩ = some V ∧ v1.oneCell' = true ∧ (∃ A' n' c', v1 = .slice A' n' c') ∧ (∃ A' n' c', V = .slice A' n' c') ∧
      WsL (W2.setCell ⟨G, d.length, none⟩ v1) base (.slice (some ⟨G, 0, none⟩) (d.length + 1) cG) d (c ++ [r]) ∧ Below base w (W2.setCell ⟨G, d.length, none⟩ v1) ∧
      ∀ {b' : Nat} {L : List Nat} {A : Option Addr} {n c : Nat}, OwnL encR 21 w b' (.slice A n c) L → (∀ k, V.ownBlock = some k → (Value.slice A n c).ownBlock ≠ some k) → OwnL encR 21 (W2.setCell ⟨G, d.length, none⟩ v1) b' (.slice A n c) L := by
  obtain ⟨vs, V, h1, h2, h3, h4, h5, h6⟩ := h
  obtain ⟨G, cG, rfl, hbG, hG, hlc, _⟩ := h1.place (by simp)
  have hlen : (vs ++ [V]).length = d.length + 1 := by simp [h2]
  have hcell := h1.cellAt d.length (by omega)
  have hge : (vs ++ [V])[d.length]'(by omega) = V := by
    rw [List.getElem_append_right (by omega)]
    simp [h2]
  rw [hge] at hcell
  have hbA : Below w.heap.size w (w.alloc (.cells #[.int .i32 (r : Int)] 21)) := (Below.refl _ _).alloc (Nat.le_refl _) _
  have hR := Rd.new w 21 [r] #[.int .i32 (r : Int)] 1 (0, 0) (enc := encR) rfl rfl (by decide)
  have hA := h5.below hbA
  obtain ⟨v1, W2, r1, o1, g1, at1⟩ := run_append_rd (P := Try.prog) (c := 1) base 47 47 21 (.int .i32 0) 4 Try.underlying47 infoR rfl (by decide) encR_one hA hR (by omega) (by simp; omega)
  have hGV : V.ownBlock ≠ some G := by
    intro e
    obtain ⟨C, fr, hc⟩ := own_cell h5 G e
    obtain ⟨C', fr', hc'⟩ := own_cell h1 G rfl
    rw [hc] at hc'
    cases hc'
  have hg2 : W2.heap[G]? = w.heap[G]? := (g1.block G (by simp; omega) (fun e => hGV e.symm)).trans (hbA.block G hG)
  have houter : OwnL encV 47 W2 base (.slice (some ⟨G, 0, none⟩) (vs ++ [V]).length cG) (vs ++ [V]) := (h1.below hbA).kept g1 (.inr (fun e => hGV e.symm))
  have hset := OwnL.set houter d.length v1
  have hsl : (vs ++ [V]).set d.length v1 = vs ++ [v1] := by
    rw [List.set_append_right _ _ (by omega), ← h2, Nat.sub_self]
    rfl
  rw [hsl] at hset
  have inner : ∀ {b' : Nat} {L : List Nat} {u : Value}, OwnL encR 21 W2 b' u L → OwnL encR 21 (W2.setCell ⟨G, d.length, none⟩ v1) b' u L := by
    intro b' L u ho
    refine ho.kept hset.2 ?_
    cases hu : u.ownBlock with
    | none => exact .inl rfl
    | some k =>
      right
      intro e
      obtain ⟨C, fr, hc⟩ := own_cell ho k hu
      obtain ⟨C', fr', hc'⟩ := own_cell houter G rfl
      cases e
      rw [hc] at hc'
      cases hc'
  have keep : ∀ {b' : Nat} {L : List Nat} {u : Value}, OwnL encR 21 w b' u L → (∀ k, V.ownBlock = some k → u.ownBlock ≠ some k) → OwnL encR 21 (W2.setCell ⟨G, d.length, none⟩ v1) b' u L := by
    intro b' L u ho hne
    refine inner ((ho.below hbA).kept g1 ?_)
    cases hu : u.ownBlock with
    | none => exact .inl rfl
    | some k => exact .inr fun e => hne k e.symm hu
  obtain ⟨A', c', hv1, _, _, _⟩ := OwnL.rd o1
  obtain ⟨A9, c9, hV9, _, _, _⟩ := OwnL.rd h5
  refine ⟨G, cG, V, v1, W2, by rw [hlen], by omega, hcell.1, ?_, r1, ?_, ?_, by rw [hv1]; rfl, ⟨A', _, c', hv1⟩, ⟨_, _, _, hV9⟩, ⟨vs, v1, ?_, h2, fun u hu => ?_, fun i hi hi' => keep (h4 i hi hi') (fun k hk => h6 i hi k hk), inner o1, fun i hi k hk => ?_⟩, ?_, fun ho hne => keep ho hne⟩
  · exact cell_keep hbA hcell.1
  · rw [World.frozen?_of_block hg2]; exact hcell.2
  · rw [World.cell?_of_block hg2]; exact hcell.1
  · have e2 : (vs ++ [v1]).length = d.length + 1 := by simp [h2]
    have h9 := hset.1
    rw [hlen] at h9
    unfold OwnL at h9 ⊢
    rw [e2] at h9 ⊢
    exact h9
  · rcases List.mem_append.1 hu with hu | hu
    · exact h3 u (List.mem_append_left _ hu)
    · simp at hu
      subst hu
      rw [hv1]
      rfl
  · rcases at1 with e | e
    · rw [e] at hk; exact h6 i hi k hk
    · rw [e] at hk
      intro e2
      have := (h4 i hi (by omega)).base k e2
      simp at hk
      omega
  · have hbW : Below base w W2 := (hbA.mono hb).grown g1 (by simp; omega) (fun j hj => (hA.base j hj).1)
    exact hbW.setCell (p := ⟨G, d.length, none⟩) hbG v1
def WdF (G nd cG : Nat) (ad : Addr) (n4 c4 ix r n0 : Nat) (V v1 : Value) : Nat → Value → World → Prop
  | 0 => fun v w => v = .slice (some ⟨G, 0, none⟩) (nd + 1) cG
  | 1 => fun v w => v = .slice (some ⟨G, 0, none⟩) (nd + 1) cG
  | 2 => fun v w => v = .int .i64 ((nd : Int) + 1)
  | 3 => fun v w => v = .int .i64 (nd : Nat)
  | 4 => fun v w => v = .slice (some ⟨G, 0, none⟩) (nd + 1) cG
  | 5 => fun v w => v = .slice (some ⟨G, 0, none⟩) (nd + 1) cG
  | 6 => fun v w => v = .int .i64 ((nd : Int) + 1)
  | 7 => fun v w => v = .int .i64 (nd : Nat)
  | 8 => fun v w => v = .pointer (some ⟨G, nd, none⟩)
  | 9 => fun v w => v = V
  | 10 => fun v w => v = .slice (some ad) n4 c4
  | 11 => fun v w => v = .int .i64 (ix : Nat)
  | 12 => fun v w => v = .pointer (some (ad.add ix))
  | 13 => fun v w => v = .int .i32 (r : Int)
  | 14 => fun v w => v = .slice (some ⟨n0, 0, none⟩) 1 1
  | 15 => fun v w => v = v1
  | 16 => fun v w => v = .pointer (some ⟨G, nd, none⟩)
  | 17 => fun v w => v = undef
  | _ => fun _ _ => True
theorem WdF.keep (G nd cG : Nat) (ad : Addr) (n4 c4 ix r n0 : Nat) (V v1 : Value) : ∀ i v w w', True → WdF G nd cG ad n4 c4 ix r n0 V v1 i v w → WdF G nd cG ad n4 c4 ix r n0 V v1 i v w'
  | 0, _, _, _, _, h => h
  | 1, _, _, _, _, h => h
  | 2, _, _, _, _, h => h
  | 3, _, _, _, _, h => h
  | 4, _, _, _, _, h => h
  | 5, _, _, _, _, h => h
  | 6, _, _, _, _, h => h
  | 7, _, _, _, _, h => h
  | 8, _, _, _, _, h => h
  | 9, _, _, _, _, h => h
  | 10, _, _, _, _, h => h
  | 11, _, _, _, _, h => h
  | 12, _, _, _, _, h => h
  | 13, _, _, _, _, h => h
  | 14, _, _, _, _, h => h
  | 15, _, _, _, _, h => h
  | 16, _, _, _, _, h => h
  | 17, _, _, _, _, h => h
  | _ + 18, _, _, _, _, _ => trivial

end Go.Proofs.Ytbmdjmnjbflfeaa
