/- The plain law of a burst: at most four bytes beside one another changed give another sum. -/
import Derived.Test.YtkciljeojifofaaDoorSeals
namespace Go.Proofs.YtkciljeojifofaaDoor
open Go.RowKit Crc
set_option linter.unusedVariables false
set_option linter.unusedSimpArgs false

theorem xor_eq_zero {a b : Nat} (h : a ^^^ b = 0) : a = b := by
  have h2 : (a ^^^ b) ^^^ b = 0 ^^^ b := by rw [h]
  rwa [Nat.xor_assoc, Nat.xor_self, Nat.xor_zero, Nat.zero_xor] at h2
theorem xor_lt32 {a b : Nat} (ha : a < 4294967296) (hb : b < 4294967296) : a ^^^ b < 4294967296 := Nat.xor_lt_two_pow (n := 32) ha hb
theorem st8_inj2 {a b : Nat} (ha : a < 4294967296) (hb : b < 4294967296) (h : st8 a = st8 b) : a = b :=
  xor_eq_zero (st8_inj (xor_lt32 ha hb) (by rw [st8_xor, h, Nat.xor_self]))
theorem xor_right {a b c : Nat} (h : a ^^^ c = b ^^^ c) : a = b := by
  have h2 : (a ^^^ c) ^^^ c = (b ^^^ c) ^^^ c := by rw [h]
  rwa [Nat.xor_assoc, Nat.xor_assoc, Nat.xor_self, Nat.xor_zero, Nat.xor_zero] at h2
theorem xor_left {a b c : Nat} (h : c ^^^ a = c ^^^ b) : a = b := by
  rw [Nat.xor_comm c a, Nat.xor_comm c b] at h
  exact xor_right h
/-- What is behind is told apart as long as the registers are. -/
theorem goL_inj : ∀ (l : List Nat) {a b : Nat}, (∀ c ∈ l, c < 256) → a < 4294967296 → b < 4294967296 → goL a l = goL b l → a = b
  | [], _, _, _, _, _, h => h
  | c :: l, a, b, hl, ha, hb, h => by
    have hc : c < 256 := hl c (by simp)
    have h1 := goL_inj l (fun x hx => hl x (by simp [hx])) (goB_lt ha hc) (goB_lt hb hc) h
    exact xor_right (st8_inj2 (xor_lt32 ha (by omega)) (xor_lt32 hb (by omega)) h1)
theorem st8_shift (x : Nat) : st8 (x <<< 8) = x := by
  have e : x <<< 8 = (x <<< 4) <<< 4 := by rw [← Nat.shiftLeft_add]
  rw [e]
  unfold st8
  rw [st4_shift, st4_shift]
theorem goB_shift (r c d : Nat) : st8 (r ^^^ c) ^^^ d = st8 (r ^^^ (c ^^^ (d <<< 8))) := by
  rw [← Nat.xor_assoc, st8_xor (r ^^^ c), st8_shift]
/-- Four bytes are one word. -/
theorem goL_four (r a b c d : Nat) : goL r [a, b, c, d] = st8 (st8 (st8 (st8 (r ^^^ (a ^^^ ((b ^^^ ((c ^^^ (d <<< 8)) <<< 8)) <<< 8)))))) := by
  have e : ∀ x y : Nat, (x ^^^ y) <<< 8 = x <<< 8 ^^^ y <<< 8 := fun x y => Nat.shiftLeft_xor_distrib
  show st8 (st8 (st8 (st8 (r ^^^ a) ^^^ b) ^^^ c) ^^^ d) = _
  simp only [e]
  simp only [st8_xor, st8_shift]
  simp only [Nat.xor_assoc]
theorem word_one {a b x y : Nat} (ha : a < 256) (hb : b < 256) (h : a ^^^ (x <<< 8) = b ^^^ (y <<< 8)) : a = b ∧ x = y := by
  have h1 : ∀ a x : Nat, a < 256 → (a ^^^ (x <<< 8)) % 2 ^ 8 = a ∧ (a ^^^ (x <<< 8)) >>> 8 = x := by
    intro a x ha
    have e : x <<< 8 % 2 ^ 8 = 0 := by rw [Nat.shiftLeft_eq]; omega
    constructor
    · rw [Nat.xor_mod_two_pow, e, Nat.xor_zero]
      exact Nat.mod_eq_of_lt ha
    · have e2 : a >>> 8 = 0 := by rw [Nat.shiftRight_eq_div_pow]; omega
      have e3 : x <<< 8 >>> 8 = x := by rw [Nat.shiftRight_eq_div_pow, Nat.shiftLeft_eq]; omega
      rw [Nat.shiftRight_xor_distrib, e2, e3, Nat.zero_xor]
  have p := h1 a x ha
  have q := h1 b y hb
  rw [h] at p
  exact ⟨p.1.symm.trans q.1, p.2.symm.trans q.2⟩
theorem word_lt {a x : Nat} {n : Nat} (ha : a < 256) (hx : x < 2 ^ n) (hn : n ≤ 24) : a ^^^ (x <<< 8) < 2 ^ (n + 8) := by
  refine Nat.xor_lt_two_pow (Nat.lt_of_lt_of_le ha (Nat.pow_le_pow_right (n := 2) (i := 8) (by decide) (by omega))) ?_
  rw [Nat.shiftLeft_eq, Nat.pow_add]
  exact Nat.mul_lt_mul_of_pos_right hx (by decide)
theorem goL_four_inj {r a b c d a' b' c' d' : Nat} (hr : r < 4294967296) (ha : a < 256) (hb : b < 256) (hc : c < 256) (hd : d < 256) (ha' : a' < 256) (hb' : b' < 256) (hc' : c' < 256) (hd' : d' < 256)
    (h : goL r [a, b, c, d] = goL r [a', b', c', d']) : a = a' ∧ b = b' ∧ c = c' ∧ d = d' := by
  rw [goL_four, goL_four] at h
  have w1 : ∀ {a b c d : Nat}, a < 256 → b < 256 → c < 256 → d < 256 → (a ^^^ ((b ^^^ ((c ^^^ (d <<< 8)) <<< 8)) <<< 8)) < 4294967296 := by
    intro a b c d ha hb hc hd
    exact word_lt (n := 24) ha (word_lt (n := 16) hb (word_lt (n := 8) hc hd (by decide)) (by decide)) (by decide)
  have x1 := xor_lt32 hr (w1 ha hb hc hd)
  have x2 := xor_lt32 hr (w1 ha' hb' hc' hd')
  have h1 := st8_inj2 (st8_lt (st8_lt (st8_lt x1))) (st8_lt (st8_lt (st8_lt x2))) h
  have h2 := st8_inj2 (st8_lt (st8_lt x1)) (st8_lt (st8_lt x2)) h1
  have h3 := st8_inj2 (st8_lt x1) (st8_lt x2) h2
  have h4 := xor_left (st8_inj2 x1 x2 h3)
  obtain ⟨e1, h5⟩ := word_one ha ha' h4
  obtain ⟨e2, h6⟩ := word_one hb hb' h5
  obtain ⟨e3, h7⟩ := word_one hc hc' h6
  exact ⟨e1, e2, e3, h7⟩
/-- At most four bytes. -/
theorem goL_burst {r : Nat} (hr : r < 4294967296) (p q : List Nat) (hl : p.length = q.length) (h4 : p.length ≤ 4) (hp : ∀ c ∈ p, c < 256) (hq : ∀ c ∈ q, c < 256) (h : goL r p = goL r q) : p = q := by
  have key : ∀ p q : List Nat, p.length = 4 → q.length = 4 → (∀ c ∈ p, c < 256) → (∀ c ∈ q, c < 256) → goL r p = goL r q → p = q := by
    intro p q h1 h2 hp hq h
    match p, q, h1, h2 with
    | [a, b, c, d], [a', b', c', d'], _, _ =>
      obtain ⟨rfl, rfl, rfl, rfl⟩ := goL_four_inj hr (hp a (by simp)) (hp b (by simp)) (hp c (by simp)) (hp d (by simp)) (hq a' (by simp)) (hq b' (by simp)) (hq c' (by simp)) (hq d' (by simp)) h
      rfl
  have pad : ∀ {p : List Nat}, (∀ c ∈ p, c < 256) → ∀ c ∈ p ++ List.replicate (4 - p.length) 0, c < 256 := by
    intro p hp c hc
    rcases List.mem_append.1 hc with h | h
    · exact hp c h
    · obtain ⟨_, rfl⟩ := List.mem_replicate.1 h
      decide
  have h1 := key (p ++ List.replicate (4 - p.length) 0) (q ++ List.replicate (4 - q.length) 0) (by simp; omega) (by simp; omega) (pad hp) (pad hq) (by rw [goL_append, goL_append, h, hl])
  exact (List.append_inj h1 hl).1

/-- Four places of the list alone may have changed. -/
def Near (f : Nat) (l m : List Nat) : Prop := m.length = l.length ∧ (∀ c ∈ m, c < 256) ∧ ∀ j, (j < f ∨ f + 4 ≤ j) → m[j]? = l[j]?
theorem Near.refl (f : Nat) {l : List Nat} (h : ∀ c ∈ l, c < 256) : Near f l l := ⟨rfl, h, fun _ _ => rfl⟩
theorem Near.set {f : Nat} {l m : List Nat} (h : Near f l m) (k x : Nat) (hk : k < 4) (hx : x < 256) : Near f l (m.set (f + k) x) := by
  refine ⟨by simpa using h.1, fun c hc => ?_, fun j hj => ?_⟩
  · rcases List.mem_or_eq_of_mem_set hc with h' | h'
    · exact h.2.1 c h'
    · omega
  · rw [List.getElem?_set_ne (by omega)]
    exact h.2.2 j hj
theorem goL_near {r f : Nat} {l m : List Nat} (hr : r < 4294967296) (hl : ∀ c ∈ l, c < 256) (h : Near f l m) (he : goL r l = goL r m) : l = m := by
  obtain ⟨h1, h2, h3⟩ := h
  have ht : m.take f = l.take f := by
    apply List.ext_getElem?
    intro j
    rw [List.getElem?_take, List.getElem?_take]
    split
    · exact h3 j (.inl ‹_›)
    · rfl
  have hd : m.drop (f + 4) = l.drop (f + 4) := by
    apply List.ext_getElem?
    intro j
    rw [List.getElem?_drop, List.getElem?_drop]
    exact h3 _ (.inr (by omega))
  have sp : ∀ l : List Nat, l = l.take f ++ ((l.drop f).take 4 ++ l.drop (f + 4)) := by
    intro l
    rw [← List.drop_drop, List.take_append_drop, List.take_append_drop]
  have hml : ∀ c ∈ (l.drop f).take 4, c < 256 := fun c hc => hl c (List.mem_of_mem_drop (List.mem_of_mem_take hc))
  have hmm : ∀ c ∈ (m.drop f).take 4, c < 256 := fun c hc => h2 c (List.mem_of_mem_drop (List.mem_of_mem_take hc))
  rw [sp l, sp m, goL_append, goL_append, goL_append, goL_append, ht, hd] at he
  have hR := goL_lt (l.take f) hr (fun c hc => hl c (List.mem_of_mem_take hc))
  have e1 := goL_inj _ (fun c hc => hl c (List.mem_of_mem_drop hc)) (goL_lt _ hR hml) (goL_lt _ hR hmm) he
  have e2 := goL_burst hR _ _ (by simp [h1]) (by simp; omega) hml hmm e1
  rw [sp l, sp m, ht, hd, e2]
theorem crcAdd_near {f : Nat} {l m : List Nat} (hl : ∀ c ∈ l, c < 256) (h : Near f l m) (he : crcAdd 0 l = crcAdd 0 m) : l = m :=
  goL_near (by decide) hl h (xor_right he)
theorem sumB_inj {a b : Nat} (ha : a < 4294967296) (hb : b < 4294967296) (h : sumB a = sumB b) : a = b := by
  simp only [sumB, List.cons.injEq, and_true] at h
  omega
/-- What was changed nearby does not open. -/
theorem near_open {f : Nat} {l m : List Nat} (hl : ∀ c ∈ l, c < 256) (hf : f = 0 ∨ 4 ≤ f) (h : Near f (sumB (crcAdd 0 l) ++ l) m) (hne : m ≠ sumB (crcAdd 0 l) ++ l) : openB m = false := by
  have hs4 : (sumB (crcAdd 0 l)).length = 4 := rfl
  have h4 : 4 ≤ m.length := by rw [h.1, List.length_append, hs4]; omega
  have hdm : ∀ c ∈ m.drop 4, c < 256 := fun c hc => h.2.1 c (List.mem_of_mem_drop hc)
  unfold openB
  rw [decide_eq_true h4, Bool.true_and]
  apply decide_eq_false
  intro e
  apply hne
  conv => lhs; rw [← List.take_append_drop 4 m]
  have hd4 : ∀ s l : List Nat, s.length = 4 → (s ++ l).drop 4 = l := by intro s l h; rw [← h, List.drop_left]
  have ht4 : ∀ s l : List Nat, s.length = 4 → (s ++ l).take 4 = s := by intro s l h; rw [← h, List.take_left]
  rcases hf with rfl | hf
  · have hd : m.drop 4 = l := by
      rw [← hd4 _ l hs4]
      apply List.ext_getElem?
      intro j
      rw [List.getElem?_drop, List.getElem?_drop]
      exact h.2.2 _ (.inr (by omega))
    rw [hd] at e ⊢
    rw [e]
  · have ht : m.take 4 = sumB (crcAdd 0 l) := by
      rw [← ht4 _ l hs4]
      apply List.ext_getElem?
      intro j
      rw [List.getElem?_take, List.getElem?_take]
      split
      · exact h.2.2 _ (.inl (by omega))
      · rfl
    have hN : Near (f - 4) l (m.drop 4) := by
      refine ⟨by rw [List.length_drop, h.1, List.length_append, hs4]; omega, hdm, fun j hj => ?_⟩
      rw [List.getElem?_drop, h.2.2 _ (by omega)]
      conv => rhs; rw [← hd4 _ l hs4, List.getElem?_drop]
    rw [ht] at e
    have e2 := crcAdd_near hl hN (sumB_inj (crcAdd_lt (by decide) hl) (crcAdd_lt (by decide) hdm) e)
    rw [ht, ← e2]
end Go.Proofs.YtkciljeojifofaaDoor
