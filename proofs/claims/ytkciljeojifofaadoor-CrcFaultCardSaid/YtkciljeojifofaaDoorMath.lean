/- The plain law of the sum: a register goes on by bits; four bits at once by a table; it is linear. -/
namespace Go.Proofs.YtkciljeojifofaaDoor.Crc

/-- The register goes on by one bit. -/
def stp (r : Nat) : Nat := (r >>> 1) ^^^ (if r % 2 = 1 then 2197175160 else 0)
def st4 (r : Nat) : Nat := stp (stp (stp (stp r)))
def st8 (r : Nat) : Nat := st4 (st4 r)
/-- The register goes on by a byte. -/
def goB (r c : Nat) : Nat := st8 (r ^^^ c)
def goL (r : Nat) (l : List Nat) : Nat := l.foldl goB r

def tabN (m : Nat) : Nat := [0, 274646895, 549293790, 820201905, 1098587580, 1361435347, 1640403810, 1905808397, 2197175160, 2460548119, 2722870694, 2987750089, 3280807620, 3553878443, 3811616794, 4084100981].getD m 0

theorem shr1 (x : Nat) : x >>> 1 = x / 2 := by rw [Nat.shiftRight_eq_div_pow]

theorem stp_xor (a b : Nat) : stp (a ^^^ b) = stp a ^^^ stp b := by
  unfold stp
  have h : (a ^^^ b) % 2 = (a % 2) ^^^ (b % 2) := by
    have := Nat.xor_mod_two_pow (a := a) (b := b) (n := 1)
    simpa using this
  rw [Nat.shiftRight_xor_distrib, h]
  rcases Nat.mod_two_eq_zero_or_one a with ha | ha <;> rcases Nat.mod_two_eq_zero_or_one b with hb | hb <;> simp [ha, hb]
  · simp [Nat.xor_assoc]
  · rw [Nat.xor_assoc, Nat.xor_assoc]; congr 1; exact Nat.xor_comm _ _
  · rw [Nat.xor_assoc, Nat.xor_comm 2197175160, Nat.xor_assoc, Nat.xor_self, Nat.xor_zero]

theorem st4_xor (a b : Nat) : st4 (a ^^^ b) = st4 a ^^^ st4 b := by simp only [st4, stp_xor]
theorem st8_xor (a b : Nat) : st8 (a ^^^ b) = st8 a ^^^ st8 b := by simp only [st8, st4_xor]
theorem stp_zero : stp 0 = 0 := by decide
theorem st8_zero : st8 0 = 0 := by decide

theorem stp_shift (x k : Nat) : stp (x <<< (k + 1)) = x <<< k := by
  have h0 : x <<< (k + 1) = 2 * (x <<< k) := by
    rw [Nat.shiftLeft_eq, Nat.shiftLeft_eq, Nat.pow_succ]
    rw [← Nat.mul_assoc, Nat.mul_comm]
  unfold stp
  rw [h0, if_neg (by omega), Nat.xor_zero, shr1]
  omega

theorem st4_shift (x : Nat) : st4 (x <<< 4) = x := by
  simp only [st4, stp_shift, Nat.shiftLeft_zero]

theorem split4 (r : Nat) : r = ((r >>> 4) <<< 4) ^^^ (r % 16) := by
  apply Nat.eq_of_testBit_eq
  intro i
  have : r % 16 = r % 2 ^ 4 := rfl
  rw [this, Nat.testBit_xor, Nat.testBit_mod_two_pow, Nat.testBit_shiftLeft, Nat.testBit_shiftRight]
  by_cases h : i < 4
  · simp [h, Nat.not_le.2 h]
  · have h' : 4 ≤ i := by omega
    simp [h, h', Nat.add_sub_cancel' h']

theorem tab_is : ∀ m, m < 16 → st4 m = tabN m := by decide

/-- Four bits at once. -/
theorem st4_tab (r : Nat) : st4 r = (r >>> 4) ^^^ tabN (r % 16) := by
  conv => lhs; rw [split4 r]
  rw [st4_xor, st4_shift, tab_is _ (Nat.mod_lt _ (by decide))]

theorem goL_xor : ∀ (l m : List Nat) (a b : Nat), l.length = m.length → goL (a ^^^ b) (List.zipWith (· ^^^ ·) l m) = goL a l ^^^ goL b m
  | [], [], a, b, _ => rfl
  | x :: l, y :: m, a, b, h => by
    have h' : l.length = m.length := by simpa using h
    simp only [goL, List.zipWith_cons_cons, List.foldl_cons] at *
    have e : goB (a ^^^ b) (x ^^^ y) = goB a x ^^^ goB b y := by
      unfold goB
      rw [← st8_xor]
      congr 1
      simp only [Nat.xor_assoc]
      congr 1
      rw [← Nat.xor_assoc, ← Nat.xor_assoc, Nat.xor_comm b x]
    rw [e]
    exact goL_xor l m _ _ h'
  | [], _ :: _, _, _, h => by simp at h
  | _ :: _, [], _, _, h => by simp at h

theorem goL_append (r : Nat) (l m : List Nat) : goL r (l ++ m) = goL (goL r l) m := by simp [goL]

theorem stp_lt {r : Nat} (h : r < 4294967296) : stp r < 4294967296 := by
  unfold stp
  have h1 : r >>> 1 < 2 ^ 32 := by rw [shr1]; omega
  split
  · exact Nat.xor_lt_two_pow h1 (by decide)
  · rw [Nat.xor_zero]; exact h1
theorem st4_lt {r : Nat} (h : r < 4294967296) : st4 r < 4294967296 := stp_lt (stp_lt (stp_lt (stp_lt h)))
theorem st8_lt {r : Nat} (h : r < 4294967296) : st8 r < 4294967296 := st4_lt (st4_lt h)
theorem goB_lt {r c : Nat} (h : r < 4294967296) (hc : c < 256) : goB r c < 4294967296 :=
  st8_lt (Nat.xor_lt_two_pow (n := 32) h (Nat.lt_trans hc (by decide)))
theorem goL_lt : ∀ (l : List Nat) {r : Nat}, r < 4294967296 → (∀ c ∈ l, c < 256) → goL r l < 4294967296
  | [], _, h, _ => h
  | c :: l, r, h, hl => by
    simp only [goL, List.foldl_cons]
    exact goL_lt l (goB_lt h (hl c (by simp))) (fun d hd => hl d (by simp [hd]))
/-- The step forgets nothing: whose step is 0 was 0. -/
theorem stp_inj {r : Nat} (h : r < 4294967296) (h0 : stp r = 0) : r = 0 := by
  unfold stp at h0
  by_cases hr : r % 2 = 1
  · rw [if_pos hr] at h0
    have h1 : r >>> 1 = 2197175160 := by
      have := congrArg (· ^^^ 2197175160) h0
      simpa [Nat.xor_assoc] using this
    rw [shr1] at h1
    omega
  · rw [if_neg hr, Nat.xor_zero, shr1] at h0
    omega
theorem st4_inj {r : Nat} (h : r < 4294967296) (h0 : st4 r = 0) : r = 0 :=
  stp_inj h (stp_inj (stp_lt h) (stp_inj (stp_lt (stp_lt h)) (stp_inj (stp_lt (stp_lt (stp_lt h))) h0)))
theorem st8_inj {r : Nat} (h : r < 4294967296) (h0 : st8 r = 0) : r = 0 := st4_inj h (st4_inj (st4_lt h) h0)
end Go.Proofs.YtkciljeojifofaaDoor.Crc
