/-
  PLAIN: CRC-32C by halves of a byte is CRC-32C bit by bit. No program in sight.
-/
namespace Go.Lm.Crc

/-- One bit. -/
def s1 (x : Nat) : Nat := if x % 2 = 1 then x / 2 ^^^ 2197175160 else x / 2
def s4 (x : Nat) : Nat := s1 (s1 (s1 (s1 x)))
/-- What each half of a byte does. -/
def H : List Int := [0, 274646895, 549293790, 820201905, 1098587580, 1361435347, 1640403810, 1905808397, 2197175160, 2460548119, 2722870694, 2987750089, 3280807620, 3553878443, 3811616794, 4084100981]
def Hn (k : Nat) : Nat := (H.getD k 0).toNat
/-- One half of a byte, by the table. -/
def h4 (x : Nat) : Nat := x / 16 ^^^ Hn (x % 16)
/-- A byte, by the table; by the bits. -/
def step (x c : Nat) : Nat := h4 (h4 (x ^^^ c))
def stepR (x c : Nat) : Nat := s4 (s4 (x ^^^ c))
def fold (x : Nat) (l : List UInt8) : Nat := l.foldl (fun x c => step x c.toNat) x

theorem s1_xor (a b : Nat) : s1 (a ^^^ b) = s1 a ^^^ s1 b := by
  have hd : (a ^^^ b) / 2 = a / 2 ^^^ b / 2 := by
    have := Nat.shiftRight_xor_distrib (a := a) (b := b) (i := 1)
    simpa [Nat.shiftRight_succ] using this
  have hm : (a ^^^ b) % 2 = 1 ↔ ¬ (a % 2 = 1 ↔ b % 2 = 1) := Nat.xor_mod_two_eq_one
  unfold s1
  by_cases ha : a % 2 = 1 <;> by_cases hb : b % 2 = 1
  · rw [if_neg (by rw [hm]; simp [ha, hb]), if_pos ha, if_pos hb, hd]
    rw [show a / 2 ^^^ 2197175160 ^^^ (b / 2 ^^^ 2197175160) = (a / 2 ^^^ b / 2) ^^^ (2197175160 ^^^ 2197175160) by ac_rfl]
    simp
  · rw [if_pos (by rw [hm]; simp [ha, hb]), if_pos ha, if_neg hb, hd]; ac_rfl
  · rw [if_pos (by rw [hm]; simp [ha, hb]), if_neg ha, if_pos hb, hd]; ac_rfl
  · rw [if_neg (by rw [hm]; simp [ha, hb]), if_neg ha, if_neg hb, hd]

theorem s4_xor (a b : Nat) : s4 (a ^^^ b) = s4 a ^^^ s4 b := by simp [s4, s1_xor]

theorem s1_double (y : Nat) : s1 (2 * y) = y := by
  unfold s1; rw [if_neg (by omega)]; omega
theorem s4_high (y : Nat) : s4 (16 * y) = y := by
  unfold s4
  rw [show 16 * y = 2 * (2 * (2 * (2 * y))) by omega, s1_double, s1_double, s1_double, s1_double]

theorem split16 (x : Nat) : x = 16 * (x / 16) ^^^ x % 16 := by
  apply Nat.eq_of_testBit_eq
  intro j
  have hlt : x % 16 < 2 ^ 4 := by omega
  have e : x = 2 ^ 4 * (x / 16) + x % 16 := by omega
  rw [Nat.testBit_xor, show 16 * (x / 16) = 2 ^ 4 * (x / 16) by rfl, Nat.testBit_two_pow_mul]
  conv => lhs; rw [e]
  rw [Nat.testBit_two_pow_mul_add _ hlt]
  by_cases hj : j < 4
  · simp [hj, show ¬ 4 ≤ j by omega]
  · have : (x % 16).testBit j = false := Nat.testBit_lt_two_pow (Nat.lt_of_lt_of_le hlt (Nat.pow_le_pow_right (by decide) (by omega)))
    simp [hj, show 4 ≤ j by omega, this]

theorem s4_low : ∀ r, r < 16 → s4 r = Hn r := by decide
theorem s4_eq (x : Nat) : s4 x = h4 x := by
  conv => lhs; rw [split16 x]
  rw [s4_xor, s4_high, s4_low _ (Nat.mod_lt _ (by decide))]
  rfl
theorem stepR_eq (x c : Nat) : stepR x c = step x c := by unfold stepR step; rw [s4_eq, s4_eq]

theorem Hn_lt (k : Nat) : Hn k < 2 ^ 32 := by
  unfold Hn
  by_cases h : k < 16
  · revert k; decide
  · rw [List.getD_eq_getElem?_getD, List.getElem?_eq_none (by simp [H]; omega)]; decide
theorem h4_lt {x : Nat} (h : x < 2 ^ 32) : h4 x < 2 ^ 32 := Nat.xor_lt_two_pow (by omega) (Hn_lt _)
theorem step_lt {x c : Nat} (h : x < 2 ^ 32) (hc : c < 256) : step x c < 2 ^ 32 := h4_lt (h4_lt (Nat.xor_lt_two_pow h (by omega)))
theorem fold_lt {x : Nat} (h : x < 2 ^ 32) (l : List UInt8) : fold x l < 2 ^ 32 := by
  induction l generalizing x with
  | nil => exact h
  | cons c l ih => exact ih (step_lt h (by have := c.toNat_lt; omega))
theorem fold_append (x : Nat) (l m : List UInt8) : fold x (l ++ m) = fold (fold x l) m := by simp [fold]
theorem fold_snoc (x : Nat) (l : List UInt8) (c : UInt8) : fold x (l ++ [c]) = step (fold x l) c.toNat := by simp [fold]
theorem fold_take (x : Nat) (l : List UInt8) (k : Nat) (h : k < l.length) : fold x (l.take (k + 1)) = step (fold x (l.take k)) l[k].toNat := by
  rw [List.take_succ_eq_append_getElem h, fold_snoc]
/-- So many bits. -/
def it : Nat → Nat → Nat
  | 0, x => x
  | j + 1, x => s1 (it j x)
theorem s1_lt {x : Nat} (h : x < 2 ^ 32) : s1 x < 2 ^ 32 := by
  unfold s1; split
  · exact Nat.xor_lt_two_pow (by omega) (by omega)
  · omega
theorem it_lt {x : Nat} (h : x < 2 ^ 32) : ∀ j, it j x < 2 ^ 32
  | 0 => h
  | j + 1 => s1_lt (it_lt h j)
theorem it_eight (x c : Nat) : it 8 (x ^^^ c) = step x c := by rw [← stepR_eq]; rfl
/-- The sum of bytes. -/
def sum (l : List UInt8) : Nat := 4294967295 - fold 4294967295 l

end Go.Lm.Crc
