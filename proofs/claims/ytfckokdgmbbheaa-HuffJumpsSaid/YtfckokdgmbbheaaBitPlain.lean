/-
  PLAIN: bits of bytes. No program in sight.
-/
namespace Go.Lm.Bt

/-- The bits of a byte, the lowest first. -/
def byteBits (c : UInt8) : List Bool := (List.range 8).map fun k => c.toNat.testBit k
def bitsOf : List UInt8 → List Bool
  | [] => []
  | c :: l => byteBits c ++ bitsOf l
/-- The number of bits, the first one the lowest. -/
def num : List Bool → Nat
  | [] => 0
  | b :: l => b.toNat + 2 * num l

theorem byteBits_length (c : UInt8) : (byteBits c).length = 8 := by simp [byteBits]
theorem bitsOf_length : ∀ l : List UInt8, (bitsOf l).length = 8 * l.length
  | [] => rfl
  | c :: l => by simp only [bitsOf, List.length_append, byteBits_length, bitsOf_length l, List.length_cons]; omega
theorem bitsOf_append : ∀ l m : List UInt8, bitsOf (l ++ m) = bitsOf l ++ bitsOf m
  | [], m => rfl
  | c :: l, m => by simp only [List.cons_append, bitsOf, bitsOf_append l m, List.append_assoc]
theorem bitsOf_get : ∀ (l : List UInt8) (k : Nat), k < 8 * l.length → (bitsOf l)[k]? = (l[k / 8]?).map fun c => c.toNat.testBit (k % 8)
  | [], k, h => by simp at h
  | c :: l, k, h => by
    by_cases hk : k < 8
    · rw [bitsOf, List.getElem?_append_left (by rw [byteBits_length]; exact hk)]
      have h1 : k / 8 = 0 := by omega
      have h2 : k % 8 = k := by omega
      simp [h1, h2, byteBits, hk]
    · rw [bitsOf, List.getElem?_append_right (by rw [byteBits_length]; omega), byteBits_length, bitsOf_get l (k - 8) (by simp at h; omega)]
      obtain ⟨j, rfl⟩ : ∃ j, k = j + 8 := ⟨k - 8, by omega⟩
      have h1 : (j + 8) / 8 = j / 8 + 1 := by omega
      have h2 : (j + 8) % 8 = j % 8 := by omega
      simp [h1, h2]
theorem bitsOf_at (l : List UInt8) (k : Nat) (h : k < 8 * l.length) (h1 : k / 8 < l.length) (h2 : k < (bitsOf l).length) : (bitsOf l)[k] = (l[k / 8]).toNat.testBit (k % 8) := by
  have := bitsOf_get l k h
  rw [List.getElem?_eq_getElem h2, List.getElem?_eq_getElem h1] at this
  simpa using this

theorem num_lt : ∀ l : List Bool, num l < 2 ^ l.length
  | [] => by simp [num]
  | b :: l => by
    have := num_lt l
    have hb : b.toNat ≤ 1 := by cases b <;> simp
    simp only [num, List.length_cons, Nat.pow_succ]
    omega
theorem num_append : ∀ l m : List Bool, num (l ++ m) = num l + 2 ^ l.length * num m
  | [], m => by simp [num]
  | b :: l, m => by
    simp only [List.cons_append, num, num_append l m, List.length_cons, Nat.pow_succ]
    rw [Nat.mul_add, Nat.mul_right_comm, Nat.mul_comm _ 2]
    omega
theorem num_snoc (l : List Bool) (b : Bool) : num (l ++ [b]) = num l + 2 ^ l.length * b.toNat := by rw [num_append]; simp [num]
theorem num_take (l : List Bool) (k : Nat) (h : k < l.length) : num (l.take (k + 1)) = num (l.take k) + 2 ^ k * (l[k]).toNat := by
  rw [List.take_succ_eq_append_getElem h, num_snoc, List.length_take, Nat.min_eq_left (by omega)]
theorem num_drop (l : List Bool) (k : Nat) (h : k < l.length) : num (l.drop k) = (l[k]).toNat + 2 * num (l.drop (k + 1)) := by
  rw [List.drop_eq_getElem_cons h]; rfl
theorem num_replicate_false : ∀ n : Nat, num (List.replicate n false) = 0
  | 0 => rfl
  | n + 1 => by simp [List.replicate_succ, num, num_replicate_false n]
theorem num_testBit : ∀ (l : List Bool) (k : Nat), (num l).testBit k = l.getD k false
  | [], k => by simp [num]
  | b :: l, 0 => by
    simp only [num, Nat.testBit_zero, List.getD_cons_zero]
    cases b <;> simp <;> omega
  | b :: l, k + 1 => by
    rw [Nat.testBit_succ, show num (b :: l) / 2 = num l by simp only [num]; cases b <;> simp <;> omega, num_testBit l k]
    simp
theorem num_byteBits (c : UInt8) : num (byteBits c) = c.toNat := by
  apply Nat.eq_of_testBit_eq
  intro k
  rw [num_testBit]
  by_cases hk : k < 8
  · simp [byteBits, List.getD_eq_getElem?_getD, hk]
  · have h1 : (byteBits c).length ≤ k := by rw [byteBits_length]; omega
    rw [List.getD_eq_getElem?_getD, List.getElem?_eq_none h1, Option.getD_none, Nat.testBit_lt_two_pow]
    exact Nat.lt_of_lt_of_le c.toNat_lt (Nat.pow_le_pow_right (by decide) (by omega))
/-- n bits of a number, the lowest first. -/
def low (x : Nat) : Nat → List Bool
  | 0 => []
  | n + 1 => (x % 2 == 1) :: low (x / 2) n
theorem low_length : ∀ (x n : Nat), (low x n).length = n
  | _, 0 => rfl
  | x, n + 1 => by simp [low, low_length (x / 2) n]
theorem num_low : ∀ (x n : Nat), num (low x n) = x % 2 ^ n
  | x, 0 => by simp [low, num, Nat.mod_one]
  | x, n + 1 => by
    have hb : (x % 2 == 1).toNat = x % 2 := by
      rcases Nat.mod_two_eq_zero_or_one x with h | h <;> simp [h]
    simp only [low, num, num_low (x / 2) n, hb, Nat.pow_succ]
    rw [Nat.mul_comm (2 ^ n), Nat.mod_mul]
theorem low_snoc (x n : Nat) : low x (n + 1) = low x n ++ [x / 2 ^ n % 2 == 1] := by
  induction n generalizing x with
  | zero => simp [low]
  | succ n ih =>
    rw [low, ih]
    simp only [low, List.cons_append]
    rw [Nat.div_div_eq_div_mul, Nat.pow_succ, Nat.mul_comm 2]
theorem num_inj : ∀ l m : List Bool, l.length = m.length → num l = num m → l = m
  | [], [], _, _ => rfl
  | b :: l, c :: m, h, e => by
    simp only [num] at e
    have hb : b.toNat ≤ 1 := by cases b <;> simp
    have hc : c.toNat ≤ 1 := by cases c <;> simp
    have h1 : b.toNat = c.toNat := by omega
    have h2 : num l = num m := by omega
    have := num_inj l m (by simpa using h) h2
    subst this
    cases b <;> cases c <;> simp at h1 <;> rfl
  | [], _ :: _, h, _ => by simp at h
  | _ :: _, [], h, _ => by simp at h
theorem low_num (l : List Bool) : low (num l) l.length = l :=
  num_inj _ _ (low_length _ _) (by rw [num_low, Nat.mod_eq_of_lt (num_lt l)])

/-- The bytes of bits, the last one filled up. -/
def bytesOf (l : List Bool) : List UInt8 := (List.range ((l.length + 7) / 8)).map fun k => UInt8.ofNat (num ((l.drop (8 * k)).take 8))
theorem bytesOf_length (l : List Bool) : (bytesOf l).length = (l.length + 7) / 8 := by simp [bytesOf]
theorem bytesOf_at (l : List Bool) (k : Nat) (h : k < (bytesOf l).length) : (bytesOf l)[k] = UInt8.ofNat (num ((l.drop (8 * k)).take 8)) := by
  simp [bytesOf]
theorem num8_lt (l : List Bool) : num (l.take 8) < 256 := by
  have := num_lt (l.take 8)
  have h2 : 2 ^ (l.take 8).length ≤ 2 ^ 8 := Nat.pow_le_pow_right (by decide) (by simp; omega)
  omega
/-- One bit more, at a byte's begin. -/
theorem bytesOf_new (l : List Bool) (b : Bool) (h : l.length % 8 = 0) : bytesOf (l ++ [b]) = bytesOf l ++ [UInt8.ofNat b.toNat] := by
  obtain ⟨q, hq⟩ : ∃ q, l.length = 8 * q := ⟨l.length / 8, by omega⟩
  have h1 : ((l ++ [b]).length + 7) / 8 = q + 1 := by simp; omega
  have h2 : (l.length + 7) / 8 = q := by omega
  unfold bytesOf
  rw [h1, h2, List.range_succ, List.map_append]
  congr 1
  · apply List.map_congr_left
    intro k hk
    have hk : k < q := by simpa using hk
    rw [List.drop_append_of_le_length (by omega), List.take_append_of_le_length (by simp; omega)]
  · have : 8 * q = l.length := hq.symm
    simp [this, num]
theorem bytesOf_more (l : List Bool) (b : Bool) (h : l.length % 8 ≠ 0) (hk : l.length / 8 < (bytesOf l).length) :
    bytesOf (l ++ [b]) = (bytesOf l).set (l.length / 8) (UInt8.ofNat ((bytesOf l)[l.length / 8].toNat + 2 ^ (l.length % 8) * b.toNat)) := by
  apply List.ext_getElem
  · rw [List.length_set, bytesOf_length, bytesOf_length]; simp; omega
  · intro j h1 h2
    rw [bytesOf_at, List.getElem_set]
    split
    · rename_i hj
      subst hj
      rw [bytesOf_at]
      have e1 : (l ++ [b]).drop (8 * (l.length / 8)) = l.drop (8 * (l.length / 8)) ++ [b] := List.drop_append_of_le_length (by omega)
      have e2 : (l.drop (8 * (l.length / 8)) ++ [b]).take 8 = l.drop (8 * (l.length / 8)) ++ [b] := List.take_of_length_le (by simp; omega)
      have e3 : (l.drop (8 * (l.length / 8))).take 8 = l.drop (8 * (l.length / 8)) := List.take_of_length_le (by simp; omega)
      have e4 : (l.drop (8 * (l.length / 8))).length = l.length % 8 := by simp; omega
      rw [e1, e2, e3, num_snoc, e4]
      have h8 : num (l.drop (8 * (l.length / 8))) < 256 := by rw [← e3]; exact num8_lt _
      have : (UInt8.ofNat (num (l.drop (8 * (l.length / 8))))).toNat = num (l.drop (8 * (l.length / 8))) := by simp; omega
      rw [this]
    · rename_i hj
      rw [bytesOf_at]
      have hlt : j < (l.length + 7) / 8 := by
        have := h2
        rw [List.length_set, bytesOf_length] at this; exact this
      congr 2
      rw [List.drop_append_of_le_length (by omega), List.take_append_of_le_length (by simp; omega)]
/-- .. and the bits of those are the bits, and noughts. -/
theorem bitsOf_bytesOf (l : List Bool) : bitsOf (bytesOf l) = l ++ List.replicate (8 * ((l.length + 7) / 8) - l.length) false := by
  apply List.ext_getElem?
  intro k
  by_cases hk : k < 8 * (bytesOf l).length
  · rw [bitsOf_get _ _ hk]
    have h1 : k / 8 < (bytesOf l).length := by omega
    rw [List.getElem?_eq_getElem h1, bytesOf_at, Option.map_some]
    have h8 := num8_lt (l.drop (8 * (k / 8)))
    have e1 : (UInt8.ofNat (num ((l.drop (8 * (k / 8))).take 8))).toNat = num ((l.drop (8 * (k / 8))).take 8) := by simp; omega
    rw [e1, num_testBit, List.getD_eq_getElem?_getD, List.getElem?_take, if_pos (by omega), List.getElem?_drop, show 8 * (k / 8) + k % 8 = k by omega]
    rw [bytesOf_length] at hk
    by_cases hl : k < l.length
    · rw [List.getElem?_append_left hl, List.getElem?_eq_getElem hl]; rfl
    · rw [List.getElem?_append_right (by omega), List.getElem?_eq_none (by omega), List.getElem?_replicate, if_pos (by omega)]; rfl
  · rw [List.getElem?_eq_none (by rw [bitsOf_length]; omega), List.getElem?_eq_none]
    rw [bytesOf_length] at hk
    simp; omega
theorem num_split (l : List Bool) (k : Nat) (h : k ≤ l.length) : num l = num (l.take k) + 2 ^ k * num (l.drop k) := by
  conv => lhs; rw [← List.take_append_drop k l, num_append]
  rw [List.length_take, Nat.min_eq_left h]
end Go.Lm.Bt
