/-
  PLAIN: reading and writing numbers and bytes one behind the other. No program in sight.
-/
namespace Go.Lm.Cur

/-- The number of bytes, the lowest first. -/
def le : List UInt8 → Nat
  | [] => 0
  | c :: l => c.toNat + 256 * le l
theorem le_lt : ∀ l : List UInt8, le l < 256 ^ l.length
  | [] => by simp [le]
  | c :: l => by
    have := le_lt l
    have hc := c.toNat_lt
    simp only [le, List.length_cons, Nat.pow_succ]
    omega
theorem le_snoc : ∀ (l : List UInt8) (c : UInt8), le (l ++ [c]) = le l + c.toNat * 256 ^ l.length
  | [], c => by simp [le]
  | d :: l, c => by
    simp only [List.cons_append, le, le_snoc l c, List.length_cons, Nat.pow_succ, Nat.mul_add]
    rw [show 256 * (c.toNat * 256 ^ l.length) = c.toNat * (256 ^ l.length * 256) by rw [Nat.mul_left_comm, Nat.mul_comm 256]]
    omega
theorem le_take (l : List UInt8) (k : Nat) (h : k < l.length) : le (l.take (k + 1)) = le (l.take k) + l[k].toNat * 256 ^ k := by
  rw [List.take_succ_eq_append_getElem h, le_snoc, List.length_take, Nat.min_eq_left (by omega)]
theorem le_take_lt (l : List UInt8) (k : Nat) (h : k ≤ l.length) : le (l.take k) < 256 ^ k := by
  have := le_lt (l.take k)
  rwa [List.length_take, Nat.min_eq_left h] at this
theorem pow256 (k : Nat) : 256 ^ k = 2 ^ (8 * k) := by rw [show 256 = 2 ^ 8 by rfl, ← Nat.pow_mul]
/-- A byte laid above. -/
theorem or_above {x c k : Nat} (hx : x < 256 ^ k) : x ||| (c * 2 ^ (8 * k)) = x + c * 256 ^ k := by
  rw [pow256] at *
  rw [Nat.or_comm, Nat.mul_comm, ← Nat.two_pow_add_eq_or_of_lt hx, Nat.add_comm]

/-- A number's bytes. -/
def put (x : Nat) : Nat → List UInt8
  | 0 => []
  | n + 1 => UInt8.ofNat x :: put (x / 256) n
theorem put_length (x n : Nat) : (put x n).length = n := by
  induction n generalizing x with
  | zero => rfl
  | succ n ih => simp [put, ih]
theorem put_snoc (x n : Nat) : put x (n + 1) = put x n ++ [UInt8.ofNat (x / 256 ^ n)] := by
  induction n generalizing x with
  | zero => simp [put]
  | succ n ih =>
    rw [put, ih]
    simp only [put, List.cons_append]
    rw [Nat.div_div_eq_div_mul, Nat.pow_succ, Nat.mul_comm 256]
theorem le_put (x n : Nat) : le (put x n) = x % 256 ^ n := by
  induction n generalizing x with
  | zero => simp [put, le, Nat.mod_one]
  | succ n ih =>
    simp only [put, le, ih, Nat.pow_succ]
    rw [Nat.mul_comm (256 ^ n), Nat.mod_mul]
    simp

/-- A reader's step: what is left, the error, what was taken. -/
def rtake (l : List UInt8) (e n : Int) (may : Bool) : List UInt8 × Int × List UInt8 :=
  if e ≠ 0 then (l, e, []) else if may = false then (l, 1, []) else if (l.length : Int) < n then (l, 10, []) else (l.drop n.toNat, 0, l.take n.toNat)
def rbytes (l : List UInt8) (e n : Int) : List UInt8 × Int × List UInt8 := rtake l e n (decide (0 ≤ n))
def rnum (l : List UInt8) (e n : Int) : List UInt8 × Int × Nat :=
  let r := rtake l e n (decide (1 ≤ n) && decide (n ≤ 8))
  (r.1, r.2.1, le r.2.2)
def rend (l : List UInt8) (e : Int) : Int := if e ≠ 0 ∨ l = [] then e else 15
theorem rtake_out (l : List UInt8) (e n : Int) (may : Bool) : (rtake l e n may).2.2.length ≤ n.toNat := by
  unfold rtake
  split
  · simp
  · split
    · simp
    · split
      · simp
      · simp; omega
theorem rtake_left (l : List UInt8) (e n : Int) (may : Bool) : (rtake l e n may).1.length ≤ l.length := by
  unfold rtake
  split
  · simp
  · split
    · simp
    · split
      · simp
      · simp
end Go.Lm.Cur
