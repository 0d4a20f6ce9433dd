/-
  PLAIN: records. No program in sight.
-/
import Derived.Test.YthdcagdjgkblpaaDoorCurPlain
import Derived.Test.YthdcagdjgkblpaaDoorCrcPlain
namespace Go.Lm.Led

def rec0 (k v : Nat) : List UInt8 := Cur.put k 1 ++ Cur.put v 8
/-- A record's bytes. -/
def put (k v : Nat) : List UInt8 := rec0 k v ++ Cur.put (Crc.sum (rec0 k v)) 4
theorem rec0_length (k v : Nat) : (rec0 k v).length = 9 := by unfold rec0; rw [List.length_append, Cur.put_length, Cur.put_length]
theorem put_length (k v : Nat) : (put k v).length = 13 := by unfold put; rw [List.length_append, rec0_length, Cur.put_length]
/-- The record that bytes are, if they are one. -/
def one : List UInt8 → Option (Nat × Nat)
  | [] => none
  | c :: l => if (c.toNat = 1 ∨ c.toNat = 2) ∧ put c.toNat (Cur.le (l.take 8)) = c :: l then some (c.toNat, Cur.le (l.take 8)) else none
theorem one_cons (c : UInt8) (l : List UInt8) : one (c :: l) = if (c.toNat = 1 ∨ c.toNat = 2) ∧ put c.toNat (Cur.le (l.take 8)) = c :: l then some (c.toNat, Cur.le (l.take 8)) else none := rfl
theorem one_length {p : List UInt8} {r : Nat × Nat} (h : one p = some r) : p.length = 13 := by
  cases p with
  | nil => simp [one] at h
  | cons c l =>
    rw [one_cons] at h
    split at h
    · rename_i h2; rw [← h2.2, put_length]
    · simp at h
theorem one_put {p : List UInt8} {r : Nat × Nat} (h : one p = some r) : put r.1 r.2 = p ∧ (r.1 = 1 ∨ r.1 = 2) ∧ r.2 < 18446744073709551616 := by
  cases p with
  | nil => simp [one] at h
  | cons c l =>
    rw [one_cons] at h
    split at h
    · rename_i h2
      have h3 := Cur.le_lt (l.take 8)
      have h4 : 256 ^ (l.take 8).length ≤ 256 ^ 8 := Nat.pow_le_pow_right (by decide) (by simp; omega)
      simp only [Option.some.injEq] at h
      subst h
      exact ⟨h2.2, h2.1, by simp only []; omega⟩
    · simp at h
theorem one_of_put (k v : Nat) (hk : k = 1 ∨ k = 2) (hv : v < 18446744073709551616) : one (put k v) = some (k, v) := by
  have e : put k v = UInt8.ofNat k :: (Cur.put v 8 ++ Cur.put (Crc.sum (rec0 k v)) 4) := rfl
  have ek : (UInt8.ofNat k).toNat = k := by simp; omega
  have et : ((Cur.put v 8 ++ Cur.put (Crc.sum (rec0 k v)) 4)).take 8 = Cur.put v 8 := List.take_left' (Cur.put_length v 8)
  have ev : Cur.le (Cur.put v 8) = v := by rw [Cur.le_put]; exact Nat.mod_eq_of_lt hv
  rw [e, one_cons, ek, et, ev, if_pos ⟨hk, e⟩]

/-- The records that bytes begin with. -/
def reads : Nat → List UInt8 → List (Nat × Nat)
  | 0, _ => []
  | n + 1, l => match one (l.take 13) with
    | none => []
    | some r => r :: reads n (l.drop 13)
def part (l : List UInt8) (k : Nat) : List UInt8 := (l.drop (13 * k)).take 13
theorem part_succ (l : List UInt8) (k : Nat) : part (l.drop 13) k = part l (k + 1) := by unfold part; rw [List.drop_drop, show 13 + 13 * k = 13 * (k + 1) by omega]
theorem part_nil (l : List UInt8) (k : Nat) (h : l.length ≤ 13 * k) : part l k = [] := by unfold part; rw [List.drop_eq_nil_of_le h]; rfl
/-- What is read, told by the parts. -/
theorem reads_of : ∀ (n : Nat) (l : List UInt8) (R : List (Nat × Nat)), (∀ j (h : j < R.length), one (part l j) = some R[j]) → one (part l R.length) = none → R.length < n → reads n l = R
  | 0, l, R, _, _, h => by omega
  | n + 1, l, [], _, h2, _ => by
    have h2 : one (part l 0) = none := h2
    unfold part at h2
    rw [Nat.mul_zero, List.drop_zero] at h2
    unfold reads
    rw [h2]
  | n + 1, l, r :: R, h1, h2, h3 => by
    have h0 : one (part l 0) = some r := h1 0 (by simp)
    unfold part at h0
    rw [Nat.mul_zero, List.drop_zero] at h0
    have ih := reads_of n (l.drop 13) R (fun j hj => by rw [part_succ]; exact h1 (j + 1) (by simpa using hj)) (by rw [part_succ]; simpa using h2) (by simpa using h3)
    unfold reads
    rw [h0, ih]
/-- All records of bytes, and how many bytes they have. -/
def all (l : List UInt8) : List (Nat × Nat) := reads (l.length + 1) l
theorem all_of (l : List UInt8) (R : List (Nat × Nat)) (h1 : ∀ j (h : j < R.length), one (part l j) = some R[j]) (h2 : one (part l R.length) = none) : all l = R := by
  refine reads_of _ l R h1 h2 ?_
  have : 13 * R.length ≤ l.length ∨ R.length = 0 := by
    by_cases h : R.length = 0
    · exact .inr h
    · have h3 := one_length (h1 (R.length - 1) (by omega))
      unfold part at h3
      rw [List.length_take, List.length_drop] at h3
      exact .inl (by omega)
  omega
end Go.Lm.Led
