/-
  PLAIN: the head of a frame. No program in sight.
-/
import Derived.Test.YtkblnlddamojoaaCurPlain
namespace Go.Lm.Frm

def dn (d : Nat) : Nat := if d % 4 = 0 then 0 else if d % 4 = 1 then 1 else if d % 4 = 2 then 2 else 4
def zn (d : Nat) : Nat := if d / 64 = 0 then 0 else if d / 64 = 1 then 2 else if d / 64 = 2 then 4 else 8
def window (w : Nat) : Nat := 2 ^ (10 + w / 8) + 2 ^ (10 + w / 8) / 8 * (w % 8)
/-- A number that is read, or none. -/
def step (on : Bool) (l : List UInt8) (e : Int) (n : Nat) : List UInt8 × Int × Nat := if on then Cur.rnum l e (n : Int) else (l, e, 0)
structure Hd where
  win : Nat
  size : Nat
  known : Bool
  sum : Bool
def one (d : Nat) : Bool := d / 32 % 2 == 1
def nn (d : Nat) : Nat := if one d && (zn d == 0) then 1 else zn d
def s2 (d : Nat) (l : List UInt8) : List UInt8 × Int × Nat := step (!one d) l 0 1
def s3 (d : Nat) (l : List UInt8) : List UInt8 × Int × Nat := step (0 < dn d) (s2 d l).1 (s2 d l).2.1 (dn d)
def s4 (d : Nat) (l : List UInt8) : List UInt8 × Int × Nat := step (0 < nn d) (s3 d l).1 (s3 d l).2.1 (nn d)
def win2 (d : Nat) (l : List UInt8) : Nat := if one d then 0 else window (s2 d l).2.2
def size (d : Nat) (l : List UInt8) : Nat := if nn d = 2 then (s4 d l).2.2 + 256 else (s4 d l).2.2
def win (d : Nat) (l : List UInt8) : Nat := if one d then size d l else win2 d l
/-- The head behind its first byte d. -/
def body (d : Nat) (l : List UInt8) : Hd × Int × Int :=
  if (s4 d l).2.1 ≠ 0 then (⟨0, 0, false, false⟩, 0, (s4 d l).2.1)
  else if (s3 d l).2.2 ≠ 0 then (⟨0, 0, false, false⟩, 0, 14)
  else (⟨win d l, size d l, 0 < nn d, d / 4 % 2 == 1⟩, (l.length : Int) + 1 - (s4 d l).1.length, 0)
def head : List UInt8 → Hd × Int × Int
  | [] => (⟨0, 0, false, false⟩, 0, 10)
  | c :: l => if c.toNat / 8 % 2 = 1 then (⟨0, 0, false, false⟩, 0, 11) else body c.toNat l

theorem step_left (on : Bool) (l : List UInt8) (e : Int) (n : Nat) : (step on l e n).1.length ≤ l.length := by
  unfold step
  split
  · exact Cur.rtake_left _ _ _ _
  · exact Nat.le_refl _
theorem rnum_lt (l : List UInt8) (e : Int) (n : Nat) : (Cur.rnum l e (n : Int)).2.2 < 256 ^ n := by
  have h1 := Cur.rtake_out l e (n : Int) (decide (1 ≤ (n : Int)) && decide ((n : Int) ≤ 8))
  have h2 := Cur.le_lt (Cur.rtake l e (n : Int) (decide (1 ≤ (n : Int)) && decide ((n : Int) ≤ 8))).2.2
  have h3 : 256 ^ (Cur.rtake l e (n : Int) (decide (1 ≤ (n : Int)) && decide ((n : Int) ≤ 8))).2.2.length ≤ 256 ^ n := Nat.pow_le_pow_right (by decide) (by simpa using h1)
  exact Nat.lt_of_lt_of_le h2 h3
theorem step_lt (on : Bool) (l : List UInt8) (e : Int) (n : Nat) : (step on l e n).2.2 < 256 ^ n := by
  unfold step
  split
  · exact rnum_lt l e n
  · exact Nat.pow_pos (by decide)
theorem dn_cases (d : Nat) : dn d = 0 ∨ dn d = 1 ∨ dn d = 2 ∨ dn d = 4 := by unfold dn; (repeat' split) <;> first | (simp; done) | omega
theorem zn_cases (d : Nat) : zn d = 0 ∨ zn d = 2 ∨ zn d = 4 ∨ zn d = 8 := by unfold zn; (repeat' split) <;> first | (simp; done) | omega
theorem nn_cases (d : Nat) : nn d = 0 ∨ nn d = 1 ∨ nn d = 2 ∨ nn d = 4 ∨ nn d = 8 := by
  unfold nn
  rcases zn_cases d with h | h | h | h <;> rw [h] <;> split <;> simp
theorem size_lt (d : Nat) (l : List UInt8) : size d l < 18446744073709551616 := by
  unfold size
  have h := step_lt (0 < nn d) (s3 d l).1 (s3 d l).2.1 (nn d)
  have h' : (s4 d l).2.2 < 256 ^ nn d := h
  rcases nn_cases d with e | e | e | e | e <;> rw [e] at h' ⊢ <;> simp at h' ⊢ <;> omega
theorem pow_le (w : Nat) (h : w < 256) : 2 ^ (10 + w / 8) ≤ 2199023255552 ∧ 2 ^ (10 + w / 8) / 8 * (w % 8) ≤ 1924145348608 := by
  have h1 : 2 ^ (10 + w / 8) ≤ 2 ^ 41 := Nat.pow_le_pow_right (by decide) (by omega)
  have h2 : 2 ^ (10 + w / 8) / 8 * (w % 8) ≤ 2 ^ 38 * 7 := Nat.mul_le_mul (by omega) (by omega)
  exact ⟨h1, h2⟩
theorem window_lt (w : Nat) (h : w < 256) : window w < 18446744073709551616 := by
  unfold window
  have := pow_le w h
  omega
theorem win2_lt (d : Nat) (l : List UInt8) : win2 d l < 18446744073709551616 := by
  unfold win2
  split
  · decide
  · exact window_lt _ (step_lt _ _ _ 1)
theorem win_lt (d : Nat) (l : List UInt8) : win d l < 18446744073709551616 := by
  unfold win
  split
  · exact size_lt d l
  · exact win2_lt d l
end Go.Lm.Frm
