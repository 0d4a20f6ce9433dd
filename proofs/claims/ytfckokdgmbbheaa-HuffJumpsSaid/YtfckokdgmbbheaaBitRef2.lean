/-
  THE WALKS of the reference's bits, more: Bytes, Write.
-/
import Derived.Test.YtfckokdgmbbheaaBitRef
set_option linter.unusedVariables false
set_option linter.unusedSimpArgs false
namespace Go.Proofs.Ytfckokdgmbbheaa.bit
open Go Go.RowKit Go.Lm

theorem bytesOf_take (l : List Bool) (q : Nat) (hq : 8 * q < l.length) : (Bt.bytesOf l).take (q + 1) = (Bt.bytesOf l).take q ++ [UInt8.ofNat (Bt.num ((l.drop (8 * q)).take 8))] := by
  have h : q < (Bt.bytesOf l).length := by rw [Bt.bytesOf_length]; omega
  rw [List.take_succ_eq_append_getElem h, Bt.bytesOf_at]
theorem num_take_lt (l : List Bool) (j : Nat) : Bt.num (l.take j) < 2 ^ j :=
  Nat.lt_of_lt_of_le (Bt.num_lt _) (Nat.pow_le_pow_right (by decide) (by rw [List.length_take]; omega))
theorem num_take_end (l : List Bool) (j : Nat) (h : l.length ≤ j) : Bt.num (l.take (j + 1)) = Bt.num (l.take j) := by
  rw [List.take_of_length_le h, List.take_of_length_le (by omega)]

end Go.Proofs.Ytfckokdgmbbheaa.bit
