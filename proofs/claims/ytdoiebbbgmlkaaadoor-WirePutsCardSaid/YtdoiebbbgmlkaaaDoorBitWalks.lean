/-
  THE WALKS of package bits: take.
-/
import Derived.Test.YtdoiebbbgmlkaaaDoorRows
import Derived.Test.YtdoiebbbgmlkaaaDoorGen4
import Derived.Test.YtdoiebbbgmlkaaaDoorBitPlain
import Derived.WalkSpells
import Derived.PlainAid
import Derived.Laws.OwnMore
import Derived.Laws.Bits64b
import Derived.Handy
set_option linter.unusedVariables false
set_option linter.unusedSimpArgs false
namespace Go.Proofs.YtdoiebbbgmlkaaaDoor.bit
open Go Go.RowKit Go.Lm

theorem ofInt_nat (n a : Nat) (ha : a < 2 ^ n) : (BitVec.ofInt n (a : Int)).toNat = a := by
  rw [BitVec.ofInt_natCast, BitVec.toNat_ofNat]; exact Nat.mod_eq_of_lt ha
theorem and_u8_nat (a b : Nat) (ha : a < 256) (hb : b < 256) : bits .and .u8 (a : Int) (b : Int) = ((a &&& b : Nat) : Int) := by
  have h1 := ofInt_nat 8 a ha
  have h2 := ofInt_nat 8 b hb
  have hx : a &&& b < 2 ^ 8 := Nat.and_lt_two_pow _ (by omega)
  show IntKind.u8.wrap ((BitVec.ofInt 8 (a : Int) &&& BitVec.ofInt 8 (b : Int)).toNat : Int) = _
  rw [BitVec.toNat_and, h1, h2, IntKind.wrap_u8]
  omega
theorem or_u8_nat (a b : Nat) (ha : a < 256) (hb : b < 256) : bits .or .u8 (a : Int) (b : Int) = ((a ||| b : Nat) : Int) := by
  have h1 := ofInt_nat 8 a ha
  have h2 := ofInt_nat 8 b hb
  have hx : a ||| b < 2 ^ 8 := Nat.or_lt_two_pow (by omega) (by omega)
  show IntKind.u8.wrap ((BitVec.ofInt 8 (a : Int) ||| BitVec.ofInt 8 (b : Int)).toNat : Int) = _
  rw [BitVec.toNat_or, h1, h2, IntKind.wrap_u8]
  omega
/-- The lowest bit of a number that was moved down. -/
theorem and_one (c r : Nat) (hc : c < 256) : bits .and .u8 ((c : Int) / 2 ^ r) 1 = (((c.testBit r).toNat : Nat) : Int) := by
  have e : (c : Int) / 2 ^ r = ((c / 2 ^ r : Nat) : Int) := by rw [Int.natCast_ediv, Int.natCast_pow]; rfl
  have h1 := and_u8_nat (c / 2 ^ r) 1 (Nat.lt_of_le_of_lt (Nat.div_le_self _ _) hc) (by decide)
  rw [e, show (1 : Int) = ((1 : Nat) : Int) by rfl, h1, Nat.and_one_is_mod, Nat.toNat_testBit]
theorem and_one64 (c r : Nat) (hc : c < 18446744073709551616) : bits .and .u64 ((c : Int) / 2 ^ r) 1 = (((c.testBit r).toNat : Nat) : Int) := by
  have e : (c : Int) / 2 ^ r = ((c / 2 ^ r : Nat) : Int) := by rw [Int.natCast_ediv, Int.natCast_pow]; rfl
  have h1 := bits_and_u64_nat (c / 2 ^ r) 1 (Nat.lt_of_le_of_lt (Nat.div_le_self _ _) hc) (by decide)
  rw [e, show (1 : Int) = ((1 : Nat) : Int) by rfl, h1, Nat.and_one_is_mod, Nat.toNat_testBit]
/-- A bit laid above. -/
theorem or_bit (X B k : Nat) (hk : k < 64) (hx : X < 2 ^ k) (hb : B ≤ 1) : bits .or .u64 (X : Int) (IntKind.u64.wrap ((B : Int) * 2 ^ k)) = ((X + 2 ^ k * B : Nat) : Int) := by
  have hp : 2 ^ k ≤ 2 ^ 63 := Nat.pow_le_pow_right (by decide) (by omega)
  have hm : 2 ^ k * B ≤ 2 ^ k * 1 := Nat.mul_le_mul_left _ hb
  have e : IntKind.u64.wrap ((B : Int) * 2 ^ k) = ((2 ^ k * B : Nat) : Int) := by
    have e1 : (B : Int) * 2 ^ k = ((2 ^ k * B : Nat) : Int) := by rw [Int.natCast_mul, Int.natCast_pow, Int.mul_comm]; rfl
    rw [e1, IntKind.wrap_u64]
    omega
  rw [e, bits_or_u64_nat _ _ (by omega) (by omega), Nat.or_comm, ← Nat.two_pow_add_eq_or_of_lt hx, Nat.add_comm]

end Go.Proofs.YtdoiebbbgmlkaaaDoor.bit
