/-
  THE WALKS of package bits: take.
-/
import Derived.Test.YtfckokdgmbbheaaRows
import Derived.Test.YtfckokdgmbbheaaGen4
import Derived.Test.YtfckokdgmbbheaaBitPlain
import Derived.WalkSpells
import Derived.PlainAid
import Derived.Laws.OwnMore
import Derived.Laws.Bits64b
import Derived.Handy
set_option linter.unusedVariables false
set_option linter.unusedSimpArgs false
namespace Go.Proofs.Ytfckokdgmbbheaa.bit
open Go Go.RowKit Go.Lm

theorem ofInt_nat (n a : Nat) (ha : a < 2 ^ n) : (BitVec.ofInt n (a : Int)).toNat = a := by
  rw [BitVec.ofInt_natCast, BitVec.toNat_ofNat]; exact Nat.mod_eq_of_lt ha
theorem and_u8_nat (a b : Nat) (ha : a < 256) (hb : b < 256) : bits .and .u8 (a : Int) (b : Int) = ((a &&& b : Nat) : Int) := by
  have h1 := ofInt_nat 8 a ha
  have h2 := ofInt_nat 8 b hb
  have hx : a &&& b < 2 ^ 8 := Nat.and_lt_two_pow _ (by omega)
  show IntKind.u8.wrap ((BitVec.ofInt 8 (a : Int) &&& BitVec.ofInt 8 (b : Int)).toNat : Int) = _
  rw [BitVec.toNat_and, h1, h2, IntKind.wrap_u8]
  omega
theorem or_u8_nat (a b : Nat) (ha : a < 256) (hb : b < 256) : bits .or .u8 (a : Int) (b : Int) = ((a ||| b : Nat) : Int) := by
  have h1 := ofInt_nat 8 a ha
  have h2 := ofInt_nat 8 b hb
  have hx : a ||| b < 2 ^ 8 := Nat.or_lt_two_pow (by omega) (by omega)
  show IntKind.u8.wrap ((BitVec.ofInt 8 (a : Int) ||| BitVec.ofInt 8 (b : Int)).toNat : Int) = _
  rw [BitVec.toNat_or, h1, h2, IntKind.wrap_u8]
  omega
/-- The lowest bit of a number that was moved down. -/
theorem and_one (c r : Nat) (hc : c < 256) : bits .and .u8 ((c : Int) / 2 ^ r) 1 = (((c.testBit r).toNat : Nat) : Int) := by
  have e : (c : Int) / 2 ^ r = ((c / 2 ^ r : Nat) : Int) := by rw [Int.natCast_ediv, Int.natCast_pow]; rfl
  have h1 := and_u8_nat (c / 2 ^ r) 1 (Nat.lt_of_le_of_lt (Nat.div_le_self _ _) hc) (by decide)
  rw [e, show (1 : Int) = ((1 : Nat) : Int) by rfl, h1, Nat.and_one_is_mod, Nat.toNat_testBit]
theorem and_one64 (c r : Nat) (hc : c < 18446744073709551616) : bits .and .u64 ((c : Int) / 2 ^ r) 1 = (((c.testBit r).toNat : Nat) : Int) := by
  have e : (c : Int) / 2 ^ r = ((c / 2 ^ r : Nat) : Int) := by rw [Int.natCast_ediv, Int.natCast_pow]; rfl
  have h1 := bits_and_u64_nat (c / 2 ^ r) 1 (Nat.lt_of_le_of_lt (Nat.div_le_self _ _) hc) (by decide)
  rw [e, show (1 : Int) = ((1 : Nat) : Int) by rfl, h1, Nat.and_one_is_mod, Nat.toNat_testBit]
/-- A bit laid above. -/
theorem or_bit (X B k : Nat) (hk : k < 64) (hx : X < 2 ^ k) (hb : B ≤ 1) : bits .or .u64 (X : Int) (IntKind.u64.wrap ((B : Int) * 2 ^ k)) = ((X + 2 ^ k * B : Nat) : Int) := by
  have hp : 2 ^ k ≤ 2 ^ 63 := Nat.pow_le_pow_right (by decide) (by omega)
  have hm : 2 ^ k * B ≤ 2 ^ k * 1 := Nat.mul_le_mul_left _ hb
  have e : IntKind.u64.wrap ((B : Int) * 2 ^ k) = ((2 ^ k * B : Nat) : Int) := by
    have e1 : (B : Int) * 2 ^ k = ((2 ^ k * B : Nat) : Int) := by rw [Int.natCast_mul, Int.natCast_pow, Int.mul_comm]; rfl
    rw [e1, IntKind.wrap_u64]
    omega
  rw [e, bits_or_u64_nat _ _ (by omega) (by omega), Nat.or_comm, ← Nat.two_pow_add_eq_or_of_lt hx, Nat.add_comm]

set_option maxHeartbeats 400000 in
theorem take_c (w : World) (v : Value) (l : List UInt8) (hv : BS w v l) (p n : Nat) (h : p + n ≤ 8 * l.length) (hn : n ≤ 64) (hl : l.length ≤ 1000000) : Calls Try.prog 57 #[v, .int .i64 p, .int .i64 n] w fun e w' => e = .returned (.int .u64 (Bt.num (((Bt.bitsOf l).drop p).take n) : Nat)) ∧ w = w' := by
  obtain ⟨a, cap, rfl, h1, h2, h3, h4⟩ := hv
  have HC := Lib.hid h4; clear h4 h3
  unfold maxLen at h2
  go_enter Try.func57, Try.ntmps57
  go_wp2
  go_loop [7, 11] (fun x i => ∃ k : Nat, k ≤ n ∧ i = .int .i64 k ∧ x = .int .u64 (Bt.num (((Bt.bitsOf l).drop p).take k) : Nat)) (fun _ i => n - (intOf i).toNat)
  case atStart => exact ⟨0, Nat.zero_le _, rfl, rfl⟩
  case round =>
    obtain ⟨k, hk, rfl, rfl⟩ := hrel
    by_cases hkn : k < n
    · obtain ⟨j, hj⟩ : ∃ j, p + k = j := ⟨_, rfl⟩
      have hjl : j / 8 < l.length := by omega
      have hbl := Bt.bitsOf_length l
      have hnx := Bt.num_take ((Bt.bitsOf l).drop p) k (by simp [hbl]; omega)
      have hlt := Bt.num_lt (((Bt.bitsOf l).drop p).take k)
      have hle : 2 ^ (((Bt.bitsOf l).drop p).take k).length = 2 ^ k := by congr 1; simp [hbl]; omega
      rw [hle] at hlt
      have hb := Bt.bitsOf_at l j (by omega) hjl (by omega)
      have hbb : ((Bt.bitsOf l).drop p)[k]'(by simp [hbl]; omega) = (l[j / 8]).toNat.testBit (j % 8) := by
        rw [List.getElem_drop, ← hb]; congr 1
      rw [hbb] at hnx
      obtain ⟨b, off, rfl, hcell⟩ := HC.out (j / 8) hjl
      have hu := (l[j / 8]).toNat_lt
      generalize (l[j / 8]).toNat = c at *
      have hand := and_one c (j % 8) (by omega)
      have hB : (c.testBit (j % 8)).toNat ≤ 1 := by cases c.testBit (j % 8) <;> simp
      generalize (c.testBit (j % 8)).toNat = B at *
      generalize Bt.num (((Bt.bitsOf l).drop p).take k) = X at *
      have hor := or_bit X B k (by omega) hlt hB
      have hj1 : (p : Int) + (k : Int) = (j : Int) := by omega
      have hq : (j : Int) / 8 = ((j / 8 : Nat) : Int) := by omega
      have hr : (j : Int) % 8 = ((j % 8 : Nat) : Int) := by omega
      have hr8 : j % 8 < 8 := by omega
      generalize j / 8 = q at *
      generalize j % 8 = r at *
      have HNX := Lib.hid hnx; have HLT := Lib.hid hlt
      clear hnx hlt hle hb hbb hbl hj
      go_wp2
      go_round
      case rel => exact ⟨k + 1, by omega, by go_num, by rw [HNX.out]; simp⟩
      case measure => simp [intOf]; omega
    · obtain rfl : k = n := by omega
      go_wp2
      go_ret
      exact ⟨rfl, rfl⟩
end Go.Proofs.Ytfckokdgmbbheaa.bit
