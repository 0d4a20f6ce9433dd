/-
  GENERAL, MORE: how many bits a number has. Of no program.
-/
import Derived.Lib.BitFns
set_option linter.unusedVariables false
namespace Go.Lm
theorem bitLen_zero : Lib.bitLen 0 = 0 := rfl
theorem bitLen_bounds : ∀ (n x : Nat), x ≤ n → x ≠ 0 → x < 2 ^ 64 → 1 ≤ Lib.bitLen x ∧ 2 ^ (Lib.bitLen x - 1) ≤ x ∧ x < 2 ^ Lib.bitLen x
  | 0, x, h, h0, _ => by omega
  | n + 1, x, h, h0, hx => by
    rw [Lib.bitLen_half x h0 hx]
    by_cases h1 : x / 2 = 0
    · have : x = 1 := by omega
      subst this; decide
    · obtain ⟨a, b, c⟩ := bitLen_bounds n (x / 2) (by omega) h1 (by omega)
      refine ⟨by omega, ?_, ?_⟩
      · rw [show 1 + Lib.bitLen (x / 2) - 1 = (Lib.bitLen (x / 2) - 1) + 1 by omega, Nat.pow_succ]; omega
      · rw [Nat.add_comm, Nat.pow_succ]; omega
theorem bl_spec {x : Nat} (h0 : x ≠ 0) (hx : x < 2 ^ 64) : 1 ≤ Lib.bitLen x ∧ 2 ^ (Lib.bitLen x - 1) ≤ x ∧ x < 2 ^ Lib.bitLen x := bitLen_bounds x x (Nat.le_refl _) h0 hx
theorem bl_le {x k : Nat} (hx : x < 2 ^ k) (hk : k ≤ 64) : Lib.bitLen x ≤ k := by
  by_cases h0 : x = 0
  · subst h0; rw [bitLen_zero]; omega
  · have h64 : x < 2 ^ 64 := Nat.lt_of_lt_of_le hx (Nat.pow_le_pow_right (by decide) hk)
    have h1 := bl_spec h0 h64
    rcases Nat.lt_or_ge k (Lib.bitLen x) with h | h
    · have : 2 ^ k ≤ 2 ^ (Lib.bitLen x - 1) := Nat.pow_le_pow_right (by decide) (by omega)
      omega
    · exact h
end Go.Lm
