/-
  THE WALKS of the reference's clock: Bound, sum, New, Late.
-/
import Derived.Test.YtidkadlmnidmoaaArqCame
set_option linter.unusedVariables false
set_option linter.unusedSimpArgs false
namespace Go.Proofs.Ytidkadlmnidmoaa.arq
open Go Go.RowKit Go.Lm

theorem rsum_c (w : World) (x y : Nat) (hx : x < 18446744073709551616) (hy : y < 18446744073709551616) : Calls Try.prog 31 #[.int .u64 (x : Int), .int .u64 (y : Int)] w fun e w' => e = .returned (.int .u64 (Arq.plus x y : Nat)) ∧ Only [] w w' := by
  unfold Arq.plus
  by_cases h : x + y < 18446744073709551616
  · have h1 : ¬ ((18446744073709551615 : Int) - (x : Int) < (y : Int)) := by omega
    rw [if_pos h]
    obtain ⟨z, hz⟩ : ∃ z, x + y = z := ⟨_, rfl⟩
    have hzI : (x : Int) + (y : Int) = (z : Int) := by omega
    have hw : IntKind.u64.wrap ((18446744073709551615 : Int) - (x : Int)) = (18446744073709551615 : Int) - (x : Int) := by rw [IntKind.wrap_u64]; omega
    have hw2 : IntKind.u64.wrap ((x : Int) + (y : Int)) = (z : Int) := by rw [IntKind.wrap_u64]; omega
    rw [hz]
    clear hz
    go_enter Try.func31, Try.ntmps31
    go_wp2
    go_ret
    exact ⟨by first | rfl | simp [*], Only.refl _ _⟩
  · have h1 : (18446744073709551615 : Int) - (x : Int) < (y : Int) := by omega
    have hw : IntKind.u64.wrap ((18446744073709551615 : Int) - (x : Int)) = (18446744073709551615 : Int) - (x : Int) := by rw [IntKind.wrap_u64]; omega
    rw [if_neg h]
    go_enter Try.func31, Try.ntmps31
    go_wp2
    go_ret
    exact ⟨rfl, Only.refl _ _⟩

set_option maxHeartbeats 1000000 in
theorem bound_c (w : World) (c : Arq.Clk) (x : Nat) : Calls Try.prog 29 #[clkV c, .int .u64 (x : Int)] w fun e w' => e = .returned (.int .u64 (Arq.within x c.least c.most : Nat)) ∧ Only [] w w' := by
  unfold clkV Arq.within
  obtain ⟨l, m, wt, mn, o, an⟩ := c
  simp only []
  by_cases h1 : x < l
  · have g1 : (x : Int) < (l : Int) := by omega
    rw [Nat.max_eq_right (by omega)]
    by_cases h2 : m < l
    · have g2 : (m : Int) < (l : Int) := by omega
      rw [Nat.min_eq_right (by omega)]
      go_enter Try.func29, Try.ntmps29
      go_wp2
      go_ret
      exact ⟨rfl, (Only.refl [] w).alloc _⟩
    · have g2 : ¬ ((m : Int) < (l : Int)) := by omega
      rw [Nat.min_eq_left (by omega)]
      go_enter Try.func29, Try.ntmps29
      go_wp2
      go_ret
      exact ⟨rfl, (Only.refl [] w).alloc _⟩
  · have g1 : ¬ ((x : Int) < (l : Int)) := by omega
    rw [Nat.max_eq_left (by omega)]
    by_cases h2 : m < x
    · have g2 : (m : Int) < (x : Int) := by omega
      rw [Nat.min_eq_right (by omega)]
      go_enter Try.func29, Try.ntmps29
      go_wp2
      go_ret
      exact ⟨rfl, (Only.refl [] w).alloc _⟩
    · have g2 : ¬ ((m : Int) < (x : Int)) := by omega
      rw [Nat.min_eq_left (by omega)]
      go_enter Try.func29, Try.ntmps29
      go_wp2
      go_ret
      exact ⟨rfl, (Only.refl [] w).alloc _⟩
end Go.Proofs.Ytidkadlmnidmoaa.arq
