/-
  THE WALKS of part and the reference's part.
-/
import Derived.Test.YtidkadlmnidmoaaArqDiv
set_option linter.unusedVariables false
set_option linter.unusedSimpArgs false
namespace Go.Lm.Arq
/-- A number so many times (3 or 7), and another one, by how many they are together. -/
def part (a t b : Nat) : Nat := (a * t + b) / (t + 1)
theorem part_lt (a t b : Nat) (ht : t = 3 ∨ t = 7) (ha : a < 18446744073709551616) (hb : b < 18446744073709551616) : part a t b < 18446744073709551616 := by
  unfold part
  rcases ht with rfl | rfl <;> omega
end Go.Lm.Arq
namespace Go.Proofs.Ytidkadlmnidmoaa.arq
open Go Go.RowKit Go.Lm

theorem div4_c (w : World) (hi lo : Nat) (h1 : hi < 4) (h2 : lo < 18446744073709551616) : Calls Try.prog 39 #[.int .u64 (hi : Int), .int .u64 (lo : Int), .int .u64 4] w fun e w' => ∃ r, e = .returned (.tuple #[.int .u64 (((hi * 18446744073709551616 + lo) / 4 : Nat) : Int), r]) ∧ Only [] w w' := by
  by_cases h0 : 0 < hi
  · exact div64_4 w hi lo h0 h1 h2
  · obtain rfl : hi = 0 := by omega
    rw [Nat.zero_mul, Nat.zero_add]
    exact div64_lo w lo 4 (by decide) h2
theorem div8_c (w : World) (hi lo : Nat) (h1 : hi < 8) (h2 : lo < 18446744073709551616) : Calls Try.prog 39 #[.int .u64 (hi : Int), .int .u64 (lo : Int), .int .u64 8] w fun e w' => ∃ r, e = .returned (.tuple #[.int .u64 (((hi * 18446744073709551616 + lo) / 8 : Nat) : Int), r]) ∧ Only [] w w' := by
  by_cases h0 : 0 < hi
  · exact div64_8 w hi lo h0 h1 h2
  · obtain rfl : hi = 0 := by omega
    rw [Nat.zero_mul, Nat.zero_add]
    exact div64_lo w lo 8 (by decide) h2

theorem part_plain (a t b H1 L1 C L2 : Nat) (h1 : a * t / 18446744073709551616 = H1) (h2 : a * t % 18446744073709551616 = L1) (h3 : (L1 + b) / 18446744073709551616 = C) (h4 : (L1 + b) % 18446744073709551616 = L2) : (H1 + C) * 18446744073709551616 + L2 = a * t + b := by
  generalize a * t = x at *
  omega

/-- BODILESS. -/
theorem part_c (w : World) (a t b : Nat) (ht : t = 3 ∨ t = 7) (ha : a < 18446744073709551616) (hb : b < 18446744073709551616) : Calls Try.prog 32 #[.int .u64 (a : Int), .int .u64 (t : Int), .int .u64 (b : Int)] w fun e w' => e = .returned (.int .u64 (Arq.part a t b : Nat)) ∧ Only [] w w' := by
  obtain ⟨P, hP⟩ : ∃ P, Arq.part a t b = P := ⟨_, rfl⟩
  obtain ⟨H1, hH1⟩ : ∃ H1, a * t / 18446744073709551616 = H1 := ⟨_, rfl⟩
  obtain ⟨L1, hL1⟩ : ∃ L1, a * t % 18446744073709551616 = L1 := ⟨_, rfl⟩
  obtain ⟨C, hC⟩ : ∃ C, (L1 + b) / 18446744073709551616 = C := ⟨_, rfl⟩
  obtain ⟨L2, hL2⟩ : ∃ L2, (L1 + b) % 18446744073709551616 = L2 := ⟨_, rfl⟩
  have hadd := fun W => run_add64 L1 b W
  rw [hC, hL2] at hadd
  have hmul := Lib.hid (fun W => Try.bits_Mul64 a t ha (by omega) W)
  rw [hH1, hL1] at hmul
  have hpl := part_plain a t b H1 L1 C L2 hH1 hL1 hC hL2
  have hw : IntKind.u64.wrap ((H1 : Int) + (C : Int)) = ((H1 + C : Nat) : Int) := by
    rw [show (H1 : Int) + (C : Int) = ((H1 + C : Nat) : Int) by omega]
    exact wrapN _ (by rcases ht with rfl | rfl <;> omega)
  have HD : Hid (∀ W : World, Calls Try.prog 39 #[.int .u64 ((H1 + C : Nat) : Int), .int .u64 (L2 : Int), .int .u64 ((t + 1 : Nat) : Int)] W fun e w' => ∃ r, e = .returned (.tuple #[.int .u64 (P : Int), r]) ∧ Only [] W w') := Lib.hid (fun W => by
    unfold Arq.part at hP
    rw [← hP, ← hpl]
    rcases ht with rfl | rfl
    · exact div4_c W (H1 + C) L2 (by omega) (by omega)
    · exact div8_c W (H1 + C) L2 (by omega) (by omega))
  have hw1 : IntKind.u64.wrap ((t : Int) + 1) = ((t + 1 : Nat) : Int) := by
    rw [show (t : Int) + 1 = ((t + 1 : Nat) : Int) by omega]
    exact wrapN _ (by omega)
  obtain ⟨H, hH⟩ : ∃ H, H1 + C = H := ⟨_, rfl⟩
  obtain ⟨T, hT⟩ : ∃ T, t + 1 = T := ⟨_, rfl⟩
  rw [hH] at hw HD
  rw [hT] at hw1 HD
  rw [hP]
  clear hP hH1 hL1 hC hL2 hpl hH hT ht ha hb
  go_enter Try.func32, Try.ntmps32
  go_wp2_with fail
  refine (hmul.out w).mono ?_
  rintro e w' ⟨rfl, rfl⟩
  --@1
  go_wp2_with fail
  refine (HD.out _).mono ?_
  rintro e w2 ⟨r, rfl, ho2⟩
  have HO2 := Lib.hid ho2
  clear ho2
  --@2
  go_wp2
  go_ret
  exact ⟨rfl, HO2.out⟩

theorem rpart_plain (a t b m q r : Nat) (hm : t + 1 = m) (hq : a / m * t + b / m = q) (hr : a % m * t + b % m = r) : q + r / m = (a * t + b) / m := by
  have hm0 : 0 < m := by omega
  have e1 : a * t + b = q * m + r := by
    have h1 := Nat.div_add_mod a m
    have h2 := Nat.div_add_mod b m
    rw [← hq, ← hr]
    calc a * t + b = (m * (a / m) + a % m) * t + (m * (b / m) + b % m) := by rw [h1, h2]
      _ = (a / m * t + b / m) * m + (a % m * t + b % m) := by
        have e1 : m * (a / m) * t = a / m * t * m := by rw [Nat.mul_assoc, Nat.mul_comm m]
        have e2 : m * (b / m) = b / m * m := Nat.mul_comm _ _
        rw [Nat.add_mul, Nat.add_mul, e1, e2]
        omega
  rw [e1, Nat.add_comm (q * m), Nat.add_mul_div_right _ _ hm0, Nat.add_comm]

set_option maxHeartbeats 1000000 in
theorem rpart_c (w : World) (a t b : Nat) (ht : t = 3 ∨ t = 7) (ha : a < 18446744073709551616) (hb : b < 18446744073709551616) : Calls Try.prog 33 #[.int .u64 (a : Int), .int .u64 (t : Int), .int .u64 (b : Int)] w fun e w' => e = .returned (.int .u64 (Arq.part a t b : Nat)) ∧ Only [] w w' := by
  obtain ⟨P, hP⟩ : ∃ P, Arq.part a t b = P := ⟨_, rfl⟩
  have hP64 : P < 18446744073709551616 := by rw [← hP]; exact Arq.part_lt a t b ht ha hb
  unfold Arq.part at hP ⊢
  rw [hP]
  obtain ⟨m, hm⟩ : ∃ m, t + 1 = m := ⟨_, rfl⟩
  have hm0 : 0 < m := by omega
  rw [hm] at hP
  have hpl := fun q r => rpart_plain a t b m q r hm
  rw [hP] at hpl
  have ht7 : t ≤ 7 := by omega
  have hmm : m ≤ 8 := by omega
  obtain ⟨a1, ha1⟩ : ∃ x, a / m = x := ⟨_, rfl⟩
  obtain ⟨a2, ha2⟩ : ∃ x, a % m = x := ⟨_, rfl⟩
  obtain ⟨b1, hb1⟩ : ∃ x, b / m = x := ⟨_, rfl⟩
  obtain ⟨b2, hb2⟩ : ∃ x, b % m = x := ⟨_, rfl⟩
  rw [ha1, ha2, hb1, hb2] at hpl
  obtain ⟨q, hq⟩ : ∃ q, a1 * t + b1 = q := ⟨_, rfl⟩
  obtain ⟨r, hr⟩ : ∃ r, a2 * t + b2 = r := ⟨_, rfl⟩
  have hpl := hpl q r hq hr
  have ba2 : a2 < m := by rw [← ha2]; exact Nat.mod_lt _ hm0
  have bb2 : b2 < m := by rw [← hb2]; exact Nat.mod_lt _ hm0
  obtain ⟨r1, hr1⟩ : ∃ x, r / m = x := ⟨_, rfl⟩
  rw [hr1] at hpl
  have bt : a2 * t ≤ 7 * 7 := Nat.mul_le_mul (by omega) ht7
  have f1 : IntKind.u64.wrap ((t : Int) + 1) = (m : Int) := by rw [show (t : Int) + 1 = (m : Int) by omega]; exact wrapN _ (by omega)
  have la1 : a1 ≤ a := by rw [← ha1]; exact Nat.div_le_self a m
  have lb1 : b1 ≤ b := by rw [← hb1]; exact Nat.div_le_self b m
  have f2 : (a : Int).tdiv (m : Int) = (a1 : Int) := by rw [Int.tdiv_eq_ediv_of_nonneg (by omega), ← ha1]; exact (Int.natCast_ediv a m).symm
  have f2' : (a : Int) / (m : Int) = (a1 : Int) := by rw [← ha1]; exact (Int.natCast_ediv a m).symm
  have f3 : (b : Int).tdiv (m : Int) = (b1 : Int) := by rw [Int.tdiv_eq_ediv_of_nonneg (by omega), ← hb1]; exact (Int.natCast_ediv b m).symm
  have f3' : (b : Int) / (m : Int) = (b1 : Int) := by rw [← hb1]; exact (Int.natCast_ediv b m).symm
  have f4 : (a : Int).tmod (m : Int) = (a2 : Int) := by rw [Int.tmod_eq_emod_of_nonneg (by omega), ← ha2]; exact (Int.natCast_emod a m).symm
  have f4' : (a : Int) % (m : Int) = (a2 : Int) := by rw [← ha2]; exact (Int.natCast_emod a m).symm
  have f5 : (b : Int).tmod (m : Int) = (b2 : Int) := by rw [Int.tmod_eq_emod_of_nonneg (by omega), ← hb2]; exact (Int.natCast_emod b m).symm
  have f5' : (b : Int) % (m : Int) = (b2 : Int) := by rw [← hb2]; exact (Int.natCast_emod b m).symm
  have g1 : IntKind.u64.wrap (a1 : Int) = (a1 : Int) := wrapN _ (by omega)
  have g2 : IntKind.u64.wrap (b1 : Int) = (b1 : Int) := wrapN _ (by omega)
  obtain ⟨x1, hx1⟩ : ∃ x, a1 * t = x := ⟨_, rfl⟩
  obtain ⟨x2, hx2⟩ : ∃ x, a2 * t = x := ⟨_, rfl⟩
  rw [hx1] at hq
  rw [hx2] at hr bt
  have g3 : IntKind.u64.wrap ((a1 : Int) * (t : Int)) = (x1 : Int) := by rw [show (a1 : Int) * (t : Int) = (x1 : Int) by rw [← hx1]; exact (Int.natCast_mul a1 t).symm]; exact wrapN _ (by omega)
  have g4 : IntKind.u64.wrap ((a2 : Int) * (t : Int)) = (x2 : Int) := by rw [show (a2 : Int) * (t : Int) = (x2 : Int) by rw [← hx2]; exact (Int.natCast_mul a2 t).symm]; exact wrapN _ (by omega)
  have g5 : IntKind.u64.wrap ((x1 : Int) + (b1 : Int)) = (q : Int) := by rw [show (x1 : Int) + (b1 : Int) = (q : Int) by omega]; exact wrapN _ (by omega)
  have g6 : IntKind.u64.wrap ((x2 : Int) + (b2 : Int)) = (r : Int) := by rw [show (x2 : Int) + (b2 : Int) = (r : Int) by omega]; exact wrapN _ (by omega)
  have f6 : (r : Int).tdiv (m : Int) = (r1 : Int) := by rw [Int.tdiv_eq_ediv_of_nonneg (by omega), ← hr1]; exact (Int.natCast_ediv r m).symm
  have f6' : (r : Int) / (m : Int) = (r1 : Int) := by rw [← hr1]; exact (Int.natCast_ediv r m).symm
  have g7 : IntKind.u64.wrap (r1 : Int) = (r1 : Int) := wrapN _ (by have := Nat.div_le_self r m; omega)
  have g8 : IntKind.u64.wrap ((q : Int) + (r1 : Int)) = (P : Int) := by rw [show (q : Int) + (r1 : Int) = (P : Int) by omega]; exact wrapN _ hP64
  have hz : ((m : Int) == 0) = false := by rw [beq_eq_false_iff_ne]; omega
  have hz2 : ¬ ((m : Int) = 0) := by omega
  clear hP hP64 hm hm0 hpl ht7 hmm ha1 ha2 hb1 hb2 hq hr ba2 bb2 hr1 bt la1 lb1 hx1 hx2 ht ha hb
  go_enter Try.func33, Try.ntmps33
  go_wp2_with fail
  --@3
  go_quiet (fail)
  go_wp2_with fail
  --@4
  go_quiet (fail)
  go_wp2
  go_ret
  --@5
  exact ⟨rfl, (Only.refl [] w).drewN _⟩
end Go.Proofs.Ytidkadlmnidmoaa.arq
