/-
  THE WALK of math/bits.Div64, by 4 and by 8.
-/
import Derived.Test.YtidkadlmnidmoaaArqClk
import Derived.Test.YtidkadlmnidmoaaShelf
import Derived.Laws.Bits64b
set_option linter.unusedVariables false
set_option linter.unusedSimpArgs false
namespace Go.Proofs.Ytidkadlmnidmoaa.arq
open Go Go.RowKit Go.Lm

set_option maxHeartbeats 1000000 in
theorem div64_lo (w : World) (lo y : Nat) (hy : 0 < y) (h1 : lo < 18446744073709551616) : Calls Try.prog 39 #[.int .u64 0, .int .u64 (lo : Int), .int .u64 (y : Int)] w fun e w' => ∃ r, e = .returned (.tuple #[.int .u64 ((lo / y : Nat) : Int), r]) ∧ Only [] w w' := by
  have hI : ¬ ((y : Int) = 0) := by omega
  have hI2 : ¬ ((y : Int) ≤ 0) := by omega
  have hy0 : 0 < (y : Int) := by omega
  have hb : ((y : Int) == 0) = false := by rw [beq_eq_false_iff_ne]; exact hI
  have hq : (lo : Int).tdiv (y : Int) = ((lo / y : Nat) : Int) := by rw [Int.tdiv_eq_ediv_of_nonneg (by omega)]; exact (Int.natCast_ediv lo y).symm
  have hq2 : (lo : Int) / (y : Int) = ((lo / y : Nat) : Int) := (Int.natCast_ediv lo y).symm
  obtain ⟨q, hqq⟩ : ∃ q, lo / y = q := ⟨_, rfl⟩
  have hql : q ≤ lo := by rw [← hqq]; exact Nat.div_le_self lo y
  have wq : IntKind.u64.wrap (q : Int) = (q : Int) := by rw [IntKind.wrap_u64]; omega
  rw [hqq] at hq hq2 ⊢
  clear hqq
  go_enter Try.func39, Try.ntmps39
  go_wp2_with fail
  --@1
  go_quiet (fail)
  --@2
  go_wp2
  go_ret2
  exact ⟨_, rfl, (Only.refl [] w).drewN _⟩

theorem or_4 (hi lo : Nat) (h1 : hi < 4) (h2 : lo < 18446744073709551616) : bits BinOp.or IntKind.u64 ((hi : Int) * 2305843009213693952) ((lo : Int) / 8) = ((hi * 2305843009213693952 + lo / 8 : Nat) : Int) := by
  have h := bits_or_u64_nat (hi * 2305843009213693952) (lo / 8) (by omega) (by omega)
  have e : (hi * 2305843009213693952) ||| (lo / 8) = hi * 2305843009213693952 + lo / 8 := by
    have := Nat.shiftLeft_add_eq_or_of_lt (i := 61) (b := lo / 8) (by omega) hi
    rw [Nat.shiftLeft_eq] at this
    exact this.symm
  rw [e] at h
  exact h
theorem and_32 (a : Nat) (ha : a < 18446744073709551616) : bits .and .u64 (a : Int) 4294967295 = ((a % 4294967296 : Nat) : Int) := by
  have h := bits_and_u64_nat a 4294967295 ha (by omega)
  have e : a &&& 4294967295 = a % 4294967296 := Nat.and_two_pow_sub_one_eq_mod a 32
  rw [e] at h
  exact h

theorem mask63 : bits BinOp.and IntKind.u64 9223372036854775808 4294967295 = 0 := and_32 9223372036854775808 (by decide)
theorem wrapN (a : Nat) (ha : a < 18446744073709551616) : IntKind.u64.wrap (a : Int) = (a : Int) := by rw [IntKind.wrap_u64]; omega
/-- What the school's division by 2^63 reckons first: of a number A, and what was shifted out of the lower half. -/
structure Div1 (A B Q R U : Nat) : Prop where
  mask : bits BinOp.and IntKind.u64 (B : Int) 4294967295 = 0
  q : IntKind.u64.wrap ((A : Int).tdiv 2147483648) = (Q : Int)
  m : IntKind.u64.wrap ((Q : Int) * 2147483648) = (Q : Int) * 2147483648
  r : IntKind.u64.wrap ((A : Int) - (Q : Int) * 2147483648) = (R : Int)
  u : (B : Int) / 4294967296 = (U : Int)
  ql : (Q : Int) < 4294967296
  rl : (R : Int) < 2147483648
  ul : (U : Int) < 4294967296
theorem div1 (A B : Nat) (hA : A < 9223372036854775808) (hB : B < 18446744073709551616) (hm : B % 4294967296 = 0) : Div1 A B (A / 2147483648) (A % 2147483648) (B / 4294967296) := by
  have hand := and_32 B hB
  rw [hm] at hand
  clear hm
  refine ⟨hand, ?_, ?_, ?_, by omega, by omega, by omega, by omega⟩
  · have : ((A : Int).tdiv 2147483648) = ((A / 2147483648 : Nat) : Int) := by rw [Int.tdiv_eq_ediv_of_nonneg (by omega)]; omega
    rw [this]
    exact wrapN _ (by omega)
  · have : ((A / 2147483648 : Nat) : Int) * 2147483648 = ((A / 2147483648 * 2147483648 : Nat) : Int) := by omega
    rw [this]
    exact wrapN _ (by omega)
  · have : (A : Int) - ((A / 2147483648 : Nat) : Int) * 2147483648 = ((A % 2147483648 : Nat) : Int) := by omega
    rw [this]
    exact wrapN _ (by omega)

theorem div2 (A Q R U : Nat) (hA : A < 9223372036854775808) (hQ : A / 2147483648 = Q) (hR : A % 2147483648 = R) (hU : U < 4294967296) :
    IntKind.u64.wrap (IntKind.u64.wrap (IntKind.u64.wrap ((A : Int) * 4294967296) + (U : Int)) - IntKind.u64.wrap ((Q : Int) * 9223372036854775808)) = ((R * 4294967296 + U : Nat) : Int) := by
  simp only [IntKind.wrap_u64]
  omega
theorem res4 (hi lo A B Q R U T Q0 : Nat) (h1 : hi * 2305843009213693952 + lo / 8 = A) (h2 : lo % 8 * 2305843009213693952 = B) (h3 : A / 2147483648 = Q) (h4 : A % 2147483648 = R) (h5 : B / 4294967296 = U) (h6 : R * 4294967296 + U = T) (h7 : T / 2147483648 = Q0) :
    Q * 4294967296 + Q0 = (hi * 18446744073709551616 + lo) / 4 := by
  have e1 : U = lo % 8 * 536870912 := by omega
  have e2 : Q0 = 2 * R + (lo % 8) / 4 := by clear h1 h2 h3 h4 h5; omega
  have e3 : A = Q * 2147483648 + R := by clear h1 h2 h5 h6 h7; omega
  have e4 : Q * 4294967296 + Q0 = 2 * A + (lo % 8) / 4 := by clear h1 h2 h3 h4 h5 h6 h7 e1; omega
  rw [e4]
  clear h2 h3 h4 h5 h6 h7 e1 e2 e3 e4
  have e5 : (hi * 18446744073709551616 + lo) / 4 = hi * 4611686018427387904 + lo / 4 := by omega
  rw [e5]
  omega
theorem lead4 (W : World) : Calls Try.prog 40 #[.int .u64 4] W fun e w' => e = .returned (.int .i64 61) ∧ w' = W := by
  have h := Try.bits_LeadingZeros64 4 W (by decide) (by decide)
  rw [show (64 - (Lib.bitLen (4 : Int).toNat : Int)) = 61 from by decide] at h
  exact h
theorem lead8 (W : World) : Calls Try.prog 40 #[.int .u64 8] W fun e w' => e = .returned (.int .i64 60) ∧ w' = W := by
  have h := Try.bits_LeadingZeros64 8 W (by decide) (by decide)
  rw [show (64 - (Lib.bitLen (8 : Int).toNat : Int)) = 60 from by decide] at h
  exact h

set_option maxRecDepth 100000 in
set_option maxHeartbeats 4000000 in
theorem div64_4 (w : World) (hi lo : Nat) (h0 : 0 < hi) (h1 : hi < 4) (h2 : lo < 18446744073709551616) : Calls Try.prog 39 #[.int .u64 (hi : Int), .int .u64 (lo : Int), .int .u64 4] w fun e w' => ∃ r, e = .returned (.tuple #[.int .u64 (((hi * 18446744073709551616 + lo) / 4 : Nat) : Int), r]) ∧ Only [] w w' := by
  have HZ : Hid (∀ W : World, Calls Try.prog 40 #[.int .u64 4] W fun e w' => e = .returned (.int .i64 61) ∧ w' = W) := Lib.hid lead4
  obtain ⟨A, hA⟩ : ∃ A, hi * 2305843009213693952 + lo / 8 = A := ⟨_, rfl⟩
  have hor := or_4 hi lo h1 h2
  rw [hA] at hor
  obtain ⟨B, hB⟩ : ∃ B, (lo % 8) * 2305843009213693952 = B := ⟨_, rfl⟩
  have hwB : IntKind.u64.wrap ((lo : Int) * 2305843009213693952) = (B : Int) := by rw [IntKind.wrap_u64]; omega
  have hd := div1 A B (by omega) (by omega) (by omega)
  obtain ⟨Q, hQ⟩ : ∃ Q, A / 2147483648 = Q := ⟨_, rfl⟩
  obtain ⟨R, hR⟩ : ∃ R, A % 2147483648 = R := ⟨_, rfl⟩
  obtain ⟨U, hU⟩ : ∃ U, B / 4294967296 = U := ⟨_, rfl⟩
  rw [hQ, hR, hU] at hd
  have HD := Lib.hid hd
  have HA := Lib.hid hA; have HB := Lib.hid hB; have HQ := Lib.hid hQ; have HR := Lib.hid hR; have HU := Lib.hid hU; have HOR := Lib.hid hor; have HWB := Lib.hid hwB
  have H2 := Lib.hid h2
  clear h2 hA hB hQ hR hU hor hwB hd
  go_enter Try.func39, Try.ntmps39
  go_wp2_with fail
  refine (HZ.out w).mono ?_
  rintro e w' ⟨rfl, rfl⟩
  --@3
  go_wp2_with fail
  simp only [mask63, HOR.out, HWB.out, HD.out.mask, HD.out.q, HD.out.m, HD.out.r, HD.out.u]
  have hQl := HD.out.ql; have hRl := HD.out.rl; have hUl := HD.out.ul
  --@4
  have hm1 : IntKind.u64.wrap (4294967296 * (R : Int)) = 4294967296 * (R : Int) := by rw [IntKind.wrap_u64]; omega
  have hm2 : IntKind.u64.wrap (4294967296 * (R : Int) + (U : Int)) = 4294967296 * (R : Int) + (U : Int) := by rw [IntKind.wrap_u64]; omega
  have hc2 : decide (4294967296 * (R : Int) + (U : Int) < 0) = false := decide_eq_false (by omega)
  have hc1 : decide (4294967296 ≤ (Q : Int)) = false := decide_eq_false (by omega)
  clear hQl hRl hUl
  go_loopw [15, 16] (fun a b wr => a = .int .u64 (Q : Int) ∧ b = .int .u64 (R : Int) ∧ wr = w') (fun _ _ _ => 0)
  case atStart => exact ⟨rfl, rfl, rfl⟩
  case round =>
    obtain ⟨rfl, rfl, rfl⟩ := hrel
    --@5
    go_wp2_with fail
    obtain ⟨T, hT⟩ : ∃ T, R * 4294967296 + U = T := ⟨_, rfl⟩
    have hA9 : A < 9223372036854775808 := by have := HA.out; have := H2.out; omega
    have hR9 : R < 2147483648 := by have := HR.out; omega
    have hU9 : U < 4294967296 := by have := HU.out; have := HB.out; omega
    have h21 := div2 A Q R U hA9 HQ.out HR.out hU9
    rw [hT] at h21
    have hT9 : T < 9223372036854775808 := by omega
    have hd2 := div1 T 0 hT9 (by omega) (by omega)
    obtain ⟨Q0, hQ0⟩ : ∃ Q0, T / 2147483648 = Q0 := ⟨_, rfl⟩
    obtain ⟨R0, hR0⟩ : ∃ R0, T % 2147483648 = R0 := ⟨_, rfl⟩
    rw [hQ0, hR0] at hd2
    simp only [h21, hd2.q, hd2.m, hd2.r]
    have hRl := hd2.rl; have hQl := hd2.ql; have hQ1 := HD.out.ql
    have hres : Q * 4294967296 + Q0 = (hi * 18446744073709551616 + lo) / 4 :=
      res4 hi lo A B Q R U T Q0 HA.out HB.out HQ.out HR.out HU.out hT hQ0
    have hm3 : IntKind.u64.wrap (4294967296 * (R0 : Int)) = 4294967296 * (R0 : Int) := by rw [IntKind.wrap_u64]; omega
    have hc3 : decide (4294967296 * (R0 : Int) < 0) = false := decide_eq_false (by omega)
    have hc4 : decide (4294967296 ≤ (Q0 : Int)) = false := decide_eq_false (by omega)
    have hf1 : IntKind.u64.wrap ((Q : Int) * 4294967296) = (Q : Int) * 4294967296 := by rw [IntKind.wrap_u64]; omega
    have hf2 : IntKind.u64.wrap ((Q : Int) * 4294967296 + (Q0 : Int)) = (((hi * 18446744073709551616 + lo) / 4 : Nat) : Int) := by rw [← hres, IntKind.wrap_u64]; omega
    obtain ⟨RES, hRES⟩ : ∃ RES, (hi * 18446744073709551616 + lo) / 4 = RES := ⟨_, rfl⟩
    rw [hRES] at hf2
    have HRES := Lib.hid hRES
    clear hRl hQl hQ1 h21 hd2 hT9 hQ0 hR0 hT hA9 hR9 hU9 hm1 hm2 hc1 hc2 hres hRES
    --@6
    go_loopw [16, 18] (fun a b wx => a = .int .u64 (R0 : Int) ∧ b = .int .u64 (Q0 : Int) ∧ wx = wr) (fun _ _ _ => 0)
    case atStart => exact ⟨rfl, rfl, rfl⟩
    case round =>
      obtain ⟨rfl, rfl, rfl⟩ := hrel
      --@7
      go_wp2_with fail
      go_ret2
      --@8
      rw [HRES.out]
      exact ⟨_, rfl, Only.refl _ _⟩

theorem or_8 (hi lo : Nat) (h1 : hi < 8) (h2 : lo < 18446744073709551616) : bits BinOp.or IntKind.u64 ((hi : Int) * 1152921504606846976) ((lo : Int) / 16) = ((hi * 1152921504606846976 + lo / 16 : Nat) : Int) := by
  have h := bits_or_u64_nat (hi * 1152921504606846976) (lo / 16) (by omega) (by omega)
  have e : (hi * 1152921504606846976) ||| (lo / 16) = hi * 1152921504606846976 + lo / 16 := by
    have := Nat.shiftLeft_add_eq_or_of_lt (i := 60) (b := lo / 16) (by omega) hi
    rw [Nat.shiftLeft_eq] at this
    exact this.symm
  rw [e] at h
  exact h

theorem res8 (hi lo A B Q R U T Q0 : Nat) (h1 : hi * 1152921504606846976 + lo / 16 = A) (h2 : lo % 16 * 1152921504606846976 = B) (h3 : A / 2147483648 = Q) (h4 : A % 2147483648 = R) (h5 : B / 4294967296 = U) (h6 : R * 4294967296 + U = T) (h7 : T / 2147483648 = Q0) :
    Q * 4294967296 + Q0 = (hi * 18446744073709551616 + lo) / 8 := by
  have e1 : U = lo % 16 * 268435456 := by omega
  have e2 : Q0 = 2 * R + (lo % 16) / 8 := by clear h1 h2 h3 h4 h5; omega
  have e3 : A = Q * 2147483648 + R := by clear h1 h2 h5 h6 h7; omega
  have e4 : Q * 4294967296 + Q0 = 2 * A + (lo % 16) / 8 := by clear h1 h2 h3 h4 h5 h6 h7 e1; omega
  rw [e4]
  clear h2 h3 h4 h5 h6 h7 e1 e2 e3 e4
  have e5 : (hi * 18446744073709551616 + lo) / 8 = hi * 2305843009213693952 + lo / 8 := by omega
  rw [e5]
  omega

set_option maxRecDepth 100000 in
set_option maxHeartbeats 4000000 in
theorem div64_8 (w : World) (hi lo : Nat) (h0 : 0 < hi) (h1 : hi < 8) (h2 : lo < 18446744073709551616) : Calls Try.prog 39 #[.int .u64 (hi : Int), .int .u64 (lo : Int), .int .u64 8] w fun e w' => ∃ r, e = .returned (.tuple #[.int .u64 (((hi * 18446744073709551616 + lo) / 8 : Nat) : Int), r]) ∧ Only [] w w' := by
  have HZ : Hid (∀ W : World, Calls Try.prog 40 #[.int .u64 8] W fun e w' => e = .returned (.int .i64 60) ∧ w' = W) := Lib.hid lead8
  obtain ⟨A, hA⟩ : ∃ A, hi * 1152921504606846976 + lo / 16 = A := ⟨_, rfl⟩
  have hor := or_8 hi lo h1 h2
  rw [hA] at hor
  obtain ⟨B, hB⟩ : ∃ B, (lo % 16) * 1152921504606846976 = B := ⟨_, rfl⟩
  have hwB : IntKind.u64.wrap ((lo : Int) * 1152921504606846976) = (B : Int) := by rw [IntKind.wrap_u64]; omega
  have hd := div1 A B (by omega) (by omega) (by omega)
  obtain ⟨Q, hQ⟩ : ∃ Q, A / 2147483648 = Q := ⟨_, rfl⟩
  obtain ⟨R, hR⟩ : ∃ R, A % 2147483648 = R := ⟨_, rfl⟩
  obtain ⟨U, hU⟩ : ∃ U, B / 4294967296 = U := ⟨_, rfl⟩
  rw [hQ, hR, hU] at hd
  have HD := Lib.hid hd
  have HA := Lib.hid hA; have HB := Lib.hid hB; have HQ := Lib.hid hQ; have HR := Lib.hid hR; have HU := Lib.hid hU; have HOR := Lib.hid hor; have HWB := Lib.hid hwB
  have H2 := Lib.hid h2
  clear h2 hA hB hQ hR hU hor hwB hd
  go_enter Try.func39, Try.ntmps39
  go_wp2_with fail
  refine (HZ.out w).mono ?_
  rintro e w' ⟨rfl, rfl⟩
  --@3
  go_wp2_with fail
  simp only [mask63, HOR.out, HWB.out, HD.out.mask, HD.out.q, HD.out.m, HD.out.r, HD.out.u]
  have hQl := HD.out.ql; have hRl := HD.out.rl; have hUl := HD.out.ul
  --@4
  have hm1 : IntKind.u64.wrap (4294967296 * (R : Int)) = 4294967296 * (R : Int) := by rw [IntKind.wrap_u64]; omega
  have hm2 : IntKind.u64.wrap (4294967296 * (R : Int) + (U : Int)) = 4294967296 * (R : Int) + (U : Int) := by rw [IntKind.wrap_u64]; omega
  have hc2 : decide (4294967296 * (R : Int) + (U : Int) < 0) = false := decide_eq_false (by omega)
  have hc1 : decide (4294967296 ≤ (Q : Int)) = false := decide_eq_false (by omega)
  clear hQl hRl hUl
  go_loopw [15, 16] (fun a b wr => a = .int .u64 (Q : Int) ∧ b = .int .u64 (R : Int) ∧ wr = w') (fun _ _ _ => 0)
  case atStart => exact ⟨rfl, rfl, rfl⟩
  case round =>
    obtain ⟨rfl, rfl, rfl⟩ := hrel
    --@5
    go_wp2_with fail
    obtain ⟨T, hT⟩ : ∃ T, R * 4294967296 + U = T := ⟨_, rfl⟩
    have hA9 : A < 9223372036854775808 := by have := HA.out; have := H2.out; omega
    have hR9 : R < 2147483648 := by have := HR.out; omega
    have hU9 : U < 4294967296 := by have := HU.out; have := HB.out; omega
    have h21 := div2 A Q R U hA9 HQ.out HR.out hU9
    rw [hT] at h21
    have hT9 : T < 9223372036854775808 := by omega
    have hd2 := div1 T 0 hT9 (by omega) (by omega)
    obtain ⟨Q0, hQ0⟩ : ∃ Q0, T / 2147483648 = Q0 := ⟨_, rfl⟩
    obtain ⟨R0, hR0⟩ : ∃ R0, T % 2147483648 = R0 := ⟨_, rfl⟩
    rw [hQ0, hR0] at hd2
    simp only [h21, hd2.q, hd2.m, hd2.r]
    have hRl := hd2.rl; have hQl := hd2.ql; have hQ1 := HD.out.ql
    have hres : Q * 4294967296 + Q0 = (hi * 18446744073709551616 + lo) / 8 :=
      res8 hi lo A B Q R U T Q0 HA.out HB.out HQ.out HR.out HU.out hT hQ0
    have hm3 : IntKind.u64.wrap (4294967296 * (R0 : Int)) = 4294967296 * (R0 : Int) := by rw [IntKind.wrap_u64]; omega
    have hc3 : decide (4294967296 * (R0 : Int) < 0) = false := decide_eq_false (by omega)
    have hc4 : decide (4294967296 ≤ (Q0 : Int)) = false := decide_eq_false (by omega)
    have hf1 : IntKind.u64.wrap ((Q : Int) * 4294967296) = (Q : Int) * 4294967296 := by rw [IntKind.wrap_u64]; omega
    have hf2 : IntKind.u64.wrap ((Q : Int) * 4294967296 + (Q0 : Int)) = (((hi * 18446744073709551616 + lo) / 8 : Nat) : Int) := by rw [← hres, IntKind.wrap_u64]; omega
    obtain ⟨RES, hRES⟩ : ∃ RES, (hi * 18446744073709551616 + lo) / 8 = RES := ⟨_, rfl⟩
    rw [hRES] at hf2
    have HRES := Lib.hid hRES
    clear hRl hQl hQ1 h21 hd2 hT9 hQ0 hR0 hT hA9 hR9 hU9 hm1 hm2 hc1 hc2 hres hRES
    --@6
    go_loopw [16, 18] (fun a b wx => a = .int .u64 (R0 : Int) ∧ b = .int .u64 (Q0 : Int) ∧ wx = wr) (fun _ _ _ => 0)
    case atStart => exact ⟨rfl, rfl, rfl⟩
    case round =>
      obtain ⟨rfl, rfl, rfl⟩ := hrel
      --@7
      go_wp2_with fail
      go_ret2
      --@8
      rw [HRES.out]
      exact ⟨_, rfl, Only.refl _ _⟩
end Go.Proofs.Ytidkadlmnidmoaa.arq
