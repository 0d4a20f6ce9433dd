/-
  THE WALKS of chunk.Span and the reference's Count and Span.
-/
import Derived.Test.YtpgcfpfmicghnaaDoorMrkCnt
set_option linter.unusedVariables false
set_option linter.unusedSimpArgs false
namespace Go.Proofs.YtpgcfpfmicghnaaDoor.mrk
open Go Go.RowKit Go.Lm Go.ChangeShapes Go.WideShapes

theorem wrap64_of (x : Int) (h0 : 0 ≤ x) (h1 : x < 4611686018427387904) : wrap64 x = x := by unfold wrap64; omega
theorem span_lt (s p i : Nat) (hp : 0 < p) (h : i < cntN s p) : p * i < s := by
  unfold cntN at h
  have hdm := Nat.div_add_mod s p
  split at h
  · have h1 : p * i < p * (s / p) := Nat.mul_lt_mul_of_pos_left (by omega) hp
    omega
  · have h1 : p * i ≤ p * (s / p) := Nat.mul_le_mul_left p (by omega)
    omega
/-- As many parts hold the bytes, fewer do not. -/
theorem cntN_le (s p n : Nat) (hp : 0 < p) : s ≤ n * p ↔ cntN s p ≤ n := by
  constructor
  · intro h
    rcases Nat.lt_or_ge n (cntN s p) with h1 | h1
    · have := span_lt s p n hp h1
      rw [Nat.mul_comm] at this
      omega
    · exact h1
  · intro h
    have h2 : s ≤ cntN s p * p := by
      unfold cntN
      have hdm := Nat.div_add_mod s p
      have hlt := Nat.mod_lt s hp
      rw [Nat.add_mul, Nat.mul_comm (s / p) p]
      split
      · omega
      · rw [Nat.one_mul]; omega
    exact Nat.le_trans h2 (Nat.mul_le_mul_right p h)
theorem cnt_ok (s p : Nat) (h0 : 0 < p) (h1 : p ≤ 65536) (h2 : cntN s p ≤ 1024) : cnt s (p : Nat) = (cntN s p, 0) := by
  unfold cnt
  rw [if_neg (by omega), Int.toNat_natCast, if_neg (by omega)]

set_option maxRecDepth 100000 in
set_option maxHeartbeats 2000000 in
theorem span_c (w : World) (s p i : Nat) (hs : s < 2 ^ 64) (h0 : 0 < p) (h1 : p ≤ 65536) (h2 : cntN s p ≤ 1024) (hi : i < cntN s p) : Calls Tryd.prog 31 #[.int .u64 (s : Nat), .int .i64 (p : Nat), .int .i64 (i : Nat)] w fun e w' => e = .returned (.tuple #[.int .u64 ((p * i : Nat) : Int), .int .i64 ((min (s - p * i) p : Nat) : Int), .int .i64 0]) ∧ w = w' := by
  have hc := count_c w s (p : Nat) hs
  rw [cnt_ok s p h0 h1 h2] at hc
  have HC := Lib.hid hc
  have hlt := span_lt s p i h0 hi
  obtain ⟨n, hn⟩ : ∃ n, cntN s p = n := ⟨_, rfl⟩
  rw [hn] at h2 hi HC
  obtain ⟨m, hm⟩ : ∃ m, p * i = m := ⟨_, rfl⟩
  rw [hm] at hlt ⊢
  have hmI : (p : Int) * (i : Int) = (m : Int) := by rw [← hm]; rfl
  have hwp : IntKind.u64.wrap (p : Int) = (p : Int) := by rw [IntKind.wrap_u64]; omega
  have hwi : IntKind.u64.wrap (i : Int) = (i : Int) := by rw [IntKind.wrap_u64]; omega
  have hwm : IntKind.u64.wrap (m : Int) = (m : Int) := by rw [IntKind.wrap_u64]; omega
  obtain ⟨d, hd⟩ : ∃ d, s - m = d := ⟨_, rfl⟩
  have hsub : (s : Int) - (m : Int) = (d : Int) := by omega
  rw [hd]
  have hws : IntKind.u64.wrap (d : Int) = (d : Int) := by rw [IntKind.wrap_u64]; omega
  have hi0 : ¬ (i : Int) < 0 := by omega
  have hin : (i : Int) < (n : Int) := by omega
  have HLT := Lib.hid hlt
  by_cases hdp : d < p
  · have hmin : min d p = d := by omega
    rw [hmin]
    have hx : (d : Int) < (p : Int) := by omega
    have hw4 : wrap64 (d : Nat) = (d : Nat) := wrap64_of _ (by omega) (by omega)
    have HW4 := Lib.hid hw4
    clear hn hc hm hlt hs hmin hw4 hd
    go_enter Tryd.func31, Tryd.ntmps31
    go_wp2_with fail
    refine HC.out.mono ?_
    rintro e w1 ⟨rfl, rfl⟩
    go_wp2_with fail
    all_goals first
      | (go_ret3; exact ⟨rfl, rfl⟩)
      | (go_ret3; exact ⟨by rw [HW4.out], rfl⟩)
      | (obtain rfl : d = p := by omega
         go_ret3
         first | exact ⟨rfl, rfl⟩ | exact ⟨by rw [HW4.out], rfl⟩)
      | (exfalso; omega)
  · have hmin : min d p = p := by omega
    rw [hmin]
    have hx : ¬ (d : Int) < (p : Int) := by omega
    have hw4 : wrap64 (p : Nat) = (p : Nat) := wrap64_of _ (by omega) (by omega)
    have HW4 := Lib.hid hw4
    clear hn hc hm hlt hs hmin hw4 hd
    go_enter Tryd.func31, Tryd.ntmps31
    go_wp2_with fail
    refine HC.out.mono ?_
    rintro e w1 ⟨rfl, rfl⟩
    go_wp2_with fail
    all_goals first
      | (go_ret3; exact ⟨rfl, rfl⟩)
      | (go_ret3; exact ⟨by rw [HW4.out], rfl⟩)
      | (obtain rfl : d = p := by omega
         go_ret3
         first | exact ⟨rfl, rfl⟩ | exact ⟨by rw [HW4.out], rfl⟩)
      | (exfalso; omega)
end Go.Proofs.YtpgcfpfmicghnaaDoor.mrk
