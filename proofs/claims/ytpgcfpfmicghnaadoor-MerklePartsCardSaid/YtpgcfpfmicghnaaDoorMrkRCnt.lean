/-
  THE WALKS of the reference's Count and Span.
-/
import Derived.Test.YtpgcfpfmicghnaaDoorMrkSpan
set_option linter.unusedVariables false
set_option linter.unusedSimpArgs false
namespace Go.Proofs.YtpgcfpfmicghnaaDoor.mrk
open Go Go.RowKit Go.Lm Go.ChangeShapes Go.WideShapes

set_option maxRecDepth 100000 in
set_option maxHeartbeats 2000000 in
theorem rcount_c (w : World) (s : Nat) (P : Int) (hs : s < 2 ^ 64) : Calls Tryd.prog 32 #[.int .u64 (s : Nat), .int .i64 P] w fun e w' => e = .returned (.tuple #[.int .i64 ((cnt s P).1 : Nat), .int .i64 ((cnt s P).2 : Nat)]) ∧ w = w' := by
  have HS := Lib.hid hs
  clear hs
  by_cases h1 : P < 1
  · have hc : cnt s P = (0, 1) := by unfold cnt; rw [if_pos (.inl h1)]
    rw [hc]
    go_enter Tryd.func32, Tryd.ntmps32
    go_wp2_with fail
    go_ret2
    exact ⟨rfl, rfl⟩
  by_cases h2 : P > 65536
  · have hc : cnt s P = (0, 1) := by unfold cnt; rw [if_pos (.inr h2)]
    rw [hc]
    go_enter Tryd.func32, Tryd.ntmps32
    go_wp2_with fail
    go_ret2
    exact ⟨rfl, rfl⟩
  obtain ⟨p, rfl⟩ : ∃ p : Nat, P = (p : Nat) := ⟨P.toNat, by omega⟩
  have hp0 : 0 < p := by omega
  have hp1 : p ≤ 65536 := by omega
  have hwp : IntKind.u64.wrap (p : Int) = (p : Int) := by rw [IntKind.wrap_u64]; omega
  have hc : cnt s (p : Nat) = if cntN s p > 1024 then (0, 12) else (cntN s p, 0) := by unfold cnt; rw [if_neg (by omega), Int.toNat_natCast]
  rw [hc]
  clear hc h1 h2
  have hle := fun n => cntN_le s p n hp0
  have HLE := Lib.hid hle
  clear hle
  obtain ⟨N, hN⟩ : ∃ N, cntN s p = N := ⟨_, rfl⟩
  rw [hN] at HLE ⊢
  clear hN
  obtain ⟨C, hC⟩ : ∃ C : Nat × Nat, (if N > 1024 then (0, 12) else (N, 0)) = C := ⟨_, rfl⟩
  rw [hC]
  have HCC := Lib.hid hC
  clear hC
  go_enter Tryd.func32, Tryd.ntmps32
  go_wp2_with fail
  go_loopw [6] (fun v wx => ∃ n : Nat, v = .int .u64 (n : Nat) ∧ n ≤ 1025 ∧ n ≤ N ∧ wx = w) (fun v _ => 1026 - (intOf v).toNat)
  case atStart => exact ⟨0, rfl, by omega, Nat.zero_le _, rfl⟩
  case round =>
    obtain ⟨n, rfl, hn1, hnN, rfl⟩ := hrel
    by_cases hn : n ≤ 1024
    · have hnI : (n : Int) ≤ 1024 := by omega
      obtain ⟨m, hm⟩ : ∃ m, n * p = m := ⟨_, rfl⟩
      have hmI : (n : Int) * (p : Int) = (m : Int) := by rw [← hm]; rfl
      have hmb : m ≤ 1024 * 65536 := by rw [← hm]; exact Nat.mul_le_mul hn hp1
      have hwm : IntKind.u64.wrap (m : Int) = (m : Int) := by rw [IntKind.wrap_u64]; omega
      have hwn : IntKind.u64.wrap ((n : Int) + 1) = (n : Int) + 1 := by rw [IntKind.wrap_u64]; omega
      have hle := HLE.out n
      rw [hm] at hle
      clear hm
      by_cases hg : s ≤ m
      · have hgI : (s : Int) ≤ (m : Int) := by omega
        have hNn : N = n := by have := hle.1 hg; omega
        subst hNn
        have hni : ¬ N > 1024 := by clear hle hmb hwm hwn; omega
        clear hle
        have hw4 : wrap64 (N : Int) = (N : Int) := wrap64_of _ (by omega) (by omega)
        go_wp2_with fail
        have hCe : C = (N, 0) := by rw [← HCC.out, if_neg hni]
        go_ret2
        rw [hCe]
        exact ⟨rfl, rfl⟩
      · have hgI : ¬ (s : Int) ≤ (m : Int) := by omega
        have hNn : n < N := by
          rcases Nat.lt_or_ge n N with h | h
          · exact h
          · exact absurd (hle.2 h) hg
        clear hle
        go_wp2_with fail
        --@2
        go_roundw
        case rel => exact ⟨n + 1, by go_num, by omega, hNn, trivial⟩
        case measure => simp [intOf]; omega
    · have hnI : ¬ (n : Int) ≤ 1024 := by omega
      have hni : N > 1024 := by omega
      go_wp2_with fail
      have hCe : C = (0, 12) := by rw [← HCC.out, if_pos hni]
      go_ret2
      rw [hCe]
      exact ⟨rfl, rfl⟩
end Go.Proofs.YtpgcfpfmicghnaaDoor.mrk
