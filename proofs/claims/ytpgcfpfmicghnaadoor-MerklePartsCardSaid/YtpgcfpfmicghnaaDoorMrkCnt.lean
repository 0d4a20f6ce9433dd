/-
  THE WALKS of chunk.Count, chunk.Span and the reference's.
-/
import Derived.Test.YtpgcfpfmicghnaaDoorMrkMem
import Derived.Test.YtpgcfpfmicghnaaDoorMrkPlain
set_option linter.unusedVariables false
set_option linter.unusedSimpArgs false
namespace Go.Proofs.YtpgcfpfmicghnaaDoor.mrk
open Go Go.RowKit Go.Lm Go.ChangeShapes Go.WideShapes

def cntN (s p : Nat) : Nat := s / p + (if s % p = 0 then 0 else 1)
def cnt (s : Nat) (P : Int) : Nat × Nat := if P < 1 ∨ P > 65536 then (0, 1) else if cntN s P.toNat > 1024 then (0, 12) else (cntN s P.toNat, 0)

set_option maxRecDepth 100000 in
set_option maxHeartbeats 2000000 in
theorem count_c (w : World) (s : Nat) (P : Int) (hs : s < 2 ^ 64) : Calls Tryd.prog 30 #[.int .u64 (s : Nat), .int .i64 P] w fun e w' => e = .returned (.tuple #[.int .i64 ((cnt s P).1 : Nat), .int .i64 ((cnt s P).2 : Nat)]) ∧ w = w' := by
  have HS := Lib.hid hs
  clear hs
  by_cases h1 : P < 1
  · have hc : cnt s P = (0, 1) := by unfold cnt; rw [if_pos (.inl h1)]
    rw [hc]
    go_enter Tryd.func30, Tryd.ntmps30
    go_wp2_with fail
    go_ret2
    exact ⟨rfl, rfl⟩
  by_cases h2 : P > 65536
  · have hc : cnt s P = (0, 1) := by unfold cnt; rw [if_pos (.inr h2)]
    rw [hc]
    go_enter Tryd.func30, Tryd.ntmps30
    go_wp2_with fail
    go_ret2
    exact ⟨rfl, rfl⟩
  obtain ⟨p, rfl⟩ : ∃ p : Nat, P = (p : Nat) := ⟨P.toNat, by omega⟩
  have hp0 : 0 < p := by omega
  have hp1 : p ≤ 65536 := by omega
  have hz : (p : Int) ≠ 0 := by omega
  have hwp : IntKind.u64.wrap (p : Int) = (p : Int) := by rw [IntKind.wrap_u64]; omega
  have hc : cnt s (p : Nat) = if cntN s p > 1024 then (0, 12) else (cntN s p, 0) := by unfold cnt; rw [if_neg (by omega), Int.toNat_natCast]
  rw [hc]
  have HC := Lib.hid hc
  clear hc h1 h2
  obtain ⟨q, hq⟩ : ∃ q, s / p = q := ⟨_, rfl⟩
  obtain ⟨r, hr⟩ : ∃ r, s % p = r := ⟨_, rfl⟩
  have hdm := Nat.div_add_mod s p
  have hdI : (s : Int) / (p : Int) = (q : Int) := by rw [← hq]; rfl
  have hmI : (s : Int) % (p : Int) = (r : Int) := by rw [← hr]; rfl
  have hqs : q ≤ s := by rw [← hq]; exact Nat.div_le_self _ _
  have hwq : IntKind.u64.wrap (q : Int) = (q : Int) := by rw [IntKind.wrap_u64]; have := HS.out; omega
  unfold cntN
  rw [hq, hr]
  rw [hq, hr] at hdm
  have HQ := Lib.hid hdm; have HQS := Lib.hid hqs; have HRP : Hid (r < p) := Lib.hid (by rw [← hr]; exact Nat.mod_lt _ hp0)
  clear hq hr hdm hqs
  by_cases hr0 : r = 0
  · subst hr0
    rw [if_pos rfl, Nat.add_zero]
    by_cases hb : 1024 < q
    · rw [if_pos hb]
      have hbI : (1024 : Int) < (q : Int) := by omega
      go_enter Tryd.func30, Tryd.ntmps30
      go_wp2_with fail
      --@0
      go_ret2
      exact ⟨rfl, rfl⟩
    · rw [if_neg hb]
      have hbI : ¬ (1024 : Int) < (q : Int) := by omega
      have hw4 : wrap64 (q : Int) = (q : Int) := by unfold wrap64; omega
      go_enter Tryd.func30, Tryd.ntmps30
      go_wp2_with fail
      --@1
      go_ret2
      exact ⟨rfl, rfl⟩
  · rw [if_neg hr0]
    have hrI : (0 : Int) < (r : Int) := by omega
    have hq1 : q + 1 < 18446744073709551616 := by
      have h1 := HQ.out; have h2 := HS.out; have h3 := HRP.out
      have h4 : 2 * q ≤ p * q := Nat.mul_le_mul_right q (by omega)
      omega
    have hwq1 : IntKind.u64.wrap ((q : Int) + 1) = (q : Int) + 1 := by rw [IntKind.wrap_u64]; omega
    clear hq1
    by_cases hb : 1024 < q + 1
    · rw [if_pos hb]
      have hbI : (1024 : Int) < (q : Int) + 1 := by omega
      go_enter Tryd.func30, Tryd.ntmps30
      go_wp2_with fail
      --@2
      go_ret2
      exact ⟨rfl, rfl⟩
    · rw [if_neg hb]
      have hbI : ¬ (1024 : Int) < (q : Int) + 1 := by omega
      have hw4 : wrap64 ((q : Int) + 1) = (q : Int) + 1 := by unfold wrap64; omega
      go_enter Tryd.func30, Tryd.ntmps30
      go_wp2_with fail
      --@3
      go_ret2
      exact ⟨rfl, rfl⟩
end Go.Proofs.YtpgcfpfmicghnaaDoor.mrk
