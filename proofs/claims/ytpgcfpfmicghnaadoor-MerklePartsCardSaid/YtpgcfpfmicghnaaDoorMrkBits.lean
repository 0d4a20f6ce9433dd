/-
  THE WALKS of TrailingZeros and Len.
-/
import Derived.Test.YtpgcfpfmicghnaaDoorRows
import Derived.Test.YtpgcfpfmicghnaaDoorShelf
import Derived.Test.YtpgcfpfmicghnaaDoorMrkPlain
import Derived.WalkSpells
import Derived.Shelf.Spec.TrailingZeros
set_option linter.unusedVariables false
set_option linter.unusedSimpArgs false
namespace Go.Lm.Mrk
theorem ctz_tz (x : Nat) (h0 : x ≠ 0) (h : x < 18446744073709551616) : Lib.ctz 64 x = tz x := by
  obtain ⟨m, hm, _⟩ := Lib.ctzFrom_spec 64 x (by omega) h
  have e : Lib.ctz 64 x = Lib.ctzFrom 64 x := by simp [Lib.ctz, h0]
  rw [e]
  generalize Lib.ctzFrom 64 x = k at *
  rw [hm, tz_pow]
theorem bitLen_spec (x : Nat) (h0 : x ≠ 0) (h : x < 2 ^ 64) : ∃ e, Lib.bitLen x = e + 1 ∧ 2 ^ e ≤ x ∧ x < 2 * 2 ^ e := by
  induction x using Nat.strongRecOn with
  | _ x ih =>
    rw [Lib.bitLen_half x h0 h]
    by_cases hx : x / 2 = 0
    · rw [hx]
      exact ⟨0, rfl, by omega, by omega⟩
    · obtain ⟨e, h1, h2, h3⟩ := ih (x / 2) (by omega) hx (by omega)
      exact ⟨e + 1, by omega, by rw [Nat.pow_succ]; omega, by rw [Nat.pow_succ]; omega⟩
theorem bitLen_top (n : Nat) (h : 2 ≤ n) (hn : n < 1000000) : ∃ e, Lib.bitLen (n - 1) = e + 1 ∧ 2 ^ e = top n ∧ e < 20 := by
  obtain ⟨e, h1, h2, h3⟩ := bitLen_spec (n - 1) (by omega) (by omega)
  refine ⟨e, h1, (top_eq n e (by omega) (by omega)).symm, ?_⟩
  apply Classical.byContradiction
  intro hc
  have := Nat.pow_le_pow_right (show 0 < 2 by decide) (show 20 ≤ e by omega)
  omega
theorem tz_small (n : Nat) (h : 0 < n) (hn : n < 1000000) : tz n < 20 := by
  apply Classical.byContradiction
  intro hc
  obtain ⟨m, hm, _⟩ := Lib.ctzFrom_spec 64 n (by omega) (by omega)
  have e : tz n = Lib.ctzFrom 64 n := by
    conv => lhs; rw [hm, tz_pow]
  rw [← e] at hm
  have h1 := Nat.pow_le_pow_right (show 0 < 2 by decide) (show 20 ≤ tz n by omega)
  have h2 : 2 ^ tz n ≤ 2 ^ tz n * (2 * m + 1) := Nat.le_mul_of_pos_right _ (by omega)
  omega
end Go.Lm.Mrk
namespace Go.Proofs.YtpgcfpfmicghnaaDoor.mrk
open Go Go.RowKit Go.Lm

/-- The table of TrailingZeros64, in memory. -/
def Tz (w : World) : Prop := ∀ j, j < 64 → w.cell? ⟨1, j, none⟩ = some (.int .u8 (Lib.deBruijn64tab.getD j 0 : Nat))
theorem Tz.only {S : List Nat} {w w' : World} (h : Tz w) (ho : Only S w w') (hn : 1 ∉ S) : Tz w' := fun j hj => ho.cell (h j hj) hn

set_option maxHeartbeats 1000000 in
theorem tz64_c (w : World) (x : Nat) (h0 : x ≠ 0) (h : x < 18446744073709551616) (hT : Tz w) : Calls Tryd.prog 49 #[.int .u64 (x : Int)] w fun e w' => e = .returned (.int .i64 (Mrk.tz x : Nat)) ∧ w = w' := by
  obtain ⟨hlow, hk⟩ := Lib.lowest_bit 64 x h0 h
  obtain ⟨hi, htab⟩ := Lib.deBruijn64_at _ hk
  have hcell := hT _ hi
  rw [htab] at hcell
  have key := tz64_key x _ h h0 hlow
  have hI : ((x : Int) == 0) = false := by rw [beq_eq_false_iff_ne]; omega
  rw [← Mrk.ctz_tz x h0 h]
  obtain ⟨k, hk'⟩ : ∃ k, Lib.ctz 64 x = k := ⟨_, rfl⟩
  rw [hk'] at hk hcell key hi ⊢
  obtain ⟨i, hii⟩ : ∃ i, 2 ^ k * 285870213051353865 % 18446744073709551616 / 288230376151711744 = i := ⟨_, rfl⟩
  rw [hii] at hcell key hi
  clear htab hlow hii hk' h0 h hT
  go_enter Tryd.func49, Tryd.ntmps49
  go_wp2_with (simp only [key])
  go_ret
  exact ⟨rfl, rfl⟩
theorem tz_c (w : World) (x : Nat) (h0 : x ≠ 0) (h : x < 18446744073709551616) (hT : Tz w) : Calls Tryd.prog 28 #[.int .u64 (x : Int)] w fun e w' => e = .returned (.int .i64 (Mrk.tz x : Nat)) ∧ w = w' := by
  have HC := Lib.hid (tz64_c w x h0 h hT)
  clear h0 h hT
  go_enter Tryd.func28, Tryd.ntmps28
  go_wp2_with fail
  refine HC.out.mono ?_
  rintro e w' ⟨rfl, rfl⟩
  go_wp2
  go_ret
  exact ⟨rfl, rfl⟩
end Go.Proofs.YtpgcfpfmicghnaaDoor.mrk
