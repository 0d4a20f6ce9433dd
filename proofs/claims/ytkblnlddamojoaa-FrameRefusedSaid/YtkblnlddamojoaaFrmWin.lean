/-
  THE WALKS of the windows.
-/
import Derived.Test.YtkblnlddamojoaaFrmPlain
import Derived.Test.YtkblnlddamojoaaCurNums
import Derived.Test.YtkblnlddamojoaaCurRef
import Derived.Test.YtkblnlddamojoaaCurPut
import Derived.Test.YtkblnlddamojoaaGen5
set_option linter.unusedVariables false
set_option linter.unusedSimpArgs false
namespace Go.Proofs.Ytkblnlddamojoaa.frm
open Go Go.RowKit Go.Lm Go.Proofs.Ytkblnlddamojoaa.cur

theorem and7 : ∀ d : Fin 256, bits .and .u64 (d.val : Int) 7 = ((d.val % 8 : Nat) : Int) := by decide +kernel

set_option maxHeartbeats 400000 in
theorem window_c (w : World) (x : Nat) (hx : x < 256) : Calls Try.prog 20 #[.int .u64 x] w fun e w' => e = .returned (.int .u64 (Frm.window x : Nat)) ∧ w = w' := by
  obtain ⟨h1, h2⟩ := Frm.pow_le x hx
  have h7 := and7 ⟨x, hx⟩
  simp only at h7
  unfold Frm.window
  have hq : (x : Int) / 8 = ((x / 8 : Nat) : Int) := by omega
  have hqb : x / 8 ≤ 31 := by omega
  generalize x / 8 = q at *
  generalize x % 8 = m at *
  have hs : (10 : Int) + (q : Int) = ((10 + q : Nat) : Int) := by omega
  have hp : (2 : Int) ^ (10 + q) = ((2 ^ (10 + q) : Nat) : Int) := by rw [Int.natCast_pow]; rfl
  have hmin : min (10 + q) 64 = 10 + q := by omega
  have htn : ((10 : Int) + (q : Int)).toNat = 10 + q := by omega
  generalize 2 ^ (10 + q) = P at *
  have hd : (P : Int) / 8 = ((P / 8 : Nat) : Int) := by omega
  have hmul : ((P / 8 : Nat) : Int) * ((m : Nat) : Int) = ((P / 8 * m : Nat) : Int) := by rw [Int.natCast_mul]
  generalize P / 8 * m = Z at *
  generalize P / 8 = D at *
  have hw1 : IntKind.u64.wrap (Z : Int) = (Z : Int) := by rw [IntKind.wrap_u64]; omega
  have hw2 : (Z : Int) % 18446744073709551616 = (Z : Int) := by omega
  have hw3 : ((P : Int) + (Z : Int)) % 18446744073709551616 = (P : Int) + (Z : Int) := by omega
  have hw4 : (P : Int) % 18446744073709551616 = (P : Int) := by omega
  clear hs
  go_enter Try.func20, Try.ntmps20
  go_wp2
  go_ret
  exact ⟨by simp, rfl⟩

set_option maxHeartbeats 400000 in
theorem refwindow_c (w : World) (x : Nat) (hx : x < 256) : Calls Try.prog 23 #[.int .u64 x] w fun e w' => e = .returned (.int .u64 (Frm.window x : Nat)) ∧ w = w' := by
  obtain ⟨h1, h2⟩ := Frm.pow_le x hx
  unfold Frm.window
  have hq : (x : Int) / 8 = ((x / 8 : Nat) : Int) := by omega
  have hr : (x : Int) % 8 = ((x % 8 : Nat) : Int) := by omega
  have hqb : x / 8 ≤ 31 := by omega
  generalize x / 8 = q at *
  generalize x % 8 = m at *
  go_enter Try.func23, Try.ntmps23
  go_wp2
  go_loop [3, 4] (fun y i => ∃ k : Nat, k ≤ q ∧ i = .int .u64 k ∧ y = .int .u64 ((2 ^ (10 + k) : Nat) : Int)) (fun _ i => q - (intOf i).toNat)
  case atStart => exact ⟨0, Nat.zero_le _, rfl, rfl⟩
  case round =>
    obtain ⟨k, hk, rfl, rfl⟩ := hrel
    by_cases hkq : k < q
    · have hp : 2 ^ (10 + (k + 1)) = 2 ^ (10 + k) * 2 := by rw [show 10 + (k + 1) = (10 + k) + 1 by omega, Nat.pow_succ]
      have hb : 2 ^ (10 + k) ≤ 2 ^ 41 := Nat.pow_le_pow_right (by decide) (by omega)
      generalize 2 ^ (10 + k) = P at *
      have hw1 : (P : Int) * 2 % 18446744073709551616 = (P : Int) * 2 := by omega
      have HP := Lib.hid hp; clear hp
      go_wp2
      go_round
      case rel => exact ⟨k + 1, by omega, by go_num, by rw [HP.out]; simp⟩
      case measure => simp [intOf]; omega
    · obtain rfl : k = q := by omega
      obtain ⟨P, hP⟩ : ∃ P, 2 ^ (10 + k) = P := ⟨_, rfl⟩
      rw [hP] at h1 h2 ⊢
      have hd : (P : Int) / 8 = ((P / 8 : Nat) : Int) := by omega
      obtain ⟨Z, hZ⟩ : ∃ Z, P / 8 * m = Z := ⟨_, rfl⟩
      rw [hZ] at h2
      have hmul : ((P / 8 : Nat) : Int) * ((m : Nat) : Int) = (Z : Int) := by rw [← hZ, Int.natCast_mul]
      have HP := Lib.hid hP; have HZ := Lib.hid hZ
      clear hP hZ
      generalize hDD : P / 8 = D at *
      have HDD := Lib.hid hDD; clear hDD
      have hw2 : (Z : Int) % 18446744073709551616 = (Z : Int) := by omega
      have hw3 : ((P : Int) + (Z : Int)) % 18446744073709551616 = (P : Int) + (Z : Int) := by omega
      go_wp2
      go_ret
      have e1 : (2 : Int) ^ (10 + k) = (P : Int) := by rw [← HP.out, Int.natCast_pow]; rfl
      exact ⟨by rw [e1, hd, hmul]; rfl, rfl⟩
end Go.Proofs.Ytkblnlddamojoaa.frm
