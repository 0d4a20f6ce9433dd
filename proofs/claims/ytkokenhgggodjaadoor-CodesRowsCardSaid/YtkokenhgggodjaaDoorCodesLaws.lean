/-
  The laws' awake; CodesTell, CodesOf, walked.
-/
import Derived.Test.YtkokenhgggodjaaDoorCodesOf
import Derived.Test.YtkokenhgggodjaaDoorCodesRef2
set_option linter.unusedVariables false
namespace Go.Proofs.YtkokenhgggodjaaDoor.codes
open Go Go.RowKit Go.Lm

theorem of_c (k v : Int) (hv0 : 0 ≤ v) (hv1 : v ≤ 4294967295) (w : World) (hT : Tabs w) : Calls Tryd.prog 12 #[.int .i64 k, .int .u32 v] w fun e w' => e = .returned (tripO (Codes.of k v)) ∧ Only [] w w' := by
  by_cases h : k = 0 ∨ k = 1 ∨ k = 2
  · by_cases h1 : k = 1
    · subst h1; exact of_1 v hv0 hv1 w hT
    · exact of_02 k (by omega) v hv0 hv1 w hT
  · exact of_no k h v w hT

theorem awake_c (w : World) (hT : Tabs w) : Calls Tryd.prog 7 #[] w fun e w' => e = .returned (.bool true) ∧ Only [] w w' := by
  have HT := Lib.hid hT; clear hT
  have e1 : tripO (Codes.of 0 17) = .tuple #[.int .i64 16, .int .u32 1, .int .i64 0] := by
    have : Codes.of 0 17 = (16, 1, 0) := by decide
    rw [this]; rfl
  have e2 : trip (Codes.code 2 52) = .tuple #[.int .u32 65539, .int .i64 16, .int .i64 0] := by
    have : Codes.code 2 52 = (65539, 16, 0) := by decide
    rw [this]; rfl
  have e3 : Codes.last 1 = 31 := rfl
  have e4 : Codes.last 9 = -1 := rfl
  have E1 := Lib.hid e1; have E2 := Lib.hid e2; have E3 := Lib.hid e3; have E4 := Lib.hid e4
  clear e1 e2 e3 e4
  go_enter Tryd.func7, Tryd.ntmps7
  go_wp2_with fail
  refine (of_c 0 17 (by omega) (by omega) w HT.out).mono ?_
  rintro e w1 ⟨rfl, ho1⟩
  have HO1 := Lib.hid ho1; clear ho1
  rw [E1.out]
  go_wp2_with fail
  refine (code_c 2 52 (by omega) (by omega) w1 (HT.out.only HO1.out (by simp) (by simp))).mono ?_
  rintro e w2 ⟨rfl, ho2⟩
  have HO2 := Lib.hid (HO1.out.then ho2); clear ho2 HO1
  rw [E2.out]
  go_wp2_with fail
  refine (last_c 1 w2 (HT.out.only HO2.out (by simp) (by simp))).mono ?_
  rintro e w3 ⟨rfl, ho3⟩
  have HO3 := Lib.hid (HO2.out.then ho3); clear ho3 HO2
  rw [E3.out]
  go_wp2_with fail
  refine (last_c 9 w3 (HT.out.only HO3.out (by simp) (by simp))).mono ?_
  rintro e w4 ⟨rfl, ho4⟩
  have HO4 := Lib.hid (HO3.out.then ho4); clear ho4 HO3
  rw [E4.out]
  go_wp2
  go_ret
  exact ⟨rfl, HO4.out⟩

theorem tell_c (k c : Int) (hc0 : -9223372036854775808 ≤ c) (hc1 : c ≤ 9223372036854775807) (w : World) (hT : Tabs w) : Calls Tryd.prog 3 #[.int .i64 k, .int .i64 c] w fun e w' => e = .returned (.bool true) ∧ Below w.heap.size w w' := by
  have HT := Lib.hid hT; clear hT
  have hl := Codes.last_eq k
  have HL := Lib.hid hl; clear hl
  have hb : (Codes.begins k).length ≤ 60 := by
    unfold Codes.begins
    repeat (first | split | decide)
  obtain ⟨⟨x, y, z⟩, hp⟩ : ∃ p, Codes.code k c = p := ⟨_, rfl⟩
  have HP := Lib.hid hp; clear hp
  go_enter Tryd.func3, Tryd.ntmps3
  go_wp2_with fail
  refine (awake_c w HT.out).mono ?_
  rintro e w1 ⟨rfl, ho1⟩
  have HO1 := Lib.hid ho1; clear ho1
  go_wp2_with fail
  refine (code_c k c hc0 hc1 w1 (HT.out.only HO1.out (by simp) (by simp))).mono ?_
  rintro e w2 ⟨rfl, ho2⟩
  have HO2 := Lib.hid (HO1.out.then ho2); clear ho2 HO1
  rw [HP.out]
  unfold trip
  go_wp2_with fail
  refine (refcode_c k c hc0 hc1 w2).mono ?_
  rintro e w3 ⟨rfl, ho3⟩
  have HO3 := Lib.hid (HO2.out.then ho3); clear ho3 HO2
  rw [HP.out]
  unfold trip
  go_wp2_with fail
  refine (last_c k w3 (HT.out.only HO3.out (by simp) (by simp))).mono ?_
  rintro e w4 ⟨rfl, ho4⟩
  have HO4 := Lib.hid (HO3.out.then ho4); clear ho4 HO3
  rw [HL.out]
  go_wp2_with fail
  refine (begins_c k w4).mono ?_
  rintro e w5 ⟨v, rfl, hv, ho5⟩
  have HO5 := Lib.hid (HO4.out.then ho5); clear ho5 HO4
  obtain ⟨a, cap, rfl, _⟩ := hv
  simp only [u32s, List.length_map]
  go_wp2
  go_ret
  exact ⟨by simp, HO5.out.below (by simp) (Nat.le_refl _)⟩

theorem lawof_c (k v : Int) (hv0 : 0 ≤ v) (hv1 : v ≤ 4294967295) (w : World) (hT : Tabs w) : Calls Tryd.prog 4 #[.int .i64 k, .int .u32 v] w fun e w' => e = .returned (.bool true) ∧ Below w.heap.size w w' := by
  have HT := Lib.hid hT; clear hT
  obtain ⟨⟨x, y, z⟩, hp⟩ : ∃ p, Codes.of k v = p := ⟨_, rfl⟩
  have HP := Lib.hid hp; clear hp
  go_enter Tryd.func4, Tryd.ntmps4
  go_wp2_with fail
  refine (awake_c w HT.out).mono ?_
  rintro e w1 ⟨rfl, ho1⟩
  have HO1 := Lib.hid ho1; clear ho1
  go_wp2_with fail
  refine (of_c k v hv0 hv1 w1 (HT.out.only HO1.out (by simp) (by simp))).mono ?_
  rintro e w2 ⟨rfl, ho2⟩
  have HO2 := Lib.hid (HO1.out.then ho2); clear ho2 HO1
  rw [HP.out]
  unfold tripO
  go_wp2_with fail
  refine (refof_c k v hv0 hv1 w2).mono ?_
  rintro e w3 ⟨rfl, ho3⟩
  have HO3 := Lib.hid (HO2.out.then ho3); clear ho3 HO2
  rw [HP.out]
  unfold tripO
  go_wp2
  go_ret
  exact ⟨by simp, HO3.out.below (by simp) (Nat.le_refl _)⟩
end Go.Proofs.YtkokenhgggodjaaDoor.codes
