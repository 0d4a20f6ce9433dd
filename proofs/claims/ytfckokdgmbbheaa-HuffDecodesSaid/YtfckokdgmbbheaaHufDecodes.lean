/-
  HuffDecodes, walked.
-/
import Derived.Test.YtfckokdgmbbheaaHufAwake
set_option linter.unusedVariables false
set_option linter.unusedSimpArgs false
set_option maxRecDepth 20000
namespace Go.Proofs.Ytfckokdgmbbheaa.huf
open Go Go.RowKit Go.Lm Go.Proofs.Ytfckokdgmbbheaa Go.Proofs.Ytfckokdgmbbheaa.bit

set_option maxRecDepth 100000 in
set_option maxHeartbeats 4000000 in
theorem decodes_c (w : World) (v u : Value) (l b : List UInt8) (hv : BS w v l) (hu : BS w u b) (n : Int) : Calls Try.prog 5 #[v, u, .int .i64 n] w fun e w' => e = .returned (.bool true) ∧ Below w.heap.size w w' := by
  have HV := Lib.hid hv; have HU := Lib.hid hu
  obtain ⟨a, cap, rfl, k1, k2, -, -⟩ := hv
  obtain ⟨a2, cap2, rfl, k3, k4, -, -⟩ := hu
  unfold maxLen at k2 k4
  by_cases h1 : 300 < l.length
  · go_enter Try.func5, Try.ntmps5
    go_wp2_with fail
    refine (awake_c w).mono ?_
    rintro e w1 ⟨rfl, ho1⟩
    go_wp2_with fail
    go_ret
    exact ⟨rfl, ho1.below (by simp) (Nat.le_refl _)⟩
  by_cases h2 : 300 < b.length
  · go_enter Try.func5, Try.ntmps5
    go_wp2_with fail
    refine (awake_c w).mono ?_
    rintro e w1 ⟨rfl, ho1⟩
    go_wp2_with fail
    go_ret
    exact ⟨rfl, ho1.below (by simp) (Nat.le_refl _)⟩
  by_cases h3 : 600 < n ∧ n ≤ 131072
  · obtain ⟨h3, h4⟩ := h3
    go_enter Try.func5, Try.ntmps5
    go_wp2_with fail
    refine (awake_c w).mono ?_
    rintro e w1 ⟨rfl, ho1⟩
    go_wp2_with fail
    go_ret
    exact ⟨rfl, ho1.below (by simp) (Nat.le_refl _)⟩
  have hnok : NOk n := by unfold NOk; omega
  have h3b : (decide (600 < n) && decide (n ≤ 131072)) = false := by
    rw [Bool.and_eq_false_iff]
    by_cases h : 600 < n
    · right; rw [decide_eq_false_iff_not]; omega
    · left; rw [decide_eq_false_iff_not]; exact h
  have h1I : ¬ (300 < (l.length : Int)) := by omega
  have h2I : ¬ (300 < (b.length : Int)) := by omega
  have HNOK := Lib.hid hnok; have HB := Lib.hid (show l.length ≤ 300 ∧ b.length ≤ 300 by omega)
  have hcases : n ≤ 600 ∨ 131072 < n := by omega
  clear hnok h3
  rcases hcases with h5 | h5
  all_goals
    go_enter Try.func5, Try.ntmps5
    go_wp2_with fail
    refine (awake_c w).mono ?_
    rintro e w1 ⟨rfl, ho1⟩
    have HO1 := Lib.hid ho1
    clear ho1
    --@1
    go_wp2_with fail
    refine (hdecode_c w1 _ _ l b (HV.out.only HO1.out (by simp)) (by have := HB.out; omega) (HU.out.only HO1.out (by simp)) (by have := HB.out; omega) n HNOK.out).mono ?_
    rintro e w2 ⟨v2, rfl, hov2, ho2⟩
    obtain ⟨X, hX⟩ : ∃ X, hdec l b n = X := ⟨_, rfl⟩
    have HX := Lib.hid hX
    rw [hX] at hov2 ⊢
    have HB2 := Lib.hid (BS.of_vs hov2.vs)
    have HO2 := Lib.hid (HO1.out.then ho2)
    obtain ⟨sa, sc, rfl, -, -⟩ := hov2.slice
    obtain ⟨xl, hxl⟩ : ∃ xl, (X.1.map u8v).length = xl := ⟨_, rfl⟩
    rw [hxl] at HB2 ⊢
    clear hov2 ho2 hX hxl HO1
    have s1 := run_string_of_bytes (P := Try.prog) Try.underlying22 Try.underlying5 Try.underlying9 (HV.out.only HO2.out (by simp))
    have s2 := run_string_of_bytes (P := Try.prog) Try.underlying22 Try.underlying5 Try.underlying9 (HU.out.only HO2.out (by simp))
    --@2
    go_wp2_with fail
    refine (refdecode_c w2 ⟨l.toArray⟩ ⟨b.toArray⟩ (by rw [← len_data]; simp; have := HB.out; omega) (by rw [← len_data]; simp; have := HB.out; omega) n HNOK.out).mono ?_
    rintro e w3 ⟨rfl, ho3⟩
    have HO3 := Lib.hid (HO2.out.then ho3); have HB3 := Lib.hid (HB2.out.only ho3 (by simp))
    rw [show hdec (⟨l.toArray⟩ : ByteArray).data.toList (⟨b.toArray⟩ : ByteArray).data.toList n = X from HX.out]
    clear ho3 s1 s2 HO2 HB2
    --@3
    go_wp2_with fail
    refine (hdecode4_c w3 _ _ l b (HV.out.only HO3.out (by simp)) (by have := HB.out; omega) (HU.out.only HO3.out (by simp)) (by have := HB.out; omega) n HNOK.out).mono ?_
    rintro e w4 ⟨v4, rfl, hov4, ho4⟩
    obtain ⟨Y, hY⟩ : ∃ Y, hdec4 l b n = Y := ⟨_, rfl⟩
    have HY := Lib.hid hY
    rw [hY] at hov4 ⊢
    have HB4 := Lib.hid (BS.of_vs hov4.vs)
    have HO4 := Lib.hid (HO3.out.then ho4); have HB34 := Lib.hid (HB3.out.only ho4 (by simp))
    obtain ⟨ta, tc, rfl, -, -⟩ := hov4.slice
    obtain ⟨yl, hyl⟩ : ∃ yl, (Y.1.map u8v).length = yl := ⟨_, rfl⟩
    rw [hyl] at HB4 ⊢
    clear hov4 ho4 hY hyl HO3 HB3
    have s1 := run_string_of_bytes (P := Try.prog) Try.underlying22 Try.underlying5 Try.underlying9 (HV.out.only HO4.out (by simp))
    have s2 := run_string_of_bytes (P := Try.prog) Try.underlying22 Try.underlying5 Try.underlying9 (HU.out.only HO4.out (by simp))
    --@4
    go_wp2_with fail
    refine (refdecode4_c w4 ⟨l.toArray⟩ ⟨b.toArray⟩ (by rw [← len_data]; simp; have := HB.out; omega) (by rw [← len_data]; simp; have := HB.out; omega) n HNOK.out).mono ?_
    rintro e w5 ⟨rfl, ho5⟩
    have HO5 := Lib.hid (HO4.out.then ho5)
    rw [show hdec4 (⟨l.toArray⟩ : ByteArray).data.toList (⟨b.toArray⟩ : ByteArray).data.toList n = Y from HY.out]
    have s3 := run_string_of_bytes (P := Try.prog) Try.underlying22 Try.underlying5 Try.underlying9 (HB34.out.only ho5 (by simp))
    have s4 := run_string_of_bytes (P := Try.prog) Try.underlying22 Try.underlying5 Try.underlying9 (HB4.out.only ho5 (by simp))
    obtain ⟨P1, hP1⟩ : ∃ P1 : ByteArray, (⟨X.1.toArray⟩ : ByteArray) = P1 := ⟨_, rfl⟩
    obtain ⟨P2, hP2⟩ : ∃ P2 : ByteArray, (⟨Y.1.toArray⟩ : ByteArray) = P2 := ⟨_, rfl⟩
    rw [hP1] at s3 ⊢
    rw [hP2] at s4 ⊢
    clear ho5 s1 s2 HO4 HB34 HB4 hP1 hP2
    --@5
    go_wp2_with fail
    --@6
    go_ret
    exact ⟨rfl, HO5.out.below (by simp) (Nat.le_refl _)⟩
end Go.Proofs.Ytfckokdgmbbheaa.huf
