/-
  HuffFours, walked.
-/
import Derived.Test.YtfckokdgmbbheaaHufTrip4
set_option linter.unusedVariables false
set_option linter.unusedSimpArgs false
set_option maxRecDepth 20000
namespace Go.Proofs.Ytfckokdgmbbheaa.huf
open Go Go.RowKit Go.Lm Go.Proofs.Ytfckokdgmbbheaa Go.Proofs.Ytfckokdgmbbheaa.bit

set_option maxRecDepth 100000 in
set_option maxHeartbeats 4000000 in
theorem fours_c (w : World) (v u : Value) (l q : List UInt8) (hv : BS w v l) (hu : BS w u q) : Calls Try.prog 7 #[v, u] w fun e w' => e = .returned (.bool true) ∧ Below w.heap.size w w' := by
  have HV := Lib.hid hv; have HU := Lib.hid hu
  obtain ⟨a, cap, rfl, k1, k2, -, -⟩ := hv
  obtain ⟨a2, cap2, rfl, k3, k4, -, -⟩ := hu
  unfold maxLen at k2 k4
  by_cases h1 : 300 < l.length
  · go_enter Try.func7, Try.ntmps7
    go_wp2_with fail
    refine (awake_c w).mono ?_
    rintro e w1 ⟨rfl, ho1⟩
    go_wp2_with fail
    go_ret
    exact ⟨rfl, ho1.below (by simp) (Nat.le_refl _)⟩
  by_cases h2 : 600 < q.length
  · go_enter Try.func7, Try.ntmps7
    go_wp2_with fail
    refine (awake_c w).mono ?_
    rintro e w1 ⟨rfl, ho1⟩
    go_wp2_with fail
    go_ret
    exact ⟨rfl, ho1.below (by simp) (Nat.le_refl _)⟩
  have h1I : ¬ (300 < (l.length : Int)) := by omega
  have h2I : ¬ (600 < (q.length : Int)) := by omega
  have HB := Lib.hid (show l.length ≤ 300 ∧ q.length ≤ 600 by omega)
  go_enter Try.func7, Try.ntmps7
  go_wp2_with fail
  refine (awake_c w).mono ?_
  rintro e w1 ⟨rfl, ho1⟩
  have HO1 := Lib.hid ho1
  clear ho1
  go_wp2_with fail
  refine (hencode4_c w1 _ _ l q (HV.out.only HO1.out (by simp)) (by have := HB.out; omega) (HU.out.only HO1.out (by simp)) (by have := HB.out; omega)).mono ?_
  rintro e w2 ⟨v2, rfl, hov2, ho2⟩
  obtain ⟨X, hX⟩ : ∃ X, henc4 l q = X := ⟨_, rfl⟩
  have hxl := henc4_len l q (by have := HB.out; omega)
  rw [hX] at hov2 hxl ⊢
  have HX := Lib.hid hX; have HXL := Lib.hid hxl
  have HB2 := Lib.hid (BS.of_vs hov2.vs)
  have HO2 := Lib.hid (HO1.out.then ho2)
  obtain ⟨sa, sc, rfl, -, -⟩ := hov2.slice
  rw [List.length_map] at HB2 ⊢
  clear hov2 ho2 hX HO1 hxl
  have s1 := run_string_of_bytes (P := Try.prog) Try.underlying22 Try.underlying5 Try.underlying9 (HV.out.only HO2.out (by simp))
  have hdp := refdepth_c w2 ⟨l.toArray⟩ (by rw [← len_data]; simp; have := HB.out; omega)
  rw [show (⟨l.toArray⟩ : ByteArray).data.toList = l from rfl] at hdp
  obtain ⟨d, hd⟩ : ∃ d, Huf.dep (Huf.ns l) = d := ⟨_, rfl⟩
  rw [hd] at hdp
  have HDP := Lib.hid hdp; have HD := Lib.hid hd
  clear hdp hd
  --@1
  go_wp2_with fail
  refine HDP.out.mono ?_
  rintro e w3 ⟨rfl, rfl⟩
  clear HDP s1
  have hcd := coded_c w2 _ _ l q (HV.out.only HO2.out (by simp)) (by have := HB.out; omega) (HU.out.only HO2.out (by simp)) (by have := HB.out; omega)
  have HCD := Lib.hid hcd
  clear hcd
  --@2
  go_wp2_with fail
  refine HCD.out.mono ?_
  rintro e w3 ⟨rfl, rfl⟩
  clear HCD
  obtain ⟨k, hk⟩ : ∃ k, qk q.length = k := ⟨_, rfl⟩
  have hkI : ((q.length : Int) + 3) / 4 = (k : Int) := by unfold qk at hk; omega
  have HK := Lib.hid hk
  have hkb : k ≤ 200 := by have := HB.out; unfold qk at hk; omega
  clear hk
  by_cases hbad : d = 0 ∨ q.length < 3 * k ∨ ¬ ∀ s ∈ q, Huf.Okay (Huf.ns l) s.toNat
  · have hx := HX.out
    rw [henc4_no (by rw [HD.out, HK.out]; exact hbad)] at hx
    subst hx
    clear HXL
    by_cases hd0 : d = 0
    · subst hd0
      clear hbad
      --@3
      go_wp2_with fail
      go_ret
      exact ⟨rfl, HO2.out.below (by simp) (Nat.le_refl _)⟩
    · have hb2 := hbad.resolve_left hd0
      have hdI : (0 : Int) < (d : Int) := by omega
      clear hbad
      by_cases hok : ∀ s ∈ q, Huf.Okay (Huf.ns l) s.toNat
      · have hkq : (q.length : Int) < 3 * (k : Int) := by rcases hb2 with h | h; omega; exact absurd hok h
        rw [decide_eq_true hok]
        clear hb2 hok
        --@4
        go_wp2_with fail
        go_ret
        exact ⟨rfl, HO2.out.below (by simp) (Nat.le_refl _)⟩
      · rw [decide_eq_false hok]
        clear hb2 hok
        --@8
        go_wp2_with fail
        go_ret
        exact ⟨rfl, HO2.out.below (by simp) (Nat.le_refl _)⟩
  · have hd0 : d ≠ 0 := fun e => hbad (.inl e)
    have hok : ∀ s ∈ q, Huf.Okay (Huf.ns l) s.toNat := Classical.not_not.1 (fun e => hbad (.inr (.inr e)))
    have hkq : 3 * k ≤ q.length := Nat.le_of_not_lt fun e => hbad (.inr (.inl e))
    have hkqI : ¬ ((q.length : Int) < 3 * (k : Int)) := by omega
    have hdI : (0 : Int) < (d : Int) := by omega
    rw [decide_eq_true hok]
    have hx := HX.out
    have hd0' : Huf.dep (Huf.ns l) ≠ 0 := by rw [HD.out]; exact hd0
    have hkq' : 3 * qk q.length ≤ q.length := by rw [HK.out]; exact hkq
    rw [henc4_yes hd0' hkq' hok] at hx
    have hdi := hdec4_trip hd0' hkq' hok (by have := HB.out; omega)
    rw [show hd4 (Huf.ns l) (Huf.dep (Huf.ns l)) q 3 ++ bd4 (Huf.ns l) (Huf.dep (Huf.ns l)) q 4 = X.1 by rw [← hx]] at hdi
    have hx2 : X.2 = 0 := by rw [← hx]
    rw [hx2]
    obtain ⟨B, hB⟩ : ∃ B, X.1 = B := ⟨_, rfl⟩
    rw [hB] at hdi HB2 ⊢
    have hbl : B.length ≤ 1210 := by have := HXL.out; rw [hB] at this; have := HB.out; omega
    have HDI := Lib.hid hdi
    obtain ⟨bl, hble⟩ : ∃ bl, B.length = bl := ⟨_, rfl⟩
    rw [hble] at hbl HB2 ⊢
    have HBL := Lib.hid hble
    clear hx hkq hkq' hdi hx2 hB HX HXL hok hbad hd0' hble
    have s1 := run_string_of_bytes (P := Try.prog) Try.underlying22 Try.underlying5 Try.underlying9 (HV.out.only HO2.out (by simp))
    have s2 := run_string_of_bytes (P := Try.prog) Try.underlying22 Try.underlying5 Try.underlying9 HB2.out
    --@5
    go_wp2_with fail
    refine (refdecode4_c w2 ⟨l.toArray⟩ ⟨B.toArray⟩ (by rw [← len_data]; simp; have := HB.out; omega) (by rw [← len_data]; simp; have := HBL.out; omega) (q.length : Int) (.inl (by have := HB.out; omega))).mono ?_
    rintro e w4 ⟨rfl, ho4⟩
    rw [show hdec4 (⟨l.toArray⟩ : ByteArray).data.toList (⟨B.toArray⟩ : ByteArray).data.toList (q.length : Int) = (q, 0) from HDI.out]
    have HO4 := Lib.hid (HO2.out.then ho4); have HB4 := Lib.hid (HB2.out.only ho4 (by simp))
    clear s1 s2 ho4 HB2 HO2
    --@6
    go_wp2_with fail
    refine (hdecode4_c w4 _ _ l B (HV.out.only HO4.out (by simp)) (by have := HB.out; omega) HB4.out (by have := HBL.out; omega) (q.length : Int) (.inl (by have := HB.out; omega))).mono ?_
    rintro e w5 ⟨v5, rfl, hov5, ho5⟩
    rw [HDI.out] at hov5 ⊢
    have hb5 := BS.of_vs hov5.vs
    obtain ⟨ta, tc, rfl, -, -⟩ := hov5.slice
    rw [List.length_map] at hb5 ⊢
    have HO5 := Lib.hid (HO4.out.then ho5)
    have s1 := run_string_of_bytes (P := Try.prog) Try.underlying22 Try.underlying5 Try.underlying9 hb5
    have s2 := run_string_of_bytes (P := Try.prog) Try.underlying22 Try.underlying5 Try.underlying9 (HU.out.only HO5.out (by simp))
    obtain ⟨P, hP⟩ : ∃ P : ByteArray, (⟨q.toArray⟩ : ByteArray) = P := ⟨_, rfl⟩
    rw [hP] at s1 s2 ⊢
    clear hov5 ho5 hb5 hP HO4 HB4
    --@7
    go_wp2_with fail
    go_ret
    exact ⟨rfl, HO5.out.below (by simp) (Nat.le_refl _)⟩
end Go.Proofs.Ytfckokdgmbbheaa.huf
