/-
  HuffLeft, walked.
-/
import Derived.Test.YtfckokdgmbbheaaHufTrip
set_option linter.unusedVariables false
set_option linter.unusedSimpArgs false
set_option maxRecDepth 20000
namespace Go.Proofs.Ytfckokdgmbbheaa.huf
open Go Go.RowKit Go.Lm Go.Proofs.Ytfckokdgmbbheaa Go.Proofs.Ytfckokdgmbbheaa.bit

set_option maxRecDepth 100000 in
set_option maxHeartbeats 4000000 in
theorem left_c (w : World) (v u : Value) (l q : List UInt8) (hv : BS w v l) (hu : BS w u q) : Calls Try.prog 8 #[v, u] w fun e w' => e = .returned (.bool true) ∧ Below w.heap.size w w' := by
  have HV := Lib.hid hv; have HU := Lib.hid hu
  obtain ⟨a, cap, rfl, k1, k2, -, -⟩ := hv
  obtain ⟨a2, cap2, rfl, k3, k4, -, -⟩ := hu
  unfold maxLen at k2 k4
  by_cases h1 : 300 < l.length
  · go_enter Try.func8, Try.ntmps8
    go_wp2_with fail
    refine (awake_c w).mono ?_
    rintro e w1 ⟨rfl, ho1⟩
    go_wp2_with fail
    go_ret
    exact ⟨rfl, ho1.below (by simp) (Nat.le_refl _)⟩
  by_cases h2 : 600 < q.length
  · go_enter Try.func8, Try.ntmps8
    go_wp2_with fail
    refine (awake_c w).mono ?_
    rintro e w1 ⟨rfl, ho1⟩
    go_wp2_with fail
    go_ret
    exact ⟨rfl, ho1.below (by simp) (Nat.le_refl _)⟩
  by_cases h3 : q.length = 0
  · go_enter Try.func8, Try.ntmps8
    go_wp2_with fail
    refine (awake_c w).mono ?_
    rintro e w1 ⟨rfl, ho1⟩
    go_wp2_with fail
    go_ret
    exact ⟨rfl, ho1.below (by simp) (Nat.le_refl _)⟩
  have h3I : ((q.length : Int) == 0) = false := by rw [beq_eq_false_iff_ne]; omega
  have h1I : ¬ (300 < (l.length : Int)) := by omega
  have h2I : ¬ (600 < (q.length : Int)) := by omega
  have HB := Lib.hid (show l.length ≤ 300 ∧ q.length ≤ 600 by omega)
  go_enter Try.func8, Try.ntmps8
  go_wp2_with fail
  refine (awake_c w).mono ?_
  rintro e w1 ⟨rfl, ho1⟩
  have HO1 := Lib.hid ho1
  clear ho1
  go_wp2_with fail
  refine (hencode_c w1 _ _ l q (HV.out.only HO1.out (by simp)) (by have := HB.out; omega) (HU.out.only HO1.out (by simp)) (by have := HB.out; omega)).mono ?_
  rintro e w2 ⟨v2, rfl, hov2, ho2⟩
  obtain ⟨X, hX⟩ : ∃ X, henc l q = X := ⟨_, rfl⟩
  have hxl := henc_len l q
  rw [hX] at hov2 hxl ⊢
  have HX := Lib.hid hX; have HXL := Lib.hid hxl
  have HOV2 := Lib.hid hov2
  have HSZ := Lib.hid ho2.size; have HSW := Lib.hid HO1.out.size
  have HO2 := Lib.hid (HO1.out.then ho2)
  obtain ⟨sa, sc, rfl, -, -⟩ := hov2.slice
  rw [List.length_map] at HOV2 ⊢
  clear hov2 ho2 hX HO1 hxl
  by_cases hbad : Huf.dep (Huf.ns l) = 0 ∨ ¬ ∀ s ∈ q, Huf.Okay (Huf.ns l) s.toNat
  · have hx := HX.out
    rw [henc_no hbad] at hx
    subst hx
    clear HXL
    --@1
    go_wp2_with fail
    go_ret
    exact ⟨rfl, HO2.out.below (by simp) (Nat.le_refl _)⟩
  · have hd0 : Huf.dep (Huf.ns l) ≠ 0 := fun e => hbad (.inl e)
    have hok : ∀ s ∈ q, Huf.Okay (Huf.ns l) s.toNat := Classical.not_not.1 (fun e => hbad (.inr e))
    have hx := HX.out
    rw [henc_yes hd0 hok] at hx
    have hg := Huf.dep_good hd0
    have hq0 : 0 < q.length := by omega
    have hdl := hdec_in (l := l) (b := X.1) (n := q.length - 1) hd0 (by have := HB.out; omega)
    have hdm := hdec_in (l := l) (b := X.1) (n := q.length + 1) hd0 (by have := HB.out; omega)
    have hdz := hdec_in (l := l) (b := X.1 ++ [0]) (n := q.length) hd0 (by have := HB.out; omega)
    rw [show X.1 = sbyt (Huf.ns l) (Huf.dep (Huf.ns l)) q by rw [← hx], trip_less hg hok _ (by omega)] at hdl
    rw [show X.1 = sbyt (Huf.ns l) (Huf.dep (Huf.ns l)) q by rw [← hx], trip_more hg hok] at hdm
    rw [show sdec (Huf.ns l) (Huf.dep (Huf.ns l)) (X.1 ++ [0]) q.length = ([], 11) by unfold sdec; rw [if_pos (by simp)]] at hdz
    have hx2 : X.2 = 0 := by rw [← hx]
    rw [hx2]
    have hx1 : sbyt (Huf.ns l) (Huf.dep (Huf.ns l)) q = X.1 := by rw [← hx]
    rw [hx1] at hdl hdm
    obtain ⟨B, hB⟩ : ∃ B, X.1 = B := ⟨_, rfl⟩
    rw [hB] at hdl hdm hdz HOV2 ⊢
    have hbl : B.length ≤ 1201 := by have := HXL.out; rw [hB] at this; have := HB.out; omega
    have hiL : ((q.length - 1 : Nat) : Int) = (q.length : Int) - 1 := by omega
    rw [hiL] at hdl
    rw [show ((q.length + 1 : Nat) : Int) = (q.length : Int) + 1 by omega] at hdm
    have HDL := Lib.hid hdl; have HDM := Lib.hid hdm; have HDZ := Lib.hid hdz
    have HBS := Lib.hid (BS.of_vs HOV2.out.vs)
    obtain ⟨bl, hble⟩ : ∃ bl, B.length = bl := ⟨_, rfl⟩
    rw [hble] at hbl HOV2 HBS ⊢
    have HBL := Lib.hid hble
    clear hx hg hdl hdm hdz hx2 hx1 hB HX HXL hok hbad hd0 hble hiL
    --@2
    go_wp2_with fail
    refine (hdecode_c w2 _ _ l B (HV.out.only HO2.out (by simp)) (by have := HB.out; omega) HBS.out (by have := HBL.out; omega) ((q.length : Int) - 1) (.inl (by have := HB.out; omega))).mono ?_
    rintro e w3 ⟨v3, rfl, hov3, ho3⟩
    rw [HDL.out] at hov3 ⊢
    obtain ⟨ta, tc, rfl, -, -⟩ := hov3.slice
    have HO3 := Lib.hid (HO2.out.then ho3); have HOV3 := Lib.hid (HOV2.out.only ho3 (by simp)); have HBS3 := Lib.hid (HBS.out.only ho3 (by simp))
    have HSZ3 := Lib.hid (Nat.le_trans HSZ.out ho3.size)
    rw [show (List.map u8v []).length = 0 from rfl]
    clear hov3 ho3 HO2 HOV2 HBS HSZ
    --@3
    go_wp2_with fail
    refine (hdecode_c w3 _ _ l B (HV.out.only HO3.out (by simp)) (by have := HB.out; omega) HBS3.out (by have := HBL.out; omega) ((q.length : Int) + 1) (.inl (by have := HB.out; omega))).mono ?_
    rintro e w4 ⟨v4, rfl, hov4, ho4⟩
    rw [HDM.out] at hov4 ⊢
    obtain ⟨ua, uc, rfl, -, -⟩ := hov4.slice
    have HO4 := Lib.hid (HO3.out.then ho4); have HOV4 := Lib.hid (HOV3.out.only ho4 (by simp))
    have HSZ4 := Lib.hid (Nat.le_trans HSZ3.out ho4.size)
    rw [show (List.map u8v []).length = 0 from rfl]
    clear hov4 ho4 HO3 HOV3 HBS3 HSZ3
    obtain ⟨i0, hi, hz0, hz1, hz2⟩ := info_parts bit.info_u8
    obtain ⟨v5, w5, hrun, hov5, hg5⟩ := run_append_one (P := Try.prog) (ty := 22) (T := 5) (fr := (0, 0)) (u := .int .u8 0) Try.underlying22 hi hz0 hz1 hz2 rfl HOV4.out rfl (by simp only [List.length_map, maxLen]; have := HBL.out; omega) (by simp only [List.length_map]; have := HBL.out; omega) HSZ4.out
    have ho5 : Only (Value.slice sa bl sc).ownBlock.toList w4 w5 := ((Only.refl _ w4).alloc _).then (Only.of_grown hg5)
    have hmem : ∀ c ∈ (Value.slice sa bl sc).ownBlock.toList, w1.heap.size ≤ c := fun c hc => (HOV4.out.lt (by simpa using hc)).1
    have hon5 := HO4.out.trans (S := []) ho5 (by simp) (fun c hc => .inr (Nat.le_trans HSW.out (hmem c hc)))
    rw [show B.map u8v ++ [.int .u8 0] = (B ++ [0]).map u8v by rw [List.map_append]; rfl] at hov5
    have hb5 := BS.of_vs hov5.vs
    have HO5 := Lib.hid hon5; have HB5 := Lib.hid hb5; have HRUN := Lib.hid hrun
    clear hi hz0 hz1 hz2 hrun hg5 ho5 hmem hon5 hb5 HOV4 HSZ4
    --@4
    go_wp2_with (at_builtin; refine wpList_append_run rfl _ _ _ rfl rfl rfl HRUN.out ?_)
    --@5
    refine (hdecode_c w5 _ _ l (B ++ [0]) (HV.out.only HO5.out (by simp)) (by have := HB.out; omega) HB5.out (by rw [List.length_append]; have := HBL.out; simp; omega) (q.length : Int) (.inl (by have := HB.out; omega))).mono ?_
    rintro e w6 ⟨v6, rfl, hov6, ho6⟩
    rw [HDZ.out]
    obtain ⟨xa, xc, rfl, -, -⟩ := hov6.slice
    have HO6 := Lib.hid (HO5.out.then ho6)
    clear hov6 ho6 hov5 HO5 HB5
    --@6
    go_wp2_with fail
    go_ret
    exact ⟨rfl, HO6.out.below (by simp) (Nat.le_refl _)⟩
end Go.Proofs.Ytfckokdgmbbheaa.huf
