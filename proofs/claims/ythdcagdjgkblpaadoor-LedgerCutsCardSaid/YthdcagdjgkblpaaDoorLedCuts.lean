/-
  THE WALK of LedgerCuts.
-/
import Derived.Test.YthdcagdjgkblpaaDoorLedRow
set_option linter.unusedVariables false
set_option linter.unusedSimpArgs false
namespace Go.Proofs.YthdcagdjgkblpaaDoor.led
open Go Go.RowKit Go.Lm Go.Proofs.YthdcagdjgkblpaaDoor.cur Go.Proofs.YthdcagdjgkblpaaDoor.crc

set_option maxRecDepth 100000 in
set_option maxHeartbeats 4000000 in
theorem cuts_c (w : World) (hT : Tab w) (v u : Value) (xs : List Nat) (ks : List UInt8) (hv : VS w v (xs.map u64v)) (hu : BS w u ks) (hx : ∀ x ∈ xs, x < 18446744073709551616) (t : Nat) (ht : t < 65536) :
    Calls Tryd.prog 5 #[v, u, .int .u16 (t : Int)] w fun e w' => e = .returned (.bool true) ∧ Below w.heap.size w w' := by
  have HT := Lib.hid hT; have HV := Lib.hid hv; have HU := Lib.hid hu; have HX := Lib.hid hx
  obtain ⟨a, cap, rfl, h1, h2, -, -⟩ := hv
  obtain ⟨a', cap', rfl, h3, h4, -, -⟩ := hu
  obtain ⟨N, hN⟩ : ∃ N, xs.length = N := ⟨_, rfl⟩
  simp only [List.length_map, hN] at h1 h2 HV ⊢
  have HN := Lib.hid hN
  unfold maxLen at h2 h4
  clear hT hx
  by_cases hbig : 30 < N
  · have hbI : (30 : Int) < (N : Int) := by omega
    go_enter Tryd.func5, Tryd.ntmps5
    go_wp2_with fail
    refine (awake_c w HT.out).mono ?_
    rintro e w1 ⟨rfl, ho1⟩
    have HO1 := Lib.hid ho1
    clear ho1
    go_wp2
    go_ret
    exact ⟨rfl, HO1.out.below (by simp) (Nat.le_refl _)⟩
  · go_enter Tryd.func5, Tryd.ntmps5
    go_wp2_with fail
    refine (awake_c w HT.out).mono ?_
    rintro e w1 ⟨rfl, ho1⟩
    have HO1 := Lib.hid ho1
    have HV1 := Lib.hid (HV.out.only ho1 (by simp))
    have HU1 := Lib.hid (HU.out.only ho1 (by simp))
    clear ho1
    have HT1 := Lib.hid (HT.out.only HO1.out (by simp))
    go_wp2_with fail
    have hrow := row_c w1 (.slice a N cap) (.slice a' ks.length cap') xs ks HV1.out HU1.out HX.out (by omega) HT1.out
    rw [HN.out] at hrow
    refine hrow.mono ?_
    clear hrow
    rintro e w2 ⟨p, rfl, hov, ho2⟩
    have HO2 := Lib.hid (HO1.out.then ho2)
    have HB2 := Lib.hid (BS.of_vs hov.vs)
    have HV2 := Lib.hid (HV1.out.only ho2 (by simp))
    have hok := Led.rowK_ok xs ks N HX.out
    have hRl := Led.rowK_length xs ks N
    have hval : ∀ k, k < N → ((Led.rowK xs ks N).getD k (0, 0)).2 = xs.getD k 0 := fun k h => by simp [Led.rowK, List.getD_eq_getElem?_getD, h]
    obtain ⟨R, hR⟩ : ∃ R, Led.rowK xs ks N = R := ⟨_, rfl⟩
    rw [hR] at HB2 hov hok hRl hval
    have HOK := Lib.hid hok; have HVAL := Lib.hid hval; have HRL := Lib.hid hRl
    have hpl := Led.puts_length R
    rw [hRl] at hpl
    obtain ⟨a2, cap2, rfl, h5, h6⟩ := hov.slice
    simp only [List.length_map, hpl] at h5 h6 HB2 ⊢
    have HPL := Lib.hid hpl
    unfold maxLen at h6
    obtain ⟨k, hk⟩ : ∃ k, t % (13 * N + 1) = k := ⟨_, rfl⟩
    have hkI : (t : Int) % (13 * (N : Int) + 1) = (k : Int) := by rw [← hk]; rfl
    have hkT : (t : Int).tmod (13 * (N : Int) + 1) = (k : Int) := by rw [Int.tmod_eq_emod_of_nonneg (by omega)]; exact hkI
    have hk13 : k ≤ 13 * N := by
      have := Nat.mod_lt t (show 0 < 13 * N + 1 by omega)
      rw [hk] at this
      omega
    clear hov ho2 hok hRl hval hR hpl HO1 HV1 HU1 HT1
    --@1
    go_upto_region 10 with fail
    --@2
    have hsl : ∀ w, (Instr.slice 22 (.slice a2 (13 * N) cap2) none (some (.int .i64 k)) none).run Tryd.prog w = .ok (subv a2 cap2 0 k) w := run_sub_h (P := Tryd.prog) (t := 22) Tryd.underlying22 size_u8 a2 (13 * N) cap2 k (by omega)
    have hbk := (show BS w2 (.slice a2 (13 * N) cap2) (Led.puts R) from HB2.out).sub 0 k (Nat.zero_le _) (by rw [HPL.out]; omega)
    rw [List.drop_zero] at hbk
    have hcut := Led.all_cut R HOK.out k (by rw [HRL.out]; exact hk13)
    obtain ⟨vs, hvs⟩ : ∃ vs, subv a2 cap2 0 k = vs := ⟨_, rfl⟩
    rw [hvs] at hsl hbk
    have HBK := Lib.hid hbk; have HCUT := Lib.hid hcut
    clear hvs hbk hcut hkI hkT
    --@3
    go_wp2_with fail
    have hrd := read_c w2 vs _ HBK.out (by rw [List.length_take, HPL.out]; omega) (HT.out.only HO2.out (by simp))
    rw [HCUT.out] at hrd
    refine hrd.mono ?_
    clear hrd hsl HBK HCUT
    rintro e w3 ⟨⟨u3, rfl, hrow⟩, ho3⟩
    have HO3 := Lib.hid (HO2.out.then ho3)
    have HV3 := Lib.hid (HV2.out.only ho3 (by simp))
    have HR3 := Lib.hid (RS.of_row hrow)
    have hql : (R.take (k / 13)).length = k / 13 := by rw [List.length_take, HRL.out]; omega
    obtain ⟨a3, cap3, rfl, h7, h8⟩ := HR3.out.slice
    obtain ⟨q, hq⟩ : ∃ q, k / 13 = q := ⟨_, rfl⟩
    rw [hq] at hql HR3
    rw [hq, hql] at h7 ⊢
    have hqN : q ≤ N := by omega
    have hqk : (k : Int) / 13 = (q : Int) := by rw [← hq]; rfl
    have hqk2 : (k : Int).tdiv 13 = (q : Int) := by rw [Int.tdiv_eq_ediv_of_nonneg (by omega)]; exact hqk
    have HQL := Lib.hid hql
    clear ho3 hrow hql
    unfold maxLen at h8
    --@4
    go_wp2_with fail
    --@5
    go_loopw [12] (fun i wr => ∃ k : Nat, k ≤ q ∧ i = .int .i64 (k : Nat) ∧ Only [] w wr ∧ Only [] w3 wr) (fun i _ => q - (intOf i).toNat)
    case atStart => exact ⟨0, Nat.zero_le _, rfl, HO3.out, Only.refl _ _⟩
    case round =>
      obtain ⟨j, hj, rfl, ho, ho'⟩ := hrel
      have HO := Lib.hid ho; have HO' := Lib.hid ho'
      clear ho ho'
      by_cases hlt : j < q
      · have hR3 := HR3.out.only HO'.out
        obtain ⟨b, off, rfl, c0, c1⟩ := hR3.at j (by rw [HQL.out]; exact hlt)
        have e1 : ((R.take q)[j]'(by rw [HQL.out]; exact hlt)).2 = xs.getD j 0 := by
          rw [← HVAL.out j (by omega), List.getElem_take, List.getD_eq_getElem?_getD, List.getElem?_eq_getElem (by rw [HRL.out]; omega)]
          rfl
        rw [e1] at c1
        obtain ⟨b', off', rfl, d0⟩ := vs_at (HV3.out.only HO'.out (by simp)) j (by rw [List.length_map, HN.out]; omega)
        have e2 : (xs.map u64v)[j]'(by rw [List.length_map, HN.out]; omega) = .int .u64 ((xs.getD j 0 : Nat) : Int) := by
          rw [List.getElem_map, List.getD_eq_getElem?_getD, List.getElem?_eq_getElem (by rw [HN.out]; omega)]
          rfl
        rw [e2] at d0
        generalize xs.getD j 0 = X at c1 d0
        clear e1 e2 c0 hR3
        --@6
        go_upto_region 16 with fail
        go_quiet (fail)
        --@7
        go_wp2
        go_roundw
        case rel => exact ⟨j + 1, by omega, by go_num, HO.out.drewN _, HO'.out.drewN _⟩
        case measure => simp [intOf]; omega
      · go_wp2
        go_ret
        exact ⟨rfl, HO.out.below (by simp) (Nat.le_refl _)⟩
end Go.Proofs.YthdcagdjgkblpaaDoor.led
