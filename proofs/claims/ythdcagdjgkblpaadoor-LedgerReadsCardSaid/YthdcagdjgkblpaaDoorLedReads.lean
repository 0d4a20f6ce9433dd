/-
  THE WALK of LedgerReads.
-/
import Derived.Test.YthdcagdjgkblpaaDoorLedRow
set_option linter.unusedVariables false
set_option linter.unusedSimpArgs false
namespace Go.Proofs.YthdcagdjgkblpaaDoor.led
open Go Go.RowKit Go.Lm Go.Proofs.YthdcagdjgkblpaaDoor.cur Go.Proofs.YthdcagdjgkblpaaDoor.crc

set_option maxRecDepth 100000 in
set_option maxHeartbeats 4000000 in
theorem reads_c (w : World) (hT : Tab w) (v : Value) (l : List UInt8) (hv : BS w v l) : Calls Tryd.prog 3 #[v] w fun e w' => e = .returned (.bool true) ∧ Below w.heap.size w w' := by
  have HT := Lib.hid hT; have HV := Lib.hid hv
  obtain ⟨a, cap, rfl, h1, h2, -, -⟩ := hv
  unfold maxLen at h2
  clear hT
  by_cases hbig : 500 < l.length
  · go_enter Tryd.func3, Tryd.ntmps3
    go_wp2_with fail
    refine (awake_c w HT.out).mono ?_
    rintro e w1 ⟨rfl, ho1⟩
    have HO1 := Lib.hid ho1
    clear ho1
    go_wp2
    go_ret
    exact ⟨rfl, HO1.out.below (by simp) (Nat.le_refl _)⟩
  · go_enter Tryd.func3, Tryd.ntmps3
    go_wp2_with fail
    refine (awake_c w HT.out).mono ?_
    rintro e w1 ⟨rfl, ho1⟩
    have HO1 := Lib.hid ho1
    have HV1 := Lib.hid (HV.out.only ho1 (by simp))
    clear ho1
    go_wp2_with fail
    refine (read_c w1 _ l HV1.out (by omega) (HT.out.only HO1.out (by simp))).mono ?_
    rintro e w2 ⟨⟨u, rfl, hrow⟩, ho2⟩
    have HO2 := Lib.hid (HO1.out.then ho2)
    have hstr := run_string_of_bytes (P := Tryd.prog) Tryd.underlying22 Tryd.underlying5 Tryd.underlying9 (HV1.out.only ho2 (by simp))
    have HR2 := Lib.hid (RS.of_row hrow)
    clear ho2 hrow HO1
    obtain ⟨S, hS⟩ : ∃ S : ByteArray, (⟨l.toArray⟩ : ByteArray) = S := ⟨_, rfl⟩
    have hSl : S.data.toList = l := by rw [← hS]
    have hSz : S.size ≤ 500 := by rw [← len_data, hSl]; omega
    rw [hS] at hstr
    clear hS
    go_wp2_with fail
    have hrr := rread_c w2 S (by omega)
    rw [hSl] at hrr
    refine hrr.mono ?_
    rintro e w3 ⟨⟨u', rfl, hrow⟩, ho3⟩
    clear hrr hstr hSl
    have HO3 := Lib.hid (HO2.out.then ho3)
    have hR2 := HR2.out.only ho3
    have HR4 := Lib.hid (RS.of_row hrow)
    clear ho3 hrow HO2 HR2
    have hall := Led.all_len l
    generalize Led.all l = R at *
    obtain ⟨a2, cap2, rfl, h3, h4⟩ := hR2.slice
    obtain ⟨a4, cap4, rfl, h5, h6⟩ := HR4.out.slice
    have HR3 := Lib.hid hR2
    clear hR2
    unfold maxLen at h4 h6
    --@1
    go_wp2_with fail
    --@2
    go_loopw [8] (fun i wr => ∃ k : Nat, k ≤ R.length ∧ i = .int .i64 (k : Nat) ∧ Only [] w wr ∧ Only [] w3 wr) (fun i _ => R.length - (intOf i).toNat)
    case atStart => exact ⟨0, Nat.zero_le _, rfl, HO3.out, Only.refl _ _⟩
    case round =>
      obtain ⟨k, hk, rfl, ho, ho'⟩ := hrel
      have HO := Lib.hid ho; have HO' := Lib.hid ho'
      clear ho ho'
      by_cases hlt : k < R.length
      · obtain ⟨b, off, rfl, c0, c1⟩ := (HR3.out.only HO'.out).at k hlt
        obtain ⟨b', off', rfl, d0, d1⟩ := (HR4.out.only HO'.out).at k hlt
        obtain ⟨⟨K, V⟩, hr⟩ : ∃ r, R[k] = r := ⟨_, rfl⟩
        rw [hr] at c0 c1 d0 d1
        clear hr
        --@3
        go_upto_region 13 with fail
        --@4
        go_quiet (fail)
        go_wp2
        go_roundw
        case rel => exact ⟨k + 1, by omega, by go_num, HO.out.drewN _, HO'.out.drewN _⟩
        case measure => simp [intOf]; omega
      · go_wp2
        go_ret
        exact ⟨rfl, HO.out.below (by simp) (Nat.le_refl _)⟩
end Go.Proofs.YthdcagdjgkblpaaDoor.led
