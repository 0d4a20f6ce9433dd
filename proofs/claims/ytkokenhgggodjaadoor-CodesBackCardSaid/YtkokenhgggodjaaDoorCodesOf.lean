/-
  THE WALK of codes.Of.
-/
import Derived.Test.YtkokenhgggodjaaDoorCodesWalks
import Derived.Test.YtkokenhgggodjaaDoorShelf
import Derived.Test.YtkokenhgggodjaaDoorGenBits
set_option linter.unusedVariables false
namespace Go.Proofs.YtkokenhgggodjaaDoor.codes
open Go Go.RowKit Go.Lm

theorem of_kind {k : Int} (h : k = 0 ∨ k = 1 ∨ k = 2) (v : Int) : Codes.of k v = match Codes.look (Codes.begins k) (Codes.adds k) 0 v with
    | some (i, x) => (i, x, 0)
    | none => (0, 0, 17) := by
  have hb : Codes.begins k ≠ [] := by rcases h with rfl | rfl | rfl <;> decide
  unfold Codes.of
  rw [if_neg hb]
  rfl

theorem of_no (k : Int) (h : ¬ (k = 0 ∨ k = 1 ∨ k = 2)) (v : Int) (w : World) (hT : Tabs w) : Calls Tryd.prog 12 #[.int .i64 k, .int .u32 v] w fun e w' => e = .returned (tripO (Codes.of k v)) ∧ Only [] w w' := by
  have HT := Lib.hid hT; clear hT
  have h0 : k ≠ 0 := fun e => h (.inl e)
  have h1 : k ≠ 1 := fun e => h (.inr (.inl e))
  have h2 : k ≠ 2 := fun e => h (.inr (.inr e))
  have el : Codes.last k = -1 := by simp [Codes.last, Codes.plain, Codes.more, h0, h1, h2]
  have ec : Codes.of k v = (0, 0, 1) := by simp [Codes.of, Codes.begins, h0, h1, h2]
  have EC := Lib.hid ec; have EL := Lib.hid el; have H0 := Lib.hid h0; have H2 := Lib.hid h2
  clear h h0 h1 h2 el ec
  go_enter Tryd.func12, Tryd.ntmps12
  go_wp2_with fail
  refine (row_no k H0.out H2.out w).mono ?_
  rintro e w1 ⟨rfl, rfl⟩
  go_wp2_with fail
  refine (last_c k w HT.out).mono ?_
  rintro e w1 ⟨rfl, ho1⟩
  have HO1 := Lib.hid ho1; clear ho1
  rw [EL.out]
  go_wp2
  go_ret3
  rw [EC.out]
  exact ⟨rfl, HO1.out⟩

set_option maxHeartbeats 1000000 in
theorem of_1 (v : Int) (hv0 : 0 ≤ v) (hv1 : v ≤ 4294967295) (w : World) (hT : Tabs w) : Calls Tryd.prog 12 #[.int .i64 1, .int .u32 v] w fun e w' => e = .returned (tripO (Codes.of 1 v)) ∧ Only [] w w' := by
  have HT := Lib.hid hT; clear hT
  have hk := of_kind (k := 1) (by simp) v
  by_cases h0 : v = 0
  · subst h0
    have ec : Codes.of 1 0 = (0, 0, 17) := by rw [hk, Codes.look_low 1 (by simp) 0 (by decide)]
    have EC := Lib.hid ec; clear ec hk
    go_enter Tryd.func12, Tryd.ntmps12
    go_wp2_with fail
    refine (row_no 1 (by decide) (by decide) w).mono ?_
    rintro e w1 ⟨rfl, rfl⟩
    go_wp2_with fail
    refine (last_c 1 w HT.out).mono ?_
    rintro e w1 ⟨rfl, ho1⟩
    have HO1 := Lib.hid ho1; clear ho1
    have el : Codes.last 1 = 31 := rfl
    rw [el]
    clear el
    go_wp2
    go_ret3
    rw [EC.out]
    exact ⟨rfl, HO1.out⟩
  · obtain ⟨x, rfl⟩ := Int.eq_ofNat_of_zero_le hv0
    have hx : x ≠ 0 := by omega
    obtain ⟨s1, s2, s3⟩ := bl_spec hx (by omega)
    have s4 := bl_le (x := x) (k := 32) (by omega) (by decide)
    obtain ⟨c, hc⟩ : ∃ c, Lib.bitLen x = c + 1 := ⟨Lib.bitLen x - 1, by omega⟩
    rw [hc] at s2 s3
    rw [Nat.add_sub_cancel, ← Nat.pow_eq] at s2
    have hb : ∀ j, j ≤ 31 → (Codes.begins 1).getD j 0 = ((2 ^ j : Nat) : Int) ∧ (Codes.adds 1).getD j 0 = (j : Int) := by decide
    have hbj := hb c (by omega)
    have ec : Codes.of 1 (x : Int) = ((c : Int), (x : Int) - (2 ^ c : Nat), 0) := by
      rw [hk, Codes.look_code 1 (by simp) c (by have : (Codes.begins 1).length = 32 := by decide
                                                omega) x (by rw [hbj.1]; exact_mod_cast s2) (by
          rw [hbj.1, hbj.2, Int.toNat_natCast]
          have e2 : (2 : Int) ^ c = ((2 ^ c : Nat) : Int) := by simp
          rw [e2]
          rw [Nat.pow_succ] at s3
          omega), hbj.1]
    have EC := Lib.hid ec; clear ec hk hb hbj
    have hc31 : c ≤ 31 := by omega
    have hpw : ∀ j, j ≤ 31 → (2 : Int) ^ j % 4294967296 = ((2 ^ j : Nat) : Int) := by decide
    have hpc := hpw c hc31
    have hz : ((x : Int) == 0) = false := by rw [beq_eq_false_iff_ne]; omega
    have s2' : ((2 ^ c : Nat) : Int) ≤ x := by exact_mod_cast s2
    have HC := Lib.hid hc
    have S3 := Lib.hid s3
    clear hpw hc s1 s2 s3 s4 h0 hx
    generalize hP : (2 ^ c : Nat) = P at hpc s2' EC
    clear hP
    go_enter Tryd.func12, Tryd.ntmps12
    go_wp2_with fail
    refine (row_no 1 (by decide) (by decide) w).mono ?_
    rintro e w1 ⟨rfl, rfl⟩
    go_wp2_with fail
    refine (last_c 1 w HT.out).mono ?_
    rintro e w1 ⟨rfl, ho1⟩
    have HO1 := Lib.hid ho1; clear ho1
    have el : Codes.last 1 = 31 := rfl
    rw [el]
    clear el
    go_wp2_with fail
    refine (Tryd.bits_Len32 x w1 (by omega) (by omega)).mono ?_
    rintro e w2 ⟨rfl, rfl⟩
    rw [Int.toNat_natCast, HC.out, show ((c + 1 : Nat) : Int) = (c : Int) + 1 by omega]
    go_wp2_with fail
    go_quiet (fail)
    go_wp2
    go_ret3
    refine ⟨?_, HO1.out.drewN _⟩
    rw [EC.out]
    simp [tripO]

set_option maxHeartbeats 1000000 in
theorem of_02 (k : Int) (h : k = 0 ∨ k = 2) (v : Int) (hv0 : 0 ≤ v) (hv1 : v ≤ 4294967295) (w : World) (hT : Tabs w) : Calls Tryd.prog 12 #[.int .i64 k, .int .u32 v] w fun e w' => e = .returned (tripO (Codes.of k v)) ∧ Only [] w w' := by
  have HT := Lib.hid hT; clear hT
  have h3 : k = 0 ∨ k = 1 ∨ k = 2 := by omega
  have hk := of_kind h3 v
  have hlm := Codes.len_more k h
  have h1 : (k == 1) = false := by rw [beq_eq_false_iff_ne]; omega
  have hll : 0 ≤ Codes.last k ∧ Codes.last k ≤ 52 := by rcases h with rfl | rfl <;> decide
  obtain ⟨pl, hpl⟩ := Int.eq_ofNat_of_zero_le hlm.2.2.2.1
  have hbm := Codes.begin_more k h
  have HBM := Lib.hid hbm
  have HPL := Lib.hid hpl
  have hfirst : (Codes.begins k).getD 0 0 = Codes.first k := by rcases h with rfl | rfl <;> decide
  have hf := hlm.2.2.2.2.2
  have hplb : pl ≤ 32 := by omega
  have hml := hlm.2.2.1
  have hlen := hlm.1
  have HLEN := Lib.hid hlen
  by_cases hlow : v < Codes.first k
  · have ec : Codes.of k v = (0, 0, 17) := by rw [hk, Codes.look_low k h3 v (by omega)]
    have EC := Lib.hid ec; have HK := Lib.hid h
    clear h h3 hk hlm hpl hbm hfirst ec hlen
    go_enter Tryd.func12, Tryd.ntmps12
    go_wp2_with fail
    refine (row_c k HK.out w HT.out).mono ?_
    rintro e w1 ⟨v', rfl, hv, ho1⟩
    have HO1 := Lib.hid ho1; clear ho1
    have HV := Lib.hid hv
    obtain ⟨a, cap, rfl, hv1, hv2, _, _⟩ := hv
    simp only [i64s, List.length_map] at hv1 HV ⊢
    unfold maxLen at hv2
    go_wp2_with fail
    refine (last_c k w1 (HT.out.only HO1.out (by simp) (by simp))).mono ?_
    rintro e w2 ⟨rfl, ho2⟩
    have HO2 := Lib.hid (HO1.out.then ho2)
    have HV2 := Lib.hid (HV.out.only ho2 (by simp))
    clear ho2 HO1 HV
    rw [HPL.out]
    go_wp2
    go_ret3
    rw [EC.out]
    exact ⟨rfl, HO2.out⟩
  by_cases hpn : v - Codes.first k < pl
  · obtain ⟨c, hc⟩ := Int.eq_ofNat_of_zero_le (show 0 ≤ v - Codes.first k by omega)
    have hbp := Codes.begin_plain k h c (by omega)
    have ec : Codes.of k v = (v - Codes.first k, 0, 0) := by
      rw [hk, Codes.look_code k h3 c (by omega) v (by omega) (by rw [hbp.1, hbp.2]; simp; omega), hbp.1]
      simp only []
      rw [hc]
      congr 2
      omega
    have EC := Lib.hid ec; have HK := Lib.hid h
    clear h h3 hk hlm hpl hbm hfirst ec hlen hc hbp
    go_enter Tryd.func12, Tryd.ntmps12
    go_wp2_with fail
    refine (row_c k HK.out w HT.out).mono ?_
    rintro e w1 ⟨v', rfl, hv, ho1⟩
    have HO1 := Lib.hid ho1; clear ho1
    have HV := Lib.hid hv
    obtain ⟨a, cap, rfl, hv1, hv2, _, _⟩ := hv
    simp only [i64s, List.length_map] at hv1 HV ⊢
    unfold maxLen at hv2
    go_wp2_with fail
    refine (last_c k w1 (HT.out.only HO1.out (by simp) (by simp))).mono ?_
    rintro e w2 ⟨rfl, ho2⟩
    have HO2 := Lib.hid (HO1.out.then ho2)
    have HV2 := Lib.hid (HV.out.only ho2 (by simp))
    clear ho2 HO1 HV
    rw [HPL.out]
    go_wp2
    go_ret3
    rw [EC.out]
    exact ⟨rfl, HO2.out⟩
  · have hst : ∀ j, j < (Codes.more k).length → (Codes.adds k).getD (pl + j) 0 = (Codes.more k).getD j 0 := by
      intro j hj
      have h2 := Codes.add_more k h j hj
      rwa [hpl, Int.toNat_natCast] at h2
    have hch : ∀ j, j + 1 < (Codes.more k).length → (Codes.begins k).getD (pl + (j + 1)) 0 = (Codes.begins k).getD (pl + j) 0 + 2 ^ ((Codes.more k).getD j 0).toNat := by
      intro j hj
      have h2 := Codes.chain k h3 (pl + j) (by omega)
      rw [hst j (by omega)] at h2
      exact h2
    have hhit : ∀ j, j < (Codes.more k).length → (Codes.begins k).getD (pl + j) 0 ≤ v → v - (Codes.begins k).getD (pl + j) 0 < 2 ^ ((Codes.more k).getD j 0).toNat → Codes.of k v = ((pl : Int) + j, v - (Codes.begins k).getD (pl + j) 0, 0) := by
      intro j hj ha hb
      rw [hk, Codes.look_code k h3 (pl + j) (by omega) v ha (by rw [hst j hj]; exact hb)]
      simp
    have hend : (Codes.begins k).getD (pl + ((Codes.more k).length - 1)) 0 + 2 ^ ((Codes.more k).getD ((Codes.more k).length - 1) 0).toNat ≤ v → Codes.of k v = (0, 0, 17) := by
      intro ha
      rw [hk, Codes.look_none k h3 v (by
        rw [show (Codes.begins k).length - 1 = pl + ((Codes.more k).length - 1) by omega, hst _ (by omega)]; exact ha)]
    have HCH := Lib.hid hch; have HHIT := Lib.hid hhit; have HEND := Lib.hid hend; have HK := Lib.hid h
    rw [hpl, Int.toNat_natCast] at hbm
    have HBM := Lib.hid hbm
    have hm0 := hlm.2.1
    clear h h3 hk hlm hpl hbm hfirst hlen hst hch hhit hend
    go_enter Tryd.func12, Tryd.ntmps12
    go_wp2_with fail
    refine (row_c k HK.out w HT.out).mono ?_
    rintro e w1 ⟨v', rfl, hv, ho1⟩
    have HO1 := Lib.hid ho1; clear ho1
    have HV := Lib.hid hv
    obtain ⟨a, cap, rfl, hv1, hv2, _, _⟩ := hv
    simp only [i64s, List.length_map] at hv1 HV ⊢
    unfold maxLen at hv2
    go_wp2_with fail
    refine (last_c k w1 (HT.out.only HO1.out (by simp) (by simp))).mono ?_
    rintro e w2 ⟨rfl, ho2⟩
    have HO2 := Lib.hid (HO1.out.then ho2)
    have HV2 := Lib.hid (HV.out.only ho2 (by simp))
    clear ho2 HO1 HV
    rw [HPL.out]
    have hat := fun (j : Nat) (hj : j < (Codes.more k).length) => HV2.out.i64_at j hj
    have HAT := Lib.hid hat; clear hat
    go_wp2_with fail
    have hcmp : ∀ j, j < (Codes.more k).length → 1 ≤ (Codes.more k).getD j 0 ∧ (Codes.more k).getD j 0 ≤ 16 := fun j hj => Codes.more_bounds k HK.out j hj
    have HCMP := Lib.hid hcmp; clear hcmp
    go_loop [1, 60] (fun x i => ∃ j : Nat, ∃ y : Int, j ≤ (Codes.more k).length ∧ i = .int .i64 j ∧ x = .int .u32 y ∧ 0 ≤ y ∧ y ≤ 4294967295 ∧
        (j < (Codes.more k).length → v = (Codes.begins k).getD (pl + j) 0 + y) ∧ (j = (Codes.more k).length → Codes.of k v = (0, 0, 17))) (fun _ i => (Codes.more k).length - (intOf i).toNat)
    case atStart => exact ⟨0, _, Nat.zero_le _, rfl, rfl, by omega, by omega, fun _ => by rw [Nat.add_zero, HBM.out]; omega, fun h => by omega⟩
    case round =>
      obtain ⟨j, y, hj, rfl, rfl, hy0, hy1, hy2, hy3⟩ := hrel
      have HY2 := Lib.hid hy2; have HY3 := Lib.hid hy3
      clear hy2 hy3
      by_cases hjm : j < (Codes.more k).length
      · obtain ⟨b, off, rfl, hcell⟩ := HAT.out j hjm
        have hn := HCMP.out j hjm
        have hit := HHIT.out j hjm
        have hch := HCH.out j
        have hend := HEND.out
        have hv := HY2.out hjm
        obtain ⟨n, hn2⟩ := Int.eq_ofNat_of_zero_le (show 0 ≤ (Codes.more k).getD j 0 by omega)
        have hend' : j + 1 = (Codes.more k).length → (Codes.begins k).getD (pl + j) 0 + 2 ^ n ≤ v → Codes.of k v = (0, 0, 17) := by
          intro e hle
          refine hend ?_
          rw [show (Codes.more k).length - 1 = j by omega, hn2, Int.toNat_natCast]
          exact hle
        rw [hn2] at hn hcell hit hch
        rw [Int.toNat_natCast] at hit hch
        have hpw : ∀ n, n ≤ 16 → (2 : Int) ^ n % 4294967296 = 2 ^ n := by decide
        have hp := hpw n (by omega)
        have hp0 := Int.pow_pos (m := n) (show (0 : Int) < 2 by decide)
        have hp1 : (2 : Int) ^ n ≤ 65536 := by
          have : ∀ n, n ≤ 16 → (2 : Int) ^ n ≤ 65536 := by decide
          exact this n (by omega)
        clear hpw hn2 hend
        generalize hX : (Codes.begins k).getD (pl + j) 0 = X at hit hch hv hend'
        obtain ⟨Q, hQ⟩ : ∃ Q, (2 : Int) ^ n = Q := ⟨_, rfl⟩
        have hpq : (2 : Int) ^ n % 4294967296 = Q := by rw [hp, hQ]
        rw [hQ] at hit hch hp0 hp1 hend'
        clear hX hp hQ
        by_cases hlt : y < Q
        · have ho := hit (by omega) (by omega)
          have HO := Lib.hid ho
          have HVV := Lib.hid hv
          clear ho hit hch hv hend'
          go_wp2
          go_ret3
          refine ⟨?_, HO2.out⟩
          rw [HO.out, HVV.out]
          simp [tripO]
          omega
        · have HR : Hid (j + 1 < (Codes.more k).length → v = (Codes.begins k).getD (pl + (j + 1)) 0 + (y - Q)) := by
            intro h
            rw [hch h]; omega
          have HE : Hid (j + 1 = (Codes.more k).length → Codes.of k v = (0, 0, 17)) := fun e => hend' e (by omega)
          clear hit hch hv hend'
          go_wp2
          go_round
          case rel => exact ⟨j + 1, y - Q, by omega, by go_num, rfl, by omega, by omega, HR.out, HE.out⟩
          case measure => simp [intOf]; omega
      · have e := HY3.out (by omega)
        have HE := Lib.hid e; clear e
        go_wp2
        go_ret3
        rw [HE.out]
        exact ⟨rfl, HO2.out⟩
end Go.Proofs.YtkokenhgggodjaaDoor.codes
