/-
  THE WALK of WireBits.
-/
import Derived.Test.YtdoiebbbgmlkaaaDoorWrAwake
set_option linter.unusedVariables false
set_option linter.unusedSimpArgs false
namespace Go.Lm.Bt
theorem some_length (l : List UInt8) (n : Nat) : (some l n).length = n := by
  unfold some
  rw [List.length_append, List.length_take, List.length_replicate, bitsOf_length]
  omega
theorem some_at (l : List UInt8) (n k : Nat) (h : k < n) (h2 : k < (some l n).length) : (some l n)[k] = (decide (k < 8 * l.length) && (bitsOf l).getD k false) := by
  have hb := bitsOf_length l
  unfold some at h2 ⊢
  by_cases hk : k < 8 * l.length
  · rw [List.getElem_append_left (by rw [List.length_take]; omega), List.getElem_take, decide_eq_true hk, Bool.true_and, List.getD_eq_getElem?_getD, List.getElem?_eq_getElem (by omega)]
    rfl
  · rw [List.getElem_append_right (by rw [List.length_take]; omega), List.getElem_replicate, decide_eq_false hk, Bool.false_and]
theorem some_bytes (L : List Bool) : some (bytesOf L) L.length = L := by
  apply List.ext_getElem
  · exact some_length _ _
  · intro k h1 h2
    have hl := bytesOf_length L
    rw [some_at _ _ _ h2 h1, decide_eq_true (by omega), Bool.true_and]
    have hb := bitsOf_length (bytesOf L)
    have hj : k / 8 < (bytesOf L).length := by omega
    rw [List.getD_eq_getElem?_getD, List.getElem?_eq_getElem (by omega), Option.getD_some, bitsOf_at (bytesOf L) k (by omega) hj (by omega), byte_bit L (k / 8) (k % 8) hj]
    rw [decide_eq_true (by omega), Bool.true_and, show 8 * (k / 8) + k % 8 = k by omega, List.getD_eq_getElem?_getD, List.getElem?_eq_getElem h2]
    rfl
end Go.Lm.Bt
namespace Go.Proofs.YtdoiebbbgmlkaaaDoor.wr
open Go Go.RowKit Go.Lm Go.Proofs.YtdoiebbbgmlkaaaDoor.cur Go.Proofs.YtdoiebbbgmlkaaaDoor.crc Go.Proofs.YtdoiebbbgmlkaaaDoor.bit

def Zof (B : List UInt8) (n : Int) : List Bool := if 0 ≤ n ∧ n ≤ 65536 then Bt.some B n.toNat else []
theorem bitsany_c (w : World) (v : Value) (l : List UInt8) (hv : BS w v l) (hl : l.length ≤ 1000000) (n : Int) : Calls Tryd.prog 16 #[v, .int .i64 n] w fun e w' => ∃ u, e = .returned u ∧ VS w' u (bl (Zof l n)) ∧ Only [] w w' := by
  by_cases h : 0 ≤ n ∧ n ≤ 65536
  · obtain ⟨k, rfl⟩ := Int.eq_ofNat_of_zero_le h.1
    have e : Zof l (k : Int) = Bt.some l k := by unfold Zof; rw [if_pos h, Int.toNat_natCast]
    rw [e]
    exact bits_c w v l hv hl k (by omega)
  · have e : Zof l n = [] := if_neg h
    rw [e]
    refine (bits_no w v l n (by omega)).mono ?_
    rintro e w' ⟨rfl, ho⟩
    exact ⟨_, rfl, VS.nil _, ho⟩

set_option maxRecDepth 100000 in
set_option maxHeartbeats 8000000 in
theorem bitslaw_c (w : World) (hT : Tab w) (v : Value) (L : List Bool) (hv : VS w v (bl L)) (u : Value) (B : List UInt8) (hu : BS w u B) (n : Int) :
    Calls Tryd.prog 5 #[v, u, .int .i64 n] w fun e w' => e = .returned (.bool true) ∧ Below w.heap.size w w' := by
  have HT := Lib.hid hT; have HV := Lib.hid hv; have HU := Lib.hid hu
  obtain ⟨a, cap, hve, h1, h2, -, -⟩ := hv
  obtain ⟨a', cap', hue, h3, h4, -, -⟩ := hu
  rw [bl_length] at hve h1
  obtain ⟨N, hN⟩ : ∃ N, L.length = N := ⟨_, rfl⟩
  obtain ⟨M, hM⟩ : ∃ M, B.length = M := ⟨_, rfl⟩
  rw [hN] at hve h1
  rw [hM] at hue h3
  subst hve hue
  unfold maxLen at h2 h4
  have HN := Lib.hid hN; have HM := Lib.hid hM
  clear hT hN hM
  go_enter Tryd.func5, Tryd.ntmps5
  go_wp2_with fail
  refine (awake_c w HT.out).mono ?_
  rintro e w1 ⟨rfl, ho1⟩
  have HO1 := Lib.hid ho1
  have HV1 := Lib.hid (HV.out.only ho1 (by simp))
  have HU1 := Lib.hid (HU.out.only ho1 (by simp))
  clear ho1
  by_cases hbig : 500 < N ∨ 200 < M ∨ (4000 < n ∧ n ≤ 65536)
  · have hc : (500 : Int) < (N : Int) ∨ (¬ ((500 : Int) < (N : Int)) ∧ (200 : Int) < (M : Int)) ∨ (¬ ((500 : Int) < (N : Int)) ∧ ¬ ((200 : Int) < (M : Int)) ∧ (4000 : Int) < n ∧ n ≤ 65536) := by omega
    clear hbig
    rcases hc with hb | ⟨hb, hc⟩ | ⟨hb, hc, hd, he⟩
    all_goals
      go_wp2
      go_ret
      exact ⟨rfl, HO1.out.below (by simp) (Nat.le_refl _)⟩
  have hN5 : N ≤ 500 := by omega
  have hM2 : M ≤ 200 := by omega
  have hb1 : ¬ ((500 : Int) < (N : Int)) := by omega
  have hb2 : ¬ ((200 : Int) < (M : Int)) := by omega
  have hnc : (n < 0 ∨ 65536 < n) ∨ (0 ≤ n ∧ n ≤ 4000) := by omega
  have hb3 : ¬ ((4000 : Int) < n) ∨ ((4000 : Int) < n ∧ ¬ (n ≤ 65536)) := by omega
  have HB3 := Lib.hid hb3
  have HS : Hid (Bt.some (Bt.bytesOf L) N = L) := Lib.hid (by rw [← HN.out]; exact Bt.some_bytes L)
  clear hbig hb3
  rcases HB3.out with hb3 | ⟨hb3, hb4⟩
  · go_wp2_with fail
    refine (bitmap_c w1 _ L HV1.out (by rw [HN.out]; omega)).mono ?_
    rintro e w2 ⟨x, rfl, hbx, ho2⟩
    have HO2 := Lib.hid (HO1.out.then ho2)
    have HBX2 := Lib.hid hbx
    have HV2 := Lib.hid (HV1.out.only ho2 (by simp))
    have HU2 := Lib.hid (HU1.out.only ho2 (by simp))
    clear ho2 hbx
    go_wp2_with fail
    have hbb := bits_c w2 x (Bt.bytesOf L) HBX2.out (by rw [Bt.bytesOf_len, HN.out]; omega) N (by omega)
    rw [HS.out] at hbb
    refine hbb.mono ?_
    clear hbb
    rintro e w3 ⟨y, rfl, hvy, ho3⟩
    have HO3 := Lib.hid (HO2.out.then ho3)
    have HBX3 := Lib.hid (HBX2.out.only ho3 (by simp))
    have HVY3 := Lib.hid hvy
    have HV3 := Lib.hid (HV2.out.only ho3 (by simp))
    have HU3 := Lib.hid (HU2.out.only ho3 (by simp))
    clear ho3 hvy HBX2 HV1 HU1 HV2 HU2 HO1 HO2
    go_wp2_with fail
    refine (bitsany_c w3 _ B HU3.out (by rw [HM.out]; omega) n).mono ?_
    rintro e w4 ⟨z, rfl, hvz, ho4⟩
    have HO4 := Lib.hid (HO3.out.then ho4)
    have HBX4 := Lib.hid (HBX3.out.only ho4 (by simp))
    have hvy4 := HVY3.out.only ho4 (by simp)
    have HV4 := Lib.hid (HV3.out.only ho4 (by simp))
    have HU4 := Lib.hid (HU3.out.only ho4 (by simp))
    have hbx := HBX4.out
    obtain ⟨ax, cx, rfl, kx1, kx2, -, -⟩ := hbx
    obtain ⟨ay, cy, rfl, ky1, ky2, -, -⟩ := id hvy4
    obtain ⟨az, cz, rfl, kz1, kz2, -, -⟩ := id hvz
    have HVZ4 := Lib.hid hvz; have HVY4 := Lib.hid hvy4
    have HN2 : Hid ((bl L).length = N) := Lib.hid (by rw [bl_length, HN.out])
    rw [HN2.out] at HVY4 ky1 ⊢
    unfold maxLen at kx2 ky2 kz2
    obtain ⟨Z, hZ⟩ : ∃ Z, Zof B n = Z := ⟨_, rfl⟩
    rw [hZ] at HVZ4 kz1 ⊢
    have HZ := Lib.hid hZ
    obtain ⟨X, hX⟩ : ∃ X, (Bt.bytesOf L).length = X := ⟨_, rfl⟩
    have HX := Lib.hid hX
    rw [hX] at HBX4 kx1 ⊢
    obtain ⟨S, hS⟩ : ∃ S : ByteArray, (⟨(Bt.bytesOf L).toArray⟩ : ByteArray) = S := ⟨_, rfl⟩
    have HSX := Lib.hid hS
    have hq := fun (W : World) (h : VS W (.slice a N cap) (bl L)) => refbytes_c W _ L h (by rw [HN.out]; omega)
    simp only [hS] at hq
    have HQ := Lib.hid hq
    have hcv : ∀ x : Later [] w4, (convert 24 9 (.slice ax X cx)).run Tryd.prog x.at' = .ok (.string S) x.at' := fun x => by
      have h := run_string_of_bytes (P := Tryd.prog) Tryd.underlying24 Tryd.underlying5 Tryd.underlying9 (HBX4.out.only x.only (by simp))
      rw [hS] at h
      exact h
    clear ho4 hvz hvy4 hZ hX hS hq HBX3 HVY3 HV3 HU3 HO3
    --@1
    go_upto_region 9 with fail
    --@2
    refine wp_region_later [] (by kernel_rfl) (by kernel_rfl) ?_
    repeat (go_big_quiet_step (first
      | (go_at_call 17; exact Calls.later_nil (HQ.out _ (HV4.out.only (Later.only _) (by simp))))))
    refine wpQuiet_nil ?_
    rintro _ ⟨x, rfl⟩
    have HX5 := Lib.hid x.only
    clear hcv
    generalize x.at' = w5 at *
    have HO5 := Lib.hid (HO4.out.then HX5.out)
    have HV5 := Lib.hid (HV4.out.only HX5.out (by simp))
    have HVY5 := Lib.hid (HVY4.out.only HX5.out (by simp))
    have HVZ5 := Lib.hid (HVZ4.out.only HX5.out (by simp))
    have HU5 := Lib.hid (HU4.out.only HX5.out (by simp))
    clear HX5 HQ HSX HBX4 HV4 HU4 HVY4 HVZ4 HO4
    --@3
    go_wp2_with fail
    go_loopw [11] (fun i wr => ∃ k : Nat, k ≤ N ∧ i = .int .i64 (k : Nat) ∧ Only [] w wr ∧ Only [] w5 wr) (fun i _ => N - (intOf i).toNat)
    case atStart => exact ⟨0, Nat.zero_le _, rfl, HO5.out, Only.refl _ _⟩
    case round =>
      obtain ⟨k, hk, rfl, ho, ho'⟩ := hrel
      have HO := Lib.hid ho; have HO' := Lib.hid ho'
      clear ho ho'
      by_cases hlt : k < N
      · obtain ⟨b, off, rfl, c0⟩ := vs_bit (HV5.out.only HO'.out (by simp)) k (by rw [HN.out]; exact hlt)
        obtain ⟨b', off', rfl, c1⟩ := vs_bit (HVY5.out.only HO'.out (by simp)) k (by rw [HN.out]; exact hlt)
        have hltI : (k : Int) < (N : Int) := by omega
        generalize L[k]'_ = xb at c0 c1
        go_upto_region 14 with fail
        go_quiet (fail)
        go_wp2
        go_roundw
        case rel => exact ⟨k + 1, by omega, by go_num, HO.out.drewN _, HO'.out.drewN _⟩
        case measure => simp [intOf]; omega
      · obtain rfl : k = N := by omega
        have HU6 := Lib.hid (HU5.out.only HO'.out (by simp))
        have HVZ6 := Lib.hid (HVZ5.out.only HO'.out (by simp))
        obtain ⟨wq, hwq⟩ : ∃ wq, wq = wr := ⟨_, rfl⟩
        subst hwq
        by_cases hno : n < 0 ∨ 65536 < n
        · have hzn : (bl Z).length = 0 := by
            rw [← HZ.out]
            unfold Zof
            rw [if_neg (by omega)]
            rfl
          have hnn : n < 0 ∨ (¬ n < 0 ∧ (65536 : Int) < n) := by omega
          simp only [hzn]
          rcases hnn with h0 | ⟨h0, h5⟩
          all_goals
            go_wp2
            go_ret
            exact ⟨rfl, HO.out.below (by simp) (Nat.le_refl _)⟩
        · obtain ⟨t, rfl⟩ := Int.eq_ofNat_of_zero_le (show 0 ≤ n by omega)
          have hZs : Z = Bt.some B t := by
            rw [← HZ.out]
            unfold Zof
            rw [if_pos (by omega), Int.toNat_natCast]
          have hzn : (bl Z).length = t := by rw [bl_length, hZs, Bt.some_length]
          rw [hzn] at HVZ6 kz1 ⊢
          have hzat := fun (j : Nat) (h : j < t) (h2 : j < Z.length) => (by subst hZs; exact Bt.some_at B t j h h2 : Z[j] = (decide (j < 8 * B.length) && (Bt.bitsOf B).getD j false))
          rw [HM.out] at hzat
          have HZAT := Lib.hid hzat
          have hbl := Bt.bitsOf_length B
          rw [HM.out] at hbl
          have HBL := Lib.hid hbl
          have hstr := run_string_of_bytes (P := Tryd.prog) Tryd.underlying24 Tryd.underlying5 Tryd.underlying9 HU6.out
          obtain ⟨S2, hS2⟩ : ∃ S : ByteArray, (⟨B.toArray⟩ : ByteArray) = S := ⟨_, rfl⟩
          rw [hS2] at hstr
          have hS2l : S2.data.toList = B := by rw [← hS2]
          have hS2s : S2.size ≤ 200 := by rw [← len_data, hS2l, HM.out]; exact hM2
          have HS2 := Lib.hid hS2l
          have h0 : ¬ ((t : Int) < 0) := by omega
          have h5 : ¬ ((65536 : Int) < (t : Int)) := by omega
          clear hZs hzat hbl hS2 hS2l hno hzn
          --@4
          go_wp2_with fail
          have hrb := refbits_c wq S2 (by omega)
          rw [HS2.out] at hrb
          refine hrb.mono ?_
          clear hrb
          rintro e w7 ⟨p, rfl, hov7, ho7⟩
          have HO7 := Lib.hid (HO.out.then ho7)
          have HVZ7 := Lib.hid (HVZ6.out.only ho7 (by simp))
          have hvp := hov7.vs
          obtain ⟨ap, cp, rfl, kp1, kp2, -, -⟩ := id hvp
          have HBL2 : Hid ((bl (Bt.bitsOf B)).length = 8 * M) := Lib.hid (by rw [bl_length, HBL.out])
          rw [HBL2.out] at hvp kp1 ⊢
          have HVP7 := Lib.hid hvp
          unfold maxLen at kp2
          clear ho7 hov7 hvp hstr HU6 HVZ6
          --@5
          go_wp2_with fail
          go_loopw [13] (fun i wr => ∃ k : Nat, k ≤ t ∧ i = .int .i64 (k : Nat) ∧ Only [] w wr ∧ Only [] w7 wr) (fun i _ => t - (intOf i).toNat)
          case atStart => exact ⟨0, Nat.zero_le _, rfl, HO7.out, Only.refl _ _⟩
          case round =>
            obtain ⟨j, hj, rfl, ho2, ho2'⟩ := hrel
            have HO2 := Lib.hid ho2; have HO2' := Lib.hid ho2'
            clear ho2 ho2'
            by_cases hlt2 : j < t
            · have hzl : Z.length = t := by have := HZ.out; rw [← this]; unfold Zof; rw [if_pos (by omega), Int.toNat_natCast, Bt.some_length]
              obtain ⟨b, off, rfl, c0⟩ := vs_bit (HVZ7.out.only HO2'.out (by simp)) j (by rw [hzl]; exact hlt2)
              rw [HZAT.out j hlt2 (by rw [hzl]; exact hlt2)] at c0
              by_cases hj8 : j < 8 * M
              · obtain ⟨b', off', rfl, c1⟩ := vs_bit (HVP7.out.only HO2'.out (by simp)) j (by rw [HBL.out]; exact hj8)
                have hjI : (j : Int) < 8 * (M : Int) := by omega
                rw [decide_eq_true hj8, Bool.true_and, List.getD_eq_getElem?_getD, List.getElem?_eq_getElem (by rw [HBL.out]; exact hj8), Option.getD_some] at c0
                generalize (Bt.bitsOf B)[j]'_ = xb at c0 c1
                have hltI : (j : Int) < (t : Int) := by omega
                clear hzl
                --@6
                go_upto_region 24 with fail
                go_quiet (fail)
                go_wp2
                go_roundw
                case rel => exact ⟨j + 1, by omega, by go_num, HO2.out.drewN _, HO2'.out.drewN _⟩
                case measure => simp [intOf]; omega
              · have hjI : ¬ ((j : Int) < 8 * (M : Int)) := by omega
                have hjd : decide ((j : Int) < 8 * (M : Int)) = false := decide_eq_false hjI
                rw [decide_eq_false hj8, Bool.false_and] at c0
                have hltI : (j : Int) < (t : Int) := by omega
                clear hzl
                --@7
                go_upto_region 24 with fail
                go_quiet (fail)
                go_wp2
                go_roundw
                case rel => exact ⟨j + 1, by omega, by go_num, HO2.out.drewN _, HO2'.out.drewN _⟩
                case measure => simp [intOf]; omega
            · go_wp2
              go_ret
              exact ⟨rfl, HO2.out.below (by simp) (Nat.le_refl _)⟩
  · go_wp2_with fail
    refine (bitmap_c w1 _ L HV1.out (by rw [HN.out]; omega)).mono ?_
    rintro e w2 ⟨x, rfl, hbx, ho2⟩
    have HO2 := Lib.hid (HO1.out.then ho2)
    have HBX2 := Lib.hid hbx
    have HV2 := Lib.hid (HV1.out.only ho2 (by simp))
    have HU2 := Lib.hid (HU1.out.only ho2 (by simp))
    clear ho2 hbx
    go_wp2_with fail
    have hbb := bits_c w2 x (Bt.bytesOf L) HBX2.out (by rw [Bt.bytesOf_len, HN.out]; omega) N (by omega)
    rw [HS.out] at hbb
    refine hbb.mono ?_
    clear hbb
    rintro e w3 ⟨y, rfl, hvy, ho3⟩
    have HO3 := Lib.hid (HO2.out.then ho3)
    have HBX3 := Lib.hid (HBX2.out.only ho3 (by simp))
    have HVY3 := Lib.hid hvy
    have HV3 := Lib.hid (HV2.out.only ho3 (by simp))
    have HU3 := Lib.hid (HU2.out.only ho3 (by simp))
    clear ho3 hvy HBX2 HV1 HU1 HV2 HU2 HO1 HO2
    go_wp2_with fail
    refine (bitsany_c w3 _ B HU3.out (by rw [HM.out]; omega) n).mono ?_
    rintro e w4 ⟨z, rfl, hvz, ho4⟩
    have HO4 := Lib.hid (HO3.out.then ho4)
    have HBX4 := Lib.hid (HBX3.out.only ho4 (by simp))
    have hvy4 := HVY3.out.only ho4 (by simp)
    have HV4 := Lib.hid (HV3.out.only ho4 (by simp))
    have HU4 := Lib.hid (HU3.out.only ho4 (by simp))
    have hbx := HBX4.out
    obtain ⟨ax, cx, rfl, kx1, kx2, -, -⟩ := hbx
    obtain ⟨ay, cy, rfl, ky1, ky2, -, -⟩ := id hvy4
    obtain ⟨az, cz, rfl, kz1, kz2, -, -⟩ := id hvz
    have HVZ4 := Lib.hid hvz; have HVY4 := Lib.hid hvy4
    have HN2 : Hid ((bl L).length = N) := Lib.hid (by rw [bl_length, HN.out])
    rw [HN2.out] at HVY4 ky1 ⊢
    unfold maxLen at kx2 ky2 kz2
    obtain ⟨Z, hZ⟩ : ∃ Z, Zof B n = Z := ⟨_, rfl⟩
    rw [hZ] at HVZ4 kz1 ⊢
    have HZ := Lib.hid hZ
    obtain ⟨X, hX⟩ : ∃ X, (Bt.bytesOf L).length = X := ⟨_, rfl⟩
    have HX := Lib.hid hX
    rw [hX] at HBX4 kx1 ⊢
    obtain ⟨S, hS⟩ : ∃ S : ByteArray, (⟨(Bt.bytesOf L).toArray⟩ : ByteArray) = S := ⟨_, rfl⟩
    have HSX := Lib.hid hS
    have hq := fun (W : World) (h : VS W (.slice a N cap) (bl L)) => refbytes_c W _ L h (by rw [HN.out]; omega)
    simp only [hS] at hq
    have HQ := Lib.hid hq
    have hcv : ∀ x : Later [] w4, (convert 24 9 (.slice ax X cx)).run Tryd.prog x.at' = .ok (.string S) x.at' := fun x => by
      have h := run_string_of_bytes (P := Tryd.prog) Tryd.underlying24 Tryd.underlying5 Tryd.underlying9 (HBX4.out.only x.only (by simp))
      rw [hS] at h
      exact h
    clear ho4 hvz hvy4 hZ hX hS hq HBX3 HVY3 HV3 HU3 HO3
    --@1
    go_upto_region 9 with fail
    --@2
    refine wp_region_later [] (by kernel_rfl) (by kernel_rfl) ?_
    repeat (go_big_quiet_step (first
      | (go_at_call 17; exact Calls.later_nil (HQ.out _ (HV4.out.only (Later.only _) (by simp))))))
    refine wpQuiet_nil ?_
    rintro _ ⟨x, rfl⟩
    have HX5 := Lib.hid x.only
    clear hcv
    generalize x.at' = w5 at *
    have HO5 := Lib.hid (HO4.out.then HX5.out)
    have HV5 := Lib.hid (HV4.out.only HX5.out (by simp))
    have HVY5 := Lib.hid (HVY4.out.only HX5.out (by simp))
    have HVZ5 := Lib.hid (HVZ4.out.only HX5.out (by simp))
    have HU5 := Lib.hid (HU4.out.only HX5.out (by simp))
    clear HX5 HQ HSX HBX4 HV4 HU4 HVY4 HVZ4 HO4
    --@3
    go_wp2_with fail
    go_loopw [11] (fun i wr => ∃ k : Nat, k ≤ N ∧ i = .int .i64 (k : Nat) ∧ Only [] w wr ∧ Only [] w5 wr) (fun i _ => N - (intOf i).toNat)
    case atStart => exact ⟨0, Nat.zero_le _, rfl, HO5.out, Only.refl _ _⟩
    case round =>
      obtain ⟨k, hk, rfl, ho, ho'⟩ := hrel
      have HO := Lib.hid ho; have HO' := Lib.hid ho'
      clear ho ho'
      by_cases hlt : k < N
      · obtain ⟨b, off, rfl, c0⟩ := vs_bit (HV5.out.only HO'.out (by simp)) k (by rw [HN.out]; exact hlt)
        obtain ⟨b', off', rfl, c1⟩ := vs_bit (HVY5.out.only HO'.out (by simp)) k (by rw [HN.out]; exact hlt)
        have hltI : (k : Int) < (N : Int) := by omega
        generalize L[k]'_ = xb at c0 c1
        go_upto_region 14 with fail
        go_quiet (fail)
        go_wp2
        go_roundw
        case rel => exact ⟨k + 1, by omega, by go_num, HO.out.drewN _, HO'.out.drewN _⟩
        case measure => simp [intOf]; omega
      · obtain rfl : k = N := by omega
        have HU6 := Lib.hid (HU5.out.only HO'.out (by simp))
        have HVZ6 := Lib.hid (HVZ5.out.only HO'.out (by simp))
        obtain ⟨wq, hwq⟩ : ∃ wq, wq = wr := ⟨_, rfl⟩
        subst hwq
        by_cases hno : n < 0 ∨ 65536 < n
        · have hzn : (bl Z).length = 0 := by
            rw [← HZ.out]
            unfold Zof
            rw [if_neg (by omega)]
            rfl
          have hnn : n < 0 ∨ (¬ n < 0 ∧ (65536 : Int) < n) := by omega
          simp only [hzn]
          rcases hnn with h0 | ⟨h0, h5⟩
          all_goals
            go_wp2
            go_ret
            exact ⟨rfl, HO.out.below (by simp) (Nat.le_refl _)⟩
        · exfalso
          omega
end Go.Proofs.YtdoiebbbgmlkaaaDoor.wr
