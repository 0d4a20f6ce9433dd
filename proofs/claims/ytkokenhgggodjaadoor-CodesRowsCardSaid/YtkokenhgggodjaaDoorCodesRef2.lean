/-
  THE WALKS of the reference's tables, kind 1 and others; its Code and Of.
-/
import Derived.Test.YtkokenhgggodjaaDoorCodesRef
import Derived.Deep.RegionWith
set_option linter.unusedVariables false
namespace Go.Proofs.YtkokenhgggodjaaDoor.codes
open Go Go.RowKit Go.Lm

theorem begins_no (k : Int) (h0 : k ≠ 0) (h1 : k ≠ 1) (h2 : k ≠ 2) (w : World) : Calls Tryd.prog 11 #[.int .i64 k] w fun e w' => e = .returned (.slice none 0 0) ∧ w = w' := by
  have e0 : (k == 0) = false := beq_eq_false_iff_ne.2 h0
  have e1 : (k == 1) = false := beq_eq_false_iff_ne.2 h1
  have e2 : (k == 2) = false := beq_eq_false_iff_ne.2 h2
  clear h0 h1 h2
  go_enter Tryd.func11, Tryd.ntmps11
  go_wp2
  refine wp_loop_rounds 1 ?_
  rw [rounds_succ]
  go_wp2
  go_ret
  exact ⟨rfl, rfl⟩

set_option maxHeartbeats 400000 in
theorem begins_1 (w : World) : Calls Tryd.prog 11 #[.int .i64 1] w fun e w' => ∃ v, e = .returned v ∧ VS w' v (u32s Codes.begins1) ∧ Only [] w w' := by
  obtain ⟨i0, hi, hz0, hz1, hz2⟩ := info_parts info_u32
  have HI := Lib.hid hi; have HZ0 := Lib.hid hz0; have HZ1 := Lib.hid hz1; have HZ2 := Lib.hid hz2
  clear hi hz0 hz1 hz2
  go_enter Tryd.func11, Tryd.ntmps11
  go_wp2
  go_loopw [3, 4, 5] (fun o x i wr => ∃ k : Nat, k ≤ 32 ∧ i = .int .i64 k ∧ x = .int .u32 ((2 ^ k : Int) % 4294967296) ∧ OV wr w.heap.size 23 o (u32s (Codes.begins1.take k)) ∧ Only [] w wr) (fun _ _ i _ => 32 - (intOf i).toNat)
  case atStart => exact ⟨0, by omega, rfl, rfl, OV.nil _ _ _, Only.refl _ _⟩
  case round =>
    obtain ⟨k, hk, rfl, rfl, hov, hon⟩ := hrel
    have HOV := Lib.hid hov; have HON := Lib.hid hon
    clear hov hon
    have hX : 0 ≤ (2 : Int) ^ k % 4294967296 ∧ (2 : Int) ^ k % 4294967296 < 4294967296 := by omega
    obtain ⟨X, hXX⟩ : ∃ X, (2 : Int) ^ k % 4294967296 = X := ⟨_, rfl⟩
    rw [hXX] at hX ⊢
    have HX := Lib.hid hXX; clear hXX
    by_cases hk32 : k < 32
    · obtain ⟨v', w', hrun, hov', hg⟩ := run_append_one (P := Tryd.prog) (ty := 28) (T := 23) (fr := (0, 0)) Tryd.underlying28 HI.out HZ0.out HZ1.out HZ2.out rfl HOV.out (u := .int .u32 X) rfl (by simp [u32s, maxLen]; omega) (by simp [u32s]; omega) HON.out.size
      have hon' : Only [] w w' := (HON.out.alloc (.cells #[.int .u32 X] 23)).trans (Only.of_grown hg) (by simp) (by
        intro c hc
        have := HOV.out.lt (c := c) (by simpa [eq_comm] using hc)
        exact .inr this.1)
      have HOV' := Lib.hid hov'; have HON' := Lib.hid hon'; have HRUN := Lib.hid hrun
      clear hg hov' hon' HOV HON hrun
      go_wp2_with (at_builtin; refine wpList_append_run rfl _ _ _ rfl rfl rfl HRUN.out ?_)
      go_roundw
      case rel =>
        refine ⟨k + 1, by omega, by go_num, ?_, ?_, HON'.out⟩
        · rw [← HX.out]
          congr 1
          rw [Int.pow_succ]
          omega
        · have e : u32s (Codes.begins1.take (k + 1)) = u32s (Codes.begins1.take k) ++ [.int .u32 X] := by
            have hb : ∀ k, k < 32 → Codes.begins1.take (k + 1) = Codes.begins1.take k ++ [(2 : Int) ^ k % 4294967296] := by decide
            rw [hb k hk32, HX.out]; simp [u32s]
          rw [e]; exact HOV'.out
      case measure => simp [intOf]; omega
    · obtain rfl : k = 32 := by omega
      go_wp2
      go_ret
      exact ⟨_, rfl, HOV.out.vs, HON.out⟩

theorem adds_no (k : Int) (h0 : k ≠ 0) (h1 : k ≠ 1) (h2 : k ≠ 2) (w : World) : Calls Tryd.prog 15 #[.int .i64 k] w fun e w' => e = .returned (.slice none 0 0) ∧ w = w' := by
  have e0 : (k == 0) = false := beq_eq_false_iff_ne.2 h0
  have e1 : (k == 1) = false := beq_eq_false_iff_ne.2 h1
  have e2 : (k == 2) = false := beq_eq_false_iff_ne.2 h2
  clear h0 h1 h2
  go_enter Tryd.func15, Tryd.ntmps15
  go_wp2
  refine wp_loop_rounds 1 ?_
  rw [rounds_succ]
  go_wp2
  go_ret
  exact ⟨rfl, rfl⟩

set_option maxHeartbeats 400000 in
theorem adds_1 (w : World) : Calls Tryd.prog 15 #[.int .i64 1] w fun e w' => ∃ v, e = .returned v ∧ VS w' v (i64s Codes.adds1) ∧ Only [] w w' := by
  obtain ⟨i0, hi, hz0, hz1, hz2⟩ := info_parts info_int
  have HI := Lib.hid hi; have HZ0 := Lib.hid hz0; have HZ1 := Lib.hid hz1; have HZ2 := Lib.hid hz2
  clear hi hz0 hz1 hz2
  go_enter Tryd.func15, Tryd.ntmps15
  go_wp2
  go_loopw [3, 4] (fun o i wr => ∃ k : Nat, k ≤ 32 ∧ i = .int .i64 k ∧ OV wr w.heap.size 3 o (i64s (Codes.adds1.take k)) ∧ Only [] w wr) (fun _ i _ => 32 - (intOf i).toNat)
  case atStart => exact ⟨0, by omega, rfl, OV.nil _ _ _, Only.refl _ _⟩
  case round =>
    obtain ⟨k, hk, rfl, hov, hon⟩ := hrel
    have HOV := Lib.hid hov; have HON := Lib.hid hon
    clear hov hon
    by_cases hk32 : k < 32
    · obtain ⟨v', w', hrun, hov', hg⟩ := run_append_one (P := Tryd.prog) (ty := 38) (T := 3) (fr := (0, 0)) Tryd.underlying38 HI.out HZ0.out HZ1.out HZ2.out rfl HOV.out (u := .int .i64 k) rfl (by simp [i64s, maxLen]; omega) (by simp [i64s]; omega) HON.out.size
      have hon' : Only [] w w' := (HON.out.alloc (.cells #[.int .i64 k] 3)).trans (Only.of_grown hg) (by simp) (by
        intro c hc
        have := HOV.out.lt (c := c) (by simpa [eq_comm] using hc)
        exact .inr this.1)
      have HOV' := Lib.hid hov'; have HON' := Lib.hid hon'; have HRUN := Lib.hid hrun
      clear hg hov' hon' HOV HON hrun
      go_wp2_with (at_builtin; refine wpList_append_run rfl _ _ _ rfl rfl rfl HRUN.out ?_)
      go_roundw
      case rel =>
        refine ⟨k + 1, by omega, by go_num, ?_, HON'.out⟩
        have e : i64s (Codes.adds1.take (k + 1)) = i64s (Codes.adds1.take k) ++ [.int .i64 k] := by
          have hb : ∀ k, k < 32 → Codes.adds1.take (k + 1) = Codes.adds1.take k ++ [(k : Int)] := by decide
          rw [hb k hk32]; simp [i64s]
        rw [e]; exact HOV'.out
      case measure => simp [intOf]; omega
    · obtain rfl : k = 32 := by omega
      go_wp2
      go_ret
      exact ⟨_, rfl, HOV.out.vs, HON.out⟩

theorem begins_c (k : Int) (w : World) : Calls Tryd.prog 11 #[.int .i64 k] w fun e w' => ∃ v, e = .returned v ∧ VS w' v (u32s (Codes.begins k)) ∧ Only [] w w' := by
  by_cases h0 : k = 0
  · subst h0; exact begins_0 w
  by_cases h1 : k = 1
  · subst h1; exact begins_1 w
  by_cases h2 : k = 2
  · subst h2; exact begins_2 w
  have e : Codes.begins k = [] := by simp [Codes.begins, h0, h1, h2]
  rw [e]
  exact (begins_no k h0 h1 h2 w).mono fun e w' ⟨he, hw⟩ => ⟨_, he, VS.nil _, hw ▸ Only.refl _ _⟩
theorem adds_c (k : Int) (w : World) : Calls Tryd.prog 15 #[.int .i64 k] w fun e w' => ∃ v, e = .returned v ∧ VS w' v (i64s (Codes.adds k)) ∧ Only [] w w' := by
  by_cases h0 : k = 0
  · subst h0; exact adds_0 w
  by_cases h1 : k = 1
  · subst h1; exact adds_1 w
  by_cases h2 : k = 2
  · subst h2; exact adds_2 w
  have e : Codes.adds k = [] := by simp [Codes.adds, h0, h1, h2]
  rw [e]
  exact (adds_no k h0 h1 h2 w).mono fun e w' ⟨he, hw⟩ => ⟨_, he, VS.nil _, hw ▸ Only.refl _ _⟩

set_option maxHeartbeats 1000000 in
theorem refcode_c (k c : Int) (hc0 : -9223372036854775808 ≤ c) (hc1 : c ≤ 9223372036854775807) (w : World) : Calls Tryd.prog 9 #[.int .i64 k, .int .i64 c] w fun e w' => e = .returned (trip (Codes.code k c)) ∧ Only [] w w' := by
  by_cases hn : Codes.begins k = []
  · have ec : Codes.code k c = (0, 0, 1) := by simp [Codes.code, hn]
    have EC := Lib.hid ec; clear ec
    have HN := Lib.hid hn; clear hn
    go_enter Tryd.func9, Tryd.ntmps9
    go_wp2_with fail
    refine (begins_c k w).mono ?_
    rintro e w1 ⟨v, rfl, hv, ho1⟩
    rw [HN.out] at hv
    obtain ⟨a, cap, rfl, _⟩ := hv
    have HO1 := Lib.hid ho1; clear ho1
    simp only [u32s, List.map_nil, List.length_nil]
    go_wp2
    go_ret3
    rw [EC.out]
    exact ⟨rfl, HO1.out⟩
  have hl := List.length_pos_iff.2 hn
  have hl2 : (Codes.begins k).length ≤ 60 := by
    unfold Codes.begins
    repeat (first | split | decide)
  by_cases hout : c < 0 ∨ (Codes.begins k).length ≤ c
  · have ec : Codes.code k c = (0, 0, 17) := by unfold Codes.code; rw [if_neg hn, if_pos hout]
    have EC := Lib.hid ec; clear ec hn
    have hz : (((Codes.begins k).length : Int) == 0) = false := by rw [beq_eq_false_iff_ne]; omega
    rcases hout with hout | hout
    all_goals
      go_enter Tryd.func9, Tryd.ntmps9
      go_wp2_with fail
      refine (begins_c k w).mono ?_
      rintro e w1 ⟨v, rfl, hv, ho1⟩
      obtain ⟨a, cap, rfl, _⟩ := hv
      have HO1 := Lib.hid ho1; clear ho1
      simp only [u32s, List.length_map]
      go_wp2
      go_ret3
      rw [EC.out]
      exact ⟨rfl, HO1.out⟩
  · have ec : Codes.code k c = ((Codes.begins k).getD c.toNat 0, (Codes.adds k).getD c.toNat 0, 0) := by unfold Codes.code; rw [if_neg hn, if_neg hout]
    obtain ⟨j, rfl⟩ := Int.eq_ofNat_of_zero_le (show 0 ≤ c by omega)
    rw [Int.toNat_natCast] at ec
    have EC := Lib.hid ec; clear ec hn
    have hz : (((Codes.begins k).length : Int) == 0) = false := by rw [beq_eq_false_iff_ne]; omega
    have hj : j < (Codes.begins k).length := by omega
    have hle := Codes.len_eq k
    have HLE := Lib.hid hle; clear hle hout
    go_enter Tryd.func9, Tryd.ntmps9
    go_wp2_with fail
    refine (begins_c k w).mono ?_
    rintro e w1 ⟨v, rfl, hv, ho1⟩
    have HV := Lib.hid hv
    obtain ⟨a, cap, rfl, hv1, hv2, _⟩ := hv
    have HO1 := Lib.hid ho1; clear ho1
    simp only [u32s, List.length_map] at hv1 HV ⊢
    obtain ⟨b, off, rfl, hcell⟩ := HV.out.u32_at j hj
    go_wp2_with fail
    clear hv1 hv2
    go_region_with (go_at_call 15; refine (adds_c k _).mono ?_; rintro e w' ⟨v, rfl, hv, ho⟩; obtain ⟨a2, cap2, rfl, hv3, hv4, _⟩ := id hv; simp only [i64s, List.length_map] at hv hv3 ⊢; obtain ⟨b2, off2, rfl, hcell2⟩ := hv.i64_at j (by rw [← HLE.out]; exact hj); have hcell3 := ho.cell hcell (by simp); have hj2 : j < (Codes.adds k).length := (by rw [← HLE.out]; exact hj))
    all_goals
      go_wp2
      go_ret3
      refine ⟨?_, HO1.out.drew.then (by assumption)⟩
      rw [EC.out]
      simp [trip, hj, hj2, Act.put]

set_option maxHeartbeats 1000000 in
theorem refof_c (k v : Int) (hv0 : 0 ≤ v) (hv1 : v ≤ 4294967295) (w : World) : Calls Tryd.prog 13 #[.int .i64 k, .int .u32 v] w fun e w' => e = .returned (tripO (Codes.of k v)) ∧ Only [] w w' := by
  by_cases hn : Codes.begins k = []
  · have ec : Codes.of k v = (0, 0, 1) := by simp [Codes.of, hn]
    have EC := Lib.hid ec; clear ec
    have HN := Lib.hid hn; clear hn
    go_enter Tryd.func13, Tryd.ntmps13
    go_wp2_with fail
    refine (begins_c k w).mono ?_
    rintro e w1 ⟨v', rfl, hv, ho1⟩
    rw [HN.out] at hv
    obtain ⟨a, cap, rfl, _⟩ := hv
    have HO1 := Lib.hid ho1; clear ho1
    simp only [u32s, List.map_nil, List.length_nil]
    go_wp2
    go_ret3
    rw [EC.out]
    exact ⟨rfl, HO1.out⟩
  · have hl := List.length_pos_iff.2 hn
    have hl2 : (Codes.begins k).length ≤ 60 := by
      unfold Codes.begins
      repeat (first | split | decide)
    have h3 : k = 0 ∨ k = 1 ∨ k = 2 := by
      by_cases h0 : k = 0
      · exact .inl h0
      by_cases h1 : k = 1
      · exact .inr (.inl h1)
      by_cases h2 : k = 2
      · exact .inr (.inr h2)
      exact absurd (by simp [Codes.begins, h0, h1, h2]) hn
    have hk : Codes.of k v = match Codes.look (Codes.begins k) (Codes.adds k) 0 v with
      | some (i, x) => (i, x, 0)
      | none => (0, 0, 17) := by
      unfold Codes.of
      rw [if_neg hn]
      rfl
    have hbd := Codes.bounds k h3
    have hle := Codes.len_eq k
    have HBD := Lib.hid hbd; have HLE := Lib.hid hle; have HK := Lib.hid hk
    have hz : (((Codes.begins k).length : Int) == 0) = false := by rw [beq_eq_false_iff_ne]; omega
    clear hbd hle hk hn h3
    go_enter Tryd.func13, Tryd.ntmps13
    go_wp2_with fail
    refine (begins_c k w).mono ?_
    rintro e w1 ⟨v', rfl, hv, ho1⟩
    have HV := Lib.hid hv
    obtain ⟨a, cap, rfl, hv1, hv2, _⟩ := hv
    have HO1 := Lib.hid ho1; clear ho1
    simp only [u32s, List.length_map] at hv1 HV ⊢
    clear hv1 hv2
    go_wp2_with fail
    refine (adds_c k w1).mono ?_
    rintro e w2 ⟨v', rfl, hw, ho2⟩
    have HW := Lib.hid hw
    obtain ⟨a2, cap2, rfl, hv3, hv4, _⟩ := hw
    have HO2 := Lib.hid (HO1.out.then ho2)
    have HV2 := Lib.hid (HV.out.only ho2 (by simp))
    clear ho2 HV HO1
    simp only [i64s, List.length_map] at hv3 HW ⊢
    clear hv3 hv4
    go_wp2_with fail
    go_loopw [9] (fun i wr => ∃ j : Nat, ∃ n : Nat, j ≤ (Codes.begins k).length ∧ i = .int .i64 j ∧ wr = w2.drewN n ∧ (∀ m, m < j → ¬ ((Codes.begins k).getD m 0 ≤ v ∧ v - (Codes.begins k).getD m 0 < 2 ^ ((Codes.adds k).getD m 0).toNat))) (fun i _ => (Codes.begins k).length - (intOf i).toNat)
    case atStart => exact ⟨0, 0, Nat.zero_le _, rfl, rfl, fun m hm => by omega⟩
    case round =>
      obtain ⟨j, n, hj, rfl, rfl, hno⟩ := hrel
      have HNO := Lib.hid hno; clear hno
      by_cases hjl : j < (Codes.begins k).length
      · obtain ⟨b, off, rfl, hcell⟩ := HV2.out.u32_at j hjl
        obtain ⟨b2, off2, rfl, hcell2⟩ := HW.out.i64_at j (by rw [← HLE.out]; exact hjl)
        have hjl2 : j < (Codes.adds k).length := by rw [← HLE.out]; exact hjl
        have hbd := HBD.out j hjl
        obtain ⟨c, hc⟩ := Int.eq_ofNat_of_zero_le hbd.1
        have hno := HNO.out
        have hpw : ∀ n, n ≤ 31 → (2 : Int) ^ n % 4294967296 = 2 ^ n := by decide
        have hp := hpw c (by omega)
        have hhit : (Codes.begins k).getD j 0 ≤ v → v - (Codes.begins k).getD j 0 < 2 ^ c → Codes.of k v = ((j : Int), v - (Codes.begins k).getD j 0, 0) := by
          intro h1 h2
          rw [HK.out, ← Codes.look_drop (Codes.begins k) (Codes.adds k) j 0 v HLE.out hno, Codes.look_here _ HLE.out hjl ⟨h1, by rw [hc]; exact h2⟩]
          simp
        have hmiss : ¬ ((Codes.begins k).getD j 0 ≤ v ∧ v - (Codes.begins k).getD j 0 < 2 ^ c) → ∀ m, m < j + 1 → ¬ ((Codes.begins k).getD m 0 ≤ v ∧ v - (Codes.begins k).getD m 0 < 2 ^ ((Codes.adds k).getD m 0).toNat) := by
          intro h m hm
          by_cases e : m = j
          · subst e; rw [hc]; exact h
          · exact hno m (by omega)
        rw [hc] at hcell2
        generalize (Codes.begins k).getD j 0 = X at *
        obtain ⟨Q, hQ⟩ : ∃ Q, (2 : Int) ^ c = Q := ⟨_, rfl⟩
        have hpq : (2 : Int) ^ c % 4294967296 = Q := by rw [hp, hQ]
        rw [hQ] at hhit hmiss
        have hQ0 : 0 ≤ Q ∧ Q < 4294967296 := by omega
        have hc31 := hbd.2.1
        rw [hc] at hc31
        have hX0 := hbd.2.2.1
        have hX1 : X ≤ 4294967295 := by
          have : (0 : Int) < 2 ^ ((Codes.adds k).getD j 0).toNat := Int.pow_pos (by decide)
          omega
        have HHIT := Lib.hid hhit; have HMISS := Lib.hid hmiss
        clear hhit hmiss hno hpw hp hbd hQ hc
        by_cases hge : X ≤ v
        · by_cases hlt : v - X < Q
          · go_wp2_with fail
            go_quiet (fail)
            go_wp2_with fail
            go_quiet (fail)
            go_wp2
            go_ret3
            refine ⟨?_, ?_⟩
            · rw [HHIT.out hge hlt]
              simp [tripO]
            · exact ((HO2.out.drewN _).drewN _).drewN _
          · have hd : decide (v - X < Q) = false := decide_eq_false hlt
            go_wp2_with fail
            go_quiet (fail)
            go_wp2
            go_roundw
            case rel => exact ⟨j + 1, n + nq, by omega, by go_num, rfl, HMISS.out fun h => by omega⟩
            case measure => simp [intOf]; omega
        · have hd : decide (X ≤ v) = false := decide_eq_false hge
          go_wp2_with fail
          go_quiet (fail)
          go_wp2
          go_roundw
          case rel => exact ⟨j + 1, n + nq, by omega, by go_num, rfl, HMISS.out fun h => by omega⟩
          case measure => simp [intOf]; omega
      · obtain rfl : j = (Codes.begins k).length := by omega
        have e : Codes.of k v = (0, 0, 17) := by
          rw [HK.out, ← Codes.look_drop (Codes.begins k) (Codes.adds k) (Codes.begins k).length 0 v HLE.out HNO.out, List.drop_length]
          rfl
        have HE := Lib.hid e; clear e
        go_wp2
        go_ret3
        rw [HE.out]
        exact ⟨rfl, HO2.out.drewN _⟩
end Go.Proofs.YtkokenhgggodjaaDoor.codes
