/-
  MerkleTwo, walked.
-/
import Derived.Test.YtpgcfpfmicghnaaDoorMrkAwake
import Derived.Test.YtpgcfpfmicghnaaDoorMrkRCheck
import Derived.Test.YtpgcfpfmicghnaaDoorMrkTwo
import Derived.Test.YtpgcfpfmicghnaaDoorMrkSame
set_option linter.unusedVariables false
set_option linter.unusedSimpArgs false
namespace Go.Proofs.YtpgcfpfmicghnaaDoor.mrk
open Go Go.RowKit Go.Lm Go.ChangeShapes Go.WideShapes Go.Proofs.YtpgcfpfmicghnaaDoor.sha

set_option maxRecDepth 100000 in
set_option maxHeartbeats 8000000 in
theorem twol_c (w : World) (hT : Tab w) (hZ : Tz w) (v u : Value) (xs ys : List (List UInt8)) (ob : Bool) (hv : DS w v xs) (hu : DS w u ys) :
    Calls Tryd.prog 6 #[v, u, .bool ob] w fun e w' => e = .returned (.bool true) ∧ Below w.heap.size w w' := by
  have HT := Lib.hid hT; have HTZ := Lib.hid hZ; have HV := Lib.hid hv; have HU := Lib.hid hu
  obtain ⟨a, cap, rfl, k1, k2, -⟩ := hv
  obtain ⟨b, cbp, rfl, j1, j2, -⟩ := hu
  unfold maxLen at k2 j2
  obtain ⟨n, hn⟩ : ∃ n, xs.length = n := ⟨_, rfl⟩
  obtain ⟨m, hm⟩ : ∃ n, ys.length = n := ⟨_, rfl⟩
  rw [hn] at k1 HV ⊢
  rw [hm] at j1 HU ⊢
  have HN := Lib.hid hn; have HM := Lib.hid hm
  clear hT hZ hn hm
  go_enter Tryd.func6, Tryd.ntmps6
  go_wp2_with fail
  refine (awake_c w HT.out HTZ.out).mono ?_
  rintro e w2 ⟨rfl, ho2⟩
  have HO2 := Lib.hid ho2
  clear ho2
  by_cases h1 : 100 < n
  · have h1I : (100 : Int) < (n : Int) := by omega
    go_wp2_with fail
    go_ret
    exact ⟨rfl, HO2.out.below (by simp) (Nat.le_refl _)⟩
  have h1I : ¬ (100 : Int) < (n : Int) := by omega
  by_cases h3 : 100 < m
  · have h3I : (100 : Int) < (m : Int) := by omega
    go_wp2_with fail
    go_ret
    exact ⟨rfl, HO2.out.below (by simp) (Nat.le_refl _)⟩
  have h3I : ¬ (100 : Int) < (m : Int) := by omega
  cases ob with
  | false =>
    go_wp2_with fail
    --@f
    by_cases hyes : twoB xs ys = true
    · --@y
      refine (two_yes w2 _ _ xs ys (HV.out.only HO2.out (by simp)) (HU.out.only HO2.out (by simp)) (by rw [HN.out]; omega) (HT.out.only HO2.out (by simp)) (HTZ.out.only HO2.out (by simp)) hyes).mono ?_
      rintro e w3 ⟨X, Y, lx, ly, rfl, hbx, hby, ho3, -, hxy⟩
      have HXY := Lib.hid (hxy hyes)
      rw [hyes]
      have HO3 := Lib.hid (HO2.out.then ho3)
      obtain ⟨hq1, hq2, hq3⟩ := of_decide_eq_true hyes
      have HQ2 := Lib.hid hq2; have HQ3 := Lib.hid hq3
      have hnm : n = m := by rw [← HN.out, ← HM.out]; exact hq1
      subst hnm
      have HX3 := Lib.hid hbx; have HY3 := Lib.hid hby
      clear ho3 hxy hbx hby HO2 hq1 hq2 hq3 hyes
      go_wp2_with fail
      refine (same_c w3 _ _ xs ys (HV.out.only HO3.out (by simp)) (HU.out.only HO3.out (by simp)) (by rw [HN.out]; omega) (by rw [HM.out]; omega)).mono ?_
      rintro e w4 ⟨rfl, ho4⟩
      rw [decide_eq_false HQ2.out]
      have HO4 := Lib.hid (HO3.out.then ho4); have HX4 := Lib.hid (HX3.out.only ho4 (by simp)); have HY4 := Lib.hid (HY3.out.only ho4 (by simp))
      clear ho4 HO3 HX3 HY3
      obtain ⟨K1, hK1, -, -, -⟩ := store_facts (rootD xs) (root_length xs HV.out.d32)
      have HK1 := Lib.hid hK1
      have hqk : ∀ W, (binOp .eql 25 (.agg K1) (.agg K1)).run Tryd.prog W = .ok (.bool true) W := fun W => by
        have h := eql_dv (rootD xs) (rootD xs) (root_length xs HV.out.d32) (root_length xs HV.out.d32) W
        rw [hK1, beq_self_eq_true] at h
        exact h
      have hgk : ∀ ox oy W, (eqGuard .eql 25 ox oy (.agg K1) (.agg K1)).run Tryd.prog W = .ok () W := fun ox oy W => by
        have h := guard_dv .eql (rootD xs) (rootD xs) ox oy W
        rw [hK1] at h
        exact h
      clear hK1
      go_wp2_with fail
      refine (rroot_c w4 _ xs (HV.out.only HO4.out (by simp)) (by rw [HN.out]; omega)).mono ?_
      rintro e w4' ⟨rfl, ho4⟩
      rw [HK1.out]
      have HO4' := Lib.hid (HO4.out.then ho4); have HX4' := Lib.hid (HX4.out.only ho4 (by simp)); have HY4' := Lib.hid (HY4.out.only ho4 (by simp))
      clear ho4 HO4 HX4 HY4
      go_wp2_with fail
      refine (rroot_c w4' _ ys (HU.out.only HO4'.out (by simp)) (by rw [HM.out]; omega)).mono ?_
      rintro e w5 ⟨rfl, ho5⟩
      rw [← HQ3.out, HK1.out]
      have HO5 := Lib.hid (HO4'.out.then ho5)
      have hbx := HX4'.out.only ho5 (by simp); have hby := HY4'.out.only ho5 (by simp)
      clear ho5 HO4' HX4' HY4'
      obtain ⟨ax, cx, rfl, x1, x2, -⟩ := id hbx
      obtain ⟨ay, cy, rfl, y1, y2, -⟩ := id hby
      unfold maxLen at x2 y2
      have HXB := Lib.hid hbx; have HYB := Lib.hid hby
      rw [HXY.out.2.2.1] at x1 HXB ⊢
      rw [HXY.out.2.2.2] at y1 HYB ⊢
      clear hbx hby
      --@y2
      go_upto_region 12 with fail
      clear hqk hgk
      refine wp_region_M [] (by kernel_rfl) ?_
      change wpAnyM _ _ _ _ _ _ _ _ (World.drew _)
      have HOd := Lib.hid HO5.out.drew; have HX1 := Lib.hid (HXB.out.only (Only.refl [] w5).drew (by simp)); have HY1 := Lib.hid (HYB.out.only (Only.refl [] w5).drew (by simp))
      generalize World.drew w5 = wd at *
      clear HO5 HXB HYB
      have hsx : ∀ x : Later [] wd, (convert 23 9 (.slice ax 65 cx)).run Tryd.prog x.at' = .ok (.string ⟨lx.toArray⟩) x.at' := fun x => run_string_of_bytes (P := Tryd.prog) Tryd.underlying23 Tryd.underlying5 Tryd.underlying9 (HX1.out.only x.only (by simp))
      have hsy : ∀ x : Later [] wd, (convert 23 9 (.slice ay 65 cy)).run Tryd.prog x.at' = .ok (.string ⟨ly.toArray⟩) x.at' := fun x => run_string_of_bytes (P := Tryd.prog) Tryd.underlying23 Tryd.underlying5 Tryd.underlying9 (HY1.out.only x.only (by simp))
      obtain ⟨SX, hSX⟩ : ∃ S : ByteArray, (⟨lx.toArray⟩ : ByteArray) = S := ⟨_, rfl⟩
      obtain ⟨SY, hSY⟩ : ∃ S : ByteArray, (⟨ly.toArray⟩ : ByteArray) = S := ⟨_, rfl⟩
      rw [hSX] at hsx; rw [hSY] at hsy
      have HSX : Hid (SX.data.toList = lx) := Lib.hid (by rw [← hSX])
      have HSY : Hid (SY.data.toList = ly) := Lib.hid (by rw [← hSY])
      have hcmp : (SX.toList == SY.toList) = false := by
        rw [ByteArray.toList_eq, ByteArray.toList_eq, HSX.out, HSY.out]
        exact beq_eq_false_iff_ne.2 HXY.out.1
      obtain ⟨K, hK0, -, -, -⟩ := store_facts (Sha.sum lx) (Sha.sum_length _)
      have HKV := Lib.hid hK0
      clear hSX hSY hK0
      have HC1 : Hid (∀ x : World, Only [] wd x → Calls Tryd.prog 26 #[.string SX] x fun e w' => e = .returned (.agg K) ∧ Only [] x w') := Lib.hid (fun x ho => by
        have how := HOd.out.then ho
        have h := ref_str SX lx HSX.out (by rw [HXY.out.2.2.1]; decide) x
        rw [HKV.out] at h
        exact h)
      have HC2 : Hid (∀ x : World, Only [] wd x → Calls Tryd.prog 26 #[.string SY] x fun e w' => e = .returned (.agg K) ∧ Only [] x w') := Lib.hid (fun x ho => by
        have how := HOd.out.then ho
        have h := ref_str SY ly HSY.out (by rw [HXY.out.2.2.2]; decide) x
        rw [← HXY.out.2.1, HKV.out] at h
        exact h)
      have hqK : ∀ W, (binOp .eql 25 (.agg K) (.agg K)).run Tryd.prog W = .ok (.bool true) W := fun W => by
        have h := eql_dv (Sha.sum lx) (Sha.sum lx) (Sha.sum_length _) (Sha.sum_length _) W
        rw [HKV.out, beq_self_eq_true] at h
        exact h
      have hgK : ∀ ox oy W, (eqGuard .eql 25 ox oy (.agg K) (.agg K)).run Tryd.prog W = .ok () W := fun ox oy W => by
        have h := guard_dv .eql (Sha.sum lx) (Sha.sum lx) ox oy W
        rw [HKV.out] at h
        exact h
      --@s
      refine wpAnyM_take (i := 0) (oi := { dst := some 62, op := .move (.tmp 11), type := 4, pos := "law.go:86", after := #[], guard := none }) rfl (by kernel_rfl) (by kernel_rfl) (by kernel_rfl) (YieldsOn.pure (by rfl) (by intro x; first | (go_simp; first | done | rfl) | (unfold execOp; simp only [Sem.run_bind]; go_simp; first | done | rfl))) (by exact fun _ _ _ h => h) ?_
      try simp only [Act.put, List.setIfInBounds_toArray, List.set_cons_zero, List.set_cons_succ]
      refine wpAnyM_take (i := 1) (oi := { dst := some 63, op := .move (.tmp 62), type := 4, pos := "law.go:86", after := #[{ on := 0, ground := .data }], guard := none }) rfl (by kernel_rfl) (by kernel_rfl) (by kernel_rfl) (YieldsOn.pure (by rfl) (by intro x; first | (go_simp; first | done | rfl) | (unfold execOp; simp only [Sem.run_bind]; go_simp; first | done | rfl))) (by exact fun _ _ _ h => h) ?_
      try simp only [Act.put, List.setIfInBounds_toArray, List.set_cons_zero, List.set_cons_succ]
      refine wpAnyM_take (i := 2) (oi := { dst := some 64, op := .move (.tmp 8), type := 23, pos := "law.go:86", after := #[{ on := 1, ground := .guard }], guard := some (1, true) }) rfl (by kernel_rfl) (by kernel_rfl) (by kernel_rfl) (YieldsOn.pure (by rfl) (by intro x; first | (go_simp; first | done | rfl) | (unfold execOp; simp only [Sem.run_bind]; go_simp; first | done | rfl))) (by exact fun _ _ _ h => h) ?_
      try simp only [Act.put, List.setIfInBounds_toArray, List.set_cons_zero, List.set_cons_succ]
      refine wpAnyM_take (i := 3) (oi := { dst := some 65, op := .convert 23 9 (.tmp 64), type := 9, pos := "law.go:86", after := #[{ on := 2, ground := .data }, { on := 1, ground := .guard }], guard := some (1, true) }) rfl (by kernel_rfl) (by kernel_rfl) (by kernel_rfl) (YieldsOn.value (by rfl) (by rfl) (by intro x; first | (go_simp; first | done | rfl) | (unfold execOp; simp only [Sem.run_bind]; go_simp; first | done | rfl))) (by exact fun _ _ _ h => h) ?_
      try simp only [Act.put, List.setIfInBounds_toArray, List.set_cons_zero, List.set_cons_succ]
      refine wpAnyM_take (i := 4) (oi := { dst := some 66, op := .move (.tmp 9), type := 23, pos := "law.go:86", after := #[{ on := 1, ground := .guard }], guard := some (1, true) }) rfl (by kernel_rfl) (by kernel_rfl) (by kernel_rfl) (YieldsOn.pure (by rfl) (by intro x; first | (go_simp; first | done | rfl) | (unfold execOp; simp only [Sem.run_bind]; go_simp; first | done | rfl))) (by exact fun _ _ _ h => h) ?_
      try simp only [Act.put, List.setIfInBounds_toArray, List.set_cons_zero, List.set_cons_succ]
      refine wpAnyM_take (i := 5) (oi := { dst := some 67, op := .convert 23 9 (.tmp 66), type := 9, pos := "law.go:86", after := #[{ on := 4, ground := .data }, { on := 1, ground := .guard }], guard := some (1, true) }) rfl (by kernel_rfl) (by kernel_rfl) (by kernel_rfl) (YieldsOn.value (by rfl) (by rfl) (by intro x; first | (go_simp; first | done | rfl) | (unfold execOp; simp only [Sem.run_bind]; go_simp; first | done | rfl))) (by exact fun _ _ _ h => h) ?_
      try simp only [Act.put, List.setIfInBounds_toArray, List.set_cons_zero, List.set_cons_succ]
      refine wpAnyM_take (i := 6) (oi := { dst := some 68, op := .binOp BinOp.neq 9 (.tmp 65) (.tmp 67) 9, type := 4, pos := "law.go:86", after := #[{ on := 3, ground := .data }, { on := 5, ground := .data }, { on := 1, ground := .guard }], guard := some (1, true) }) rfl (by kernel_rfl) (by kernel_rfl) (by kernel_rfl) (YieldsOn.value (by rfl) (by rfl) (by intro x; first | (go_simp; first | done | rfl) | (unfold execOp; simp only [Sem.run_bind]; go_simp; first | done | rfl))) (by exact fun _ _ _ h => h) ?_
      try simp only [Act.put, List.setIfInBounds_toArray, List.set_cons_zero, List.set_cons_succ]
      refine wpAnyM_take (i := 7) (oi := { dst := some 69, op := .pick (.tmp 63) (.tmp 68) (.const (Value.bool false)), type := 4, pos := "law.go:86", after := #[{ on := 1, ground := .data }, { on := 6, ground := .data }], guard := none }) rfl (by kernel_rfl) (by kernel_rfl) (by kernel_rfl) (YieldsOn.pure (by rfl) (by intro x; first | (go_simp; first | done | rfl) | (unfold execOp; simp only [Sem.run_bind]; go_simp; first | done | rfl))) (by exact fun _ _ _ h => h) ?_
      try simp only [Act.put, List.setIfInBounds_toArray, List.set_cons_zero, List.set_cons_succ]
      refine wpAnyM_take (i := 8) (oi := { dst := some 70, op := .move (.tmp 69), type := 4, pos := "law.go:86", after := #[{ on := 7, ground := .data }, { on := 1, ground := .chain }], guard := none }) rfl (by kernel_rfl) (by kernel_rfl) (by kernel_rfl) (YieldsOn.pure (by rfl) (by intro x; first | (go_simp; first | done | rfl) | (unfold execOp; simp only [Sem.run_bind]; go_simp; first | done | rfl))) (by exact fun _ _ _ h => h) ?_
      try simp only [Act.put, List.setIfInBounds_toArray, List.set_cons_zero, List.set_cons_succ]
      --@s8
      refine wpAnyM_take (i := 9) (oi := { dst := some 71, op := .move (.tmp 8), type := 23, pos := "law.go:86", after := #[{ on := 8, ground := .guard }], guard := some (8, true) }) rfl (by kernel_rfl) (by kernel_rfl) (by kernel_rfl) (YieldsOn.pure (by rfl) (by intro x; first | (go_simp; first | done | rfl) | (unfold execOp; simp only [Sem.run_bind]; go_simp; first | done | rfl))) (by exact fun _ _ _ h => h) ?_
      try simp only [Act.put, List.setIfInBounds_toArray, List.set_cons_zero, List.set_cons_succ]
      refine wpAnyM_take (i := 10) (oi := { dst := some 72, op := .convert 23 9 (.tmp 71), type := 9, pos := "law.go:86", after := #[{ on := 9, ground := .data }, { on := 8, ground := .guard }], guard := some (8, true) }) rfl (by kernel_rfl) (by kernel_rfl) (by kernel_rfl) (YieldsOn.value (by rfl) (by rfl) (by intro x; first | (go_simp; first | done | rfl) | (unfold execOp; simp only [Sem.run_bind]; go_simp; first | done | rfl))) (by exact fun _ _ _ h => h) ?_
      try simp only [Act.put, List.setIfInBounds_toArray, List.set_cons_zero, List.set_cons_succ]
      refine wpAnyM_take (i := 11) (oi := { dst := some 73, op := .call { callee := Callee.value (.func 26), args := #[.tmp 72], argTypes := #[9] }, type := 25, pos := "law.go:86", after := #[{ on := 10, ground := .data }, { on := 8, ground := .chain }, { on := 8, ground := .guard }], guard := some (8, true) }) rfl (by kernel_rfl) (by kernel_rfl) (by kernel_rfl) (YieldsOn.call (by rfl) (by rfl) (by intro x; go_simp; first | done | rfl | exact ⟨rfl, rfl⟩) (fun x => HC1.out x.at' x.only)) (by exact fun _ _ _ h => h) ?_
      try simp only [Act.put, List.setIfInBounds_toArray, List.set_cons_zero, List.set_cons_succ]
      refine wpAnyM_take (i := 12) (oi := { dst := some 74, op := .move (.tmp 9), type := 23, pos := "law.go:86", after := #[{ on := 8, ground := .guard }], guard := some (8, true) }) rfl (by kernel_rfl) (by kernel_rfl) (by kernel_rfl) (YieldsOn.pure (by rfl) (by intro x; first | (go_simp; first | done | rfl) | (unfold execOp; simp only [Sem.run_bind]; go_simp; first | done | rfl))) (by exact fun _ _ _ h => h) ?_
      try simp only [Act.put, List.setIfInBounds_toArray, List.set_cons_zero, List.set_cons_succ]
      refine wpAnyM_take (i := 13) (oi := { dst := some 75, op := .convert 23 9 (.tmp 74), type := 9, pos := "law.go:86", after := #[{ on := 12, ground := .data }, { on := 8, ground := .guard }], guard := some (8, true) }) rfl (by kernel_rfl) (by kernel_rfl) (by kernel_rfl) (YieldsOn.value (by rfl) (by rfl) (by intro x; first | (go_simp; first | done | rfl) | (unfold execOp; simp only [Sem.run_bind]; go_simp; first | done | rfl))) (by exact fun _ _ _ h => h) ?_
      try simp only [Act.put, List.setIfInBounds_toArray, List.set_cons_zero, List.set_cons_succ]
      refine wpAnyM_take (i := 14) (oi := { dst := some 76, op := .call { callee := Callee.value (.func 26), args := #[.tmp 75], argTypes := #[9] }, type := 25, pos := "law.go:86", after := #[{ on := 13, ground := .data }, { on := 11, ground := .chain }, { on := 8, ground := .guard }], guard := some (8, true) }) rfl (by kernel_rfl) (by kernel_rfl) (by kernel_rfl) (YieldsOn.call (by rfl) (by rfl) (by intro x; go_simp; first | done | rfl | exact ⟨rfl, rfl⟩) (fun x => HC2.out x.at' x.only)) (by exact fun _ _ _ h => h) ?_
      try simp only [Act.put, List.setIfInBounds_toArray, List.set_cons_zero, List.set_cons_succ]
      refine wpAnyM_take (i := 15) (oi := { dst := some 77, op := .binOp BinOp.eql 25 (.tmp 73) (.tmp 76) 25, type := 4, pos := "law.go:86", after := #[{ on := 11, ground := .data }, { on := 14, ground := .data }, { on := 8, ground := .guard }], guard := some (8, true) }) rfl (by kernel_rfl) (by kernel_rfl) (by kernel_rfl) (YieldsOn.value (by rfl) (by rfl) (by intro x; first | (go_simp; first | done | rfl) | (unfold execOp; simp only [Sem.run_bind]; go_simp; first | done | rfl))) (by exact fun _ _ _ h => h) ?_
      try simp only [Act.put, List.setIfInBounds_toArray, List.set_cons_zero, List.set_cons_succ]
      refine wpAnyM_take (i := 16) (oi := { dst := some 78, op := .pick (.tmp 70) (.tmp 77) (.const (Value.bool false)), type := 4, pos := "law.go:86", after := #[{ on := 8, ground := .data }, { on := 15, ground := .data }], guard := none }) rfl (by kernel_rfl) (by kernel_rfl) (by kernel_rfl) (YieldsOn.pure (by rfl) (by intro x; first | (go_simp; first | done | rfl) | (unfold execOp; simp only [Sem.run_bind]; go_simp; first | done | rfl))) (by exact fun _ _ _ h => h) ?_
      try simp only [Act.put, List.setIfInBounds_toArray, List.set_cons_zero, List.set_cons_succ]
      refine wpAnyM_take (i := 17) (oi := { dst := some 6, op := .assign (.tmp 78), type := 4, pos := "law.go:86", after := #[{ on := 16, ground := .data }, { on := 14, ground := .chain }, { on := 0, ground := .phase }, { on := 1, ground := .phase }, { on := 2, ground := .phase }, { on := 3, ground := .phase }, { on := 4, ground := .phase }, { on := 5, ground := .phase }, { on := 6, ground := .phase }, { on := 7, ground := .phase }, { on := 8, ground := .phase }, { on := 9, ground := .phase }, { on := 10, ground := .phase }, { on := 11, ground := .phase }, { on := 12, ground := .phase }, { on := 13, ground := .phase }, { on := 14, ground := .phase }, { on := 15, ground := .phase }, { on := 16, ground := .phase }], guard := none }) rfl (by kernel_rfl) (by kernel_rfl) (by kernel_rfl) (YieldsOn.pure (by rfl) (by intro x; first | (go_simp; first | done | rfl) | (unfold execOp; simp only [Sem.run_bind]; go_simp; first | done | rfl))) (by exact fun _ _ _ h => h) ?_
      try simp only [Act.put, List.setIfInBounds_toArray, List.set_cons_zero, List.set_cons_succ]
      refine wpAnyM_done (by kernel_rfl) (fun x9 hx9 => ?_) _
      go_wp2_with fail
      go_ret
      exact ⟨rfl, (HOd.out.then hx9).below (by simp) (Nat.le_refl _)⟩
    · have hno : twoB xs ys = false := by simpa using hyes
      clear hyes
      --@z
      refine (two_no w2 _ _ xs ys (HV.out.only HO2.out (by simp)) (HU.out.only HO2.out (by simp)) (by rw [HN.out]; omega) (by rw [HM.out]; omega) (HT.out.only HO2.out (by simp)) (HTZ.out.only HO2.out (by simp)) hno).mono ?_
      rintro e w3 ⟨X, Y, lx, ly, rfl, hbx, hby, ho3, hxy, -⟩
      obtain ⟨rfl, rfl⟩ := hxy hno
      rw [hno]
      have HO3 := Lib.hid (HO2.out.then ho3)
      obtain ⟨ax, cx, rfl, x1, x2, -⟩ := hbx
      obtain ⟨ay, cy, rfl, y1, y2, -⟩ := hby
      unfold maxLen at x2 y2
      have HNO := Lib.hid (of_decide_eq_false hno)
      clear ho3 hxy HO2 hno
      by_cases hnm : n = m
      · subst hnm
        go_wp2_with fail
        refine (same_c w3 _ _ xs ys (HV.out.only HO3.out (by simp)) (HU.out.only HO3.out (by simp)) (by rw [HN.out]; omega) (by rw [HM.out]; omega)).mono ?_
        rintro e w4 ⟨rfl, ho4⟩
        have HO4 := Lib.hid (HO3.out.then ho4)
        clear ho4 HO3
        by_cases hxy : xs = ys
        · rw [decide_eq_true hxy]
          go_wp2_with fail
          go_ret
          exact ⟨rfl, HO4.out.below (by simp) (Nat.le_refl _)⟩
        · rw [decide_eq_false hxy]
          have hrn : rootD xs ≠ rootD ys := fun h => HNO.out ⟨by rw [HN.out, HM.out], hxy, h⟩
          have hneq := fun W => eql_dv (rootD xs) (rootD ys) (root_length xs HV.out.d32) (root_length ys HU.out.d32) W
          have hgd := fun ox oy W => guard_dv .eql (rootD xs) (rootD ys) ox oy W
          rw [beq_eq_false_iff_ne.2 hrn] at hneq
          obtain ⟨K1, hK1, -, -, -⟩ := store_facts (rootD xs) (root_length xs HV.out.d32)
          obtain ⟨K2, hK2, -, -, -⟩ := store_facts (rootD ys) (root_length ys HU.out.d32)
          rw [hK1, hK2] at hneq hgd
          have HK1 := Lib.hid hK1; have HK2 := Lib.hid hK2
          clear hK1 hK2 hrn
          go_wp2_with fail
          refine (rroot_c w4 _ xs (HV.out.only HO4.out (by simp)) (by rw [HN.out]; omega)).mono ?_
          rintro e w5 ⟨rfl, ho5⟩
          rw [HK1.out]
          have HO5 := Lib.hid (HO4.out.then ho5)
          clear ho5 HO4
          go_wp2_with fail
          refine (rroot_c w5 _ ys (HU.out.only HO5.out (by simp)) (by rw [HM.out]; omega)).mono ?_
          rintro e w6 ⟨rfl, ho6⟩
          rw [HK2.out]
          have HO6 := Lib.hid (HO5.out.then ho6)
          clear ho6 HO5
          go_wp2_with fail
          go_ret
          exact ⟨rfl, HO6.out.below (by simp) (Nat.le_refl _)⟩
      · have hnI : ¬ ((n : Int) = (m : Int)) := by omega
        go_wp2_with fail
        go_ret
        exact ⟨rfl, HO3.out.below (by simp) (Nat.le_refl _)⟩
  | true =>
    clear HU HM
    go_wp2_with fail
    have hno : twoB xs xs = false := by unfold twoB; exact decide_eq_false fun h => h.2.1 rfl
    refine (two_no w2 _ _ xs xs (HV.out.only HO2.out (by simp)) (HV.out.only HO2.out (by simp)) (by rw [HN.out]; omega) (by rw [HN.out]; omega) (HT.out.only HO2.out (by simp)) (HTZ.out.only HO2.out (by simp)) hno).mono ?_
    rintro e w3 ⟨X, Y, lx, ly, rfl, hbx, hby, ho3, hxy, -⟩
    obtain ⟨rfl, rfl⟩ := hxy hno
    rw [hno]
    have HO3 := Lib.hid (HO2.out.then ho3)
    obtain ⟨ax, cx, rfl, x1, x2, -⟩ := hbx
    obtain ⟨ay, cy, rfl, y1, y2, -⟩ := hby
    unfold maxLen at x2 y2
    clear ho3 hxy HO2 hno
    go_wp2_with fail
    refine (same_c w3 _ _ xs xs (HV.out.only HO3.out (by simp)) (HV.out.only HO3.out (by simp)) (by rw [HN.out]; omega) (by rw [HN.out]; omega)).mono ?_
    rintro e w4 ⟨rfl, ho4⟩
    have HO4 := Lib.hid (HO3.out.then ho4)
    clear ho4 HO3
    rw [decide_eq_true rfl]
    go_wp2_with fail
    go_ret
    exact ⟨rfl, HO4.out.below (by simp) (Nat.le_refl _)⟩
end Go.Proofs.YtpgcfpfmicghnaaDoor.mrk
