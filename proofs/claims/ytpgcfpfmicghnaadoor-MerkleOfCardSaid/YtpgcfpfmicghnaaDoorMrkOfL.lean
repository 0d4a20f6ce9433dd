/-
  MerkleOf, walked.
-/
import Derived.Test.YtpgcfpfmicghnaaDoorMrkAwake
import Derived.Test.YtpgcfpfmicghnaaDoorMrkRCheck
import Derived.Test.YtpgcfpfmicghnaaDoorMrkROf
import Derived.Test.YtpgcfpfmicghnaaDoorMrkSame
set_option linter.unusedVariables false
set_option linter.unusedSimpArgs false
namespace Go.Proofs.YtpgcfpfmicghnaaDoor.mrk
open Go Go.RowKit Go.Lm Go.ChangeShapes Go.WideShapes Go.Proofs.YtpgcfpfmicghnaaDoor.sha

set_option maxRecDepth 100000 in
set_option maxHeartbeats 8000000 in
theorem ofl_c (w : World) (hT : Tab w) (hZ : Tz w) (v : Value) (b : List UInt8) (P : Int) (hv : BS w v b) (hP0 : -9223372036854775808 ≤ P) (hP1 : P ≤ 9223372036854775807) :
    Calls Tryd.prog 4 #[v, .int .i64 P] w fun e w' => e = .returned (.bool true) ∧ Below w.heap.size w w' := by
  have HT := Lib.hid hT; have HTZ := Lib.hid hZ; have HV := Lib.hid hv
  obtain ⟨a, cap, rfl, k1, k2, -⟩ := hv
  unfold maxLen at k2
  obtain ⟨s, hs⟩ : ∃ s, b.length = s := ⟨_, rfl⟩
  rw [hs] at k1 HV ⊢
  have HSL := Lib.hid hs
  have HPB := Lib.hid (⟨hP0, hP1⟩ : _ ∧ _)
  clear hT hZ hs hP0 hP1
  go_enter Tryd.func4, Tryd.ntmps4
  go_wp2_with fail
  refine (awake_c w HT.out HTZ.out).mono ?_
  rintro e w2 ⟨rfl, ho2⟩
  have HO2 := Lib.hid ho2
  clear ho2
  by_cases h1 : 1500 < s
  · have h1I : (1500 : Int) < (s : Int) := by omega
    go_wp2_with fail
    go_ret
    exact ⟨rfl, HO2.out.below (by simp) (Nat.le_refl _)⟩
  have h1I : ¬ (1500 : Int) < (s : Int) := by omega
  have HSB : Hid (b.length ≤ 1500) := Lib.hid (by rw [HSL.out]; omega)
  by_cases hc : (cnt b.length P).2 = 0
  · obtain ⟨p, rfl, hp0, hp1, hpn⟩ := cnt_zero hc
    have HP0 := Lib.hid hp0; have HP1 := Lib.hid hp1; have HPN := Lib.hid hpn
    clear hc hp0 hp1 hpn
    go_wp2_with fail
    --@1
    refine (of_ok w2 _ b p (HV.out.only HO2.out (by simp)) (by have := HSB.out; omega) HP0.out HP1.out HPN.out (HT.out.only HO2.out (by simp))).mono ?_
    rintro e w3 ⟨u, rfl, hod, ho3⟩
    have HCK : Hid (chk b.length p (leavesD b p (cntN b.length p)) (idD b.length p (leavesD b p (cntN b.length p))) = 0) := Lib.hid (by unfold chk; rw [cnt_ok _ _ HP0.out HP1.out HPN.out, leavesD_length]; simp)
    have HO3 := Lib.hid (HO2.out.then ho3); have HD3 := Lib.hid hod.ds
    obtain ⟨ua, uc, rfl, -, -⟩ := hod.slice
    obtain ⟨n, hn⟩ : ∃ n, cntN b.length p = n := ⟨_, rfl⟩
    rw [hn] at HPN HD3 HCK ⊢
    rw [leavesD_length] at HD3 ⊢
    have HNN := Lib.hid hn
    clear hod ho3 HO2 hn
    obtain ⟨ds, hds⟩ : ∃ ds, leavesD b p n = ds := ⟨_, rfl⟩
    rw [hds] at HD3 HCK
    have HDS := Lib.hid hds
    have HN : Hid (ds.length = n) := Lib.hid (by rw [← hds, leavesD_length])
    clear hds
    rw [HSL.out] at HCK ⊢
    go_upto_region 7 with fail
    --@2
    generalize hg : World.alloc w3 _ = w4
    have he4 : w4 = w3.alloc (.cells #[.int .u64 (s : Nat), .int .u32 (p : Nat), .slice ua n uc] 35 (0, 0)) := hg.symm.trans rfl
    have ho4 : Only [] w3 w4 := by rw [he4]; exact (Only.refl [] w3).alloc _
    have HM4 : Hid (M3 w4 w3.heap.size 35 s p (.slice ua n uc)) := Lib.hid (by rw [he4]; exact heap_alloc_new w3 _)
    have HO4 := Lib.hid (HO3.out.then ho4); have HD4 := Lib.hid (HD3.out.only ho4 (by simp))
    clear hg he4 ho4 HO3 HD3
    obtain ⟨q, hq⟩ : ∃ q, w3.heap.size = q := ⟨_, rfl⟩
    rw [hq] at HM4 ⊢
    clear hq
    have hstr : (convert 23 9 (.slice a s cap)).run Tryd.prog w4 = .ok (.string ⟨b.toArray⟩) w4 := run_string_of_bytes (P := Tryd.prog) Tryd.underlying23 Tryd.underlying5 Tryd.underlying9 (HV.out.only HO4.out (by simp))
    have HRO := fun (W : World) => rof_ok W ⟨b.toArray⟩ b p rfl (by have := HSB.out; omega) HP0.out HP1.out (by rw [HNN.out]; exact HPN.out)
    obtain ⟨SB, hSB⟩ : ∃ SB : ByteArray, (⟨b.toArray⟩ : ByteArray) = SB := ⟨_, rfl⟩
    rw [hSB] at hstr HRO
    have HRO' := Lib.hid HRO
    clear HRO hSB
    go_wp2_with fail
    --@3
    refine (HRO'.out w4).mono ?_
    rintro e w5 ⟨u5, rfl, hod, ho5⟩
    have HO5 := Lib.hid (HO4.out.then ho5); have HD5 := Lib.hid (HD4.out.only ho5 (by simp)); have HM5 := Lib.hid (HM4.out.only ho5 (by simp))
    rw [HNN.out, HDS.out] at hod
    have HE5 := Lib.hid hod.ds
    obtain ⟨ra, rc, rfl, -, -⟩ := hod.slice
    rw [HN.out] at HE5 ⊢
    rw [HSL.out]
    clear hod ho5 HO4 HD4 HM4 HRO' hstr
    go_upto_region 8 with fail
    --@4
    generalize hg : World.alloc w5 _ = w6
    have he6 : w6 = w5.alloc (.cells #[.int .u64 (s : Nat), .int .u32 (p : Nat), .slice ra n rc] 39 (0, 0)) := hg.symm.trans rfl
    have ho6 : Only [] w5 w6 := by rw [he6]; exact (Only.refl [] w5).alloc _
    have HR6 : Hid (M3 w6 w5.heap.size 39 s p (.slice ra n rc)) := Lib.hid (by rw [he6]; exact heap_alloc_new w5 _)
    have HO6' := Lib.hid (HO5.out.then ho6); have HD6' := Lib.hid (HD5.out.only ho6 (by simp)); have HM6' := Lib.hid (HM5.out.only ho6 (by simp)); have HE6' := Lib.hid (HE5.out.only ho6 (by simp))
    clear hg he6 ho6 HO5 HD5 HM5 HE5
    obtain ⟨t, ht⟩ : ∃ t, w5.heap.size = t := ⟨_, rfl⟩
    rw [ht] at HR6 ⊢
    clear ht
    obtain ⟨c0, c1, c2, cf⟩ := HM6'.out.cells
    obtain ⟨d0, d1, d2, df⟩ := HR6.out.cells
    go_wp2_with fail
    --@5
    refine (same_c w6 _ _ ds ds HD6'.out HE6'.out (by rw [HN.out]; have := HPN.out; omega) (by rw [HN.out]; have := HPN.out; omega)).mono ?_
    rintro e w7 ⟨rfl, ho7⟩
    rw [decide_eq_true rfl]
    have HO6 := Lib.hid (HO6'.out.then ho7); have HD6 := Lib.hid (HD6'.out.only ho7 (by simp)); have HM6 := Lib.hid (HM6'.out.only ho7 (by simp)); have HE6 := Lib.hid (HE6'.out.only ho7 (by simp)); have HR6 := Lib.hid (HR6.out.only ho7 (by simp))
    clear ho7 HO6' HD6' HM6' HE6' c0 c1 c2 cf d0 d1 d2 df
    go_upto_region 10 with fail
    --@6
    generalize w7 = w6 at *
    have HS : Hid (s < 18446744073709551616) := Lib.hid (by have := HSB.out; have := HSL.out; omega)
    have HP : Hid (p < 4294967296) := Lib.hid (by have := HP1.out; omega)
    have HPN' := HPN.out
    refine wp_region_M [] (by kernel_rfl) ?_
    change wpAnyM _ _ _ _ _ _ _ _ (World.drew _)
    have HOd := Lib.hid HO6.out.drew; have HM1 := Lib.hid (HM6.out.only (Only.refl [] w6).drew (by simp)); have HR1 := Lib.hid (HR6.out.only (Only.refl [] w6).drew (by simp)); have HD1 := Lib.hid (HD6.out.only (Only.refl [] w6).drew (by simp)); have HE1 := Lib.hid (HE6.out.only (Only.refl [] w6).drew (by simp))
    generalize World.drew w6 = wd at *
    clear HO6 HM6 HR6 HD6 HE6
    obtain ⟨I, hI, -, -, -⟩ := store_facts (idD s p ds) (Sha.sum_length _)
    have HIV := Lib.hid hI
    clear hI
    have HC1 : Hid (∀ x : World, Only [] wd x → Calls Tryd.prog 20 #[.agg #[.int .u64 (s : Nat), .int .u32 (p : Nat), .slice ua n uc]] x fun e w' => e = .returned (.agg I) ∧ Only [] x w') := Lib.hid (fun x ho => by
      have how := HOd.out.then ho
      have h := id_c x s p _ ds (HD1.out.only ho (by simp)) HS.out HP.out (by rw [HN.out]; omega) (HT.out.only how (by simp)) (HTZ.out.only how (by simp))
      rw [show Sha.sum (idB s p ds) = idD s p ds from rfl, HIV.out] at h
      exact h)
    have HC2 : Hid (∀ x : World, Only [] wd x → Calls Tryd.prog 21 #[.agg #[.int .u64 (s : Nat), .int .u32 (p : Nat), .slice ra n rc]] x fun e w' => e = .returned (.agg I) ∧ Only [] x w') := Lib.hid (fun x ho => by
      have how := HOd.out.then ho
      have h := rid_c x s p _ ds (HE1.out.only ho (by simp)) HS.out HP.out (by rw [HN.out]; omega)
      rw [show Sha.sum (idB s p ds) = idD s p ds from rfl, HIV.out] at h
      exact h)
    have HC3 : Hid (∀ x : World, Only [] wd x → Calls Tryd.prog 22 #[.agg #[.int .u64 (s : Nat), .int .u32 (p : Nat), .slice ua n uc], .agg I] x fun e w' => e = .returned (.int .i64 0) ∧ Only [] x w') := Lib.hid (fun x ho => by
      have how := HOd.out.then ho
      have h := check_c x s p _ ds (idD s p ds) (HD1.out.only ho (by simp)) (Sha.sum_length _) HS.out HP.out (by rw [HN.out]; omega) (HT.out.only how (by simp)) (HTZ.out.only how (by simp))
      rw [HIV.out, HCK.out] at h
      exact h)
    have hqI : ∀ W, (binOp .eql 25 (.agg I) (.agg I)).run Tryd.prog W = .ok (.bool true) W := fun W => by
      have h := eql_dv (idD s p ds) (idD s p ds) (Sha.sum_length _) (Sha.sum_length _) W
      rw [HIV.out, beq_self_eq_true] at h
      exact h
    have hgI : ∀ ox oy W, (eqGuard .eql 25 ox oy (.agg I) (.agg I)).run Tryd.prog W = .ok () W := fun ox oy W => by
      have h := guard_dv .eql (idD s p ds) (idD s p ds) ox oy W
      rw [HIV.out] at h
      exact h
    refine wpAnyM_take (i := 0) (oi := { dst := some 54, op := .move (.tmp 7), type := 36, pos := "law.go:51", after := #[], guard := none }) rfl (by kernel_rfl) (by kernel_rfl) (by kernel_rfl) (YieldsOn.pure (by rfl) (by intro x; first | (go_simp; first | done | rfl) | (unfold execOp; simp only [Sem.run_bind]; go_simp; first | done | rfl))) (by exact fun _ _ _ h => h) ?_
    try simp only [Act.put, List.setIfInBounds_toArray, List.set_cons_zero, List.set_cons_succ]
    refine wpAnyM_take (i := 1) (oi := { dst := some 55, op := .binOp BinOp.neq 36 (.tmp 54) (.const (Value.int IntKind.i64 0)) 36, type := 4, pos := "law.go:51", after := #[{ on := 0, ground := .data }], guard := none }) rfl (by kernel_rfl) (by kernel_rfl) (by kernel_rfl) (YieldsOn.value (by rfl) (by rfl) (by intro x; first | (go_simp; first | done | rfl) | (unfold execOp; simp only [Sem.run_bind]; go_simp; first | done | rfl))) (by exact fun _ _ _ h => h) ?_
    try simp only [Act.put, List.setIfInBounds_toArray, List.set_cons_zero, List.set_cons_succ]
    refine wpAnyM_take (i := 2) (oi := { dst := some 56, op := .move (.tmp 55), type := 4, pos := "law.go:51", after := #[{ on := 1, ground := .data }], guard := none }) rfl (by kernel_rfl) (by kernel_rfl) (by kernel_rfl) (YieldsOn.pure (by rfl) (by intro x; first | (go_simp; first | done | rfl) | (unfold execOp; simp only [Sem.run_bind]; go_simp; first | done | rfl))) (by exact fun _ _ _ h => h) ?_
    try simp only [Act.put, List.setIfInBounds_toArray, List.set_cons_zero, List.set_cons_succ]
    --@u
    refine wpAnyM_take (i := 3) (oi := { dst := some 57, op := .load 35 (.tmp 6), type := 35, pos := "law.go:51", after := #[{ on := 2, ground := .guard }], guard := some (2, false) }) rfl (by kernel_rfl) (by kernel_rfl) (by kernel_rfl) (YieldsOn.row (by rfl) 35 (.tmp 6) rfl q (by rfl) _ _ _ _ HM1.out (by simp) Tryd.underlying35 rfl (by kernel_rfl)) (by exact fun _ _ _ h => h) ?_
    try simp only [Act.put, List.setIfInBounds_toArray, List.set_cons_zero, List.set_cons_succ]
    refine wpAnyM_take (i := 5) (oi := { dst := some 59, op := .load 39 (.tmp 8), type := 39, pos := "law.go:51", after := #[{ on := 2, ground := .guard }], guard := some (2, false) }) rfl (by kernel_rfl) (by kernel_rfl) (by kernel_rfl) (YieldsOn.row (by rfl) 39 (.tmp 8) rfl t (by rfl) _ _ _ _ HR1.out (by simp) Tryd.underlying39 rfl (by kernel_rfl)) (by exact fun _ _ _ h => h) ?_
    try simp only [Act.put, List.setIfInBounds_toArray, List.set_cons_zero, List.set_cons_succ]
    refine wpAnyM_take (i := 4) (oi := { dst := some 58, op := .call { callee := Callee.value (.func 20), args := #[.tmp 57], argTypes := #[35] }, type := 25, pos := "law.go:51", after := #[{ on := 3, ground := .data }, { on := 2, ground := .chain }, { on := 2, ground := .guard }], guard := some (2, false) }) rfl (by kernel_rfl) (by kernel_rfl) (by kernel_rfl) (YieldsOn.call (by rfl) (by rfl) (by intro x; go_simp; first | done | rfl | exact ⟨rfl, rfl⟩) (fun x => HC1.out x.at' x.only)) (by exact fun _ _ _ h => h) ?_
    try simp only [Act.put, List.setIfInBounds_toArray, List.set_cons_zero, List.set_cons_succ]
    refine wpAnyM_take (i := 6) (oi := { dst := some 60, op := .call { callee := Callee.value (.func 21), args := #[.tmp 59], argTypes := #[39] }, type := 25, pos := "law.go:51", after := #[{ on := 5, ground := .data }, { on := 4, ground := .chain }, { on := 2, ground := .guard }], guard := some (2, false) }) rfl (by kernel_rfl) (by kernel_rfl) (by kernel_rfl) (YieldsOn.call (by rfl) (by rfl) (by intro x; go_simp; first | done | rfl | exact ⟨rfl, rfl⟩) (fun x => HC2.out x.at' x.only)) (by exact fun _ _ _ h => h) ?_
    try simp only [Act.put, List.setIfInBounds_toArray, List.set_cons_zero, List.set_cons_succ]
    refine wpAnyM_take (i := 7) (oi := { dst := some 61, op := .binOp BinOp.eql 25 (.tmp 58) (.tmp 60) 25, type := 4, pos := "law.go:51", after := #[{ on := 4, ground := .data }, { on := 6, ground := .data }, { on := 2, ground := .guard }], guard := some (2, false) }) rfl (by kernel_rfl) (by kernel_rfl) (by kernel_rfl) (YieldsOn.value (by rfl) (by rfl) (by intro x; first | (go_simp; first | done | rfl) | (unfold execOp; simp only [Sem.run_bind]; go_simp; first | done | rfl))) (by exact fun _ _ _ h => h) ?_
    try simp only [Act.put, List.setIfInBounds_toArray, List.set_cons_zero, List.set_cons_succ]
    refine wpAnyM_take (i := 8) (oi := { dst := some 62, op := .move (.tmp 61), type := 4, pos := "law.go:51", after := #[{ on := 7, ground := .data }, { on := 6, ground := .chain }, { on := 2, ground := .guard }], guard := some (2, false) }) rfl (by kernel_rfl) (by kernel_rfl) (by kernel_rfl) (YieldsOn.pure (by rfl) (by intro x; first | (go_simp; first | done | rfl) | (unfold execOp; simp only [Sem.run_bind]; go_simp; first | done | rfl))) (by exact fun _ _ _ h => h) ?_
    try simp only [Act.put, List.setIfInBounds_toArray, List.set_cons_zero, List.set_cons_succ]
    refine wpAnyM_take (i := 9) (oi := { dst := some 63, op := .load 35 (.tmp 6), type := 35, pos := "law.go:51", after := #[{ on := 8, ground := .guard }], guard := some (8, true) }) rfl (by kernel_rfl) (by kernel_rfl) (by kernel_rfl) (YieldsOn.row (by rfl) 35 (.tmp 6) rfl q (by rfl) _ _ _ _ HM1.out (by simp) Tryd.underlying35 rfl (by kernel_rfl)) (by exact fun _ _ _ h => h) ?_
    try simp only [Act.put, List.setIfInBounds_toArray, List.set_cons_zero, List.set_cons_succ]
    refine wpAnyM_take (i := 10) (oi := { dst := some 64, op := .load 39 (.tmp 8), type := 39, pos := "law.go:51", after := #[{ on := 8, ground := .guard }], guard := some (8, true) }) rfl (by kernel_rfl) (by kernel_rfl) (by kernel_rfl) (YieldsOn.row (by rfl) 39 (.tmp 8) rfl t (by rfl) _ _ _ _ HR1.out (by simp) Tryd.underlying39 rfl (by kernel_rfl)) (by exact fun _ _ _ h => h) ?_
    try simp only [Act.put, List.setIfInBounds_toArray, List.set_cons_zero, List.set_cons_succ]
    refine wpAnyM_take (i := 11) (oi := { dst := some 65, op := .call { callee := Callee.value (.func 21), args := #[.tmp 64], argTypes := #[39] }, type := 25, pos := "law.go:51", after := #[{ on := 10, ground := .data }, { on := 8, ground := .chain }, { on := 8, ground := .guard }], guard := some (8, true) }) rfl (by kernel_rfl) (by kernel_rfl) (by kernel_rfl) (YieldsOn.call (by rfl) (by rfl) (by intro x; go_simp; first | done | rfl | exact ⟨rfl, rfl⟩) (fun x => HC2.out x.at' x.only)) (by exact fun _ _ _ h => h) ?_
    try simp only [Act.put, List.setIfInBounds_toArray, List.set_cons_zero, List.set_cons_succ]
    refine wpAnyM_take (i := 12) (oi := { dst := some 66, op := .call { callee := Callee.value (.func 22), args := #[.tmp 63, .tmp 65], argTypes := #[35, 25] }, type := 36, pos := "law.go:51", after := #[{ on := 9, ground := .data }, { on := 11, ground := .data }, { on := 11, ground := .chain }, { on := 8, ground := .guard }], guard := some (8, true) }) rfl (by kernel_rfl) (by kernel_rfl) (by kernel_rfl) (YieldsOn.call (by rfl) (by rfl) (by intro x; go_simp; first | done | rfl | exact ⟨rfl, rfl⟩) (fun x => HC3.out x.at' x.only)) (by exact fun _ _ _ h => h) ?_
    try simp only [Act.put, List.setIfInBounds_toArray, List.set_cons_zero, List.set_cons_succ]
    refine wpAnyM_take (i := 13) (oi := { dst := some 67, op := .binOp BinOp.eql 36 (.tmp 66) (.const (Value.int IntKind.i64 0)) 36, type := 4, pos := "law.go:51", after := #[{ on := 12, ground := .data }, { on := 8, ground := .guard }], guard := some (8, true) }) rfl (by kernel_rfl) (by kernel_rfl) (by kernel_rfl) (YieldsOn.value (by rfl) (by rfl) (by intro x; first | (go_simp; first | done | rfl) | (unfold execOp; simp only [Sem.run_bind]; go_simp; first | done | rfl))) (by exact fun _ _ _ h => h) ?_
    try simp only [Act.put, List.setIfInBounds_toArray, List.set_cons_zero, List.set_cons_succ]
    refine wpAnyM_take (i := 14) (oi := { dst := some 68, op := .pick (.tmp 62) (.tmp 67) (.const (Value.bool false)), type := 4, pos := "law.go:51", after := #[{ on := 8, ground := .data }, { on := 13, ground := .data }, { on := 2, ground := .guard }], guard := some (2, false) }) rfl (by kernel_rfl) (by kernel_rfl) (by kernel_rfl) (YieldsOn.pure (by rfl) (by intro x; first | (go_simp; first | done | rfl) | (unfold execOp; simp only [Sem.run_bind]; go_simp; first | done | rfl))) (by exact fun _ _ _ h => h) ?_
    try simp only [Act.put, List.setIfInBounds_toArray, List.set_cons_zero, List.set_cons_succ]
    refine wpAnyM_take (i := 15) (oi := { dst := some 69, op := .pick (.tmp 56) (.const (Value.bool true)) (.tmp 68), type := 4, pos := "law.go:51", after := #[{ on := 2, ground := .data }, { on := 14, ground := .data }], guard := none }) rfl (by kernel_rfl) (by kernel_rfl) (by kernel_rfl) (YieldsOn.pure (by rfl) (by intro x; first | (go_simp; first | done | rfl) | (unfold execOp; simp only [Sem.run_bind]; go_simp; first | done | rfl))) (by exact fun _ _ _ h => h) ?_
    try simp only [Act.put, List.setIfInBounds_toArray, List.set_cons_zero, List.set_cons_succ]
    refine wpAnyM_take (i := 16) (oi := { dst := some 4, op := .assign (.tmp 69), type := 4, pos := "law.go:51", after := #[{ on := 15, ground := .data }, { on := 12, ground := .chain }, { on := 0, ground := .phase }, { on := 1, ground := .phase }, { on := 2, ground := .phase }, { on := 3, ground := .phase }, { on := 4, ground := .phase }, { on := 5, ground := .phase }, { on := 6, ground := .phase }, { on := 7, ground := .phase }, { on := 8, ground := .phase }, { on := 9, ground := .phase }, { on := 10, ground := .phase }, { on := 11, ground := .phase }, { on := 12, ground := .phase }, { on := 13, ground := .phase }, { on := 14, ground := .phase }, { on := 15, ground := .phase }], guard := none }) rfl (by kernel_rfl) (by kernel_rfl) (by kernel_rfl) (YieldsOn.pure (by rfl) (by intro x; first | (go_simp; first | done | rfl) | (unfold execOp; simp only [Sem.run_bind]; go_simp; first | done | rfl))) (by exact fun _ _ _ h => h) ?_
    try simp only [Act.put, List.setIfInBounds_toArray, List.set_cons_zero, List.set_cons_succ]
    refine wpAnyM_done (by kernel_rfl) (fun x9 hx9 => ?_) _
    go_wp2_with fail
    go_ret
    exact ⟨rfl, (HOd.out.then hx9).below (by simp) (Nat.le_refl _)⟩
  · have HCC := Lib.hid hc
    clear hc
    go_wp2_with fail
    --@e1
    have hob := of_bad w2 _ b P (HV.out.only HO2.out (by simp)) (by have := HSB.out; omega) HCC.out
    have hrb := fun W : World => rof_bad W ⟨b.toArray⟩ b P rfl (by have := HSB.out; omega) HCC.out
    obtain ⟨E, hE⟩ : ∃ E, (cnt b.length P).2 = E := ⟨_, rfl⟩
    rw [hE] at hob hrb HCC
    have HRB := Lib.hid hrb
    refine hob.mono ?_
    clear hob hrb hE
    rintro e w3 ⟨rfl, ho3⟩
    have HO3 := Lib.hid (HO2.out.then ho3)
    clear ho3 HO2
    go_upto_region 7 with fail
    generalize hg : World.alloc w3 _ = w4
    have he4 : w4 = w3.alloc (.cells #[.int .u64 0, .int .u32 0, .slice none 0 0] 35 (0, 0)) := hg.symm.trans rfl
    have ho4 : Only [] w3 w4 := by rw [he4]; exact (Only.refl [] w3).alloc _
    have HM4 : Hid (M3 w4 w3.heap.size 35 0 0 (.slice none 0 0)) := Lib.hid (by rw [he4]; exact heap_alloc_new w3 _)
    have HO4 := Lib.hid (HO3.out.then ho4)
    clear hg he4 ho4 HO3
    obtain ⟨q, hq⟩ : ∃ q, w3.heap.size = q := ⟨_, rfl⟩
    rw [hq] at HM4 ⊢
    clear hq
    have hstr : (convert 23 9 (.slice a s cap)).run Tryd.prog w4 = .ok (.string ⟨b.toArray⟩) w4 := run_string_of_bytes (P := Tryd.prog) Tryd.underlying23 Tryd.underlying5 Tryd.underlying9 (HV.out.only HO4.out (by simp))
    have hRO := HRB.out
    obtain ⟨SB, hSB⟩ : ∃ SB : ByteArray, (⟨b.toArray⟩ : ByteArray) = SB := ⟨_, rfl⟩
    rw [hSB] at hstr hRO
    have HRO := Lib.hid hRO
    clear hRO hSB HRB
    go_wp2_with fail
    refine (HRO.out w4).mono ?_
    rintro e w5 ⟨rfl, ho5⟩
    have HO5 := Lib.hid (HO4.out.then ho5); have HM5 := Lib.hid (HM4.out.only ho5 (by simp))
    clear ho5 HO4 HM4 hstr HRO
    go_upto_region 8 with fail
    generalize hg : World.alloc w5 _ = w6
    have he6 : w6 = w5.alloc (.cells #[.int .u64 0, .int .u32 0, .slice none 0 0] 39 (0, 0)) := hg.symm.trans rfl
    have ho6 : Only [] w5 w6 := by rw [he6]; exact (Only.refl [] w5).alloc _
    have HR6 : Hid (M3 w6 w5.heap.size 39 0 0 (.slice none 0 0)) := Lib.hid (by rw [he6]; exact heap_alloc_new w5 _)
    have HO6 := Lib.hid (HO5.out.then ho6); have HM6 := Lib.hid (HM5.out.only ho6 (by simp))
    clear hg he6 ho6 HO5 HM5
    obtain ⟨t, ht⟩ : ∃ t, w5.heap.size = t := ⟨_, rfl⟩
    rw [ht] at HR6 ⊢
    clear ht
    obtain ⟨c0, c1, c2, cf⟩ := HM6.out.cells
    obtain ⟨d0, d1, d2, df⟩ := HR6.out.cells
    rw [show ((0 : Nat) : Int) = 0 from rfl] at c0 c1 d0 d1
    go_wp2_with fail
    --@e5
    refine (same_c w6 _ _ [] [] (DS.nil _) (DS.nil _) (by decide) (by decide)).mono ?_
    rintro e w7 ⟨rfl, ho7⟩
    rw [decide_eq_true rfl]
    have HO7 := Lib.hid (HO6.out.then ho7)
    clear ho7 HO6 c0 c1 c2 cf d0 d1 d2 df
    have heI : ¬ ((E : Int) = 0) := by have := HCC.out; omega
    have heb : ((E : Int) != 0) = true := bne_iff_ne.2 heI
    go_upto_region 10 with fail
    --@e6
    refine wp_region_M [] (by kernel_rfl) ?_
    change wpAnyM _ _ _ _ _ _ _ _ (World.drew _)
    refine wpAnyM_take (i := 0) (oi := { dst := some 54, op := .move (.tmp 7), type := 36, pos := "law.go:51", after := #[], guard := none }) rfl (by kernel_rfl) (by kernel_rfl) (by kernel_rfl) (YieldsOn.pure (by rfl) (by intro x; first | (go_simp; first | done | rfl) | (unfold execOp; simp only [Sem.run_bind]; go_simp; first | done | rfl))) (by exact fun _ _ _ h => h) ?_
    try simp only [Act.put, List.setIfInBounds_toArray, List.set_cons_zero, List.set_cons_succ]
    refine wpAnyM_take (i := 1) (oi := { dst := some 55, op := .binOp BinOp.neq 36 (.tmp 54) (.const (Value.int IntKind.i64 0)) 36, type := 4, pos := "law.go:51", after := #[{ on := 0, ground := .data }], guard := none }) rfl (by kernel_rfl) (by kernel_rfl) (by kernel_rfl) (YieldsOn.value (by rfl) (by rfl) (by intro x; first | (go_simp; first | done | rfl) | (unfold execOp; simp only [Sem.run_bind]; go_simp; first | done | rfl))) (by exact fun _ _ _ h => h) ?_
    try simp only [Act.put, List.setIfInBounds_toArray, List.set_cons_zero, List.set_cons_succ]
    refine wpAnyM_take (i := 2) (oi := { dst := some 56, op := .move (.tmp 55), type := 4, pos := "law.go:51", after := #[{ on := 1, ground := .data }], guard := none }) rfl (by kernel_rfl) (by kernel_rfl) (by kernel_rfl) (YieldsOn.pure (by rfl) (by intro x; first | (go_simp; first | done | rfl) | (unfold execOp; simp only [Sem.run_bind]; go_simp; first | done | rfl))) (by exact fun _ _ _ h => h) ?_
    try simp only [Act.put, List.setIfInBounds_toArray, List.set_cons_zero, List.set_cons_succ]
    refine wpAnyM_take (i := 3) (oi := { dst := some 57, op := .load 35 (.tmp 6), type := 35, pos := "law.go:51", after := #[{ on := 2, ground := .guard }], guard := some (2, false) }) rfl (by kernel_rfl) (by kernel_rfl) (by kernel_rfl) (YieldsOn.not (by rfl)) (by exact fun _ _ _ h => h) ?_
    try simp only [Act.put, List.setIfInBounds_toArray, List.set_cons_zero, List.set_cons_succ]
    refine wpAnyM_take (i := 4) (oi := { dst := some 58, op := .call { callee := Callee.value (.func 20), args := #[.tmp 57], argTypes := #[35] }, type := 25, pos := "law.go:51", after := #[{ on := 3, ground := .data }, { on := 2, ground := .chain }, { on := 2, ground := .guard }], guard := some (2, false) }) rfl (by kernel_rfl) (by kernel_rfl) (by kernel_rfl) (YieldsOn.not (by rfl)) (by exact fun _ _ _ h => h) ?_
    try simp only [Act.put, List.setIfInBounds_toArray, List.set_cons_zero, List.set_cons_succ]
    refine wpAnyM_take (i := 5) (oi := { dst := some 59, op := .load 39 (.tmp 8), type := 39, pos := "law.go:51", after := #[{ on := 2, ground := .guard }], guard := some (2, false) }) rfl (by kernel_rfl) (by kernel_rfl) (by kernel_rfl) (YieldsOn.not (by rfl)) (by exact fun _ _ _ h => h) ?_
    try simp only [Act.put, List.setIfInBounds_toArray, List.set_cons_zero, List.set_cons_succ]
    refine wpAnyM_take (i := 6) (oi := { dst := some 60, op := .call { callee := Callee.value (.func 21), args := #[.tmp 59], argTypes := #[39] }, type := 25, pos := "law.go:51", after := #[{ on := 5, ground := .data }, { on := 4, ground := .chain }, { on := 2, ground := .guard }], guard := some (2, false) }) rfl (by kernel_rfl) (by kernel_rfl) (by kernel_rfl) (YieldsOn.not (by rfl)) (by exact fun _ _ _ h => h) ?_
    try simp only [Act.put, List.setIfInBounds_toArray, List.set_cons_zero, List.set_cons_succ]
    refine wpAnyM_take (i := 7) (oi := { dst := some 61, op := .binOp BinOp.eql 25 (.tmp 58) (.tmp 60) 25, type := 4, pos := "law.go:51", after := #[{ on := 4, ground := .data }, { on := 6, ground := .data }, { on := 2, ground := .guard }], guard := some (2, false) }) rfl (by kernel_rfl) (by kernel_rfl) (by kernel_rfl) (YieldsOn.not (by rfl)) (by exact fun _ _ _ h => h) ?_
    try simp only [Act.put, List.setIfInBounds_toArray, List.set_cons_zero, List.set_cons_succ]
    refine wpAnyM_take (i := 8) (oi := { dst := some 62, op := .move (.tmp 61), type := 4, pos := "law.go:51", after := #[{ on := 7, ground := .data }, { on := 6, ground := .chain }, { on := 2, ground := .guard }], guard := some (2, false) }) rfl (by kernel_rfl) (by kernel_rfl) (by kernel_rfl) (YieldsOn.not (by rfl)) (by exact fun _ _ _ h => h) ?_
    try simp only [Act.put, List.setIfInBounds_toArray, List.set_cons_zero, List.set_cons_succ]
    refine wpAnyM_take (i := 9) (oi := { dst := some 63, op := .load 35 (.tmp 6), type := 35, pos := "law.go:51", after := #[{ on := 8, ground := .guard }], guard := some (8, true) }) rfl (by kernel_rfl) (by kernel_rfl) (by kernel_rfl) (YieldsOn.not (by rfl)) (by exact fun _ _ _ h => h) ?_
    try simp only [Act.put, List.setIfInBounds_toArray, List.set_cons_zero, List.set_cons_succ]
    refine wpAnyM_take (i := 10) (oi := { dst := some 64, op := .load 39 (.tmp 8), type := 39, pos := "law.go:51", after := #[{ on := 8, ground := .guard }], guard := some (8, true) }) rfl (by kernel_rfl) (by kernel_rfl) (by kernel_rfl) (YieldsOn.not (by rfl)) (by exact fun _ _ _ h => h) ?_
    try simp only [Act.put, List.setIfInBounds_toArray, List.set_cons_zero, List.set_cons_succ]
    refine wpAnyM_take (i := 11) (oi := { dst := some 65, op := .call { callee := Callee.value (.func 21), args := #[.tmp 64], argTypes := #[39] }, type := 25, pos := "law.go:51", after := #[{ on := 10, ground := .data }, { on := 8, ground := .chain }, { on := 8, ground := .guard }], guard := some (8, true) }) rfl (by kernel_rfl) (by kernel_rfl) (by kernel_rfl) (YieldsOn.not (by rfl)) (by exact fun _ _ _ h => h) ?_
    try simp only [Act.put, List.setIfInBounds_toArray, List.set_cons_zero, List.set_cons_succ]
    refine wpAnyM_take (i := 12) (oi := { dst := some 66, op := .call { callee := Callee.value (.func 22), args := #[.tmp 63, .tmp 65], argTypes := #[35, 25] }, type := 36, pos := "law.go:51", after := #[{ on := 9, ground := .data }, { on := 11, ground := .data }, { on := 11, ground := .chain }, { on := 8, ground := .guard }], guard := some (8, true) }) rfl (by kernel_rfl) (by kernel_rfl) (by kernel_rfl) (YieldsOn.not (by rfl)) (by exact fun _ _ _ h => h) ?_
    try simp only [Act.put, List.setIfInBounds_toArray, List.set_cons_zero, List.set_cons_succ]
    refine wpAnyM_take (i := 13) (oi := { dst := some 67, op := .binOp BinOp.eql 36 (.tmp 66) (.const (Value.int IntKind.i64 0)) 36, type := 4, pos := "law.go:51", after := #[{ on := 12, ground := .data }, { on := 8, ground := .guard }], guard := some (8, true) }) rfl (by kernel_rfl) (by kernel_rfl) (by kernel_rfl) (YieldsOn.not (by rfl)) (by exact fun _ _ _ h => h) ?_
    try simp only [Act.put, List.setIfInBounds_toArray, List.set_cons_zero, List.set_cons_succ]
    refine wpAnyM_take (i := 14) (oi := { dst := some 68, op := .pick (.tmp 62) (.tmp 67) (.const (Value.bool false)), type := 4, pos := "law.go:51", after := #[{ on := 8, ground := .data }, { on := 13, ground := .data }, { on := 2, ground := .guard }], guard := some (2, false) }) rfl (by kernel_rfl) (by kernel_rfl) (by kernel_rfl) (YieldsOn.not (by rfl)) (by exact fun _ _ _ h => h) ?_
    try simp only [Act.put, List.setIfInBounds_toArray, List.set_cons_zero, List.set_cons_succ]
    refine wpAnyM_take (i := 15) (oi := { dst := some 69, op := .pick (.tmp 56) (.const (Value.bool true)) (.tmp 68), type := 4, pos := "law.go:51", after := #[{ on := 2, ground := .data }, { on := 14, ground := .data }], guard := none }) rfl (by kernel_rfl) (by kernel_rfl) (by kernel_rfl) (YieldsOn.pure (by rfl) (by intro x; first | (go_simp; first | done | rfl) | (unfold execOp; simp only [Sem.run_bind]; go_simp; first | done | rfl))) (by exact fun _ _ _ h => h) ?_
    try simp only [Act.put, List.setIfInBounds_toArray, List.set_cons_zero, List.set_cons_succ]
    refine wpAnyM_take (i := 16) (oi := { dst := some 4, op := .assign (.tmp 69), type := 4, pos := "law.go:51", after := #[{ on := 15, ground := .data }, { on := 12, ground := .chain }, { on := 0, ground := .phase }, { on := 1, ground := .phase }, { on := 2, ground := .phase }, { on := 3, ground := .phase }, { on := 4, ground := .phase }, { on := 5, ground := .phase }, { on := 6, ground := .phase }, { on := 7, ground := .phase }, { on := 8, ground := .phase }, { on := 9, ground := .phase }, { on := 10, ground := .phase }, { on := 11, ground := .phase }, { on := 12, ground := .phase }, { on := 13, ground := .phase }, { on := 14, ground := .phase }, { on := 15, ground := .phase }], guard := none }) rfl (by kernel_rfl) (by kernel_rfl) (by kernel_rfl) (YieldsOn.pure (by rfl) (by intro x; first | (go_simp; first | done | rfl) | (unfold execOp; simp only [Sem.run_bind]; go_simp; first | done | rfl))) (by exact fun _ _ _ h => h) ?_
    try simp only [Act.put, List.setIfInBounds_toArray, List.set_cons_zero, List.set_cons_succ]
    refine wpAnyM_done (by kernel_rfl) (fun x9 hx9 => ?_) _
    go_wp2_with fail
    go_ret
    exact ⟨rfl, (HO7.out.drew.then hx9).below (by simp) (Nat.le_refl _)⟩
end Go.Proofs.YtpgcfpfmicghnaaDoor.mrk
