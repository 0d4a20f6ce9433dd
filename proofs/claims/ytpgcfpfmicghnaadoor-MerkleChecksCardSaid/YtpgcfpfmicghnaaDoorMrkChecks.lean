/-
  MerkleChecks, walked.
-/
import Derived.Test.YtpgcfpfmicghnaaDoorMrkAwake
import Derived.Test.YtpgcfpfmicghnaaDoorMrkRCheck
import Derived.Test.YtpgcfpfmicghnaaDoorMrkModel
set_option linter.unusedVariables false
set_option linter.unusedSimpArgs false
namespace Go.Proofs.YtpgcfpfmicghnaaDoor.mrk
open Go Go.RowKit Go.Lm Go.ChangeShapes Go.WideShapes Go.Proofs.YtpgcfpfmicghnaaDoor.sha

set_option maxRecDepth 100000 in
set_option maxHeartbeats 8000000 in
theorem checks_c (w : World) (hT : Tab w) (hZ : Tz w) (s p : Nat) (u : Value) (ds : List (List UInt8)) (l : List UInt8) (ob : Bool) (hu : DS w u ds) (hs : s < 18446744073709551616) (hp : p < 4294967296) (hl : l.length = 32) :
    Calls Tryd.prog 5 #[.agg #[.int .u64 (s : Nat), .int .u32 (p : Nat), u], dv l, .bool ob] w fun e w' => e = .returned (.bool true) ∧ Below w.heap.size w w' := by
  have HT := Lib.hid hT; have HTZ := Lib.hid hZ; have HV := Lib.hid hu; have HS := Lib.hid hs; have HP := Lib.hid hp
  obtain ⟨A, hA, hAs, hAi, -⟩ := store_facts l hl
  obtain ⟨a, cap, rfl, k1, k2, -⟩ := hu
  unfold maxLen at k2
  obtain ⟨n, hn⟩ : ∃ n, ds.length = n := ⟨_, rfl⟩
  rw [hn] at k1 HV ⊢
  have HN := Lib.hid hn; have HLL := Lib.hid hl
  rw [hA]
  have HAV := Lib.hid hA; have HAI := Lib.hid hAi
  clear hT hZ hs hp hl hA hAs hAi hn
  go_enter Tryd.func5, Tryd.ntmps5
  go_upto_region 1 with fail
  generalize hg : World.alloc _ _ = w1
  have h2 := two w (.cells #[.int .u64 (s : Nat), .int .u32 (p : Nat), .slice a n cap] 35 (0, 0)) (.cells A 25 (0, 0))
  have he : w1 = (w.alloc (.cells #[.int .u64 (s : Nat), .int .u32 (p : Nat), .slice a n cap] 35 (0, 0))).alloc (.cells A 25 (0, 0)) := hg.symm.trans rfl
  rw [← he] at h2
  have HO1 : Hid (Only [] w w1) := Lib.hid (by rw [he]; exact ((Only.refl [] w).alloc _).alloc _)
  have HM0 : Hid (M3 w1 w.heap.size 35 s p (.slice a n cap)) := Lib.hid h2.1
  have HD0 := Lib.hid h2.2
  clear hg he h2
  have HQ : Hid (w.heap.size ≤ w.heap.size) := Lib.hid (Nat.le_refl _)
  obtain ⟨q, hq⟩ : ∃ q, w.heap.size = q := ⟨_, rfl⟩
  rw [hq] at HM0 HD0 ⊢
  have HWQ := Lib.hid hq
  clear hq
  go_wp2_with fail
  refine (awake_c w1 (HT.out.only HO1.out (by simp)) (HTZ.out.only HO1.out (by simp))).mono ?_
  rintro e wl ⟨rfl, ho2⟩
  have HO2 := Lib.hid (HO1.out.then ho2); have HM2 := Lib.hid (HM0.out.only ho2 (by simp)); have HD2 := Lib.hid (ho2.heap HD0.out (by simp))
  clear ho2 HO1 HM0 HD0
  obtain ⟨c0, c1, c2, cf⟩ := HM2.out.cells
  by_cases h1 : 100 < n
  · have h1I : (100 : Int) < (n : Int) := by omega
    go_wp2_with fail
    go_ret
    exact ⟨rfl, HO2.out.below (by simp) (Nat.le_refl _)⟩
  have h1I : ¬ (100 : Int) < (n : Int) := by omega
  cases ob with
  | false =>
    have HD32 := HLL; have HDV := HAV; have HDI := HAI
    go_upto_region 8 with fail
    clear c0 c1 c2 cf
    generalize hAD : A = D at *
    generalize hld : l = d at *
    --@2
    refine wp_region_M [] (by kernel_rfl) ?_
    change wpAnyM _ _ _ _ _ _ _ _ (World.drew _)
    have HOd := Lib.hid HO2.out.drew; have HM1 := Lib.hid (HM2.out.only (Only.refl [] wl).drew (by simp)); have HD1 := Lib.hid ((Only.refl [] wl).drew.heap HD2.out (by simp))
    generalize World.drew wl = wd at *
    clear HO2 HM2 HD2
    obtain ⟨I, hI, -, -, -⟩ := store_facts (idD s p ds) (Sha.sum_length _)
    have HIV := Lib.hid hI
    obtain ⟨C, hC⟩ : ∃ C, chk s p ds d = C := ⟨_, rfl⟩
    have HC := Lib.hid hC
    clear hI hC
    have HC1 : Hid (∀ x : World, Only [] wd x → Calls Tryd.prog 22 #[.agg #[.int .u64 (s : Nat), .int .u32 (p : Nat), .slice a n cap], .agg D] x fun e w' => e = .returned (.int .i64 (C : Nat)) ∧ Only [] x w') := Lib.hid (fun x ho => by
      have how := HOd.out.then ho
      have h := check_c x s p _ ds d (HV.out.only how (by simp)) HD32.out HS.out HP.out (by rw [HN.out]; omega) (HT.out.only how (by simp)) (HTZ.out.only how (by simp))
      rw [HDV.out, HC.out] at h
      exact h)
    have HC2 : Hid (∀ x : World, Only [] wd x → Calls Tryd.prog 23 #[.agg #[.int .u64 (s : Nat), .int .u32 (p : Nat), .slice a n cap]] x fun e w' => e = .returned (.agg #[.int .u64 (s : Nat), .int .u32 (p : Nat), .slice a n cap]) ∧ Only [] x w') := Lib.hid (fun x ho => by
      have how := HOd.out.then ho
      have h := modelof_c x s p a n cap
      exact h)
    have HC3 : Hid (∀ x : World, Only [] wd x → Calls Tryd.prog 24 #[.agg #[.int .u64 (s : Nat), .int .u32 (p : Nat), .slice a n cap], .agg D] x fun e w' => e = .returned (.int .i64 (C : Nat)) ∧ Only [] x w') := Lib.hid (fun x ho => by
      have how := HOd.out.then ho
      have h := rcheck_c x s p _ ds d (HV.out.only how (by simp)) HD32.out HS.out HP.out (by rw [HN.out]; omega)
      rw [HDV.out, HC.out] at h
      exact h)
    have HC4 : Hid (∀ x : World, Only [] wd x → Calls Tryd.prog 20 #[.agg #[.int .u64 (s : Nat), .int .u32 (p : Nat), .slice a n cap]] x fun e w' => e = .returned (.agg I) ∧ Only [] x w') := Lib.hid (fun x ho => by
      have how := HOd.out.then ho
      have h := id_c x s p _ ds (HV.out.only how (by simp)) HS.out HP.out (by rw [HN.out]; omega) (HT.out.only how (by simp)) (HTZ.out.only how (by simp))
      rw [show Sha.sum (idB s p ds) = idD s p ds from rfl, HIV.out] at h
      exact h)
    have HC5 : Hid (∀ x : World, Only [] wd x → Calls Tryd.prog 21 #[.agg #[.int .u64 (s : Nat), .int .u32 (p : Nat), .slice a n cap]] x fun e w' => e = .returned (.agg I) ∧ Only [] x w') := Lib.hid (fun x ho => by
      have how := HOd.out.then ho
      have h := rid_c x s p _ ds (HV.out.only how (by simp)) HS.out HP.out (by rw [HN.out]; omega)
      rw [show Sha.sum (idB s p ds) = idD s p ds from rfl, HIV.out] at h
      exact h)
    have hqI : ∀ W, (binOp .eql 25 (.agg I) (.agg I)).run Tryd.prog W = .ok (.bool true) W := fun W => by
      have h := eql_dv (idD s p ds) (idD s p ds) (Sha.sum_length _) (Sha.sum_length _) W
      rw [HIV.out, beq_self_eq_true] at h
      exact h
    have hgI : ∀ ox oy W, (eqGuard .eql 25 ox oy (.agg I) (.agg I)).run Tryd.prog W = .ok () W := fun ox oy W => by
      have h := guard_dv .eql (idD s p ds) (idD s p ds) ox oy W
      rw [HIV.out] at h
      exact h
    refine wpAnyM_take (i := 0) (oi := { dst := some 19, op := .load 35 (.tmp 3), type := 35, pos := "law.go:66", after := #[], guard := none }) rfl (by kernel_rfl) (by kernel_rfl) (by kernel_rfl) (YieldsOn.row (by rfl) 35 (.tmp 3) rfl q (by rfl) _ _ _ _ HM1.out (by simp) Tryd.underlying35 rfl (by kernel_rfl)) (by exact fun _ _ _ h => h) ?_
    try simp only [Act.put, List.setIfInBounds_toArray, List.set_cons_zero, List.set_cons_succ]
    refine wpAnyM_take (i := 1) (oi := { dst := some 20, op := .load 25 (.tmp 4), type := 25, pos := "law.go:66", after := #[], guard := none }) rfl (by kernel_rfl) (by kernel_rfl) (by kernel_rfl) (YieldsOn.row (by rfl) 25 (.tmp 4) rfl (q + 1) (by rfl) _ _ _ _ HD1.out (by simp) Tryd.underlying25 rfl HDI.out) (by exact fun _ _ _ h => h) ?_
    try simp only [Act.put, List.setIfInBounds_toArray, List.set_cons_zero, List.set_cons_succ]
    refine wpAnyM_take (i := 2) (oi := { dst := some 21, op := .call { callee := Callee.value (.func 22), args := #[.tmp 19, .tmp 20], argTypes := #[35, 25] }, type := 36, pos := "law.go:66", after := #[{ on := 0, ground := .data }, { on := 1, ground := .data }], guard := none }) rfl (by kernel_rfl) (by kernel_rfl) (by kernel_rfl) (YieldsOn.call (by rfl) (by rfl) (by intro x; go_simp; first | done | rfl | exact ⟨rfl, rfl⟩) (fun x => HC1.out x.at' x.only)) (by exact fun _ _ _ h => h) ?_
    try simp only [Act.put, List.setIfInBounds_toArray, List.set_cons_zero, List.set_cons_succ]
    refine wpAnyM_take (i := 3) (oi := { dst := some 22, op := .load 35 (.tmp 3), type := 35, pos := "law.go:66", after := #[], guard := none }) rfl (by kernel_rfl) (by kernel_rfl) (by kernel_rfl) (YieldsOn.row (by rfl) 35 (.tmp 3) rfl q (by rfl) _ _ _ _ HM1.out (by simp) Tryd.underlying35 rfl (by kernel_rfl)) (by exact fun _ _ _ h => h) ?_
    try simp only [Act.put, List.setIfInBounds_toArray, List.set_cons_zero, List.set_cons_succ]
    refine wpAnyM_take (i := 4) (oi := { dst := some 23, op := .call { callee := Callee.value (.func 23), args := #[.tmp 22], argTypes := #[35] }, type := 39, pos := "law.go:66", after := #[{ on := 3, ground := .data }, { on := 2, ground := .chain }], guard := none }) rfl (by kernel_rfl) (by kernel_rfl) (by kernel_rfl) (YieldsOn.call (by rfl) (by rfl) (by intro x; go_simp; first | done | rfl | exact ⟨rfl, rfl⟩) (fun x => HC2.out x.at' x.only)) (by exact fun _ _ _ h => h) ?_
    try simp only [Act.put, List.setIfInBounds_toArray, List.set_cons_zero, List.set_cons_succ]
    refine wpAnyM_take (i := 5) (oi := { dst := some 24, op := .load 25 (.tmp 4), type := 25, pos := "law.go:66", after := #[], guard := none }) rfl (by kernel_rfl) (by kernel_rfl) (by kernel_rfl) (YieldsOn.row (by rfl) 25 (.tmp 4) rfl (q + 1) (by rfl) _ _ _ _ HD1.out (by simp) Tryd.underlying25 rfl HDI.out) (by exact fun _ _ _ h => h) ?_
    try simp only [Act.put, List.setIfInBounds_toArray, List.set_cons_zero, List.set_cons_succ]
    refine wpAnyM_take (i := 6) (oi := { dst := some 25, op := .call { callee := Callee.value (.func 24), args := #[.tmp 23, .tmp 24], argTypes := #[39, 25] }, type := 36, pos := "law.go:66", after := #[{ on := 4, ground := .data }, { on := 5, ground := .data }, { on := 4, ground := .chain }], guard := none }) rfl (by kernel_rfl) (by kernel_rfl) (by kernel_rfl) (YieldsOn.call (by rfl) (by rfl) (by intro x; go_simp; first | done | rfl | exact ⟨rfl, rfl⟩) (fun x => HC3.out x.at' x.only)) (by exact fun _ _ _ h => h) ?_
    try simp only [Act.put, List.setIfInBounds_toArray, List.set_cons_zero, List.set_cons_succ]
    refine wpAnyM_take (i := 7) (oi := { dst := some 26, op := .binOp BinOp.eql 36 (.tmp 21) (.tmp 25) 36, type := 4, pos := "law.go:66", after := #[{ on := 2, ground := .data }, { on := 6, ground := .data }], guard := none }) rfl (by kernel_rfl) (by kernel_rfl) (by kernel_rfl) (YieldsOn.value (by rfl) (by rfl) (by intro x; first | (go_simp; first | done | rfl) | (unfold execOp; simp only [Sem.run_bind]; go_simp; first | done | rfl))) (by exact fun _ _ _ h => h) ?_
    try simp only [Act.put, List.setIfInBounds_toArray, List.set_cons_zero, List.set_cons_succ]
    refine wpAnyM_take (i := 8) (oi := { dst := some 27, op := .move (.tmp 26), type := 4, pos := "law.go:66", after := #[{ on := 7, ground := .data }, { on := 6, ground := .chain }], guard := none }) rfl (by kernel_rfl) (by kernel_rfl) (by kernel_rfl) (YieldsOn.pure (by rfl) (by intro x; first | (go_simp; first | done | rfl) | (unfold execOp; simp only [Sem.run_bind]; go_simp; first | done | rfl))) (by exact fun _ _ _ h => h) ?_
    try simp only [Act.put, List.setIfInBounds_toArray, List.set_cons_zero, List.set_cons_succ]
    refine wpAnyM_take (i := 9) (oi := { dst := some 28, op := .load 35 (.tmp 3), type := 35, pos := "law.go:66", after := #[{ on := 8, ground := .guard }], guard := some (8, true) }) rfl (by kernel_rfl) (by kernel_rfl) (by kernel_rfl) (YieldsOn.row (by rfl) 35 (.tmp 3) rfl q (by rfl) _ _ _ _ HM1.out (by simp) Tryd.underlying35 rfl (by kernel_rfl)) (by exact fun _ _ _ h => h) ?_
    try simp only [Act.put, List.setIfInBounds_toArray, List.set_cons_zero, List.set_cons_succ]
    refine wpAnyM_take (i := 10) (oi := { dst := some 29, op := .call { callee := Callee.value (.func 20), args := #[.tmp 28], argTypes := #[35] }, type := 25, pos := "law.go:66", after := #[{ on := 9, ground := .data }, { on := 8, ground := .chain }, { on := 8, ground := .guard }], guard := some (8, true) }) rfl (by kernel_rfl) (by kernel_rfl) (by kernel_rfl) (YieldsOn.call (by rfl) (by rfl) (by intro x; go_simp; first | done | rfl | exact ⟨rfl, rfl⟩) (fun x => HC4.out x.at' x.only)) (by exact fun _ _ _ h => h) ?_
    try simp only [Act.put, List.setIfInBounds_toArray, List.set_cons_zero, List.set_cons_succ]
    refine wpAnyM_take (i := 11) (oi := { dst := some 30, op := .load 35 (.tmp 3), type := 35, pos := "law.go:66", after := #[{ on := 8, ground := .guard }], guard := some (8, true) }) rfl (by kernel_rfl) (by kernel_rfl) (by kernel_rfl) (YieldsOn.row (by rfl) 35 (.tmp 3) rfl q (by rfl) _ _ _ _ HM1.out (by simp) Tryd.underlying35 rfl (by kernel_rfl)) (by exact fun _ _ _ h => h) ?_
    try simp only [Act.put, List.setIfInBounds_toArray, List.set_cons_zero, List.set_cons_succ]
    refine wpAnyM_take (i := 12) (oi := { dst := some 31, op := .call { callee := Callee.value (.func 23), args := #[.tmp 30], argTypes := #[35] }, type := 39, pos := "law.go:66", after := #[{ on := 11, ground := .data }, { on := 10, ground := .chain }, { on := 8, ground := .guard }], guard := some (8, true) }) rfl (by kernel_rfl) (by kernel_rfl) (by kernel_rfl) (YieldsOn.call (by rfl) (by rfl) (by intro x; go_simp; first | done | rfl | exact ⟨rfl, rfl⟩) (fun x => HC2.out x.at' x.only)) (by exact fun _ _ _ h => h) ?_
    try simp only [Act.put, List.setIfInBounds_toArray, List.set_cons_zero, List.set_cons_succ]
    refine wpAnyM_take (i := 13) (oi := { dst := some 32, op := .call { callee := Callee.value (.func 21), args := #[.tmp 31], argTypes := #[39] }, type := 25, pos := "law.go:66", after := #[{ on := 12, ground := .data }, { on := 12, ground := .chain }, { on := 8, ground := .guard }], guard := some (8, true) }) rfl (by kernel_rfl) (by kernel_rfl) (by kernel_rfl) (YieldsOn.call (by rfl) (by rfl) (by intro x; go_simp; first | done | rfl | exact ⟨rfl, rfl⟩) (fun x => HC5.out x.at' x.only)) (by exact fun _ _ _ h => h) ?_
    try simp only [Act.put, List.setIfInBounds_toArray, List.set_cons_zero, List.set_cons_succ]
    refine wpAnyM_take (i := 14) (oi := { dst := some 33, op := .binOp BinOp.eql 25 (.tmp 29) (.tmp 32) 25, type := 4, pos := "law.go:66", after := #[{ on := 10, ground := .data }, { on := 13, ground := .data }, { on := 8, ground := .guard }], guard := some (8, true) }) rfl (by kernel_rfl) (by kernel_rfl) (by kernel_rfl) (YieldsOn.value (by rfl) (by rfl) (by intro x; first | (go_simp; first | done | rfl) | (unfold execOp; simp only [Sem.run_bind]; go_simp; first | done | rfl))) (by exact fun _ _ _ h => h) ?_
    try simp only [Act.put, List.setIfInBounds_toArray, List.set_cons_zero, List.set_cons_succ]
    refine wpAnyM_take (i := 15) (oi := { dst := some 34, op := .pick (.tmp 27) (.tmp 33) (.const (Value.bool false)), type := 4, pos := "law.go:66", after := #[{ on := 8, ground := .data }, { on := 14, ground := .data }], guard := none }) rfl (by kernel_rfl) (by kernel_rfl) (by kernel_rfl) (YieldsOn.pure (by rfl) (by intro x; first | (go_simp; first | done | rfl) | (unfold execOp; simp only [Sem.run_bind]; go_simp; first | done | rfl))) (by exact fun _ _ _ h => h) ?_
    try simp only [Act.put, List.setIfInBounds_toArray, List.set_cons_zero, List.set_cons_succ]
    refine wpAnyM_take (i := 16) (oi := { dst := some 6, op := .assign (.tmp 34), type := 4, pos := "law.go:66", after := #[{ on := 15, ground := .data }, { on := 13, ground := .chain }, { on := 0, ground := .phase }, { on := 1, ground := .phase }, { on := 2, ground := .phase }, { on := 3, ground := .phase }, { on := 4, ground := .phase }, { on := 5, ground := .phase }, { on := 6, ground := .phase }, { on := 7, ground := .phase }, { on := 8, ground := .phase }, { on := 9, ground := .phase }, { on := 10, ground := .phase }, { on := 11, ground := .phase }, { on := 12, ground := .phase }, { on := 13, ground := .phase }, { on := 14, ground := .phase }, { on := 15, ground := .phase }], guard := none }) rfl (by kernel_rfl) (by kernel_rfl) (by kernel_rfl) (YieldsOn.pure (by rfl) (by intro x; first | (go_simp; first | done | rfl) | (unfold execOp; simp only [Sem.run_bind]; go_simp; first | done | rfl))) (by exact fun _ _ _ h => h) ?_
    try simp only [Act.put, List.setIfInBounds_toArray, List.set_cons_zero, List.set_cons_succ]
    refine wpAnyM_done (by kernel_rfl) (fun x9 hx9 => ?_) _
    go_wp2_with fail
    go_ret
    exact ⟨rfl, (HOd.out.then hx9).below (by simp) (Nat.le_refl _)⟩
  | true =>
    have HD32 : Hid ((idD s p ds).length = 32) := Lib.hid (Sha.sum_length _)
    obtain ⟨D, hDV, hDS, hDI, hD1⟩ := store_facts (idD s p ds) HD32.out
    have HDV := Lib.hid hDV; have HDI := Lib.hid hDI; have HD1' := Lib.hid hD1; have HDS := Lib.hid hDS
    clear hDV hDS hDI hD1
    obtain ⟨d, hd⟩ : ∃ d, idD s p ds = d := ⟨_, rfl⟩
    go_wp2_with (refine wpList_load_row rfl 35 _ rfl q rfl _ _ _ _ HM2.out Tryd.underlying35 rfl (by kernel_rfl) ?_)
    refine (modelof_c wl s p a n cap).mono ?_
    rintro e w3 ⟨rfl, ho3⟩
    have HO3 := Lib.hid (HO2.out.then ho3); have HM3 := Lib.hid (HM2.out.only ho3 (by simp)); have HD3 := Lib.hid (ho3.heap HD2.out (by simp))
    clear ho3 HO2 HM2 HD2 c0 c1 c2 cf
    go_wp2_with fail
    refine (rid_c w3 s p _ ds (HV.out.only HO3.out (by simp)) HS.out HP.out (by rw [HN.out]; omega)).mono ?_
    rintro e w4 ⟨rfl, ho4⟩
    rw [show Sha.sum (idB s p ds) = idD s p ds from rfl, HDV.out]
    have HO4 := Lib.hid (HO3.out.then ho4); have HM4 := Lib.hid (HM3.out.only ho4 (by simp)); have HD4 := Lib.hid (ho4.heap HD3.out (by simp))
    clear ho4 HO3 HM3 HD3
    go_upto_region 8 with (refine wpList_store_row rfl 25 _ _ rfl (q + 1) D rfl rfl _ _ HD4.out HDI.out (by rw [HDS.out, ← Value.agg.inj HAV.out]; simp [HLL.out]) HD1'.out ?_)
    --@3
    have HD2 : Hid ((w4.setRow (q + 1) D).heap[q + 1]? = some (.cells D 25 (0, 0))) := Lib.hid (setRow_heap _ _ _ D _ _ HD4.out)
    have HM2 : Hid (M3 (w4.setRow (q + 1) D) q 35 s p (.slice a n cap)) := Lib.hid (by unfold M3; rw [setRow_other _ _ _ _ (by omega)]; exact HM4.out)
    have HO2 : Hid (Only [] w (w4.setRow (q + 1) D)) := Lib.hid (HO4.out.setRow (.inr (by have := HWQ.out; omega)) D)
    generalize World.setRow _ _ _ = wl at *
    clear HO4 HM4 HD4 HDS HD1'
    rw [hd] at HD32 HDV
    clear hd
    refine wp_region_M [] (by kernel_rfl) ?_
    change wpAnyM _ _ _ _ _ _ _ _ (World.drew _)
    have HOd := Lib.hid HO2.out.drew; have HM1 := Lib.hid (HM2.out.only (Only.refl [] wl).drew (by simp)); have HD1 := Lib.hid ((Only.refl [] wl).drew.heap HD2.out (by simp))
    generalize World.drew wl = wd at *
    clear HO2 HM2 HD2
    obtain ⟨I, hI, -, -, -⟩ := store_facts (idD s p ds) (Sha.sum_length _)
    have HIV := Lib.hid hI
    obtain ⟨C, hC⟩ : ∃ C, chk s p ds d = C := ⟨_, rfl⟩
    have HC := Lib.hid hC
    clear hI hC
    have HC1 : Hid (∀ x : World, Only [] wd x → Calls Tryd.prog 22 #[.agg #[.int .u64 (s : Nat), .int .u32 (p : Nat), .slice a n cap], .agg D] x fun e w' => e = .returned (.int .i64 (C : Nat)) ∧ Only [] x w') := Lib.hid (fun x ho => by
      have how := HOd.out.then ho
      have h := check_c x s p _ ds d (HV.out.only how (by simp)) HD32.out HS.out HP.out (by rw [HN.out]; omega) (HT.out.only how (by simp)) (HTZ.out.only how (by simp))
      rw [HDV.out, HC.out] at h
      exact h)
    have HC2 : Hid (∀ x : World, Only [] wd x → Calls Tryd.prog 23 #[.agg #[.int .u64 (s : Nat), .int .u32 (p : Nat), .slice a n cap]] x fun e w' => e = .returned (.agg #[.int .u64 (s : Nat), .int .u32 (p : Nat), .slice a n cap]) ∧ Only [] x w') := Lib.hid (fun x ho => by
      have how := HOd.out.then ho
      have h := modelof_c x s p a n cap
      exact h)
    have HC3 : Hid (∀ x : World, Only [] wd x → Calls Tryd.prog 24 #[.agg #[.int .u64 (s : Nat), .int .u32 (p : Nat), .slice a n cap], .agg D] x fun e w' => e = .returned (.int .i64 (C : Nat)) ∧ Only [] x w') := Lib.hid (fun x ho => by
      have how := HOd.out.then ho
      have h := rcheck_c x s p _ ds d (HV.out.only how (by simp)) HD32.out HS.out HP.out (by rw [HN.out]; omega)
      rw [HDV.out, HC.out] at h
      exact h)
    have HC4 : Hid (∀ x : World, Only [] wd x → Calls Tryd.prog 20 #[.agg #[.int .u64 (s : Nat), .int .u32 (p : Nat), .slice a n cap]] x fun e w' => e = .returned (.agg I) ∧ Only [] x w') := Lib.hid (fun x ho => by
      have how := HOd.out.then ho
      have h := id_c x s p _ ds (HV.out.only how (by simp)) HS.out HP.out (by rw [HN.out]; omega) (HT.out.only how (by simp)) (HTZ.out.only how (by simp))
      rw [show Sha.sum (idB s p ds) = idD s p ds from rfl, HIV.out] at h
      exact h)
    have HC5 : Hid (∀ x : World, Only [] wd x → Calls Tryd.prog 21 #[.agg #[.int .u64 (s : Nat), .int .u32 (p : Nat), .slice a n cap]] x fun e w' => e = .returned (.agg I) ∧ Only [] x w') := Lib.hid (fun x ho => by
      have how := HOd.out.then ho
      have h := rid_c x s p _ ds (HV.out.only how (by simp)) HS.out HP.out (by rw [HN.out]; omega)
      rw [show Sha.sum (idB s p ds) = idD s p ds from rfl, HIV.out] at h
      exact h)
    have hqI : ∀ W, (binOp .eql 25 (.agg I) (.agg I)).run Tryd.prog W = .ok (.bool true) W := fun W => by
      have h := eql_dv (idD s p ds) (idD s p ds) (Sha.sum_length _) (Sha.sum_length _) W
      rw [HIV.out, beq_self_eq_true] at h
      exact h
    have hgI : ∀ ox oy W, (eqGuard .eql 25 ox oy (.agg I) (.agg I)).run Tryd.prog W = .ok () W := fun ox oy W => by
      have h := guard_dv .eql (idD s p ds) (idD s p ds) ox oy W
      rw [HIV.out] at h
      exact h
    refine wpAnyM_take (i := 0) (oi := { dst := some 19, op := .load 35 (.tmp 3), type := 35, pos := "law.go:66", after := #[], guard := none }) rfl (by kernel_rfl) (by kernel_rfl) (by kernel_rfl) (YieldsOn.row (by rfl) 35 (.tmp 3) rfl q (by rfl) _ _ _ _ HM1.out (by simp) Tryd.underlying35 rfl (by kernel_rfl)) (by exact fun _ _ _ h => h) ?_
    try simp only [Act.put, List.setIfInBounds_toArray, List.set_cons_zero, List.set_cons_succ]
    refine wpAnyM_take (i := 1) (oi := { dst := some 20, op := .load 25 (.tmp 4), type := 25, pos := "law.go:66", after := #[], guard := none }) rfl (by kernel_rfl) (by kernel_rfl) (by kernel_rfl) (YieldsOn.row (by rfl) 25 (.tmp 4) rfl (q + 1) (by rfl) _ _ _ _ HD1.out (by simp) Tryd.underlying25 rfl HDI.out) (by exact fun _ _ _ h => h) ?_
    try simp only [Act.put, List.setIfInBounds_toArray, List.set_cons_zero, List.set_cons_succ]
    refine wpAnyM_take (i := 2) (oi := { dst := some 21, op := .call { callee := Callee.value (.func 22), args := #[.tmp 19, .tmp 20], argTypes := #[35, 25] }, type := 36, pos := "law.go:66", after := #[{ on := 0, ground := .data }, { on := 1, ground := .data }], guard := none }) rfl (by kernel_rfl) (by kernel_rfl) (by kernel_rfl) (YieldsOn.call (by rfl) (by rfl) (by intro x; go_simp; first | done | rfl | exact ⟨rfl, rfl⟩) (fun x => HC1.out x.at' x.only)) (by exact fun _ _ _ h => h) ?_
    try simp only [Act.put, List.setIfInBounds_toArray, List.set_cons_zero, List.set_cons_succ]
    refine wpAnyM_take (i := 3) (oi := { dst := some 22, op := .load 35 (.tmp 3), type := 35, pos := "law.go:66", after := #[], guard := none }) rfl (by kernel_rfl) (by kernel_rfl) (by kernel_rfl) (YieldsOn.row (by rfl) 35 (.tmp 3) rfl q (by rfl) _ _ _ _ HM1.out (by simp) Tryd.underlying35 rfl (by kernel_rfl)) (by exact fun _ _ _ h => h) ?_
    try simp only [Act.put, List.setIfInBounds_toArray, List.set_cons_zero, List.set_cons_succ]
    refine wpAnyM_take (i := 4) (oi := { dst := some 23, op := .call { callee := Callee.value (.func 23), args := #[.tmp 22], argTypes := #[35] }, type := 39, pos := "law.go:66", after := #[{ on := 3, ground := .data }, { on := 2, ground := .chain }], guard := none }) rfl (by kernel_rfl) (by kernel_rfl) (by kernel_rfl) (YieldsOn.call (by rfl) (by rfl) (by intro x; go_simp; first | done | rfl | exact ⟨rfl, rfl⟩) (fun x => HC2.out x.at' x.only)) (by exact fun _ _ _ h => h) ?_
    try simp only [Act.put, List.setIfInBounds_toArray, List.set_cons_zero, List.set_cons_succ]
    refine wpAnyM_take (i := 5) (oi := { dst := some 24, op := .load 25 (.tmp 4), type := 25, pos := "law.go:66", after := #[], guard := none }) rfl (by kernel_rfl) (by kernel_rfl) (by kernel_rfl) (YieldsOn.row (by rfl) 25 (.tmp 4) rfl (q + 1) (by rfl) _ _ _ _ HD1.out (by simp) Tryd.underlying25 rfl HDI.out) (by exact fun _ _ _ h => h) ?_
    try simp only [Act.put, List.setIfInBounds_toArray, List.set_cons_zero, List.set_cons_succ]
    refine wpAnyM_take (i := 6) (oi := { dst := some 25, op := .call { callee := Callee.value (.func 24), args := #[.tmp 23, .tmp 24], argTypes := #[39, 25] }, type := 36, pos := "law.go:66", after := #[{ on := 4, ground := .data }, { on := 5, ground := .data }, { on := 4, ground := .chain }], guard := none }) rfl (by kernel_rfl) (by kernel_rfl) (by kernel_rfl) (YieldsOn.call (by rfl) (by rfl) (by intro x; go_simp; first | done | rfl | exact ⟨rfl, rfl⟩) (fun x => HC3.out x.at' x.only)) (by exact fun _ _ _ h => h) ?_
    try simp only [Act.put, List.setIfInBounds_toArray, List.set_cons_zero, List.set_cons_succ]
    refine wpAnyM_take (i := 7) (oi := { dst := some 26, op := .binOp BinOp.eql 36 (.tmp 21) (.tmp 25) 36, type := 4, pos := "law.go:66", after := #[{ on := 2, ground := .data }, { on := 6, ground := .data }], guard := none }) rfl (by kernel_rfl) (by kernel_rfl) (by kernel_rfl) (YieldsOn.value (by rfl) (by rfl) (by intro x; first | (go_simp; first | done | rfl) | (unfold execOp; simp only [Sem.run_bind]; go_simp; first | done | rfl))) (by exact fun _ _ _ h => h) ?_
    try simp only [Act.put, List.setIfInBounds_toArray, List.set_cons_zero, List.set_cons_succ]
    refine wpAnyM_take (i := 8) (oi := { dst := some 27, op := .move (.tmp 26), type := 4, pos := "law.go:66", after := #[{ on := 7, ground := .data }, { on := 6, ground := .chain }], guard := none }) rfl (by kernel_rfl) (by kernel_rfl) (by kernel_rfl) (YieldsOn.pure (by rfl) (by intro x; first | (go_simp; first | done | rfl) | (unfold execOp; simp only [Sem.run_bind]; go_simp; first | done | rfl))) (by exact fun _ _ _ h => h) ?_
    try simp only [Act.put, List.setIfInBounds_toArray, List.set_cons_zero, List.set_cons_succ]
    refine wpAnyM_take (i := 9) (oi := { dst := some 28, op := .load 35 (.tmp 3), type := 35, pos := "law.go:66", after := #[{ on := 8, ground := .guard }], guard := some (8, true) }) rfl (by kernel_rfl) (by kernel_rfl) (by kernel_rfl) (YieldsOn.row (by rfl) 35 (.tmp 3) rfl q (by rfl) _ _ _ _ HM1.out (by simp) Tryd.underlying35 rfl (by kernel_rfl)) (by exact fun _ _ _ h => h) ?_
    try simp only [Act.put, List.setIfInBounds_toArray, List.set_cons_zero, List.set_cons_succ]
    refine wpAnyM_take (i := 10) (oi := { dst := some 29, op := .call { callee := Callee.value (.func 20), args := #[.tmp 28], argTypes := #[35] }, type := 25, pos := "law.go:66", after := #[{ on := 9, ground := .data }, { on := 8, ground := .chain }, { on := 8, ground := .guard }], guard := some (8, true) }) rfl (by kernel_rfl) (by kernel_rfl) (by kernel_rfl) (YieldsOn.call (by rfl) (by rfl) (by intro x; go_simp; first | done | rfl | exact ⟨rfl, rfl⟩) (fun x => HC4.out x.at' x.only)) (by exact fun _ _ _ h => h) ?_
    try simp only [Act.put, List.setIfInBounds_toArray, List.set_cons_zero, List.set_cons_succ]
    refine wpAnyM_take (i := 11) (oi := { dst := some 30, op := .load 35 (.tmp 3), type := 35, pos := "law.go:66", after := #[{ on := 8, ground := .guard }], guard := some (8, true) }) rfl (by kernel_rfl) (by kernel_rfl) (by kernel_rfl) (YieldsOn.row (by rfl) 35 (.tmp 3) rfl q (by rfl) _ _ _ _ HM1.out (by simp) Tryd.underlying35 rfl (by kernel_rfl)) (by exact fun _ _ _ h => h) ?_
    try simp only [Act.put, List.setIfInBounds_toArray, List.set_cons_zero, List.set_cons_succ]
    refine wpAnyM_take (i := 12) (oi := { dst := some 31, op := .call { callee := Callee.value (.func 23), args := #[.tmp 30], argTypes := #[35] }, type := 39, pos := "law.go:66", after := #[{ on := 11, ground := .data }, { on := 10, ground := .chain }, { on := 8, ground := .guard }], guard := some (8, true) }) rfl (by kernel_rfl) (by kernel_rfl) (by kernel_rfl) (YieldsOn.call (by rfl) (by rfl) (by intro x; go_simp; first | done | rfl | exact ⟨rfl, rfl⟩) (fun x => HC2.out x.at' x.only)) (by exact fun _ _ _ h => h) ?_
    try simp only [Act.put, List.setIfInBounds_toArray, List.set_cons_zero, List.set_cons_succ]
    refine wpAnyM_take (i := 13) (oi := { dst := some 32, op := .call { callee := Callee.value (.func 21), args := #[.tmp 31], argTypes := #[39] }, type := 25, pos := "law.go:66", after := #[{ on := 12, ground := .data }, { on := 12, ground := .chain }, { on := 8, ground := .guard }], guard := some (8, true) }) rfl (by kernel_rfl) (by kernel_rfl) (by kernel_rfl) (YieldsOn.call (by rfl) (by rfl) (by intro x; go_simp; first | done | rfl | exact ⟨rfl, rfl⟩) (fun x => HC5.out x.at' x.only)) (by exact fun _ _ _ h => h) ?_
    try simp only [Act.put, List.setIfInBounds_toArray, List.set_cons_zero, List.set_cons_succ]
    refine wpAnyM_take (i := 14) (oi := { dst := some 33, op := .binOp BinOp.eql 25 (.tmp 29) (.tmp 32) 25, type := 4, pos := "law.go:66", after := #[{ on := 10, ground := .data }, { on := 13, ground := .data }, { on := 8, ground := .guard }], guard := some (8, true) }) rfl (by kernel_rfl) (by kernel_rfl) (by kernel_rfl) (YieldsOn.value (by rfl) (by rfl) (by intro x; first | (go_simp; first | done | rfl) | (unfold execOp; simp only [Sem.run_bind]; go_simp; first | done | rfl))) (by exact fun _ _ _ h => h) ?_
    try simp only [Act.put, List.setIfInBounds_toArray, List.set_cons_zero, List.set_cons_succ]
    refine wpAnyM_take (i := 15) (oi := { dst := some 34, op := .pick (.tmp 27) (.tmp 33) (.const (Value.bool false)), type := 4, pos := "law.go:66", after := #[{ on := 8, ground := .data }, { on := 14, ground := .data }], guard := none }) rfl (by kernel_rfl) (by kernel_rfl) (by kernel_rfl) (YieldsOn.pure (by rfl) (by intro x; first | (go_simp; first | done | rfl) | (unfold execOp; simp only [Sem.run_bind]; go_simp; first | done | rfl))) (by exact fun _ _ _ h => h) ?_
    try simp only [Act.put, List.setIfInBounds_toArray, List.set_cons_zero, List.set_cons_succ]
    refine wpAnyM_take (i := 16) (oi := { dst := some 6, op := .assign (.tmp 34), type := 4, pos := "law.go:66", after := #[{ on := 15, ground := .data }, { on := 13, ground := .chain }, { on := 0, ground := .phase }, { on := 1, ground := .phase }, { on := 2, ground := .phase }, { on := 3, ground := .phase }, { on := 4, ground := .phase }, { on := 5, ground := .phase }, { on := 6, ground := .phase }, { on := 7, ground := .phase }, { on := 8, ground := .phase }, { on := 9, ground := .phase }, { on := 10, ground := .phase }, { on := 11, ground := .phase }, { on := 12, ground := .phase }, { on := 13, ground := .phase }, { on := 14, ground := .phase }, { on := 15, ground := .phase }], guard := none }) rfl (by kernel_rfl) (by kernel_rfl) (by kernel_rfl) (YieldsOn.pure (by rfl) (by intro x; first | (go_simp; first | done | rfl) | (unfold execOp; simp only [Sem.run_bind]; go_simp; first | done | rfl))) (by exact fun _ _ _ h => h) ?_
    try simp only [Act.put, List.setIfInBounds_toArray, List.set_cons_zero, List.set_cons_succ]
    refine wpAnyM_done (by kernel_rfl) (fun x9 hx9 => ?_) _
    go_wp2_with fail
    go_ret
    exact ⟨rfl, (HOd.out.then hx9).below (by simp) (Nat.le_refl _)⟩
end Go.Proofs.YtpgcfpfmicghnaaDoor.mrk
