/-
  MerkleRoots, walked.
-/
import Derived.Test.YtpgcfpfmicghnaaDoorMrkAwake
import Derived.Test.YtpgcfpfmicghnaaDoorMrkRCheck
import Derived.Test.YtpgcfpfmicghnaaDoorMrkROf
set_option linter.unusedVariables false
set_option linter.unusedSimpArgs false
namespace Go.Proofs.YtpgcfpfmicghnaaDoor.mrk
open Go Go.RowKit Go.Lm Go.ChangeShapes Go.WideShapes Go.Proofs.YtpgcfpfmicghnaaDoor.sha

set_option maxRecDepth 100000 in
set_option maxHeartbeats 8000000 in
theorem roots_c (w : World) (hT : Tab w) (hZ : Tz w) (v u : Value) (ds : List (List UInt8)) (b x y : List UInt8) (hv : DS w v ds) (hu : BS w u b) (hx : x.length = 32) (hy : y.length = 32) :
    Calls Tryd.prog 3 #[v, u, dv x, dv y] w fun e w' => e = .returned (.bool true) ∧ Below w.heap.size w w' := by
  have HT := Lib.hid hT; have HTZ := Lib.hid hZ; have HV := Lib.hid hv; have HU := Lib.hid hu; have HX := Lib.hid hx; have HY := Lib.hid hy
  obtain ⟨A, hA, hAs, hAi, -⟩ := store_facts x hx
  obtain ⟨C, hC, hCs, hCi, -⟩ := store_facts y hy
  obtain ⟨a, cap, rfl, k1, k2, -⟩ := hv
  obtain ⟨a2, cap2, rfl, j1, j2, -⟩ := hu
  unfold maxLen at k2 j2
  have hrl := root_length ds HV.out.d32
  obtain ⟨n, hn⟩ : ∃ n, ds.length = n := ⟨_, rfl⟩
  obtain ⟨m, hm⟩ : ∃ m, b.length = m := ⟨_, rfl⟩
  rw [hn] at k1 HV ⊢
  rw [hm] at j1 HU ⊢
  have HN := Lib.hid hn; have HM := Lib.hid hm
  rw [hA, hC]
  have HAV := Lib.hid hA; have HAI := Lib.hid hAi; have HCV := Lib.hid hC; have HBI := Lib.hid hCi; have HRL := Lib.hid hrl
  clear hT hZ hx hy hA hAs hAi hC hCs hCi hn hm hrl
  go_enter Tryd.func3, Tryd.ntmps3
  go_upto_region 1 with fail
  generalize hg : World.alloc _ _ = w1
  have h2 := two w (.cells A 25 (0, 0)) (.cells C 25 (0, 0))
  have he : w1 = (w.alloc (.cells A 25 (0, 0))).alloc (.cells C 25 (0, 0)) := hg.symm.trans rfl
  rw [← he] at h2
  have HO1 : Hid (Only [] w w1) := Lib.hid (by rw [he]; exact ((Only.refl [] w).alloc _).alloc _)
  have HA0 := Lib.hid h2.1; have HB0 := Lib.hid h2.2
  clear hg he h2
  generalize w.heap.size = q at HA0 HB0 ⊢
  --@1
  go_wp2_with fail
  refine (awake_c w1 (HT.out.only HO1.out (by simp)) (HTZ.out.only HO1.out (by simp))).mono ?_
  rintro e w2 ⟨rfl, ho2⟩
  have HO2 := Lib.hid (HO1.out.then ho2); have HA2 := Lib.hid (ho2.heap HA0.out (by simp)); have HB2 := Lib.hid (ho2.heap HB0.out (by simp))
  clear ho2 HO1 HA0 HB0
  by_cases h1 : 200 < n
  · have h1I : (200 : Int) < (n : Int) := by omega
    go_wp2_with fail
    go_ret
    exact ⟨rfl, HO2.out.below (by simp) (Nat.le_refl _)⟩
  have h1I : ¬ (200 : Int) < (n : Int) := by omega
  by_cases h3 : 500 < m
  · have h3I : (500 : Int) < (m : Int) := by omega
    go_wp2_with fail
    go_ret
    exact ⟨rfl, HO2.out.below (by simp) (Nat.le_refl _)⟩
  · have h3I : ¬ (500 : Int) < (m : Int) := by omega
    go_upto_region 6 with fail
    --@2
    refine wp_region_M [] (by kernel_rfl) ?_
    change wpAnyM _ _ _ _ _ _ _ _ (World.drew _)
    have HOd := Lib.hid HO2.out.drew; have HA1 := Lib.hid ((Only.refl [] w2).drew.heap HA2.out (by simp)); have HB1 := Lib.hid ((Only.refl [] w2).drew.heap HB2.out (by simp))
    generalize World.drew w2 = wd at *
    clear HO2 HA2 HB2
    obtain ⟨R, hR, -, -, -⟩ := store_facts (rootD ds) HRL.out
    obtain ⟨L, hL, -, -, -⟩ := store_facts (leafD b) (Sha.sum_length _)
    obtain ⟨M, hM, -, -, -⟩ := store_facts (nodeD x y) (Sha.sum_length _)
    have HR := Lib.hid hR; have HLV := Lib.hid hL; have HMV := Lib.hid hM
    clear hR hL hM
    have HC1 : Hid (∀ x : World, Only [] wd x → Calls Tryd.prog 11 #[.slice a n cap] x fun e w' => e = .returned (.agg R) ∧ Only [] x w') := Lib.hid (fun x ho => by
      have how := HOd.out.then ho
      have h := root_c x _ ds (HV.out.only how (by simp)) (by rw [HN.out]; omega) (HT.out.only how (by simp)) (HTZ.out.only how (by simp))
      rw [HR.out] at h
      exact h)
    have HC2 : Hid (∀ x : World, Only [] wd x → Calls Tryd.prog 12 #[.slice a n cap] x fun e w' => e = .returned (.agg R) ∧ Only [] x w') := Lib.hid (fun x ho => by
      have how := HOd.out.then ho
      have h := rroot_c x _ ds (HV.out.only how (by simp)) (by rw [HN.out]; omega)
      rw [HR.out] at h
      exact h)
    have HC3 : Hid (∀ x : World, Only [] wd x → Calls Tryd.prog 13 #[.slice a2 m cap2] x fun e w' => e = .returned (.agg L) ∧ Only [] x w') := Lib.hid (fun x ho => by
      have how := HOd.out.then ho
      have h := leaf_c x _ b (HU.out.only how (by simp)) (by rw [HM.out]; omega) (HT.out.only how (by simp))
      rw [HLV.out] at h
      exact h)
    have HC4 : Hid (∀ x : World, Only [] wd x → Calls Tryd.prog 14 #[.string ⟨b.toArray⟩] x fun e w' => e = .returned (.agg L) ∧ Only [] x w') := Lib.hid (fun x ho => by
      have how := HOd.out.then ho
      have h := rleaf_c x ⟨b.toArray⟩ (by show b.toArray.size ≤ 100000; simp [HM.out]; omega)
      rw [show (⟨b.toArray⟩ : ByteArray).data.toList = b from rfl, HLV.out] at h
      exact h)
    have HC5 : Hid (∀ x : World, Only [] wd x → Calls Tryd.prog 15 #[.agg A, .agg C] x fun e w' => e = .returned (.agg M) ∧ Only [] x w') := Lib.hid (fun x ho => by
      have how := HOd.out.then ho
      have h := node_c x _ _ HX.out HY.out (HT.out.only how (by simp))
      rw [HAV.out, HCV.out, HMV.out] at h
      exact h)
    have HC6 : Hid (∀ x : World, Only [] wd x → Calls Tryd.prog 16 #[.agg A, .agg C] x fun e w' => e = .returned (.agg M) ∧ Only [] x w') := Lib.hid (fun x ho => by
      have how := HOd.out.then ho
      have h := rnode_c x _ _ HX.out HY.out
      rw [HAV.out, HCV.out, HMV.out] at h
      exact h)
    have hstr : ∀ x : Later [] wd, (convert 23 9 (.slice a2 m cap2)).run Tryd.prog x.at' = .ok (.string ⟨b.toArray⟩) x.at' := fun x => run_string_of_bytes (P := Tryd.prog) Tryd.underlying23 Tryd.underlying5 Tryd.underlying9 (HU.out.only (HOd.out.then x.only) (by simp))
    have hqR : ∀ W, (binOp .eql 25 (.agg R) (.agg R)).run Tryd.prog W = .ok (.bool true) W := fun W => by
      have h := eql_dv (rootD ds) (rootD ds) HRL.out HRL.out W
      rw [HR.out, beq_self_eq_true] at h
      exact h
    have hgR : ∀ ox oy W, (eqGuard .eql 25 ox oy (.agg R) (.agg R)).run Tryd.prog W = .ok () W := fun ox oy W => by
      have h := guard_dv .eql (rootD ds) (rootD ds) ox oy W
      rw [HR.out] at h
      exact h
    have hqL : ∀ W, (binOp .eql 25 (.agg L) (.agg L)).run Tryd.prog W = .ok (.bool true) W := fun W => by
      have h := eql_dv (leafD b) (leafD b) (Sha.sum_length _) (Sha.sum_length _) W
      rw [HLV.out, beq_self_eq_true] at h
      exact h
    have hgL : ∀ ox oy W, (eqGuard .eql 25 ox oy (.agg L) (.agg L)).run Tryd.prog W = .ok () W := fun ox oy W => by
      have h := guard_dv .eql (leafD b) (leafD b) ox oy W
      rw [HLV.out] at h
      exact h
    have hqM : ∀ W, (binOp .eql 25 (.agg M) (.agg M)).run Tryd.prog W = .ok (.bool true) W := fun W => by
      have h := eql_dv (nodeD x y) (nodeD x y) (Sha.sum_length _) (Sha.sum_length _) W
      rw [HMV.out, beq_self_eq_true] at h
      exact h
    have hgM : ∀ ox oy W, (eqGuard .eql 25 ox oy (.agg M) (.agg M)).run Tryd.prog W = .ok () W := fun ox oy W => by
      have h := guard_dv .eql (nodeD x y) (nodeD x y) ox oy W
      rw [HMV.out] at h
      exact h
    obtain ⟨SB, hSB⟩ : ∃ SB : ByteArray, (⟨b.toArray⟩ : ByteArray) = SB := ⟨_, rfl⟩
    rw [hSB] at hstr HC4
    clear hSB
    --@3
    refine wpAnyM_take (i := 0) (oi := { dst := some 21, op := .move (.tmp 0), type := 22, pos := "law.go:34", after := #[], guard := none }) rfl (by kernel_rfl) (by kernel_rfl) (by kernel_rfl) (YieldsOn.pure (by rfl) (by intro x; first | (go_simp; first | done | rfl) | (unfold execOp; simp only [Sem.run_bind]; go_simp; first | done | rfl))) (by exact fun _ _ _ h => h) ?_
    try simp only [Act.put, List.setIfInBounds_toArray, List.set_cons_zero, List.set_cons_succ]
    refine wpAnyM_take (i := 1) (oi := { dst := some 22, op := .call { callee := Callee.value (.func 11), args := #[.tmp 21], argTypes := #[22] }, type := 25, pos := "law.go:34", after := #[{ on := 0, ground := .data }], guard := none }) rfl (by kernel_rfl) (by kernel_rfl) (by kernel_rfl) (YieldsOn.call (by rfl) (by rfl) (by intro x; go_simp; first | done | rfl | exact ⟨rfl, rfl⟩) (fun x => HC1.out x.at' x.only)) (by exact fun _ _ _ h => h) ?_
    try simp only [Act.put, List.setIfInBounds_toArray, List.set_cons_zero, List.set_cons_succ]
    refine wpAnyM_take (i := 2) (oi := { dst := some 23, op := .move (.tmp 0), type := 22, pos := "law.go:34", after := #[], guard := none }) rfl (by kernel_rfl) (by kernel_rfl) (by kernel_rfl) (YieldsOn.pure (by rfl) (by intro x; first | (go_simp; first | done | rfl) | (unfold execOp; simp only [Sem.run_bind]; go_simp; first | done | rfl))) (by exact fun _ _ _ h => h) ?_
    try simp only [Act.put, List.setIfInBounds_toArray, List.set_cons_zero, List.set_cons_succ]
    refine wpAnyM_take (i := 3) (oi := { dst := some 24, op := .call { callee := Callee.value (.func 12), args := #[.tmp 23], argTypes := #[22] }, type := 25, pos := "law.go:34", after := #[{ on := 2, ground := .data }, { on := 1, ground := .chain }], guard := none }) rfl (by kernel_rfl) (by kernel_rfl) (by kernel_rfl) (YieldsOn.call (by rfl) (by rfl) (by intro x; go_simp; first | done | rfl | exact ⟨rfl, rfl⟩) (fun x => HC2.out x.at' x.only)) (by exact fun _ _ _ h => h) ?_
    try simp only [Act.put, List.setIfInBounds_toArray, List.set_cons_zero, List.set_cons_succ]
    refine wpAnyM_take (i := 4) (oi := { dst := some 25, op := .binOp BinOp.eql 25 (.tmp 22) (.tmp 24) 25, type := 4, pos := "law.go:34", after := #[{ on := 1, ground := .data }, { on := 3, ground := .data }], guard := none }) rfl (by kernel_rfl) (by kernel_rfl) (by kernel_rfl) (YieldsOn.value (by rfl) (by rfl) (by intro x; first | (go_simp; first | done | rfl) | (unfold execOp; simp only [Sem.run_bind]; go_simp; first | done | rfl))) (by exact fun _ _ _ h => h) ?_
    try simp only [Act.put, List.setIfInBounds_toArray, List.set_cons_zero, List.set_cons_succ]
    refine wpAnyM_take (i := 5) (oi := { dst := some 26, op := .move (.tmp 25), type := 4, pos := "law.go:34", after := #[{ on := 4, ground := .data }, { on := 3, ground := .chain }], guard := none }) rfl (by kernel_rfl) (by kernel_rfl) (by kernel_rfl) (YieldsOn.pure (by rfl) (by intro x; first | (go_simp; first | done | rfl) | (unfold execOp; simp only [Sem.run_bind]; go_simp; first | done | rfl))) (by exact fun _ _ _ h => h) ?_
    try simp only [Act.put, List.setIfInBounds_toArray, List.set_cons_zero, List.set_cons_succ]
    --@r5
    refine wpAnyM_take (i := 6) (oi := { dst := some 27, op := .move (.tmp 1), type := 23, pos := "law.go:34", after := #[{ on := 5, ground := .guard }], guard := some (5, true) }) rfl (by kernel_rfl) (by kernel_rfl) (by kernel_rfl) (YieldsOn.pure (by rfl) (by intro x; first | (go_simp; first | done | rfl) | (unfold execOp; simp only [Sem.run_bind]; go_simp; first | done | rfl))) (by exact fun _ _ _ h => h) ?_
    try simp only [Act.put, List.setIfInBounds_toArray, List.set_cons_zero, List.set_cons_succ]
    refine wpAnyM_take (i := 7) (oi := { dst := some 28, op := .call { callee := Callee.value (.func 13), args := #[.tmp 27], argTypes := #[23] }, type := 25, pos := "law.go:34", after := #[{ on := 6, ground := .data }, { on := 5, ground := .chain }, { on := 5, ground := .guard }], guard := some (5, true) }) rfl (by kernel_rfl) (by kernel_rfl) (by kernel_rfl) (YieldsOn.call (by rfl) (by rfl) (by intro x; go_simp; first | done | rfl | exact ⟨rfl, rfl⟩) (fun x => HC3.out x.at' x.only)) (by exact fun _ _ _ h => h) ?_
    try simp only [Act.put, List.setIfInBounds_toArray, List.set_cons_zero, List.set_cons_succ]
    refine wpAnyM_take (i := 8) (oi := { dst := some 29, op := .move (.tmp 1), type := 23, pos := "law.go:34", after := #[{ on := 5, ground := .guard }], guard := some (5, true) }) rfl (by kernel_rfl) (by kernel_rfl) (by kernel_rfl) (YieldsOn.pure (by rfl) (by intro x; first | (go_simp; first | done | rfl) | (unfold execOp; simp only [Sem.run_bind]; go_simp; first | done | rfl))) (by exact fun _ _ _ h => h) ?_
    try simp only [Act.put, List.setIfInBounds_toArray, List.set_cons_zero, List.set_cons_succ]
    refine wpAnyM_take (i := 9) (oi := { dst := some 30, op := .convert 23 9 (.tmp 29), type := 9, pos := "law.go:34", after := #[{ on := 8, ground := .data }, { on := 5, ground := .guard }], guard := some (5, true) }) rfl (by kernel_rfl) (by kernel_rfl) (by kernel_rfl) (YieldsOn.value (by rfl) (by rfl) (by intro x; first | (go_simp; first | done | rfl) | (unfold execOp; simp only [Sem.run_bind]; go_simp; first | done | rfl))) (by exact fun _ _ _ h => h) ?_
    try simp only [Act.put, List.setIfInBounds_toArray, List.set_cons_zero, List.set_cons_succ]
    --@r9
    refine wpAnyM_take (i := 10) (oi := { dst := some 31, op := .call { callee := Callee.value (.func 14), args := #[.tmp 30], argTypes := #[9] }, type := 25, pos := "law.go:34", after := #[{ on := 9, ground := .data }, { on := 7, ground := .chain }, { on := 5, ground := .guard }], guard := some (5, true) }) rfl (by kernel_rfl) (by kernel_rfl) (by kernel_rfl) (YieldsOn.call (by rfl) (by rfl) (by intro x; go_simp; first | done | rfl | exact ⟨rfl, rfl⟩) (fun x => HC4.out x.at' x.only)) (by exact fun _ _ _ h => h) ?_
    try simp only [Act.put, List.setIfInBounds_toArray, List.set_cons_zero, List.set_cons_succ]
    refine wpAnyM_take (i := 11) (oi := { dst := some 32, op := .binOp BinOp.eql 25 (.tmp 28) (.tmp 31) 25, type := 4, pos := "law.go:34", after := #[{ on := 7, ground := .data }, { on := 10, ground := .data }, { on := 5, ground := .guard }], guard := some (5, true) }) rfl (by kernel_rfl) (by kernel_rfl) (by kernel_rfl) (YieldsOn.value (by rfl) (by rfl) (by intro x; first | (go_simp; first | done | rfl) | (unfold execOp; simp only [Sem.run_bind]; go_simp; first | done | rfl))) (by exact fun _ _ _ h => h) ?_
    try simp only [Act.put, List.setIfInBounds_toArray, List.set_cons_zero, List.set_cons_succ]
    refine wpAnyM_take (i := 12) (oi := { dst := some 33, op := .pick (.tmp 26) (.tmp 32) (.const (Value.bool false)), type := 4, pos := "law.go:34", after := #[{ on := 5, ground := .data }, { on := 11, ground := .data }], guard := none }) rfl (by kernel_rfl) (by kernel_rfl) (by kernel_rfl) (YieldsOn.pure (by rfl) (by intro x; first | (go_simp; first | done | rfl) | (unfold execOp; simp only [Sem.run_bind]; go_simp; first | done | rfl))) (by exact fun _ _ _ h => h) ?_
    try simp only [Act.put, List.setIfInBounds_toArray, List.set_cons_zero, List.set_cons_succ]
    refine wpAnyM_take (i := 13) (oi := { dst := some 34, op := .move (.tmp 33), type := 4, pos := "law.go:34", after := #[{ on := 12, ground := .data }, { on := 10, ground := .chain }], guard := none }) rfl (by kernel_rfl) (by kernel_rfl) (by kernel_rfl) (YieldsOn.pure (by rfl) (by intro x; first | (go_simp; first | done | rfl) | (unfold execOp; simp only [Sem.run_bind]; go_simp; first | done | rfl))) (by exact fun _ _ _ h => h) ?_
    try simp only [Act.put, List.setIfInBounds_toArray, List.set_cons_zero, List.set_cons_succ]
    --@r13
    refine wpAnyM_take (i := 14) (oi := { dst := some 35, op := .load 25 (.tmp 6), type := 25, pos := "law.go:34", after := #[{ on := 13, ground := .guard }], guard := some (13, true) }) rfl (by kernel_rfl) (by kernel_rfl) (by kernel_rfl) (YieldsOn.row (by rfl) 25 (.tmp 6) rfl q (by rfl) _ _ _ _ HA1.out (by simp) Tryd.underlying25 rfl HAI.out) (by exact fun _ _ _ h => h) ?_
    try simp only [Act.put, List.setIfInBounds_toArray, List.set_cons_zero, List.set_cons_succ]
    refine wpAnyM_take (i := 15) (oi := { dst := some 36, op := .load 25 (.tmp 7), type := 25, pos := "law.go:34", after := #[{ on := 13, ground := .guard }], guard := some (13, true) }) rfl (by kernel_rfl) (by kernel_rfl) (by kernel_rfl) (YieldsOn.row (by rfl) 25 (.tmp 7) rfl (q + 1) (by rfl) _ _ _ _ HB1.out (by simp) Tryd.underlying25 rfl HBI.out) (by exact fun _ _ _ h => h) ?_
    try simp only [Act.put, List.setIfInBounds_toArray, List.set_cons_zero, List.set_cons_succ]
    refine wpAnyM_take (i := 16) (oi := { dst := some 37, op := .call { callee := Callee.value (.func 15), args := #[.tmp 35, .tmp 36], argTypes := #[25, 25] }, type := 25, pos := "law.go:34", after := #[{ on := 14, ground := .data }, { on := 15, ground := .data }, { on := 13, ground := .chain }, { on := 13, ground := .guard }], guard := some (13, true) }) rfl (by kernel_rfl) (by kernel_rfl) (by kernel_rfl) (YieldsOn.call (by rfl) (by rfl) (by intro x; go_simp; first | done | rfl | exact ⟨rfl, rfl⟩) (fun x => HC5.out x.at' x.only)) (by exact fun _ _ _ h => h) ?_
    try simp only [Act.put, List.setIfInBounds_toArray, List.set_cons_zero, List.set_cons_succ]
    refine wpAnyM_take (i := 17) (oi := { dst := some 38, op := .load 25 (.tmp 6), type := 25, pos := "law.go:34", after := #[{ on := 13, ground := .guard }], guard := some (13, true) }) rfl (by kernel_rfl) (by kernel_rfl) (by kernel_rfl) (YieldsOn.row (by rfl) 25 (.tmp 6) rfl q (by rfl) _ _ _ _ HA1.out (by simp) Tryd.underlying25 rfl HAI.out) (by exact fun _ _ _ h => h) ?_
    try simp only [Act.put, List.setIfInBounds_toArray, List.set_cons_zero, List.set_cons_succ]
    refine wpAnyM_take (i := 18) (oi := { dst := some 39, op := .load 25 (.tmp 7), type := 25, pos := "law.go:34", after := #[{ on := 13, ground := .guard }], guard := some (13, true) }) rfl (by kernel_rfl) (by kernel_rfl) (by kernel_rfl) (YieldsOn.row (by rfl) 25 (.tmp 7) rfl (q + 1) (by rfl) _ _ _ _ HB1.out (by simp) Tryd.underlying25 rfl HBI.out) (by exact fun _ _ _ h => h) ?_
    try simp only [Act.put, List.setIfInBounds_toArray, List.set_cons_zero, List.set_cons_succ]
    refine wpAnyM_take (i := 19) (oi := { dst := some 40, op := .call { callee := Callee.value (.func 16), args := #[.tmp 38, .tmp 39], argTypes := #[25, 25] }, type := 25, pos := "law.go:34", after := #[{ on := 17, ground := .data }, { on := 18, ground := .data }, { on := 16, ground := .chain }, { on := 13, ground := .guard }], guard := some (13, true) }) rfl (by kernel_rfl) (by kernel_rfl) (by kernel_rfl) (YieldsOn.call (by rfl) (by rfl) (by intro x; go_simp; first | done | rfl | exact ⟨rfl, rfl⟩) (fun x => HC6.out x.at' x.only)) (by exact fun _ _ _ h => h) ?_
    try simp only [Act.put, List.setIfInBounds_toArray, List.set_cons_zero, List.set_cons_succ]
    refine wpAnyM_take (i := 20) (oi := { dst := some 41, op := .binOp BinOp.eql 25 (.tmp 37) (.tmp 40) 25, type := 4, pos := "law.go:34", after := #[{ on := 16, ground := .data }, { on := 19, ground := .data }, { on := 13, ground := .guard }], guard := some (13, true) }) rfl (by kernel_rfl) (by kernel_rfl) (by kernel_rfl) (YieldsOn.value (by rfl) (by rfl) (by intro x; first | (go_simp; first | done | rfl) | (unfold execOp; simp only [Sem.run_bind]; go_simp; first | done | rfl))) (by exact fun _ _ _ h => h) ?_
    try simp only [Act.put, List.setIfInBounds_toArray, List.set_cons_zero, List.set_cons_succ]
    refine wpAnyM_take (i := 21) (oi := { dst := some 42, op := .pick (.tmp 34) (.tmp 41) (.const (Value.bool false)), type := 4, pos := "law.go:34", after := #[{ on := 13, ground := .data }, { on := 20, ground := .data }], guard := none }) rfl (by kernel_rfl) (by kernel_rfl) (by kernel_rfl) (YieldsOn.pure (by rfl) (by intro x; first | (go_simp; first | done | rfl) | (unfold execOp; simp only [Sem.run_bind]; go_simp; first | done | rfl))) (by exact fun _ _ _ h => h) ?_
    try simp only [Act.put, List.setIfInBounds_toArray, List.set_cons_zero, List.set_cons_succ]
    refine wpAnyM_take (i := 22) (oi := { dst := some 8, op := .assign (.tmp 42), type := 4, pos := "law.go:34", after := #[{ on := 21, ground := .data }, { on := 19, ground := .chain }, { on := 0, ground := .phase }, { on := 1, ground := .phase }, { on := 2, ground := .phase }, { on := 3, ground := .phase }, { on := 4, ground := .phase }, { on := 5, ground := .phase }, { on := 6, ground := .phase }, { on := 7, ground := .phase }, { on := 8, ground := .phase }, { on := 9, ground := .phase }, { on := 10, ground := .phase }, { on := 11, ground := .phase }, { on := 12, ground := .phase }, { on := 13, ground := .phase }, { on := 14, ground := .phase }, { on := 15, ground := .phase }, { on := 16, ground := .phase }, { on := 17, ground := .phase }, { on := 18, ground := .phase }, { on := 19, ground := .phase }, { on := 20, ground := .phase }, { on := 21, ground := .phase }], guard := none }) rfl (by kernel_rfl) (by kernel_rfl) (by kernel_rfl) (YieldsOn.pure (by rfl) (by intro x; first | (go_simp; first | done | rfl) | (unfold execOp; simp only [Sem.run_bind]; go_simp; first | done | rfl))) (by exact fun _ _ _ h => h) ?_
    try simp only [Act.put, List.setIfInBounds_toArray, List.set_cons_zero, List.set_cons_succ]
    refine wpAnyM_done (by kernel_rfl) (fun x9 hx9 => ?_) _
    go_wp2_with fail
    go_ret
    exact ⟨rfl, (HOd.out.then hx9).below (by simp) (Nat.le_refl _)⟩
end Go.Proofs.YtpgcfpfmicghnaaDoor.mrk
