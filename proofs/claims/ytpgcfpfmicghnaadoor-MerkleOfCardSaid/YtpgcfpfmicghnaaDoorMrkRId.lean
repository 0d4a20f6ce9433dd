/-
  THE WALK of the reference's Id.
-/
import Derived.Test.YtpgcfpfmicghnaaDoorMrkId
import Derived.Test.YtpgcfpfmicghnaaDoorGenM
set_option linter.unusedVariables false
set_option linter.unusedSimpArgs false
namespace Go.Proofs.YtpgcfpfmicghnaaDoor.mrk
open Go Go.RowKit Go.Lm Go.ChangeShapes Go.WideShapes Go.Proofs.YtpgcfpfmicghnaaDoor.sha Go.Proofs.YtpgcfpfmicghnaaDoor.cur

theorem refput_v (w : World) (x n : Nat) (hx : x < 18446744073709551616) (hn : 1 ≤ n) (hm : n ≤ 8) : Calls Tryd.prog 38 #[.int .u64 (x : Nat), .int .i64 (n : Nat)] w fun e w' => e = .returned (.string ⟨(Cur.put x n).toArray⟩) ∧ Only [] w w' := by
  refine (refput_c w x (n : Int) hx (by omega)).mono ?_
  rintro e w' ⟨s, rfl, hs, ho⟩
  rw [if_pos (by omega), Int.toNat_natCast] at hs
  refine ⟨?_, ho⟩
  have : s = ⟨(Cur.put x n).toArray⟩ := by rw [← hs]
  rw [← this]
set_option maxRecDepth 100000 in
set_option maxHeartbeats 4000000 in
theorem rid_c (w : World) (s p : Nat) (v : Value) (ds : List (List UInt8)) (hv : DS w v ds) (hs : s < 18446744073709551616) (hp : p < 4294967296) (hn : ds.length ≤ 100000) : Calls Tryd.prog 21 #[.agg #[.int .u64 (s : Nat), .int .u32 (p : Nat), v]] w fun e w' => e = .returned (dv (Sha.sum (idB s p ds))) ∧ Only [] w w' := by
  have HV := Lib.hid hv; have HS := Lib.hid hs; have HP := Lib.hid hp; have HN := Lib.hid hn
  clear hv hs hp hn
  go_enter Tryd.func21, Tryd.ntmps21
  have hwp : IntKind.u64.wrap (p : Int) = (p : Int) := by rw [IntKind.wrap_u64]; have := HP.out; omega
  go_upto_region 1 with fail
  generalize hg : World.alloc _ _ = w1
  have h2 := two w (.cells #[.int .u64 (s : Nat), .int .u32 (p : Nat), v] 39 (0, 0)) (.cells (List.replicate 32 (Value.int .u8 0)).toArray 25 (0, 0))
  have he : w1 = (w.alloc (.cells #[.int .u64 (s : Nat), .int .u32 (p : Nat), v] 39 (0, 0))).alloc (.cells (List.replicate 32 (Value.int .u8 0)).toArray 25 (0, 0)) := hg.symm.trans rfl
  rw [← he] at h2
  have HM1 := Lib.hid h2.1; have HZ1 := Lib.hid h2.2
  have HO1 : Hid (Only [] w w1) := Lib.hid (by rw [he]; exact ((Only.refl [] w).alloc _).alloc _)
  obtain ⟨q, hq⟩ : ∃ q, w.heap.size = q := ⟨_, rfl⟩
  rw [hq] at HM1 HZ1 ⊢
  have HQ := Lib.hid hq
  have c2 : w1.cell? ⟨q, 2, none⟩ = some v := by simp [World.cell?, HM1.out]
  clear hg h2 he hq
  --@1
  go_wp2_with fail
  --@2
  refine (rroot_c w1 v ds (HV.out.only HO1.out (by simp)) HN.out).mono ?_
  rintro e w6 ⟨rfl, ho6⟩
  have HO6 := Lib.hid (HO1.out.then ho6); have HZ6 := Lib.hid (ho6.heap HZ1.out (by simp)); have HM6 := Lib.hid (ho6.heap HM1.out (by simp))
  clear ho6 HO1 HM1 HZ1 c2
  have HR32 : Hid ((rootD ds).length = 32) := Lib.hid (root_length ds HV.out.choose_spec.choose_spec.2.2.2.2.1)
  obtain ⟨R, hR⟩ : ∃ R, rootD ds = R := ⟨_, rfl⟩
  rw [hR] at HR32 ⊢
  obtain ⟨D, hdv, hcs, hci, hc1⟩ := store_facts R HR32.out
  rw [hdv]
  have HRR := Lib.hid hR; have HDV := Lib.hid hdv; have HDS := Lib.hid hcs; have HDI := Lib.hid hci; have HD1 := Lib.hid hc1
  clear hR hdv hcs hci hc1
  go_upto_region 2 with (refine wpList_store_row rfl 25 _ _ rfl w6.heap.size D rfl rfl _ _ (heap_alloc_new w6 _) HDI.out (by rw [HDS.out]; simp) HD1.out ?_)
  --@3
  generalize hg : World.setRow _ _ _ = w7
  have he7 : w7 = (w6.alloc (.cells (List.replicate 32 (Value.int .u8 0)).toArray 25 (0, 0))).setRow w6.heap.size D := hg.symm.trans rfl
  have hb7 : w7.heap[w6.heap.size]? = some (.cells D 25 (0, 0)) := by rw [he7]; exact setRow_heap _ _ _ D _ _ (heap_alloc_new w6 _)
  have ho7 : Only [] w6 w7 := by rw [he7]; exact ((Only.refl [] w6).alloc _).setRow (.inr (Nat.le_refl _)) D
  clear hg he7
  have HDR : Hid ((R.map u8v).toArray = D) := Lib.hid (Value.agg.inj HDV.out)
  have HB7 := Lib.hid ((bs_block hb7 HDR.out HR32.out (by omega)).only (Only.refl [] w7).drew (by simp))
  have HO7 := Lib.hid ((HO6.out.then ho7).drew); have HZ7 := Lib.hid ((ho7.drew).heap HZ6.out (by simp)); have HM7 := Lib.hid ((ho7.drew).heap HM6.out (by simp))
  obtain ⟨t, ht⟩ : ∃ t, w6.heap.size = t := ⟨_, rfl⟩
  rw [ht] at HB7 ⊢
  clear ho7 HO6 HZ6 HM6 hb7 ht
  --@4
  refine wp_region_M [] (by kernel_rfl) ?_
  change wpAnyM _ _ _ _ _ _ _ _ (World.drew _)
  generalize World.drew w7 = wd at *
  have c0 : ∀ x : Later [] wd, x.at'.cell? ⟨q, 0, none⟩ = some (.int .u64 (s : Nat)) := fun x => x.only.cell (by simp [World.cell?, HM7.out]) (by simp)
  have c1 : ∀ x : Later [] wd, x.at'.cell? ⟨q, 1, none⟩ = some (.int .u32 (p : Nat)) := fun x => x.only.cell (by simp [World.cell?, HM7.out]) (by simp)
  have hs3 : ∀ x : Later [] wd, (convert 23 9 (.slice (some ⟨t, 0, none⟩) 32 32)).run Tryd.prog x.at' = .ok (.string ⟨R.toArray⟩) x.at' := fun x => run_string_of_bytes (P := Tryd.prog) Tryd.underlying23 Tryd.underlying5 Tryd.underlying9 (HB7.out.only x.only (by simp))
  obtain ⟨S1, hS1⟩ : ∃ S : ByteArray, (⟨(Cur.put s 8).toArray⟩ : ByteArray) = S := ⟨_, rfl⟩
  obtain ⟨S2, hS2⟩ : ∃ S : ByteArray, (⟨(Cur.put p 4).toArray⟩ : ByteArray) = S := ⟨_, rfl⟩
  obtain ⟨S3, hS3⟩ : ∃ S : ByteArray, (⟨R.toArray⟩ : ByteArray) = S := ⟨_, rfl⟩
  have HP8 : Hid (∀ x : Later [] wd, Calls Tryd.prog 38 #[.int .u64 (s : Nat), .int .i64 8] x.at' fun e w' => e = .returned (.string S1) ∧ Only [] x.at' w') := Lib.hid (fun x => by rw [← hS1]; exact refput_v x.at' s 8 HS.out (by decide) (by decide))
  have HP4 : Hid (∀ x : Later [] wd, Calls Tryd.prog 38 #[.int .u64 (p : Nat), .int .i64 4] x.at' fun e w' => e = .returned (.string S2) ∧ Only [] x.at' w') := Lib.hid (fun x => by rw [← hS2]; exact refput_v x.at' p 4 (by have := HP.out; omega) (by decide) (by decide))
  rw [hS3] at hs3
  have hz1 : S1.size = 8 := by rw [← hS1]; exact Cur.put_length s 8
  have hz2 : S2.size = 4 := by rw [← hS2]; exact Cur.put_length p 4
  have hz3 : S3.size = 32 := by rw [← hS3]; exact HR32.out
  obtain ⟨E, hev, hes, hei, he1⟩ := store_facts _ (Sha.sum_length (idB s p ds))
  have HRF : Hid (∀ x : Later [] wd, Calls Tryd.prog 26 #[.string ((({ data := #[2] } : ByteArray) ++ S1) ++ S2 ++ S3)] x.at' fun e w' => e = .returned (.agg E) ∧ Only [] x.at' w') := Lib.hid (fun x => by
    rw [← hev]
    have hl : ((({ data := #[2] } : ByteArray) ++ S1) ++ S2 ++ S3).data.toList = idB s p ds := by rw [str_app, str_app, str_cons, ← hS1, ← hS2, ← hS3]; unfold idB; rw [HRR.out]; rfl
    exact ref_str _ _ hl (by unfold idB; rw [HRR.out]; simp [Cur.put_length, HR32.out]) x.at')
  have HEV := Lib.hid hev; have HES := Lib.hid hes; have HEI := Lib.hid hei; have HE1 := Lib.hid he1
  clear hev hes hei he1 hS1 hS2 hS3
  --@5
  refine wpAnyM_take (i := 0) (oi := { dst := some 7, op := .fieldAddr 39 (.tmp 1) 0, type := 0, pos := "ref.go:44", after := #[], guard := none }) rfl (by kernel_rfl) (by kernel_rfl) (by kernel_rfl) (YieldsOn.pure (by rfl) (by intro x; first | (go_simp; first | done | rfl) | (unfold execOp; simp only [Sem.run_bind]; go_simp; first | done | rfl))) (by exact fun _ _ _ h => h) ?_
  try simp only [Act.put, List.setIfInBounds_toArray, List.set_cons_zero, List.set_cons_succ]
  refine wpAnyM_take (i := 1) (oi := { dst := some 8, op := .load 32 (.tmp 7), type := 32, pos := "ref.go:44", after := #[{ on := 0, ground := .data }], guard := none }) rfl (by kernel_rfl) (by kernel_rfl) (by kernel_rfl) (YieldsOn.value (by rfl) (by rfl) (by intro x; first | (go_simp; first | done | rfl) | (unfold execOp; simp only [Sem.run_bind]; go_simp; first | done | rfl))) (by exact fun _ _ _ h => h) ?_
  try simp only [Act.put, List.setIfInBounds_toArray, List.set_cons_zero, List.set_cons_succ]
  refine wpAnyM_take (i := 2) (oi := { dst := some 9, op := .call { callee := Callee.value (.func 38), args := #[.tmp 8, .const (Value.int IntKind.i64 8)], argTypes := #[32, 3] }, type := 9, pos := "ref.go:44", after := #[{ on := 1, ground := .data }], guard := none }) rfl (by kernel_rfl) (by kernel_rfl) (by kernel_rfl) (YieldsOn.call (by rfl) (by rfl) (by intro x; go_simp; first | done | rfl | exact ⟨rfl, rfl⟩) (fun x => HP8.out x)) (by exact fun _ _ _ h => h) ?_
  try simp only [Act.put, List.setIfInBounds_toArray, List.set_cons_zero, List.set_cons_succ]
  refine wpAnyM_take (i := 3) (oi := { dst := some 10, op := .binOp BinOp.add 9 (.const (Value.string { data := #[2] })) (.tmp 9) 9, type := 9, pos := "ref.go:44", after := #[{ on := 2, ground := .data }], guard := none }) rfl (by kernel_rfl) (by kernel_rfl) (by kernel_rfl) (YieldsOn.value (by rfl) (by rfl) (by intro x; first | (go_simp; first | done | rfl) | (unfold execOp; simp only [Sem.run_bind]; go_simp; first | done | rfl))) (by exact fun _ _ _ h => h) ?_
  try simp only [Act.put, List.setIfInBounds_toArray, List.set_cons_zero, List.set_cons_succ]
  refine wpAnyM_take (i := 4) (oi := { dst := some 11, op := .fieldAddr 39 (.tmp 1) 1, type := 0, pos := "ref.go:44", after := #[], guard := none }) rfl (by kernel_rfl) (by kernel_rfl) (by kernel_rfl) (YieldsOn.pure (by rfl) (by intro x; first | (go_simp; first | done | rfl) | (unfold execOp; simp only [Sem.run_bind]; go_simp; first | done | rfl))) (by exact fun _ _ _ h => h) ?_
  try simp only [Act.put, List.setIfInBounds_toArray, List.set_cons_zero, List.set_cons_succ]
  refine wpAnyM_take (i := 5) (oi := { dst := some 12, op := .load 33 (.tmp 11), type := 33, pos := "ref.go:44", after := #[{ on := 4, ground := .data }], guard := none }) rfl (by kernel_rfl) (by kernel_rfl) (by kernel_rfl) (YieldsOn.value (by rfl) (by rfl) (by intro x; first | (go_simp; first | done | rfl) | (unfold execOp; simp only [Sem.run_bind]; go_simp; first | done | rfl))) (by exact fun _ _ _ h => h) ?_
  try simp only [Act.put, List.setIfInBounds_toArray, List.set_cons_zero, List.set_cons_succ]
  refine wpAnyM_take (i := 6) (oi := { dst := some 13, op := .convert 33 32 (.tmp 12), type := 32, pos := "ref.go:44", after := #[{ on := 5, ground := .data }], guard := none }) rfl (by kernel_rfl) (by kernel_rfl) (by kernel_rfl) (YieldsOn.value (by rfl) (by rfl) (by intro x; first | (go_simp; first | done | rfl) | (unfold execOp; simp only [Sem.run_bind]; go_simp; first | done | rfl))) (by exact fun _ _ _ h => h) ?_
  try simp only [Act.put, List.setIfInBounds_toArray, List.set_cons_zero, List.set_cons_succ]
  refine wpAnyM_take (i := 7) (oi := { dst := some 14, op := .call { callee := Callee.value (.func 38), args := #[.tmp 13, .const (Value.int IntKind.i64 4)], argTypes := #[32, 3] }, type := 9, pos := "ref.go:44", after := #[{ on := 6, ground := .data }, { on := 2, ground := .chain }], guard := none }) rfl (by kernel_rfl) (by kernel_rfl) (by kernel_rfl) (YieldsOn.call (by rfl) (by rfl) (by intro x; go_simp; first | done | rfl | exact ⟨rfl, rfl⟩) (fun x => HP4.out x)) (by exact fun _ _ _ h => h) ?_
  try simp only [Act.put, List.setIfInBounds_toArray, List.set_cons_zero, List.set_cons_succ]
  refine wpAnyM_take (i := 8) (oi := { dst := some 15, op := .binOp BinOp.add 9 (.tmp 10) (.tmp 14) 9, type := 9, pos := "ref.go:44", after := #[{ on := 3, ground := .data }, { on := 7, ground := .data }], guard := none }) rfl (by kernel_rfl) (by kernel_rfl) (by kernel_rfl) (YieldsOn.value (by rfl) (by rfl) (by intro x; first | (go_simp; first | done | rfl) | (unfold execOp; simp only [Sem.run_bind]; go_simp; first | done | rfl))) (by exact fun _ _ _ h => h) ?_
  try simp only [Act.put, List.setIfInBounds_toArray, List.set_cons_zero, List.set_cons_succ]
  refine wpAnyM_take (i := 9) (oi := { dst := some 16, op := .slice 25 (.tmp 3) none none none, type := 23, pos := "ref.go:44", after := #[], guard := none }) rfl (by kernel_rfl) (by kernel_rfl) (by kernel_rfl) (YieldsOn.value (by rfl) (by rfl) (by intro x; first | (go_simp; first | done | rfl) | (unfold execOp; simp only [Sem.run_bind]; go_simp; first | done | rfl))) (by exact fun _ _ _ h => h) ?_
  try simp only [Act.put, List.setIfInBounds_toArray, List.set_cons_zero, List.set_cons_succ]
  refine wpAnyM_take (i := 10) (oi := { dst := some 17, op := .convert 23 9 (.tmp 16), type := 9, pos := "ref.go:44", after := #[{ on := 9, ground := .data }], guard := none }) rfl (by kernel_rfl) (by kernel_rfl) (by kernel_rfl) (YieldsOn.value (by rfl) (by rfl) (by intro x; first | (go_simp; first | done | rfl) | (unfold execOp; simp only [Sem.run_bind]; go_simp; first | done | rfl))) (by exact fun _ _ _ h => h) ?_
  try simp only [Act.put, List.setIfInBounds_toArray, List.set_cons_zero, List.set_cons_succ]
  refine wpAnyM_take (i := 11) (oi := { dst := some 18, op := .binOp BinOp.add 9 (.tmp 15) (.tmp 17) 9, type := 9, pos := "ref.go:44", after := #[{ on := 8, ground := .data }, { on := 10, ground := .data }], guard := none }) rfl (by kernel_rfl) (by kernel_rfl) (by kernel_rfl) (YieldsOn.value (by rfl) (by rfl) (by intro x; first | (go_simp; first | done | rfl) | (unfold execOp; simp only [Sem.run_bind]; go_simp; first | done | rfl))) (by exact fun _ _ _ h => h) ?_
  try simp only [Act.put, List.setIfInBounds_toArray, List.set_cons_zero, List.set_cons_succ]
  --@6
  refine wpAnyM_take (i := 12) (oi := { dst := some 19, op := .call { callee := Callee.value (.func 26), args := #[.tmp 18], argTypes := #[9] }, type := 25, pos := "ref.go:44", after := #[{ on := 11, ground := .data }, { on := 7, ground := .chain }], guard := none }) rfl (by kernel_rfl) (by kernel_rfl) (by kernel_rfl) (YieldsOn.call (by rfl) (by rfl) (by intro x; go_simp; first | done | rfl | exact ⟨rfl, rfl⟩) (fun x => HRF.out x)) (by exact fun _ _ _ h => h) ?_
  try simp only [Act.put, List.setIfInBounds_toArray, List.set_cons_zero, List.set_cons_succ]
  --@7
  refine wpAnyM_last (i := 13) (o := { dst := none, op := .store 25 (.tmp 2) (.tmp 19), type := 0, pos := "ref.go:44", after := #[{ on := 12, ground := .data }, { on := 12, ground := .chain }, { on := 0, ground := .phase }, { on := 1, ground := .phase }, { on := 2, ground := .phase }, { on := 3, ground := .phase }, { on := 4, ground := .phase }, { on := 5, ground := .phase }, { on := 6, ground := .phase }, { on := 7, ground := .phase }, { on := 8, ground := .phase }, { on := 9, ground := .phase }, { on := 10, ground := .phase }, { on := 11, ground := .phase }, { on := 12, ground := .phase }], guard := none }) (by kernel_rfl) rfl (by kernel_rfl) (fun w8 hw8 K hK => ?_)
  have HZ8 := Lib.hid (hw8.heap HZ7.out (by simp))
  rw [if_pos (by rfl)]
  refine wp_store_row 25 (.tmp 2) (.tmp 19) rfl (q + 1) E rfl rfl _ _ HZ8.out HEI.out (by rw [HES.out]; simp) HE1.out ?_
  refine hK _ _ ?_
  clear hK K
  try simp only [Act.put, List.setIfInBounds_toArray, List.set_cons_zero, List.set_cons_succ]
  refine wpAnyM_done (by kernel_rfl) (fun w9 hw9 => ?_) _
  go_wp2_with fail
  --@8
  have hres : w9.heap[q + 1]? = some (.cells E 25 (0, 0)) := hw9.heap (setRow_heap _ _ _ E _ _ HZ8.out) (by simp)
  have hof : Only [] w w9 := ((HO7.out.then hw8).setRow (.inr (by have := HQ.out; omega)) E).then hw9
  refine bodyPost_ret (v := .agg E) (results_cell_row rfl _ _ (q + 1) 25 E (0, 0) _ rfl hres Tryd.underlying25 rfl HEI.out) rfl ⟨by rw [HEV.out], hof⟩
end Go.Proofs.YtpgcfpfmicghnaaDoor.mrk
