/-
  THE WALK of the reference's Root.
-/
import Derived.Test.YtpgcfpfmicghnaaDoorMrkRNode
import Derived.Test.YtpgcfpfmicghnaaDoorMrkRoot
import Derived.StillTailTactics
import Derived.Deep.RegionWith
set_option linter.unusedVariables false
set_option linter.unusedSimpArgs false
namespace Go.Proofs.YtpgcfpfmicghnaaDoor.mrk
open Go Go.RowKit Go.Lm Go.ChangeShapes Go.WideShapes Go.Proofs.YtpgcfpfmicghnaaDoor.sha

theorem DS.len {w : World} {a : Option Addr} {n cap : Nat} {ds : List (List UInt8)} (h : DS w (.slice a n cap) ds) : ds.length = n ∧ n ≤ cap ∧ cap ≤ maxLen := by
  obtain ⟨a', cap', e, k1, k2, _⟩ := h
  injection e with e1 e2 e3
  subst e2 e3
  exact ⟨rfl, k1, k2⟩

set_option maxRecDepth 100000 in
set_option maxHeartbeats 8000000 in
theorem rroot_step (N : Nat) (ih : ∀ (w : World) (v : Value) (ds : List (List UInt8)), ds.length < N → DS w v ds → ds.length ≤ 100000 → Calls Tryd.prog 12 #[v] w fun e w' => e = .returned (dv (rootD ds)) ∧ Only [] w w')
    (w : World) (v : Value) (ds : List (List UInt8)) (hN : ds.length = N) (hv : DS w v ds) (hn : ds.length ≤ 100000) : Calls Tryd.prog 12 #[v] w fun e w' => e = .returned (dv (rootD ds)) ∧ Only [] w w' := by
  have HIH := Lib.hid ih
  have HV := Lib.hid hv
  have HR32 := Lib.hid (root_length ds hv.choose_spec.choose_spec.2.2.2.2.1)
  obtain ⟨a, cap, rfl, k1, k2, -, k3, -⟩ := hv
  have H32 := Lib.hid k3
  rw [hN] at hn k1 HV ⊢
  unfold maxLen at k2
  have HN := Lib.hid hN
  obtain ⟨R, hR⟩ : ∃ R, rootD ds = R := ⟨_, rfl⟩
  rw [hR] at HR32 ⊢
  have HR := Lib.hid hR
  clear ih k3 hN hR
  go_enter Tryd.func12, Tryd.ntmps12
  go_upto_region 1 with fail
  --@0
  generalize hg : World.alloc _ _ = w1
  have he : w1 = w.alloc (.cells (List.replicate 32 (Value.int .u8 0)).toArray 25 (0, 0)) := hg.symm.trans rfl
  have HZ1 : Hid (w1.heap[w.heap.size]? = some (.cells (List.replicate 32 (Value.int .u8 0)).toArray 25 (0, 0))) := Lib.hid (by rw [he]; exact heap_alloc_new w _)
  have HO1 : Hid (Only [] w w1) := Lib.hid (by rw [he]; exact (Only.refl [] w).alloc _)
  have HV1 := Lib.hid (HV.out.only HO1.out (by simp))
  obtain ⟨q, hq⟩ : ∃ q, w.heap.size = q := ⟨_, rfl⟩
  rw [hq] at HZ1 ⊢
  have HQ := Lib.hid hq
  clear hg he HV hq
  --@1
  by_cases h0 : N = 0
  · subst h0
    go_wp2_with fail
    refine (ref_str _ [] rfl (by simp) w1).mono ?_
    rintro e w4 ⟨rfl, ho4⟩
    have HO4 := Lib.hid (HO1.out.then ho4)
    have HZR4 := Lib.hid (ho4.heap HZ1.out (by simp))
    have hre : R = Sha.sum [] := by
      rw [← HR.out, List.eq_nil_of_length_eq_zero HN.out]
      exact Mrk.root_nil _ _
    clear ho4
    obtain ⟨D, hdv, hcs, hci, hc1⟩ := store_facts _ (Sha.sum_length [])
    rw [hdv]
    have HDV : Hid (dv R = .agg D) := Lib.hid (by rw [hre, hdv])
    have HDS := Lib.hid hcs; have HDI := Lib.hid hci; have HD1 := Lib.hid hc1
    clear hcs hci hc1 hdv hre
    go_wp2_with (refine wpList_store_row rfl 25 _ _ rfl q D rfl rfl _ _ HZR4.out HDI.out (by rw [HDS.out]; simp) HD1.out ?_)
    have hres : (w4.setRow q D).heap[q]? = some (.cells D 25 (0, 0)) := setRow_heap _ _ _ D _ _ HZR4.out
    have hof : Only [] w (w4.setRow q D) := HO4.out.setRow (.inr (by have := HQ.out; omega)) D
    generalize World.setRow _ _ _ = w8 at *
    refine bodyPost_ret (v := .agg D) (results_cell_row rfl _ _ q 25 D (0, 0) _ rfl hres Tryd.underlying25 rfl HDI.out) rfl ⟨by rw [HDV.out], hof⟩
  by_cases h1 : N = 1
  · subst h1
    have hUd : ∃ x, ds = [x] := List.length_eq_one_iff.1 HN.out
    obtain ⟨x, rfl⟩ := hUd
    have hxr : R = x := by rw [← HR.out]; exact Mrk.root_one _ _ _
    subst hxr
    obtain ⟨b, off, rfl, hrx⟩ := DS.at HV1.out 0 (by simp)
    rw [Nat.mul_zero, Nat.add_zero] at hrx
    change w1.rangeAt b off (R.map u8v) at hrx
    have hdv : dv R = .agg (R.map u8v).toArray := rfl
    have hl : (R.map u8v).length = 32 := by rw [List.length_map]; exact HR32.out
    have hone := u8vs_one R
    obtain ⟨D, hD⟩ : ∃ D, R.map u8v = D := ⟨_, rfl⟩
    rw [hD] at hrx hdv hl hone
    have HRX := Lib.hid hrx; have HDV := Lib.hid hdv; have HDL := Lib.hid hl; have HD1 := Lib.hid hone
    have HDS : Hid (D.toArray.size = 32) := Lib.hid (by rw [List.size_toArray]; exact hl)
    have HDI : Hid ((Tryd.prog.info? 25).map (·.size) = some D.length) := Lib.hid (by rw [hl]; kernel_rfl)
    clear hrx hdv hl hone hD
    go_wp2_with (first
      | (refine wpList_load_mid rfl 25 _ rfl b off rfl D _ HRX.out Tryd.underlying25 rfl HDI.out ?_)
      | (refine wpList_store_row rfl 25 _ _ rfl q D.toArray rfl rfl _ _ HZ1.out (by rw [List.size_toArray]; exact HDI.out) (Eq.trans (b := 32) rfl HDS.out.symm) HD1.out ?_))
    have hres : (w1.setRow q D.toArray).heap[q]? = some (.cells D.toArray 25 (0, 0)) := setRow_heap _ _ _ D.toArray _ _ HZ1.out
    have hof : Only [] w (w1.setRow q D.toArray) := HO1.out.setRow (.inr (by have := HQ.out; omega)) D.toArray
    generalize World.setRow _ _ _ = w8 at *
    refine bodyPost_ret (v := .agg D.toArray) (results_cell_row rfl _ _ q 25 D.toArray (0, 0) _ rfl hres Tryd.underlying25 rfl (by rw [List.size_toArray]; exact HDI.out)) rfl ⟨by rw [HDV.out], hof⟩
  --@2
  have hN0 : ((N : Int) == 0) = false := by rw [beq_eq_false_iff_ne]; omega
  have hN1 : ((N : Int) == 1) = false := by rw [beq_eq_false_iff_ne]; omega
  have hN0' : ¬ ((N : Int) = 0) := by omega
  have hN1' : ¬ ((N : Int) = 1) := by omega
  obtain ⟨b, off, rfl, -⟩ := DS.at HV1.out 0 (by rw [HN.out]; omega)
  go_wp2_with fail
  --@3
  go_loopw [3] (fun s wx => ∃ k e : Nat, s = .int .i64 (k : Nat) ∧ k = 2 ^ e ∧ k < N ∧ wx = w1) (fun s _ => N - (intOf s).toNat)
  case atStart => exact ⟨1, 0, rfl, rfl, by omega, rfl⟩
  case round =>
    obtain ⟨k, e, rfl, hke, hkN, rfl⟩ := hrel
    have HKE := Lib.hid hke
    have hk0 : 0 < k := by rw [hke]; exact Nat.pow_pos (by omega)
    clear hke
    by_cases hlt : 2 * k < N
    · have hltI : 2 * (k : Int) < (N : Int) := by omega
      go_wp2_with fail
      go_roundw
      case rel => exact ⟨2 * k, e + 1, by go_num, by rw [Nat.pow_succ, ← HKE.out, Nat.mul_comm], hlt, trivial⟩
      case measure => simp [intOf]; omega
    · have hltI : ¬ 2 * (k : Int) < (N : Int) := by omega
      have htop : Mrk.top N = k := by rw [HKE.out]; exact Mrk.top_eq N e (by rw [← HKE.out]; exact hkN) (by rw [← HKE.out]; omega)
      have hroot := Mrk.root_two (Sha.sum []) nodeD ds (by rw [HN.out]; omega)
      rw [HN.out, htop] at hroot
      change rootD ds = nodeD (rootD (ds.take k)) (rootD (ds.drop k)) at hroot
      rw [HR.out] at hroot
      have hs1 := DS.sub HV1.out 0 k (Nat.zero_le _) (by rw [HN.out]; omega)
      have hs2 := DS.sub HV1.out k N (by omega) (by rw [HN.out]; exact Nat.le_refl _)
      rw [List.drop_zero] at hs1
      rw [List.take_of_length_le (by rw [HN.out]; exact Nat.le_refl _)] at hs2
      have HROOT := Lib.hid hroot; have HS1 := Lib.hid hs1; have HS2 := Lib.hid hs2
      have HL1 : Hid ((ds.take k).length < N ∧ (ds.take k).length ≤ 100000) := Lib.hid (by rw [List.length_take, HN.out]; omega)
      have HL2 : Hid ((ds.drop k).length < N ∧ (ds.drop k).length ≤ 100000) := Lib.hid (by rw [List.length_drop, HN.out]; omega)
      clear htop hroot hs1 hs2
      have hkN' : (k : Int) ≤ (N : Int) := by omega
      have H32a : Hid ((rootD (ds.take k)).length = 32) := Lib.hid (root_length _ fun d h => H32.out d (List.mem_of_mem_take h))
      have H32b : Hid ((rootD (ds.drop k)).length = 32) := Lib.hid (root_length _ fun d h => H32.out d (List.mem_of_mem_drop h))
      have hnc := fun W => rnode_c W _ _ H32a.out H32b.out
      rw [← HROOT.out] at hnc
      obtain ⟨Dx, hdx⟩ : ∃ D, dv (rootD (ds.take k)) = .agg D := ⟨_, rfl⟩
      obtain ⟨Dy, hdy⟩ : ∃ D, dv (rootD (ds.drop k)) = .agg D := ⟨_, rfl⟩
      obtain ⟨Dg, hdg, hcs, hci, hc1⟩ := store_facts R HR32.out
      rw [hdx, hdy, hdg] at hnc
      have HNC := Lib.hid hnc; have HDX := Lib.hid hdx; have HDY := Lib.hid hdy; have HDG := Lib.hid hdg; have HDS := Lib.hid hcs; have HDI := Lib.hid hci; have HD1 := Lib.hid hc1
      have HOD1 : Hid (Only [] wr wr.drew) := Lib.hid (Only.refl [] wr).drew
      clear hnc hdx hdy hdg hcs hci hc1
      go_upto_region 8 with fail
      --@4
      refine wp_region_any (by kernel_rfl) ?_
      change wpAny _ _ _ _ _ _ _ (World.drew _)
      refine wpAny_take (i := 0) (oi := { dst := some 21, op := .move (.tmp 0), type := 22, pos := "ref.go:38", after := #[], guard := none }) (v := .slice (some ⟨b, off, none⟩) N cap) rfl (by kernel_rfl) (by kernel_rfl) (by kernel_rfl) (fun _ _ _ h => h) (Or.inl ⟨by rfl, by (intro w; go_simp; first | done | with_reducible rfl)⟩) ?_
      try simp only [Act.put, List.setIfInBounds_toArray, List.set_cons_zero, List.set_cons_succ]
      --@r0
      refine wpAny_take (i := 1) (oi := { dst := some 22, op := .move (.tmp 3), type := 3, pos := "ref.go:38", after := #[], guard := none }) (v := .int .i64 (k : Nat)) rfl (by kernel_rfl) (by kernel_rfl) (by kernel_rfl) (fun _ _ _ h => h) (Or.inl ⟨by rfl, by (intro w; go_simp; first | done | with_reducible rfl)⟩) ?_
      try simp only [Act.put, List.setIfInBounds_toArray, List.set_cons_zero, List.set_cons_succ]
      --@r1
      refine wpAny_take (i := 2) (oi := { dst := some 23, op := .slice 22 (.tmp 21) none (some (.tmp 22)) none, type := 22, pos := "ref.go:38", after := #[{ on := 0, ground := .data }, { on := 1, ground := .data }], guard := none }) (v := subd (some ⟨b, off, none⟩) cap 0 k) rfl (by kernel_rfl) (by kernel_rfl) (by kernel_rfl) (fun _ _ _ h => h) (Or.inl ⟨by rfl, by (intro w; have hh := run_subd_h (some ⟨b, off, none⟩) N cap k (by omega) w; simp only [execOp, Sem.run_bind]; exact (congrArg (fun r => Result.andThen r (fun v w => Result.ok (Next.value v) w)) hh))⟩) ?_
      try simp only [Act.put, List.setIfInBounds_toArray, List.set_cons_zero, List.set_cons_succ]
      --@r2
      refine wpAny_take (i := 4) (oi := { dst := some 25, op := .move (.tmp 0), type := 22, pos := "ref.go:38", after := #[], guard := none }) (v := .slice (some ⟨b, off, none⟩) N cap) rfl (by kernel_rfl) (by kernel_rfl) (by kernel_rfl) (fun _ _ _ h => h) (Or.inl ⟨by rfl, by (intro w; go_simp; first | done | with_reducible rfl)⟩) ?_
      try simp only [Act.put, List.setIfInBounds_toArray, List.set_cons_zero, List.set_cons_succ]
      --@r4
      refine wpAny_take (i := 5) (oi := { dst := some 26, op := .move (.tmp 3), type := 3, pos := "ref.go:38", after := #[], guard := none }) (v := .int .i64 (k : Nat)) rfl (by kernel_rfl) (by kernel_rfl) (by kernel_rfl) (fun _ _ _ h => h) (Or.inl ⟨by rfl, by (intro w; go_simp; first | done | with_reducible rfl)⟩) ?_
      try simp only [Act.put, List.setIfInBounds_toArray, List.set_cons_zero, List.set_cons_succ]
      --@r5
      refine wpAny_take (i := 6) (oi := { dst := some 27, op := .slice 22 (.tmp 25) (some (.tmp 26)) none none, type := 22, pos := "ref.go:38", after := #[{ on := 4, ground := .data }, { on := 5, ground := .data }], guard := none }) (v := subd (some ⟨b, off, none⟩) cap k N) rfl (by kernel_rfl) (by kernel_rfl) (by kernel_rfl) (fun _ _ _ h => h) (Or.inl ⟨by rfl, by (intro w; have hh := run_subd_l (some ⟨b, off, none⟩) N cap k (by omega) w; simp only [execOp, Sem.run_bind]; exact (congrArg (fun r => Result.andThen r (fun v w => Result.ok (Next.value v) w)) hh))⟩) ?_
      try simp only [Act.put, List.setIfInBounds_toArray, List.set_cons_zero, List.set_cons_succ]
      --@r6
      refine wpAny_ready (rs := [3]) (by kernel_rfl) (by simp) ?_
      refine AllReady.cons (o := { dst := some 24, op := .call { callee := .value (.func 12), args := #[.tmp 23], argTypes := #[22] }, type := 25, pos := "ref.go:38", after := #[{ on := 2, ground := .data }], guard := none }) rfl (fun K hK => ?_) AllReady.nil
      go_simp
      --@s
      refine (HIH.out _ _ (ds.take k) HL1.out.1 (HS1.out.only HOD1.out (by simp)) HL1.out.2).mono ?_
      rintro e w2 ⟨rfl, ho2⟩
      have HO2 := Lib.hid (HOD1.out.then ho2)
      clear ho2
      rw [HDX.out]
      refine hK _ _ ?_
      clear hK K
      try simp only [Act.put, List.setIfInBounds_toArray, List.set_cons_zero, List.set_cons_succ]
      refine wpAny_ready (rs := [7]) (by kernel_rfl) (by simp) ?_
      refine AllReady.cons (o := { dst := some 28, op := .call { callee := .value (.func 12), args := #[.tmp 27], argTypes := #[22] }, type := 25, pos := "ref.go:38", after := #[{ on := 6, ground := .data }, { on := 3, ground := .chain }], guard := none }) rfl (fun K hK => ?_) AllReady.nil
      go_simp
      refine (HIH.out _ _ (ds.drop k) HL2.out.1 (HS2.out.only HO2.out (by simp)) HL2.out.2).mono ?_
      rintro e w3 ⟨rfl, ho3⟩
      have HO3 := Lib.hid (HO2.out.then ho3)
      clear ho3
      rw [HDY.out]
      refine hK _ _ ?_
      clear hK K
      try simp only [Act.put, List.setIfInBounds_toArray, List.set_cons_zero, List.set_cons_succ]
      refine wpAny_ready (rs := [8]) (by kernel_rfl) (by simp) ?_
      refine AllReady.cons (o := { dst := some 29, op := .call { callee := .value (.func 16), args := #[.tmp 24, .tmp 28], argTypes := #[25, 25] }, type := 25, pos := "ref.go:38", after := #[{ on := 3, ground := .data }, { on := 7, ground := .data }, { on := 7, ground := .chain }], guard := none }) rfl (fun K hK => ?_) AllReady.nil
      go_simp
      refine (HNC.out w3).mono ?_
      rintro e w4 ⟨rfl, ho4⟩
      have HO4 := Lib.hid (HO1.out.then (HO3.out.then ho4))
      have HZR := Lib.hid ((HO3.out.then ho4).heap HZ1.out (by simp))
      clear ho4
      refine hK _ _ ?_
      clear hK K
      try simp only [Act.put, List.setIfInBounds_toArray, List.set_cons_zero, List.set_cons_succ]
      --@t
      refine wpAny_ready (rs := [9]) (by kernel_rfl) (by simp) ?_
      refine AllReady.cons (o := { dst := none, op := .store 25 (.tmp 2) (.tmp 29), type := 0, pos := "ref.go:38", after := #[{ on := 8, ground := .data }, { on := 8, ground := .chain }, { on := 0, ground := .phase }, { on := 1, ground := .phase }, { on := 2, ground := .phase }, { on := 3, ground := .phase }, { on := 4, ground := .phase }, { on := 5, ground := .phase }, { on := 6, ground := .phase }, { on := 7, ground := .phase }, { on := 8, ground := .phase }], guard := none }) rfl (fun K hK => ?_) AllReady.nil
      rw [if_pos (by rfl)]
      refine wp_store_row 25 _ _ rfl q Dg (by rfl) (by rfl) _ _ HZR.out HDI.out (by rw [HDS.out]; simp) HD1.out ?_
      refine hK _ _ ?_
      clear hK K
      try simp only [Act.put, List.setIfInBounds_toArray, List.set_cons_zero, List.set_cons_succ]
      --@u
      refine wpAny_done (by kernel_rfl) ?_ _
      go_wp2
      --@5
      have hres : (w4.setRow q Dg).heap[q]? = some (.cells Dg 25 (0, 0)) := setRow_heap _ _ _ Dg _ _ HZR.out
      have hof : Only [] w (w4.setRow q Dg) := HO4.out.setRow (.inr (by have := HQ.out; omega)) Dg
      generalize World.setRow _ _ _ = w8 at *
      refine bodyPost_ret (v := .agg Dg) (results_cell_row rfl _ _ q 25 Dg (0, 0) _ rfl hres Tryd.underlying25 rfl HDI.out) rfl ⟨by rw [HDG.out], hof⟩

theorem rroot_c (w : World) (v : Value) (ds : List (List UInt8)) (hv : DS w v ds) (hn : ds.length ≤ 100000) : Calls Tryd.prog 12 #[v] w fun e w' => e = .returned (dv (rootD ds)) ∧ Only [] w w' := by
  obtain ⟨N, hN⟩ : ∃ N, ds.length = N := ⟨_, rfl⟩
  induction N using Nat.strongRecOn generalizing w v ds with
  | _ N ih => exact rroot_step N (fun w v ds hl hv hn => ih _ hl w v ds hv hn rfl) w v ds hN hv hn
end Go.Proofs.YtpgcfpfmicghnaaDoor.mrk
