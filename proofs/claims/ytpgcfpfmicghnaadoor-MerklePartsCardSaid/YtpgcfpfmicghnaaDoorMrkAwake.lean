/-
  The laws' awake, walked.
-/
import Derived.Test.YtpgcfpfmicghnaaDoorMrkVals
import Derived.Test.YtpgcfpfmicghnaaDoorMrkOf
import Derived.Test.YtpgcfpfmicghnaaDoorGenF
import Derived.Lib.SlBytesConst
set_option linter.unusedVariables false
set_option linter.unusedSimpArgs false
namespace Go.Proofs.YtpgcfpfmicghnaaDoor.mrk
open Go Go.RowKit Go.Lm Go.ChangeShapes Go.WideShapes Go.Proofs.YtpgcfpfmicghnaaDoor.sha

theorem run_digs (Cs : List (Array Value)) (h : ∀ C ∈ Cs, C.size = 32) (hn : 0 < Cs.length) (hm : Cs.length ≤ 1000) (parts : Array (Nat × Value)) (hp : parts.toList = ((Cs.map Value.agg).zipIdx 0).map fun x => (x.2, x.1)) (w : World) :
    (Instr.buildSlice 22 Cs.length parts).run Tryd.prog w = .ok (.slice (some ⟨w.heap.size, 0, none⟩) Cs.length Cs.length) (w.alloc (.cells (Cs.flatMap (·.toList)).toArray 25)) := by
  obtain ⟨i, z, hi, hz, hzs, hsz, hby⟩ := info_sum'
  refine run_buildSlice w 22 25 Cs.length _ (Cs.flatMap (·.toList)).toArray i z Tryd.underlying22 hi hz (by rw [hsz]; omega) (by rw [hsz]; omega) ?_
  rw [hsz, hp]
  have h := Great.fill_whole (s := 32) (by decide) (Cs.map Value.agg) ((Array.range (Cs.length * 32)).map (z.cells[· % z.cells.size]!)) (fun v hv => by obtain ⟨C, hC, rfl⟩ := List.mem_map.1 hv; exact h C hC) (by simp)
  refine h.trans ?_
  congr 2
  simp [List.flatMap_map, Value.cells]
theorem ds_block {w : World} {g : Nat} {ds : List (List UInt8)} {t : TypeId} {fr : Nat × Nat} (h : w.heap[g]? = some (.cells (dcells ds).toArray t fr)) (h32 : D32 ds) (hm : ds.length ≤ 1000) : DS w (.slice (some ⟨g, 0, none⟩) ds.length ds.length) ds := by
  refine ⟨some ⟨g, 0, none⟩, ds.length, rfl, Nat.le_refl _, by unfold maxLen; omega, fun h => by simp at h, h32, fun i hi => ⟨g, 0, rfl, fun j v hv => ?_⟩⟩
  rw [cell_of_row w g _ _ _ _ h, Nat.zero_add]
  simpa using dcells_get ds h32 i hi j v hv

theorem wp_build_run {P : Program} {o : Oper} {a : Act} {w w' : World} {K : Act → World → Prop} {Q : Exit → Act → World → Prop} (t : TypeId) (n : Nat) (parts : Array (Nat × Operand)) (ho : o.op = .buildSlice t n parts) {v : Value}
    (hr : (Instr.buildSlice t n (parts.map fun (i, x) => (i, a.eval x))).run P w = .ok v w') (h : K (a.put o.dst v) w') : o.wp P a w K Q := by
  unfold Oper.wp execOp
  simp only [ho, Sem.run_bind, hr, Result.andThen_ok]
  exact h
theorem DS.cells {w w' : World} {v : Value} {ds : List (List UInt8)} (h : DS w v ds) (hk : ∀ p u, w.cell? p = some u → w'.cell? p = some u) : DS w' v ds := by
  obtain ⟨a, cap, rfl, h1, h2, h3, h4, h5⟩ := h
  refine ⟨a, cap, rfl, h1, h2, h3, h4, fun i hi => ?_⟩
  obtain ⟨b, off, ha, hr⟩ := h5 i hi
  exact ⟨b, off, ha, fun j v hv => hk _ _ (hr j v hv)⟩
theorem bs_cells {w w' : World} {v : Value} {l : List UInt8} (h : BS w v l) (hk : ∀ p u, w.cell? p = some u → w'.cell? p = some u) : BS w' v l := h.kept fun p u _ _ hc => hk p u hc

set_option maxRecDepth 100000 in
set_option maxHeartbeats 4000000 in
theorem awake_c (w : World) (hT : Tab w) (hZ : Tz w) : Calls Tryd.prog 10 #[] w fun e w' => e = .returned (.bool true) ∧ Only [] w w' := by
  have HT := Lib.hid hT; have HTZ := Lib.hid hZ
  clear hT hZ
  go_enter Tryd.func10, Tryd.ntmps10
  obtain ⟨A, hAV, hAS, hAI, hA1⟩ := store_facts dA dA_length
  obtain ⟨C, hCV, hCS, hCI, hC1⟩ := store_facts dB dB_length
  have HBA : Hid (Tryd.prog.built 25 [(0, .int .u8 1)] = some A) := Lib.hid (by rw [← Value.agg.inj hAV]; kernel_rfl)
  have HBC : Hid (Tryd.prog.built 25 [(0, .int .u8 2)] = some C) := Lib.hid (by rw [← Value.agg.inj hCV]; kernel_rfl)
  have HAV := Lib.hid hAV; have HAS := Lib.hid hAS; have HAI := Lib.hid hAI; have HA1 := Lib.hid hA1
  have HCV := Lib.hid hCV; have HCS := Lib.hid hCS; have HCI := Lib.hid hCI; have HC1 := Lib.hid hC1
  clear hAV hAS hAI hA1 hCV hCS hCI hC1
  go_upto_region 2 with (first
    | (refine wpList_buildTo rfl 25 _ rfl _ rfl A (by simp only [List.map_toArray, List.map_cons, List.map_nil]; exact HBA.out) ?_)
    | (refine wpList_store_row rfl 25 _ _ rfl w.heap.size A rfl rfl _ _ (heap_alloc_new w _) HAI.out (by rw [HAS.out]; simp) HA1.out ?_))
  --@1
  generalize hg : World.setRow _ _ _ = w1
  have he1 : w1 = (w.alloc (.cells (List.replicate 32 (Value.int .u8 0)).toArray 25 (0, 0))).setRow w.heap.size A := hg.symm.trans rfl
  have HA2 : Hid (w1.heap[w.heap.size]? = some (.cells A 25 (0, 0))) := Lib.hid (by rw [he1]; exact setRow_heap _ _ _ A _ _ (heap_alloc_new w _))
  have HO1 : Hid (Only [] w w1) := Lib.hid (by rw [he1]; exact ((Only.refl [] w).alloc _).setRow (.inr (Nat.le_refl _)) A)
  clear hg he1
  obtain ⟨q, hq⟩ : ∃ q, w.heap.size = q := ⟨_, rfl⟩
  rw [hq] at HA2 ⊢
  clear hq
  go_upto_region 3 with (first
    | (refine wpList_buildTo rfl 25 _ rfl _ rfl C (by simp only [List.map_toArray, List.map_cons, List.map_nil]; exact HBC.out) ?_)
    | (refine wpList_store_row rfl 25 _ _ rfl w1.heap.size C rfl rfl _ _ (heap_alloc_new w1 _) HCI.out (by rw [HCS.out]; simp) HC1.out ?_))
  --@2
  generalize hg : World.setRow _ _ _ = w2
  have he2 : w2 = (w1.alloc (.cells (List.replicate 32 (Value.int .u8 0)).toArray 25 (0, 0))).setRow w1.heap.size C := hg.symm.trans rfl
  have ho2 : Only [] w1 w2 := by rw [he2]; exact ((Only.refl [] w1).alloc _).setRow (.inr (Nat.le_refl _)) C
  have HC3 : Hid (w2.heap[w1.heap.size]? = some (.cells C 25 (0, 0))) := Lib.hid (by rw [he2]; exact setRow_heap _ _ _ C _ _ (heap_alloc_new w1 _))
  have HA3 := Lib.hid (ho2.heap HA2.out (by simp)); have HO2 := Lib.hid (HO1.out.then ho2)
  clear hg he2 ho2 HA2 HO1
  obtain ⟨r, hr⟩ : ∃ r, w1.heap.size = r := ⟨_, rfl⟩
  rw [hr] at HC3 ⊢
  clear hr
  have kc := fun (w : World) (C : Array Value) (n c : Nat) => Lib.run_convert_bytes_const (P := Tryd.prog) w 23 5 C n c Tryd.underlying23 Tryd.underlying5
  go_wp2_with fail
  --@3
  have hbs : BS (w2.alloc (.cells #[.int .u8 97, .int .u8 98, .int .u8 99, .int .u8 100, .int .u8 101] 5 (5, 6))) (.slice (some ⟨w2.heap.size, 0, none⟩) 5 5) ex := BS.lit w2 _ 5 (5, 6) 5 ex rfl rfl (by decide)
  have ho3 : Only [] w2 (w2.alloc (.cells #[.int .u8 97, .int .u8 98, .int .u8 99, .int .u8 100, .int .u8 101] 5 (5, 6))) := (Only.refl [] w2).alloc _
  clear kc
  generalize World.alloc w2 _ = w3 at *
  refine (of_ok w3 _ ex 2 hbs (by decide) (by decide) (by decide) (by decide) (HT.out.only (HO2.out.then ho3) (by simp))).mono ?_
  rintro e w4 ⟨u, rfl, hod, ho4⟩
  have HO4 := Lib.hid (HO2.out.then (ho3.then ho4)); have HA4 := Lib.hid ((ho3.then ho4).heap HA3.out (by simp)); have HC4 := Lib.hid ((ho3.then ho4).heap HC3.out (by simp))
  have hds : DS w4 u exL := hod.ds
  obtain ⟨ua, uc, rfl, -, -⟩ := hod.slice
  have HD4 : Hid (DS w4 (.slice ua 3 uc) exL) := Lib.hid hds
  clear hbs ho3 ho4 hod hds HO2 HA3 HC3
  rw [show ((leavesD ex 2 (cntN ex.length 2)).length) = 3 from rfl, show ((ex.length : Nat) : Int) = 5 from rfl, show ((2 : Nat) : Int) = 2 from rfl]
  go_upto_region 4 with fail
  --@4
  generalize hg : World.alloc _ _ = w5
  have he5 : w5 = w4.alloc (.cells #[.int .u64 5, .int .u32 2, .slice ua 3 uc] 35 (0, 0)) := hg.symm.trans rfl
  have ho5 : Only [] w4 w5 := by rw [he5]; exact (Only.refl [] w4).alloc _
  have HM5 : Hid (M3 w5 w4.heap.size 35 5 2 (.slice ua 3 uc)) := Lib.hid (by rw [he5]; exact heap_alloc_new w4 _)
  have HO5 := Lib.hid (HO4.out.then ho5); have HA5 := Lib.hid (ho5.heap HA4.out (by simp)); have HC5 := Lib.hid (ho5.heap HC4.out (by simp)); have HD5 := Lib.hid (HD4.out.only ho5 (by simp))
  clear hg he5 ho5 HO4 HA4 HC4 HD4
  obtain ⟨t, ht⟩ : ∃ t, w4.heap.size = t := ⟨_, rfl⟩
  rw [ht] at HM5 ⊢
  clear ht
  go_wp2_with (first
    | (refine wpList_load_row rfl 25 _ rfl q rfl _ A _ _ HA5.out Tryd.underlying25 rfl HAI.out ?_)
    | (refine wpList_load_row rfl 25 _ rfl r rfl _ C _ _ ((Only.refl [] w5).alloc (.cells A 25) |>.heap HC5.out (by simp)) Tryd.underlying25 rfl HCI.out ?_)
    | (refine wpList_one_dig rfl _ rfl A rfl HAS.out ?_)
    | (refine wpList_one_dig rfl _ rfl C rfl HCS.out ?_))
  --@5
  have hda : DS (w5.alloc (.cells A 25)) (.slice (some ⟨w5.heap.size, 0, none⟩) 1 1) [dA] := ds_block (t := 25) (fr := (0, 0)) (ds := [dA]) (by rw [show (dcells [dA]).toArray = A from by rw [← Value.agg.inj HAV.out]; simp [dcells]]; exact heap_alloc_new w5 _) (fun d hd => by rw [List.mem_singleton.1 hd]; rfl) (by decide)
  have hdb : DS ((w5.alloc (.cells A 25)).alloc (.cells C 25)) (.slice (some ⟨w5.heap.size + 1, 0, none⟩) 1 1) [dB] := ds_block (t := 25) (fr := (0, 0)) (ds := [dB]) (by rw [show (dcells [dB]).toArray = C from by rw [← Value.agg.inj HCV.out]; simp [dcells]]; have := heap_alloc_new (w5.alloc (.cells A 25)) (.cells C 25); simpa using this) (fun d hd => by rw [List.mem_singleton.1 hd]; rfl) (by decide)
  have ho6 : Only [] w5 ((w5.alloc (.cells A 25)).alloc (.cells C 25)) := ((Only.refl [] w5).alloc _).alloc _
  have hda' := hda.only ((Only.refl [] _).alloc (.cells C 25)) (by simp)
  refine (two_no _ _ _ [dA] [dB] hda' hdb (by decide) (by decide) (HT.out.only (HO5.out.then ho6) (by simp)) (HTZ.out.only (HO5.out.then ho6) (by simp)) ab_no).mono ?_
  rintro e w6 ⟨X, Y, lx, ly, rfl, -, -, ho7, -⟩
  rw [ab_no]
  have HO6 := Lib.hid (HO5.out.then (ho6.then ho7)); have HA6 := Lib.hid ((ho6.then ho7).heap HA5.out (by simp)); have HD6 := Lib.hid (HD5.out.only (ho6.then ho7) (by simp)); have HM6 := Lib.hid (HM5.out.only (ho6.then ho7) (by simp)); have HC6 := Lib.hid ((ho6.then ho7).heap HC5.out (by simp))
  clear hda hdb hda' ho6 ho7 HO5 HA5 HD5 HM5 HC5
  go_upto_region 5 with fail
  --@6
  refine wp_region_F w6.heap.size (by kernel_rfl) ?_
  change wpAnyM _ _ _ _ _ _ _ _ (World.drew _)
  have HQB : Hid (q < w6.heap.size) := Lib.hid (lt_of_block HA6.out)
  have HRB : Hid (r < w6.heap.size) := Lib.hid (lt_of_block HC6.out)
  have HTB : Hid (t < w6.heap.size) := Lib.hid HM6.out.lt
  have HWB : Hid (w.heap.size ≤ w6.heap.size) := Lib.hid HO6.out.size
  have HBd : Hid (w6.heap.size = w6.drew.heap.size) := Lib.hid rfl
  have HOd := Lib.hid HO6.out.drew; have HAd := Lib.hid ((Only.refl [] w6).drew.heap HA6.out (by simp)); have HCd := Lib.hid ((Only.refl [] w6).drew.heap HC6.out (by simp)); have HDd := Lib.hid (HD6.out.only (Only.refl [] w6).drew (by simp)); have HMd := Lib.hid (HM6.out.only (Only.refl [] w6).drew (by simp))
  generalize w6.heap.size = B at *
  generalize World.drew w6 = wd at *
  clear HO6 HA6 HC6 HD6 HM6
  -- what the calls return
  obtain ⟨N1, hN1, hN1s, hN1i, -⟩ := store_facts (nodeD dA dB) (Sha.sum_length _)
  obtain ⟨R, hR, hRs, hRi, -⟩ := store_facts (nodeD (nodeD dA dB) dA) (Sha.sum_length _)
  obtain ⟨L, hL, hLs, hLi, -⟩ := store_facts (leafD [101]) (Sha.sum_length _)
  obtain ⟨I, hI, hIs, hIi, -⟩ := store_facts (idD 5 2 exL) (Sha.sum_length _)
  have h32 : D32 [dA, dB, dA] := fun d hd => by
    rcases List.mem_cons.1 hd with rfl | hd
    · rfl
    · rcases List.mem_cons.1 hd with rfl | hd
      · rfl
      · rw [List.mem_singleton.1 hd]; rfl
  have HCE : Hid ((dcells [dA, dB, dA]).toArray = (List.flatMap (·.toList) [A, C, A]).toArray) := Lib.hid (by rw [← Value.agg.inj HAV.out, ← Value.agg.inj HCV.out]; simp [dcells])
  have HCA : Hid ((dcells [dA]).toArray = A) := Lib.hid (by rw [← Value.agg.inj HAV.out]; simp [dcells])
  have HR3 : Hid (∀ (x : World) (g : Nat) (fr : Nat × Nat), OnlyF B wd x → x.heap[g]? = some (.cells (List.flatMap (·.toList) [A, C, A]).toArray 25 fr) → Calls Tryd.prog 11 #[.slice (some ⟨g, 0, none⟩) 3 3] x fun e w' => e = .returned (.agg R) ∧ Only [] x w') := Lib.hid (fun x g fr ho hg => by
    have how := OnlyF.only HOd.out ho HWB.out
    have h := root_c x (.slice (some ⟨g, 0, none⟩) 3 3) [dA, dB, dA] (ds_block (by rw [HCE.out]; exact hg) h32 (by decide)) (by decide) (HT.out.only how (by simp)) (HTZ.out.only how (by simp))
    rw [root_three, hR] at h
    exact h)
  have HR1 : Hid (∀ (x : World) (g : Nat) (fr : Nat × Nat), OnlyF B wd x → x.heap[g]? = some (.cells A 25 fr) → Calls Tryd.prog 11 #[.slice (some ⟨g, 0, none⟩) 1 1] x fun e w' => e = .returned (.agg A) ∧ Only [] x w') := Lib.hid (fun x g fr ho hg => by
    have how := OnlyF.only HOd.out ho HWB.out
    have h := root_c x (.slice (some ⟨g, 0, none⟩) 1 1) [dA] (ds_block (by rw [HCA.out]; exact hg) (fun d hd => by rw [List.mem_singleton.1 hd]; rfl) (by decide)) (by decide) (HT.out.only how (by simp)) (HTZ.out.only how (by simp))
    rw [root_alone, HAV.out] at h
    exact h)
  have HN1 : Hid (∀ x : World, OnlyF B wd x → Calls Tryd.prog 15 #[.agg A, .agg C] x fun e w' => e = .returned (.agg N1) ∧ Only [] x w') := Lib.hid (fun x ho => by
    have h := node_c x dA dB rfl rfl (HT.out.only (OnlyF.only HOd.out ho HWB.out) (by simp))
    rw [HAV.out, HCV.out, hN1] at h
    exact h)
  have HN2 : Hid (∀ x : World, OnlyF B wd x → Calls Tryd.prog 15 #[.agg N1, .agg A] x fun e w' => e = .returned (.agg R) ∧ Only [] x w') := Lib.hid (fun x ho => by
    have h := node_c x (nodeD dA dB) dA (Sha.sum_length _) rfl (HT.out.only (OnlyF.only HOd.out ho HWB.out) (by simp))
    rw [HAV.out, hN1, hR] at h
    exact h)
  have HLF : Hid (∀ (x : World) (g : Nat) (fr : Nat × Nat), OnlyF B wd x → x.heap[g]? = some (.cells #[.int .u8 101] 5 fr) → Calls Tryd.prog 13 #[.slice (some ⟨g, 0, none⟩) 1 1] x fun e w' => e = .returned (.agg L) ∧ Only [] x w') := Lib.hid (fun x g fr ho hg => by
    have hb : BS x (.slice (some ⟨g, 0, none⟩) 1 1) [101] := BS.of_vs (VS.of_block hg 1 1 _ rfl rfl (Nat.le_refl _) (by unfold maxLen; omega))
    have h := leaf_c x _ [101] hb (by decide) (HT.out.only (OnlyF.only HOd.out ho HWB.out) (by simp))
    rw [hL] at h
    exact h)
  have HID : Hid (∀ x : World, OnlyF B wd x → Calls Tryd.prog 20 #[.agg #[.int .u64 5, .int .u32 2, .slice ua 3 uc]] x fun e w' => e = .returned (.agg I) ∧ Only [] x w') := Lib.hid (fun x ho => by
    have how := OnlyF.only HOd.out ho HWB.out
    have h := id_c x 5 2 _ exL (HDd.out.cells fun p u hc => ho.cell hc) (by decide) (by decide) (by decide) (HT.out.only how (by simp)) (HTZ.out.only how (by simp))
    rw [show Sha.sum (idB 5 2 exL) = idD 5 2 exL from rfl, hI] at h
    exact h)
  have HC1' : Hid (∀ x : World, OnlyF B wd x → Calls Tryd.prog 22 #[.agg #[.int .u64 5, .int .u32 2, .slice ua 3 uc], .agg I] x fun e w' => e = .returned (.int .i64 0) ∧ Only [] x w') := Lib.hid (fun x ho => by
    have how := OnlyF.only HOd.out ho HWB.out
    have h := check_c x 5 2 _ exL (idD 5 2 exL) (HDd.out.cells fun p u hc => ho.cell hc) (Sha.sum_length _) (by decide) (by decide) (by decide) (HT.out.only how (by simp)) (HTZ.out.only how (by simp))
    rw [ex_ok, hI] at h
    exact h)
  have HC2' : Hid (∀ x : World, OnlyF B wd x → Calls Tryd.prog 22 #[.agg #[.int .u64 5, .int .u32 2, .slice ua 3 uc], .agg A] x fun e w' => e = .returned (.int .i64 33) ∧ Only [] x w') := Lib.hid (fun x ho => by
    have how := OnlyF.only HOd.out ho HWB.out
    have h := check_c x 5 2 _ exL dA (HDd.out.cells fun p u hc => ho.cell hc) rfl (by decide) (by decide) (by decide) (HT.out.only how (by simp)) (HTZ.out.only how (by simp))
    rw [ex_no, HAV.out] at h
    exact h)
  have hqR : ∀ W, (binOp .eql 25 (.agg R) (.agg R)).run Tryd.prog W = .ok (.bool true) W := fun W => by
    have h := eql_dv (nodeD (nodeD dA dB) dA) (nodeD (nodeD dA dB) dA) (Sha.sum_length _) (Sha.sum_length _) W
    rw [hR, beq_self_eq_true] at h
    exact h
  have hqA : ∀ W, (binOp .eql 25 (.agg A) (.agg A)).run Tryd.prog W = .ok (.bool true) W := fun W => by
    have h := eql_dv dA dA rfl rfl W
    rw [HAV.out, beq_self_eq_true] at h
    exact h
  have hqL : ∀ W, (binOp .eql 25 (.agg L) (.agg L)).run Tryd.prog W = .ok (.bool true) W := fun W => by
    have h := eql_dv (leafD [101]) (leafD [101]) (Sha.sum_length _) (Sha.sum_length _) W
    rw [hL, beq_self_eq_true] at h
    exact h
  have hgR : ∀ x y W, (eqGuard .eql 25 x y (.agg R) (.agg R)).run Tryd.prog W = .ok () W := fun x y W => by
    have h := guard_dv .eql (nodeD (nodeD dA dB) dA) (nodeD (nodeD dA dB) dA) x y W
    rw [hR] at h
    exact h
  have hgA : ∀ x y W, (eqGuard .eql 25 x y (.agg A) (.agg A)).run Tryd.prog W = .ok () W := fun x y W => by
    have h := guard_dv .eql dA dA x y W
    rw [HAV.out] at h
    exact h
  have hgL : ∀ x y W, (eqGuard .eql 25 x y (.agg L) (.agg L)).run Tryd.prog W = .ok () W := fun x y W => by
    have h := guard_dv .eql (leafD [101]) (leafD [101]) x y W
    rw [hL] at h
    exact h
  -- the manifest's cells, its last leaf
  obtain ⟨m0, m1, m2, mf⟩ := HMd.out.cells
  have hm2 : ∀ x : LaterF B wd, x.at'.cell? ⟨t, 2, none⟩ = some (.slice ua 3 uc) := fun x => x.rel.cell m2
  obtain ⟨lb, lo, rfl, hlr⟩ := HDd.out.at 2 (by decide)
  have hlr : wd.rangeAt lb (lo + 64) ((leafD [101]).map u8v) := hlr
  have hLc : (leafD [101]).map u8v = L.toList := by rw [← Value.agg.inj hL]
  rw [hLc] at hlr
  have HLM : Hid (∀ x : World, OnlyF B wd x → (Instr.loadAt 25 (.pointer (some ⟨lb, lo + 64, none⟩))).run Tryd.prog x = .ok (.agg L) x) := Lib.hid (fun x ho => run_loadAt_mid x lb (lo + 64) 25 L.toList _ (fun j v hv => ho.cell (hlr j v hv)) Tryd.underlying25 rfl hLi)
  have HMB : Hid (wd.heap[t]? = some (.cells #[.int .u64 5, .int .u32 2, .slice (some ⟨lb, lo, none⟩) 3 uc] 35 (0, 0))) := Lib.hid HMd.out
  clear hN1 hN1s hN1i hR hRs hRi hL hLs hLi hI hIs hIi h32 m0 m1 m2 mf hlr hLc
  --@7
  refine wpAnyF_take (i := 0) (oi := { dst := some 25, op := .load 25 (.tmp 1), type := 25, pos := "law.go:17", after := #[], guard := none }) rfl (by kernel_rfl) (by kernel_rfl) (by kernel_rfl) (YF.row (by rfl) 25 (.tmp 1) rfl q (by rfl) _ _ _ _ ((OnlyF.refl B wd).heap HAd.out HQB.out) HQB.out Tryd.underlying25 rfl HAI.out) (by exact fun _ _ _ h => h) ?_
  try simp only [Act.put, List.setIfInBounds_toArray, List.set_cons_zero, List.set_cons_succ]
  refine wpAnyF_take (i := 1) (oi := { dst := some 26, op := .load 25 (.tmp 2), type := 25, pos := "law.go:17", after := #[], guard := none }) rfl (by kernel_rfl) (by kernel_rfl) (by kernel_rfl) (YF.row (by rfl) 25 (.tmp 2) rfl r (by rfl) _ _ _ _ ((OnlyF.refl B wd).heap HCd.out HRB.out) HRB.out Tryd.underlying25 rfl HCI.out) (by exact fun _ _ _ h => h) ?_
  try simp only [Act.put, List.setIfInBounds_toArray, List.set_cons_zero, List.set_cons_succ]
  refine wpAnyF_take (i := 2) (oi := { dst := some 27, op := .load 25 (.tmp 1), type := 25, pos := "law.go:17", after := #[], guard := none }) rfl (by kernel_rfl) (by kernel_rfl) (by kernel_rfl) (YF.row (by rfl) 25 (.tmp 1) rfl q (by rfl) _ _ _ _ ((OnlyF.refl B wd).heap HAd.out HQB.out) HQB.out Tryd.underlying25 rfl HAI.out) (by exact fun _ _ _ h => h) ?_
  try simp only [Act.put, List.setIfInBounds_toArray, List.set_cons_zero, List.set_cons_succ]
  refine wpAnyF_take (i := 5) (oi := { dst := some 30, op := .load 25 (.tmp 1), type := 25, pos := "law.go:17", after := #[], guard := none }) rfl (by kernel_rfl) (by kernel_rfl) (by kernel_rfl) (YF.row (by rfl) 25 (.tmp 1) rfl q (by rfl) _ _ _ _ ((OnlyF.refl B wd).heap HAd.out HQB.out) HQB.out Tryd.underlying25 rfl HAI.out) (by exact fun _ _ _ h => h) ?_
  try simp only [Act.put, List.setIfInBounds_toArray, List.set_cons_zero, List.set_cons_succ]
  refine wpAnyF_take (i := 6) (oi := { dst := some 31, op := .load 25 (.tmp 2), type := 25, pos := "law.go:17", after := #[], guard := none }) rfl (by kernel_rfl) (by kernel_rfl) (by kernel_rfl) (YF.row (by rfl) 25 (.tmp 2) rfl r (by rfl) _ _ _ _ ((OnlyF.refl B wd).heap HCd.out HRB.out) HRB.out Tryd.underlying25 rfl HCI.out) (by exact fun _ _ _ h => h) ?_
  try simp only [Act.put, List.setIfInBounds_toArray, List.set_cons_zero, List.set_cons_succ]
  refine wpAnyF_take (i := 8) (oi := { dst := some 33, op := .load 25 (.tmp 1), type := 25, pos := "law.go:17", after := #[], guard := none }) rfl (by kernel_rfl) (by kernel_rfl) (by kernel_rfl) (YF.row (by rfl) 25 (.tmp 1) rfl q (by rfl) _ _ _ _ ((OnlyF.refl B wd).heap HAd.out HQB.out) HQB.out Tryd.underlying25 rfl HAI.out) (by exact fun _ _ _ h => h) ?_
  try simp only [Act.put, List.setIfInBounds_toArray, List.set_cons_zero, List.set_cons_succ]
  refine wpAnyF_one (i := 3) (o := { dst := some 28, op := .buildSlice 22 3 #[(0, .tmp 25), (1, .tmp 26), (2, .tmp 27)], type := 22, pos := "law.go:17", after := #[{ on := 0, ground := .data }, { on := 1, ground := .data }, { on := 2, ground := .data }], guard := none }) (by kernel_rfl) rfl (fun x1 hx1 K hK => ?_)
  rw [if_pos (by rfl)]
  have hrun : (Instr.buildSlice 22 3 #[(0, .agg A), (1, .agg C), (2, .agg A)]).run Tryd.prog x1 = .ok (.slice (some ⟨x1.heap.size, 0, none⟩) 3 3) (x1.alloc (.cells (List.flatMap (·.toList) [A, C, A]).toArray 25)) := run_digs [A, C, A] (by intro X hX; simp at hX; rcases hX with rfl | rfl | rfl; exact HAS.out; exact HCS.out; exact HAS.out) (by simp) (by simp) #[(0, .agg A), (1, .agg C), (2, .agg A)] rfl x1
  refine wp_build_run 22 3 _ rfl (by simp only [List.map_toArray, List.map_cons, List.map_nil]; exact hrun) ?_
  --@b3
  have hgb := heap_alloc_new x1 (.cells (List.flatMap (·.toList) [A, C, A]).toArray 25)
  have hoa : OnlyF B x1 (x1.alloc (.cells (List.flatMap (·.toList) [A, C, A]).toArray 25)) := OnlyF.of ((Only.refl [] x1).alloc _)
  refine hK _ _ hoa ?_
  clear hK K
  try simp only [Act.put, List.setIfInBounds_toArray, List.set_cons_zero, List.set_cons_succ]
  have HE1 : Hid (OnlyF B wd (x1.alloc (.cells (List.flatMap (·.toList) [A, C, A]).toArray 25))) := Lib.hid ((OnlyF.refl B wd).tr _ _ _ (hx1.tr _ _ _ hoa))
  have HGE1 := Lib.hid hgb
  clear hgb hoa hrun hx1
  generalize hgq : x1.heap.size = gE1 at *
  generalize hgw : World.alloc x1 _ = yE1 at *
  clear hgq hgw
  refine wpAnyF_take (i := 4) (oi := { dst := some 29, op := .call { callee := Callee.value (.func 11), args := #[.tmp 28], argTypes := #[22] }, type := 25, pos := "law.go:17", after := #[{ on := 3, ground := .data }], guard := none }) rfl (by kernel_rfl) (by kernel_rfl) (by kernel_rfl) (YF.call (by rfl) (by rfl) (by intro x; go_simp; first | done | rfl | exact ⟨rfl, rfl⟩) (fun x => (by obtain ⟨fr, hg⟩ := x.rel.same _ _ _ _ HGE1.out; exact HR3.out x.at' gE1 fr (HE1.out.tr _ _ _ x.rel) hg))) (by exact fun _ _ _ h => h) ?_
  try simp only [Act.put, List.setIfInBounds_toArray, List.set_cons_zero, List.set_cons_succ]
  refine wpAnyF_take (i := 7) (oi := { dst := some 32, op := .call { callee := Callee.value (.func 15), args := #[.tmp 30, .tmp 31], argTypes := #[25, 25] }, type := 25, pos := "law.go:17", after := #[{ on := 5, ground := .data }, { on := 6, ground := .data }, { on := 4, ground := .chain }], guard := none }) rfl (by kernel_rfl) (by kernel_rfl) (by kernel_rfl) (YF.call (by rfl) (by rfl) (by intro x; go_simp; first | done | rfl | exact ⟨rfl, rfl⟩) (fun x => HN1.out x.at' (HE1.out.tr _ _ _ x.rel))) (by exact fun _ _ _ h => h) ?_
  try simp only [Act.put, List.setIfInBounds_toArray, List.set_cons_zero, List.set_cons_succ]
  refine wpAnyF_take (i := 9) (oi := { dst := some 34, op := .call { callee := Callee.value (.func 15), args := #[.tmp 32, .tmp 33], argTypes := #[25, 25] }, type := 25, pos := "law.go:17", after := #[{ on := 7, ground := .data }, { on := 8, ground := .data }, { on := 7, ground := .chain }], guard := none }) rfl (by kernel_rfl) (by kernel_rfl) (by kernel_rfl) (YF.call (by rfl) (by rfl) (by intro x; go_simp; first | done | rfl | exact ⟨rfl, rfl⟩) (fun x => HN2.out x.at' (HE1.out.tr _ _ _ x.rel))) (by exact fun _ _ _ h => h) ?_
  try simp only [Act.put, List.setIfInBounds_toArray, List.set_cons_zero, List.set_cons_succ]
  refine wpAnyF_take (i := 10) (oi := { dst := some 35, op := .binOp BinOp.eql 25 (.tmp 29) (.tmp 34) 25, type := 4, pos := "law.go:17", after := #[{ on := 4, ground := .data }, { on := 9, ground := .data }], guard := none }) rfl (by kernel_rfl) (by kernel_rfl) (by kernel_rfl) (YF.value (by rfl) (by rfl) (by intro x; first | (go_simp; first | done | rfl) | (unfold execOp; simp only [Sem.run_bind]; go_simp; first | done | rfl))) (by exact fun _ _ _ h => h) ?_
  try simp only [Act.put, List.setIfInBounds_toArray, List.set_cons_zero, List.set_cons_succ]
  refine wpAnyF_take (i := 11) (oi := { dst := some 36, op := .move (.tmp 35), type := 4, pos := "law.go:17", after := #[{ on := 10, ground := .data }, { on := 9, ground := .chain }], guard := none }) rfl (by kernel_rfl) (by kernel_rfl) (by kernel_rfl) (YF.pure (by rfl) (by intro x; first | (go_simp; first | done | rfl) | (unfold execOp; simp only [Sem.run_bind]; go_simp; first | done | rfl))) (by exact fun _ _ _ h => h) ?_
  try simp only [Act.put, List.setIfInBounds_toArray, List.set_cons_zero, List.set_cons_succ]
  --@c1
  refine wpAnyF_take (i := 12) (oi := { dst := some 37, op := .load 25 (.tmp 1), type := 25, pos := "law.go:17", after := #[{ on := 11, ground := .guard }], guard := some (11, true) }) rfl (by kernel_rfl) (by kernel_rfl) (by kernel_rfl) (YF.row (by rfl) 25 (.tmp 1) rfl q (by rfl) _ _ _ _ (HE1.out.heap HAd.out HQB.out) HQB.out Tryd.underlying25 rfl HAI.out) (by exact fun _ _ _ h => h) ?_
  try simp only [Act.put, List.setIfInBounds_toArray, List.set_cons_zero, List.set_cons_succ]
  refine wpAnyF_take (i := 15) (oi := { dst := some 40, op := .load 25 (.tmp 1), type := 25, pos := "law.go:17", after := #[{ on := 11, ground := .guard }], guard := some (11, true) }) rfl (by kernel_rfl) (by kernel_rfl) (by kernel_rfl) (YF.row (by rfl) 25 (.tmp 1) rfl q (by rfl) _ _ _ _ (HE1.out.heap HAd.out HQB.out) HQB.out Tryd.underlying25 rfl HAI.out) (by exact fun _ _ _ h => h) ?_
  try simp only [Act.put, List.setIfInBounds_toArray, List.set_cons_zero, List.set_cons_succ]
  refine wpAnyF_one (i := 13) (o := { dst := some 38, op := .buildSlice 22 1 #[(0, .tmp 37)], type := 22, pos := "law.go:17", after := #[{ on := 12, ground := .data }, { on := 11, ground := .guard }], guard := some (11, true) }) (by kernel_rfl) rfl (fun x2 hx2 K hK => ?_)
  rw [if_pos (by rfl)]
  have hrun : (Instr.buildSlice 22 1 #[(0, .agg A)]).run Tryd.prog x2 = .ok (.slice (some ⟨x2.heap.size, 0, none⟩) 1 1) (x2.alloc (.cells A 25)) := run_one_dig A HAS.out x2
  refine wp_build_run 22 1 _ rfl (by simp only [List.map_toArray, List.map_cons, List.map_nil]; exact hrun) ?_
  --@b13
  have hgb := heap_alloc_new x2 (.cells A 25)
  have hoa : OnlyF B x2 (x2.alloc (.cells A 25)) := OnlyF.of ((Only.refl [] x2).alloc _)
  refine hK _ _ hoa ?_
  clear hK K
  try simp only [Act.put, List.setIfInBounds_toArray, List.set_cons_zero, List.set_cons_succ]
  have HE2 : Hid (OnlyF B wd (x2.alloc (.cells A 25))) := Lib.hid (HE1.out.tr _ _ _ (hx2.tr _ _ _ hoa))
  have HGE2 := Lib.hid hgb
  clear hgb hoa hrun hx2
  generalize hgq : x2.heap.size = gE2 at *
  generalize hgw : World.alloc x2 _ = yE2 at *
  clear hgq hgw
  --@c2
  refine wpAnyF_take (i := 14) (oi := { dst := some 39, op := .call { callee := Callee.value (.func 11), args := #[.tmp 38], argTypes := #[22] }, type := 25, pos := "law.go:17", after := #[{ on := 13, ground := .data }, { on := 11, ground := .chain }, { on := 11, ground := .guard }], guard := some (11, true) }) rfl (by kernel_rfl) (by kernel_rfl) (by kernel_rfl) (YF.call (by rfl) (by rfl) (by intro x; go_simp; first | done | rfl | exact ⟨rfl, rfl⟩) (fun x => (by obtain ⟨fr, hg⟩ := x.rel.same _ _ _ _ HGE2.out; exact HR1.out x.at' gE2 fr (HE2.out.tr _ _ _ x.rel) hg))) (by exact fun _ _ _ h => h) ?_
  try simp only [Act.put, List.setIfInBounds_toArray, List.set_cons_zero, List.set_cons_succ]
  refine wpAnyF_take (i := 16) (oi := { dst := some 41, op := .binOp BinOp.eql 25 (.tmp 39) (.tmp 40) 25, type := 4, pos := "law.go:17", after := #[{ on := 14, ground := .data }, { on := 15, ground := .data }, { on := 11, ground := .guard }], guard := some (11, true) }) rfl (by kernel_rfl) (by kernel_rfl) (by kernel_rfl) (YF.value (by rfl) (by rfl) (by intro x; first | (go_simp; first | done | rfl) | (unfold execOp; simp only [Sem.run_bind]; go_simp; first | done | rfl))) (by exact fun _ _ _ h => h) ?_
  try simp only [Act.put, List.setIfInBounds_toArray, List.set_cons_zero, List.set_cons_succ]
  refine wpAnyF_take (i := 17) (oi := { dst := some 42, op := .pick (.tmp 36) (.tmp 41) (.const (Value.bool false)), type := 4, pos := "law.go:17", after := #[{ on := 11, ground := .data }, { on := 16, ground := .data }], guard := none }) rfl (by kernel_rfl) (by kernel_rfl) (by kernel_rfl) (YF.pure (by rfl) (by intro x; first | (go_simp; first | done | rfl) | (unfold execOp; simp only [Sem.run_bind]; go_simp; first | done | rfl))) (by exact fun _ _ _ h => h) ?_
  try simp only [Act.put, List.setIfInBounds_toArray, List.set_cons_zero, List.set_cons_succ]
  refine wpAnyF_take (i := 18) (oi := { dst := some 43, op := .move (.tmp 42), type := 4, pos := "law.go:17", after := #[{ on := 17, ground := .data }, { on := 14, ground := .chain }], guard := none }) rfl (by kernel_rfl) (by kernel_rfl) (by kernel_rfl) (YF.pure (by rfl) (by intro x; first | (go_simp; first | done | rfl) | (unfold execOp; simp only [Sem.run_bind]; go_simp; first | done | rfl))) (by exact fun _ _ _ h => h) ?_
  try simp only [Act.put, List.setIfInBounds_toArray, List.set_cons_zero, List.set_cons_succ]
  refine wpAnyF_take (i := 19) (oi := { dst := some 44, op := .move (.tmp 4), type := 36, pos := "law.go:17", after := #[{ on := 18, ground := .guard }], guard := some (18, true) }) rfl (by kernel_rfl) (by kernel_rfl) (by kernel_rfl) (YF.pure (by rfl) (by intro x; first | (go_simp; first | done | rfl) | (unfold execOp; simp only [Sem.run_bind]; go_simp; first | done | rfl))) (by exact fun _ _ _ h => h) ?_
  try simp only [Act.put, List.setIfInBounds_toArray, List.set_cons_zero, List.set_cons_succ]
  refine wpAnyF_take (i := 20) (oi := { dst := some 45, op := .binOp BinOp.eql 36 (.tmp 44) (.const (Value.int IntKind.i64 0)) 36, type := 4, pos := "law.go:17", after := #[{ on := 19, ground := .data }, { on := 18, ground := .guard }], guard := some (18, true) }) rfl (by kernel_rfl) (by kernel_rfl) (by kernel_rfl) (YF.value (by rfl) (by rfl) (by intro x; first | (go_simp; first | done | rfl) | (unfold execOp; simp only [Sem.run_bind]; go_simp; first | done | rfl))) (by exact fun _ _ _ h => h) ?_
  try simp only [Act.put, List.setIfInBounds_toArray, List.set_cons_zero, List.set_cons_succ]
  refine wpAnyF_take (i := 21) (oi := { dst := some 46, op := .pick (.tmp 43) (.tmp 45) (.const (Value.bool false)), type := 4, pos := "law.go:17", after := #[{ on := 18, ground := .data }, { on := 20, ground := .data }], guard := none }) rfl (by kernel_rfl) (by kernel_rfl) (by kernel_rfl) (YF.pure (by rfl) (by intro x; first | (go_simp; first | done | rfl) | (unfold execOp; simp only [Sem.run_bind]; go_simp; first | done | rfl))) (by exact fun _ _ _ h => h) ?_
  try simp only [Act.put, List.setIfInBounds_toArray, List.set_cons_zero, List.set_cons_succ]
  refine wpAnyF_take (i := 22) (oi := { dst := some 47, op := .move (.tmp 46), type := 4, pos := "law.go:17", after := #[{ on := 21, ground := .data }, { on := 18, ground := .chain }], guard := none }) rfl (by kernel_rfl) (by kernel_rfl) (by kernel_rfl) (YF.pure (by rfl) (by intro x; first | (go_simp; first | done | rfl) | (unfold execOp; simp only [Sem.run_bind]; go_simp; first | done | rfl))) (by exact fun _ _ _ h => h) ?_
  try simp only [Act.put, List.setIfInBounds_toArray, List.set_cons_zero, List.set_cons_succ]
  have hm2 : ∀ x : LaterF B yE2, x.at'.cell? ⟨t, 2, none⟩ = some (.slice (some ⟨lb, lo, none⟩) 3 uc) := fun x => hm2 ⟨x.at', HE2.out.tr _ _ _ x.rel⟩
  refine wpAnyF_take (i := 23) (oi := { dst := some 48, op := .fieldAddr 35 (.tmp 3) 2, type := 0, pos := "law.go:17", after := #[{ on := 22, ground := .guard }], guard := some (22, true) }) rfl (by kernel_rfl) (by kernel_rfl) (by kernel_rfl) (YF.pure (by rfl) (by intro x; first | (go_simp; first | done | rfl) | (unfold execOp; simp only [Sem.run_bind]; go_simp; first | done | rfl))) (by exact fun _ _ _ h => h) ?_
  try simp only [Act.put, List.setIfInBounds_toArray, List.set_cons_zero, List.set_cons_succ]
  refine wpAnyF_take (i := 24) (oi := { dst := some 49, op := .load 22 (.tmp 48), type := 22, pos := "law.go:17", after := #[{ on := 23, ground := .data }, { on := 22, ground := .guard }], guard := some (22, true) }) rfl (by kernel_rfl) (by kernel_rfl) (by kernel_rfl) (YF.value (by rfl) (by rfl) (by intro x; first | (go_simp; first | done | rfl) | (unfold execOp; simp only [Sem.run_bind]; go_simp; first | done | rfl))) (by exact fun _ _ _ h => h) ?_
  try simp only [Act.put, List.setIfInBounds_toArray, List.set_cons_zero, List.set_cons_succ]
  refine wpAnyF_take (i := 25) (oi := { dst := some 50, op := .call { callee := Callee.builtin Builtin.len, args := #[.tmp 49], argTypes := #[22] }, type := 3, pos := "law.go:17", after := #[{ on := 24, ground := .data }, { on := 22, ground := .guard }], guard := some (22, true) }) rfl (by kernel_rfl) (by kernel_rfl) (by kernel_rfl) (YF.value (by rfl) (by rfl) (by intro x; first | (go_simp; first | done | rfl) | (unfold execOp; simp only [Sem.run_bind]; go_simp; first | done | rfl))) (by exact fun _ _ _ h => h) ?_
  try simp only [Act.put, List.setIfInBounds_toArray, List.set_cons_zero, List.set_cons_succ]
  refine wpAnyF_take (i := 26) (oi := { dst := some 51, op := .binOp BinOp.eql 3 (.tmp 50) (.const (Value.int IntKind.i64 3)) 3, type := 4, pos := "law.go:17", after := #[{ on := 25, ground := .data }, { on := 22, ground := .guard }], guard := some (22, true) }) rfl (by kernel_rfl) (by kernel_rfl) (by kernel_rfl) (YF.value (by rfl) (by rfl) (by intro x; first | (go_simp; first | done | rfl) | (unfold execOp; simp only [Sem.run_bind]; go_simp; first | done | rfl))) (by exact fun _ _ _ h => h) ?_
  try simp only [Act.put, List.setIfInBounds_toArray, List.set_cons_zero, List.set_cons_succ]
  refine wpAnyF_take (i := 27) (oi := { dst := some 52, op := .pick (.tmp 47) (.tmp 51) (.const (Value.bool false)), type := 4, pos := "law.go:17", after := #[{ on := 22, ground := .data }, { on := 26, ground := .data }], guard := none }) rfl (by kernel_rfl) (by kernel_rfl) (by kernel_rfl) (YF.pure (by rfl) (by intro x; first | (go_simp; first | done | rfl) | (unfold execOp; simp only [Sem.run_bind]; go_simp; first | done | rfl))) (by exact fun _ _ _ h => h) ?_
  try simp only [Act.put, List.setIfInBounds_toArray, List.set_cons_zero, List.set_cons_succ]
  refine wpAnyF_take (i := 28) (oi := { dst := some 53, op := .move (.tmp 52), type := 4, pos := "law.go:17", after := #[{ on := 27, ground := .data }, { on := 22, ground := .chain }], guard := none }) rfl (by kernel_rfl) (by kernel_rfl) (by kernel_rfl) (YF.pure (by rfl) (by intro x; first | (go_simp; first | done | rfl) | (unfold execOp; simp only [Sem.run_bind]; go_simp; first | done | rfl))) (by exact fun _ _ _ h => h) ?_
  try simp only [Act.put, List.setIfInBounds_toArray, List.set_cons_zero, List.set_cons_succ]
  refine wpAnyF_take (i := 29) (oi := { dst := some 54, op := .fieldAddr 35 (.tmp 3) 2, type := 0, pos := "law.go:17", after := #[{ on := 28, ground := .guard }], guard := some (28, true) }) rfl (by kernel_rfl) (by kernel_rfl) (by kernel_rfl) (YF.pure (by rfl) (by intro x; first | (go_simp; first | done | rfl) | (unfold execOp; simp only [Sem.run_bind]; go_simp; first | done | rfl))) (by exact fun _ _ _ h => h) ?_
  try simp only [Act.put, List.setIfInBounds_toArray, List.set_cons_zero, List.set_cons_succ]
  refine wpAnyF_take (i := 30) (oi := { dst := some 55, op := .load 22 (.tmp 54), type := 22, pos := "law.go:17", after := #[{ on := 29, ground := .data }, { on := 28, ground := .guard }], guard := some (28, true) }) rfl (by kernel_rfl) (by kernel_rfl) (by kernel_rfl) (YF.value (by rfl) (by rfl) (by intro x; first | (go_simp; first | done | rfl) | (unfold execOp; simp only [Sem.run_bind]; go_simp; first | done | rfl))) (by exact fun _ _ _ h => h) ?_
  try simp only [Act.put, List.setIfInBounds_toArray, List.set_cons_zero, List.set_cons_succ]
  refine wpAnyF_take (i := 31) (oi := { dst := some 56, op := .indexAddr 22 (.tmp 55) (.const (Value.int IntKind.i64 2)), type := 0, pos := "law.go:17", after := #[{ on := 30, ground := .data }, { on := 28, ground := .guard }], guard := some (28, true) }) rfl (by kernel_rfl) (by kernel_rfl) (by kernel_rfl) (YF.pure (by rfl) (by intro x; first | (go_simp; first | done | rfl) | (unfold execOp; simp only [Sem.run_bind]; go_simp; first | done | rfl))) (by exact fun _ _ _ h => h) ?_
  try simp only [Act.put, List.setIfInBounds_toArray, List.set_cons_zero, List.set_cons_succ]
  --@c3
  refine wpAnyF_take (i := 32) (oi := { dst := some 57, op := .load 25 (.tmp 56), type := 25, pos := "law.go:17", after := #[{ on := 31, ground := .data }, { on := 28, ground := .guard }], guard := some (28, true) }) rfl (by kernel_rfl) (by kernel_rfl) (by kernel_rfl) (YF.mid (by rfl) 25 (.tmp 56) rfl lb (lo + 64) (by rfl) (fun x => HLM.out x.at' (HE2.out.tr _ _ _ x.rel))) (by exact fun _ _ _ h => h) ?_
  try simp only [Act.put, List.setIfInBounds_toArray, List.set_cons_zero, List.set_cons_succ]
  refine wpAnyF_one (i := 33) (o := { dst := some 58, op := .buildSlice 23 1 #[(0, .const (Value.int IntKind.u8 101))], type := 23, pos := "law.go:17", after := #[{ on := 28, ground := .guard }], guard := some (28, true) }) (by kernel_rfl) rfl (fun x3 hx3 K hK => ?_)
  rw [if_pos (by rfl)]
  unfold Oper.wp execOp
  go_simp
  --@c4
  have hgb := heap_alloc_new x3 (.cells #[.int .u8 101] 5)
  have hoa : OnlyF B x3 (x3.alloc (.cells #[.int .u8 101] 5)) := OnlyF.of ((Only.refl [] x3).alloc _)
  refine hK _ _ hoa ?_
  clear hK K
  try simp only [Act.put, List.setIfInBounds_toArray, List.set_cons_zero, List.set_cons_succ]
  have HE3 : Hid (OnlyF B wd (x3.alloc (.cells #[.int .u8 101] 5))) := Lib.hid (HE2.out.tr _ _ _ (hx3.tr _ _ _ hoa))
  have HGE3 := Lib.hid hgb
  have HB3 : Hid (B ≤ x3.heap.size) := Lib.hid (by have := (HE2.out.tr _ _ _ hx3).size; have := HBd.out; omega)
  clear hgb hoa hx3
  generalize x3.heap.size = gE3 at *
  generalize World.alloc x3 _ = yE3 at *
  refine wpAnyF_one (i := 34) (o := { dst := some 59, op := .convert 23 23 (.tmp 58), type := 23, pos := "law.go:17", after := #[{ on := 33, ground := .data }, { on := 28, ground := .guard }], guard := some (28, true) }) (by kernel_rfl) rfl (fun x4 hx4 K hK => ?_)
  obtain ⟨fr4, hg4⟩ := hx4.same _ _ _ _ HGE3.out
  have hcv := run_convert_marked (P := Tryd.prog) (n := 1) (c := 1) Tryd.underlying23 Tryd.underlying5 hg4
  rw [if_pos (by rfl)]
  unfold Oper.wp execOp
  go_simp
  --@c5
  have hoa : OnlyF B x4 (x4.freeze ⟨gE3, 1, none⟩ 1) := (OnlyF.refl B x4).freeze HB3.out
  refine hK _ _ hoa ?_
  clear hK K
  try simp only [Act.put, List.setIfInBounds_toArray, List.set_cons_zero, List.set_cons_succ]
  obtain ⟨fr5, hg5⟩ := hoa.same _ _ _ _ hg4
  have HE4 : Hid (OnlyF B wd (x4.freeze ⟨gE3, 1, none⟩ 1)) := Lib.hid (HE3.out.tr _ _ _ (hx4.tr _ _ _ hoa))
  have HGE4 := Lib.hid hg5
  clear hg4 hg5 hoa hcv hx4
  generalize World.freeze x4 _ _ = yE4 at *
  refine wpAnyF_take (i := 35) (oi := { dst := some 60, op := .call { callee := Callee.value (.func 13), args := #[.tmp 59], argTypes := #[23] }, type := 25, pos := "law.go:17", after := #[{ on := 34, ground := .data }, { on := 28, ground := .chain }, { on := 28, ground := .guard }], guard := some (28, true) }) rfl (by kernel_rfl) (by kernel_rfl) (by kernel_rfl) (YF.call (by rfl) (by rfl) (by intro x; go_simp; first | done | rfl | exact ⟨rfl, rfl⟩) (fun x => (by obtain ⟨fr, hg⟩ := x.rel.same _ _ _ _ HGE4.out; exact HLF.out x.at' gE3 fr (HE4.out.tr _ _ _ x.rel) hg))) (by exact fun _ _ _ h => h) ?_
  try simp only [Act.put, List.setIfInBounds_toArray, List.set_cons_zero, List.set_cons_succ]
  refine wpAnyF_take (i := 36) (oi := { dst := some 61, op := .binOp BinOp.eql 25 (.tmp 57) (.tmp 60) 25, type := 4, pos := "law.go:17", after := #[{ on := 32, ground := .data }, { on := 35, ground := .data }, { on := 28, ground := .guard }], guard := some (28, true) }) rfl (by kernel_rfl) (by kernel_rfl) (by kernel_rfl) (YF.value (by rfl) (by rfl) (by intro x; first | (go_simp; first | done | rfl) | (unfold execOp; simp only [Sem.run_bind]; go_simp; first | done | rfl))) (by exact fun _ _ _ h => h) ?_
  try simp only [Act.put, List.setIfInBounds_toArray, List.set_cons_zero, List.set_cons_succ]
  refine wpAnyF_take (i := 37) (oi := { dst := some 62, op := .pick (.tmp 53) (.tmp 61) (.const (Value.bool false)), type := 4, pos := "law.go:17", after := #[{ on := 28, ground := .data }, { on := 36, ground := .data }], guard := none }) rfl (by kernel_rfl) (by kernel_rfl) (by kernel_rfl) (YF.pure (by rfl) (by intro x; first | (go_simp; first | done | rfl) | (unfold execOp; simp only [Sem.run_bind]; go_simp; first | done | rfl))) (by exact fun _ _ _ h => h) ?_
  try simp only [Act.put, List.setIfInBounds_toArray, List.set_cons_zero, List.set_cons_succ]
  refine wpAnyF_take (i := 38) (oi := { dst := some 63, op := .move (.tmp 62), type := 4, pos := "law.go:17", after := #[{ on := 37, ground := .data }, { on := 35, ground := .chain }], guard := none }) rfl (by kernel_rfl) (by kernel_rfl) (by kernel_rfl) (YF.pure (by rfl) (by intro x; first | (go_simp; first | done | rfl) | (unfold execOp; simp only [Sem.run_bind]; go_simp; first | done | rfl))) (by exact fun _ _ _ h => h) ?_
  try simp only [Act.put, List.setIfInBounds_toArray, List.set_cons_zero, List.set_cons_succ]
  --@c6
  refine wpAnyF_take (i := 39) (oi := { dst := some 64, op := .load 35 (.tmp 3), type := 35, pos := "law.go:17", after := #[{ on := 38, ground := .guard }], guard := some (38, true) }) rfl (by kernel_rfl) (by kernel_rfl) (by kernel_rfl) (YF.row (by rfl) 35 (.tmp 3) rfl t (by rfl) _ _ _ _ (HE4.out.heap HMB.out HTB.out) HTB.out Tryd.underlying35 rfl (by kernel_rfl)) (by exact fun _ _ _ h => h) ?_
  try simp only [Act.put, List.setIfInBounds_toArray, List.set_cons_zero, List.set_cons_succ]
  refine wpAnyF_take (i := 40) (oi := { dst := some 65, op := .load 35 (.tmp 3), type := 35, pos := "law.go:17", after := #[{ on := 38, ground := .guard }], guard := some (38, true) }) rfl (by kernel_rfl) (by kernel_rfl) (by kernel_rfl) (YF.row (by rfl) 35 (.tmp 3) rfl t (by rfl) _ _ _ _ (HE4.out.heap HMB.out HTB.out) HTB.out Tryd.underlying35 rfl (by kernel_rfl)) (by exact fun _ _ _ h => h) ?_
  try simp only [Act.put, List.setIfInBounds_toArray, List.set_cons_zero, List.set_cons_succ]
  refine wpAnyF_take (i := 41) (oi := { dst := some 66, op := .call { callee := Callee.value (.func 20), args := #[.tmp 65], argTypes := #[35] }, type := 25, pos := "law.go:17", after := #[{ on := 40, ground := .data }, { on := 38, ground := .chain }, { on := 38, ground := .guard }], guard := some (38, true) }) rfl (by kernel_rfl) (by kernel_rfl) (by kernel_rfl) (YF.call (by rfl) (by rfl) (by intro x; go_simp; first | done | rfl | exact ⟨rfl, rfl⟩) (fun x => HID.out x.at' (HE4.out.tr _ _ _ x.rel))) (by exact fun _ _ _ h => h) ?_
  try simp only [Act.put, List.setIfInBounds_toArray, List.set_cons_zero, List.set_cons_succ]
  refine wpAnyF_take (i := 42) (oi := { dst := some 67, op := .call { callee := Callee.value (.func 22), args := #[.tmp 64, .tmp 66], argTypes := #[35, 25] }, type := 36, pos := "law.go:17", after := #[{ on := 39, ground := .data }, { on := 41, ground := .data }, { on := 41, ground := .chain }, { on := 38, ground := .guard }], guard := some (38, true) }) rfl (by kernel_rfl) (by kernel_rfl) (by kernel_rfl) (YF.call (by rfl) (by rfl) (by intro x; go_simp; first | done | rfl | exact ⟨rfl, rfl⟩) (fun x => HC1'.out x.at' (HE4.out.tr _ _ _ x.rel))) (by exact fun _ _ _ h => h) ?_
  try simp only [Act.put, List.setIfInBounds_toArray, List.set_cons_zero, List.set_cons_succ]
  refine wpAnyF_take (i := 43) (oi := { dst := some 68, op := .binOp BinOp.eql 36 (.tmp 67) (.const (Value.int IntKind.i64 0)) 36, type := 4, pos := "law.go:17", after := #[{ on := 42, ground := .data }, { on := 38, ground := .guard }], guard := some (38, true) }) rfl (by kernel_rfl) (by kernel_rfl) (by kernel_rfl) (YF.value (by rfl) (by rfl) (by intro x; first | (go_simp; first | done | rfl) | (unfold execOp; simp only [Sem.run_bind]; go_simp; first | done | rfl))) (by exact fun _ _ _ h => h) ?_
  try simp only [Act.put, List.setIfInBounds_toArray, List.set_cons_zero, List.set_cons_succ]
  refine wpAnyF_take (i := 44) (oi := { dst := some 69, op := .pick (.tmp 63) (.tmp 68) (.const (Value.bool false)), type := 4, pos := "law.go:17", after := #[{ on := 38, ground := .data }, { on := 43, ground := .data }], guard := none }) rfl (by kernel_rfl) (by kernel_rfl) (by kernel_rfl) (YF.pure (by rfl) (by intro x; first | (go_simp; first | done | rfl) | (unfold execOp; simp only [Sem.run_bind]; go_simp; first | done | rfl))) (by exact fun _ _ _ h => h) ?_
  try simp only [Act.put, List.setIfInBounds_toArray, List.set_cons_zero, List.set_cons_succ]
  refine wpAnyF_take (i := 45) (oi := { dst := some 70, op := .move (.tmp 69), type := 4, pos := "law.go:17", after := #[{ on := 44, ground := .data }, { on := 42, ground := .chain }], guard := none }) rfl (by kernel_rfl) (by kernel_rfl) (by kernel_rfl) (YF.pure (by rfl) (by intro x; first | (go_simp; first | done | rfl) | (unfold execOp; simp only [Sem.run_bind]; go_simp; first | done | rfl))) (by exact fun _ _ _ h => h) ?_
  try simp only [Act.put, List.setIfInBounds_toArray, List.set_cons_zero, List.set_cons_succ]
  --@c7
  refine wpAnyF_take (i := 46) (oi := { dst := some 71, op := .load 35 (.tmp 3), type := 35, pos := "law.go:17", after := #[{ on := 45, ground := .guard }], guard := some (45, true) }) rfl (by kernel_rfl) (by kernel_rfl) (by kernel_rfl) (YF.row (by rfl) 35 (.tmp 3) rfl t (by rfl) _ _ _ _ (HE4.out.heap HMB.out HTB.out) HTB.out Tryd.underlying35 rfl (by kernel_rfl)) (by exact fun _ _ _ h => h) ?_
  try simp only [Act.put, List.setIfInBounds_toArray, List.set_cons_zero, List.set_cons_succ]
  refine wpAnyF_take (i := 47) (oi := { dst := some 72, op := .load 25 (.tmp 1), type := 25, pos := "law.go:17", after := #[{ on := 45, ground := .guard }], guard := some (45, true) }) rfl (by kernel_rfl) (by kernel_rfl) (by kernel_rfl) (YF.row (by rfl) 25 (.tmp 1) rfl q (by rfl) _ _ _ _ (HE4.out.heap HAd.out HQB.out) HQB.out Tryd.underlying25 rfl HAI.out) (by exact fun _ _ _ h => h) ?_
  try simp only [Act.put, List.setIfInBounds_toArray, List.set_cons_zero, List.set_cons_succ]
  refine wpAnyF_take (i := 48) (oi := { dst := some 73, op := .call { callee := Callee.value (.func 22), args := #[.tmp 71, .tmp 72], argTypes := #[35, 25] }, type := 36, pos := "law.go:17", after := #[{ on := 46, ground := .data }, { on := 47, ground := .data }, { on := 45, ground := .chain }, { on := 45, ground := .guard }], guard := some (45, true) }) rfl (by kernel_rfl) (by kernel_rfl) (by kernel_rfl) (YF.call (by rfl) (by rfl) (by intro x; go_simp; first | done | rfl | exact ⟨rfl, rfl⟩) (fun x => HC2'.out x.at' (HE4.out.tr _ _ _ x.rel))) (by exact fun _ _ _ h => h) ?_
  try simp only [Act.put, List.setIfInBounds_toArray, List.set_cons_zero, List.set_cons_succ]
  refine wpAnyF_take (i := 49) (oi := { dst := some 74, op := .binOp BinOp.eql 36 (.tmp 73) (.const (Value.int IntKind.i64 33)) 36, type := 4, pos := "law.go:17", after := #[{ on := 48, ground := .data }, { on := 45, ground := .guard }], guard := some (45, true) }) rfl (by kernel_rfl) (by kernel_rfl) (by kernel_rfl) (YF.value (by rfl) (by rfl) (by intro x; first | (go_simp; first | done | rfl) | (unfold execOp; simp only [Sem.run_bind]; go_simp; first | done | rfl))) (by exact fun _ _ _ h => h) ?_
  try simp only [Act.put, List.setIfInBounds_toArray, List.set_cons_zero, List.set_cons_succ]
  refine wpAnyF_take (i := 50) (oi := { dst := some 75, op := .pick (.tmp 70) (.tmp 74) (.const (Value.bool false)), type := 4, pos := "law.go:17", after := #[{ on := 45, ground := .data }, { on := 49, ground := .data }], guard := none }) rfl (by kernel_rfl) (by kernel_rfl) (by kernel_rfl) (YF.pure (by rfl) (by intro x; first | (go_simp; first | done | rfl) | (unfold execOp; simp only [Sem.run_bind]; go_simp; first | done | rfl))) (by exact fun _ _ _ h => h) ?_
  try simp only [Act.put, List.setIfInBounds_toArray, List.set_cons_zero, List.set_cons_succ]
  refine wpAnyF_take (i := 51) (oi := { dst := some 76, op := .move (.tmp 75), type := 4, pos := "law.go:17", after := #[{ on := 50, ground := .data }, { on := 48, ground := .chain }], guard := none }) rfl (by kernel_rfl) (by kernel_rfl) (by kernel_rfl) (YF.pure (by rfl) (by intro x; first | (go_simp; first | done | rfl) | (unfold execOp; simp only [Sem.run_bind]; go_simp; first | done | rfl))) (by exact fun _ _ _ h => h) ?_
  try simp only [Act.put, List.setIfInBounds_toArray, List.set_cons_zero, List.set_cons_succ]
  refine wpAnyF_take (i := 52) (oi := { dst := some 77, op := .move (.tmp 7), type := 4, pos := "law.go:17", after := #[{ on := 51, ground := .guard }], guard := some (51, true) }) rfl (by kernel_rfl) (by kernel_rfl) (by kernel_rfl) (YF.pure (by rfl) (by intro x; first | (go_simp; first | done | rfl) | (unfold execOp; simp only [Sem.run_bind]; go_simp; first | done | rfl))) (by exact fun _ _ _ h => h) ?_
  try simp only [Act.put, List.setIfInBounds_toArray, List.set_cons_zero, List.set_cons_succ]
  refine wpAnyF_take (i := 53) (oi := { dst := some 78, op := .unOp UnOp.not 4 (.tmp 77), type := 4, pos := "law.go:17", after := #[{ on := 52, ground := .data }, { on := 51, ground := .guard }], guard := some (51, true) }) rfl (by kernel_rfl) (by kernel_rfl) (by kernel_rfl) (YF.value (by rfl) (by rfl) (by intro x; first | (go_simp; first | done | rfl) | (unfold execOp; simp only [Sem.run_bind]; go_simp; first | done | rfl))) (by exact fun _ _ _ h => h) ?_
  try simp only [Act.put, List.setIfInBounds_toArray, List.set_cons_zero, List.set_cons_succ]
  refine wpAnyF_take (i := 54) (oi := { dst := some 79, op := .pick (.tmp 76) (.tmp 78) (.const (Value.bool false)), type := 4, pos := "law.go:17", after := #[{ on := 51, ground := .data }, { on := 53, ground := .data }], guard := none }) rfl (by kernel_rfl) (by kernel_rfl) (by kernel_rfl) (YF.pure (by rfl) (by intro x; first | (go_simp; first | done | rfl) | (unfold execOp; simp only [Sem.run_bind]; go_simp; first | done | rfl))) (by exact fun _ _ _ h => h) ?_
  try simp only [Act.put, List.setIfInBounds_toArray, List.set_cons_zero, List.set_cons_succ]
  refine wpAnyF_take (i := 55) (oi := { dst := some 0, op := .assign (.tmp 79), type := 4, pos := "law.go:17", after := #[{ on := 54, ground := .data }, { on := 51, ground := .chain }, { on := 0, ground := .phase }, { on := 1, ground := .phase }, { on := 2, ground := .phase }, { on := 3, ground := .phase }, { on := 4, ground := .phase }, { on := 5, ground := .phase }, { on := 6, ground := .phase }, { on := 7, ground := .phase }, { on := 8, ground := .phase }, { on := 9, ground := .phase }, { on := 10, ground := .phase }, { on := 11, ground := .phase }, { on := 12, ground := .phase }, { on := 13, ground := .phase }, { on := 14, ground := .phase }, { on := 15, ground := .phase }, { on := 16, ground := .phase }, { on := 17, ground := .phase }, { on := 18, ground := .phase }, { on := 19, ground := .phase }, { on := 20, ground := .phase }, { on := 21, ground := .phase }, { on := 22, ground := .phase }, { on := 23, ground := .phase }, { on := 24, ground := .phase }, { on := 25, ground := .phase }, { on := 26, ground := .phase }, { on := 27, ground := .phase }, { on := 28, ground := .phase }, { on := 29, ground := .phase }, { on := 30, ground := .phase }, { on := 31, ground := .phase }, { on := 32, ground := .phase }, { on := 33, ground := .phase }, { on := 34, ground := .phase }, { on := 35, ground := .phase }, { on := 36, ground := .phase }, { on := 37, ground := .phase }, { on := 38, ground := .phase }, { on := 39, ground := .phase }, { on := 40, ground := .phase }, { on := 41, ground := .phase }, { on := 42, ground := .phase }, { on := 43, ground := .phase }, { on := 44, ground := .phase }, { on := 45, ground := .phase }, { on := 46, ground := .phase }, { on := 47, ground := .phase }, { on := 48, ground := .phase }, { on := 49, ground := .phase }, { on := 50, ground := .phase }, { on := 51, ground := .phase }, { on := 52, ground := .phase }, { on := 53, ground := .phase }, { on := 54, ground := .phase }], guard := none }) rfl (by kernel_rfl) (by kernel_rfl) (by kernel_rfl) (YF.pure (by rfl) (by intro x; first | (go_simp; first | done | rfl) | (unfold execOp; simp only [Sem.run_bind]; go_simp; first | done | rfl))) (by exact fun _ _ _ h => h) ?_
  try simp only [Act.put, List.setIfInBounds_toArray, List.set_cons_zero, List.set_cons_succ]
  refine wpAnyF_done (by kernel_rfl) (fun x9 hx9 => ?_) _
  have HE8 := HE4
  --@9
  go_wp2_with fail
  --@10
  first | go_ret | skip
  exact ⟨rfl, OnlyF.only HOd.out (HE8.out.tr _ _ _ hx9) HWB.out⟩
end Go.Proofs.YtpgcfpfmicghnaaDoor.mrk
