/-
  THE WALK of Id.
-/
import Derived.Test.YtpgcfpfmicghnaaDoorMrkRRoot
import Derived.Test.YtpgcfpfmicghnaaDoorCurWr
set_option linter.unusedVariables false
set_option linter.unusedSimpArgs false
namespace Go.Proofs.YtpgcfpfmicghnaaDoor.mrk
open Go Go.RowKit Go.Lm Go.ChangeShapes Go.WideShapes Go.Proofs.YtpgcfpfmicghnaaDoor.sha Go.Proofs.YtpgcfpfmicghnaaDoor.cur

theorem two (w : World) (x y : Obj) : ((w.alloc x).alloc y).heap[w.heap.size]? = some x ∧ ((w.alloc x).alloc y).heap[w.heap.size + 1]? = some y := by
  have h1 := heap_alloc_new w x
  have h2 := heap_alloc_new (w.alloc x) y
  have e1 : (w.alloc x).heap.size = w.heap.size + 1 := by simp
  rw [e1] at h2
  refine ⟨?_, h2⟩
  rw [Below.heap_alloc _ _ _ (by omega)]
  exact h1
def idB (s p : Nat) (ds : List (List UInt8)) : List UInt8 := 2 :: (Cur.put s 8 ++ Cur.put p 4 ++ rootD ds)
set_option maxRecDepth 100000 in
set_option maxHeartbeats 4000000 in
theorem id_c (w : World) (s p : Nat) (v : Value) (ds : List (List UInt8)) (hv : DS w v ds) (hs : s < 18446744073709551616) (hp : p < 4294967296) (hn : ds.length ≤ 100000) (hT : Tab w) (hZ : Tz w) : Calls Tryd.prog 20 #[.agg #[.int .u64 (s : Nat), .int .u32 (p : Nat), v]] w fun e w' => e = .returned (dv (Sha.sum (idB s p ds))) ∧ Only [] w w' := by
  have HT := Lib.hid hT; have HTZ := Lib.hid hZ; have HV := Lib.hid hv; have HS := Lib.hid hs; have HP := Lib.hid hp; have HN := Lib.hid hn
  clear hT hZ hv hs hp hn
  go_enter Tryd.func20, Tryd.ntmps20
  go_wp2_with fail
  have hwp : IntKind.u64.wrap (p : Int) = (p : Int) := by rw [IntKind.wrap_u64]; have := HP.out; omega
  --@0
  generalize hg : World.alloc _ _ = w1
  have h2 := two w (.cells #[.int .u64 (s : Nat), .int .u32 (p : Nat), v] 35 (0, 0)) (.cells (List.replicate 32 (Value.int .u8 0)).toArray 25 (0, 0))
  have he : w1 = (w.alloc (.cells #[.int .u64 (s : Nat), .int .u32 (p : Nat), v] 35 (0, 0))).alloc (.cells (List.replicate 32 (Value.int .u8 0)).toArray 25 (0, 0)) := hg.symm.trans rfl
  rw [← he] at h2
  have HM1 := Lib.hid h2.1
  have HZ1 := Lib.hid h2.2
  have HO1 : Hid (Only [] w w1) := Lib.hid (by rw [he]; exact ((Only.refl [] w).alloc _).alloc _)
  have HQ1 : Hid (w1.heap.size = w.heap.size + 2) := Lib.hid (by rw [he]; simp)
  obtain ⟨q, hq⟩ : ∃ q, w.heap.size = q := ⟨_, rfl⟩
  rw [hq] at HZ1 HM1 HQ1 ⊢
  have HQ := Lib.hid hq
  clear hg h2 he hq
  --@1
  refine (newwriter_c w1).mono ?_
  rintro e w2 ⟨rfl, hwr2, ho2⟩
  have HW2 := Lib.hid hwr2; have HO2 := Lib.hid (HO1.out.then ho2)
  have HM2 := Lib.hid (ho2.heap HM1.out (by simp)); have HZ2 := Lib.hid (ho2.heap HZ1.out (by simp))
  clear hwr2 ho2
  obtain ⟨r, hr⟩ : ∃ r, w1.heap.size = r := ⟨_, rfl⟩
  rw [hr] at HW2 HQ1 ⊢
  have HR := Lib.hid hr
  clear hr HM1 HZ1
  go_wp2_with fail
  refine (wnumber_c w2 r r [] HW2.out 2 1 (by decide) (by simp [Cur.put_length])).mono ?_
  rintro e w3 ⟨rfl, hwr, hb⟩
  rw [if_pos (by decide)] at hwr
  obtain ⟨L3, hL3⟩ : ∃ L, [] ++ Cur.put 2 (Int.toNat 1) = L := ⟨_, rfl⟩
  rw [hL3] at hwr
  have HW3 := Lib.hid hwr
  have HL3 := Lib.hid hL3
  clear hL3
  have HO3 : Hid (Only [] w w3) := Lib.hid (Only.of_below ((HO2.out.below (by simp) (Nat.le_refl _)).trans (hb.mono (by have := HQ.out; have := HQ1.out; omega))) [])
  have HM3 : Hid (w3.heap[q]? = _) := Lib.hid ((hb.block q (by have := HQ1.out; omega)).trans HM2.out)
  have HZ3 : Hid (w3.heap[q + 1]? = _) := Lib.hid ((hb.block (q + 1) (by have := HQ1.out; omega)).trans HZ2.out)
  clear hwr hb HW2 HO2 HM2 HZ2
  have hc3 : w3.cell? ⟨q, 0, none⟩ = some (.int .u64 (s : Nat)) := by simp [World.cell?, HM3.out]
  go_wp2_with fail
  --@3
  refine (wnumber_c w3 r r L3 HW3.out s 8 HS.out (by rw [← HL3.out]; simp [Cur.put_length])).mono ?_
  rintro e w4 ⟨rfl, hwr, hb⟩
  rw [if_pos (by decide)] at hwr
  obtain ⟨L4, hL4⟩ : ∃ L, L3 ++ Cur.put s (Int.toNat 8) = L := ⟨_, rfl⟩
  rw [hL4] at hwr
  have HW4 := Lib.hid hwr
  have HL4 := Lib.hid hL4
  clear hL4
  have HO4 : Hid (Only [] w w4) := Lib.hid (Only.of_below ((HO3.out.below (by simp) (Nat.le_refl _)).trans (hb.mono (by have := HQ.out; have := HQ1.out; omega))) [])
  have HM4 : Hid (w4.heap[q]? = _) := Lib.hid ((hb.block q (by have := HQ1.out; omega)).trans HM3.out)
  have HZ4 : Hid (w4.heap[q + 1]? = _) := Lib.hid ((hb.block (q + 1) (by have := HQ1.out; omega)).trans HZ3.out)
  clear hwr hb HW3 HO3 HM3 HZ3
  have hc4 : w4.cell? ⟨q, 1, none⟩ = some (.int .u32 (p : Nat)) := by simp [World.cell?, HM4.out]
  go_wp2_with fail
  --@4
  refine (wnumber_c w4 r r L4 HW4.out p 4 (by have := HP.out; omega) (by rw [← HL4.out, ← HL3.out]; simp [Cur.put_length])).mono ?_
  rintro e w5 ⟨rfl, hwr, hb⟩
  rw [if_pos (by decide)] at hwr
  obtain ⟨L5, hL5⟩ : ∃ L, L4 ++ Cur.put p (Int.toNat 4) = L := ⟨_, rfl⟩
  rw [hL5] at hwr
  have HW5 := Lib.hid hwr
  have HL5 := Lib.hid hL5
  clear hL5
  have HO5 : Hid (Only [] w w5) := Lib.hid (Only.of_below ((HO4.out.below (by simp) (Nat.le_refl _)).trans (hb.mono (by have := HQ.out; have := HQ1.out; omega))) [])
  have HM5 : Hid (w5.heap[q]? = _) := Lib.hid ((hb.block q (by have := HQ1.out; omega)).trans HM4.out)
  have HZ5 : Hid (w5.heap[q + 1]? = _) := Lib.hid ((hb.block (q + 1) (by have := HQ1.out; omega)).trans HZ4.out)
  clear hwr hb HW4 HO4 HM4 HZ4
  have hc5 : w5.cell? ⟨q, 2, none⟩ = some (v) := by simp [World.cell?, HM5.out]
  go_wp2_with fail
  --@5
  refine (root_c w5 v ds (HV.out.only HO5.out (by simp)) HN.out (HT.out.only HO5.out (by simp)) (HTZ.out.only HO5.out (by simp))).mono ?_
  rintro e w6 ⟨rfl, ho6⟩
  have HO6 := Lib.hid (HO5.out.then ho6); have HW6 := Lib.hid (HW5.out.only ho6); have HZ6 := Lib.hid (ho6.heap HZ5.out (by simp))
  clear ho6 HW5 HO5 HM5 HZ5 hc5
  have HR32 : Hid ((rootD ds).length = 32) := Lib.hid (root_length ds HV.out.choose_spec.choose_spec.2.2.2.2.1)
  obtain ⟨R, hR⟩ : ∃ R, rootD ds = R := ⟨_, rfl⟩
  rw [hR] at HR32 ⊢
  obtain ⟨D, hdv, hcs, hci, hc1⟩ := store_facts R HR32.out
  rw [hdv]
  have HRR := Lib.hid hR; have HDV := Lib.hid hdv; have HDS := Lib.hid hcs; have HDI := Lib.hid hci; have HD1 := Lib.hid hc1
  clear hR hdv hcs hci hc1
  go_wp2_with (refine wpList_store_row rfl 25 _ _ rfl w6.heap.size D rfl rfl _ _ (heap_alloc_new w6 _) HDI.out (by rw [HDS.out]; simp) HD1.out ?_)
  --@6
  generalize hg : World.setRow _ _ _ = w7
  have he7 : w7 = (w6.alloc (.cells (List.replicate 32 (Value.int .u8 0)).toArray 25 (0, 0))).setRow w6.heap.size D := hg.symm.trans rfl
  have hb7 : w7.heap[w6.heap.size]? = some (.cells D 25 (0, 0)) := by rw [he7]; exact setRow_heap _ _ _ D _ _ (heap_alloc_new w6 _)
  have ho7 : Only [] w6 w7 := by rw [he7]; exact ((Only.refl [] w6).alloc _).setRow (.inr (Nat.le_refl _)) D
  clear hg he7
  have HDR : Hid ((R.map u8v).toArray = D) := Lib.hid (Value.agg.inj HDV.out)
  have HB7 := Lib.hid (bs_block hb7 HDR.out HR32.out (by omega))
  have HO7 := Lib.hid (HO6.out.then ho7); have HW7 := Lib.hid (HW6.out.only ho7); have HZ7 := Lib.hid (ho7.heap HZ6.out (by simp))
  obtain ⟨t, ht⟩ : ∃ t, w6.heap.size = t := ⟨_, rfl⟩
  rw [ht] at HB7 ⊢
  clear ho7 HW6 HO6 HZ6 hb7 ht
  go_wp2_with fail
  --@7
  refine (wbytes_c w7 r r L5 R HW7.out _ HB7.out (by rw [← HL5.out, ← HL4.out, ← HL3.out]; simp [Cur.put_length, HR32.out])).mono ?_
  rintro e w8 ⟨rfl, hwr, hb⟩
  obtain ⟨L6, hL6⟩ : ∃ L, L5 ++ R = L := ⟨_, rfl⟩
  rw [hL6] at hwr
  have HW8 := Lib.hid hwr
  have HL6 : Hid (2 :: (Cur.put s 8 ++ Cur.put p 4 ++ R) = L6) := Lib.hid (by rw [← hL6, ← HL5.out, ← HL4.out, ← HL3.out]; simp [Cur.put])
  have HLN : Hid (L6.length = 45) := Lib.hid (by rw [← HL6.out]; simp [Cur.put_length, HR32.out])
  clear hL6
  have HO8 : Hid (Only [] w w8) := Lib.hid (Only.of_below ((HO7.out.below (by simp) (Nat.le_refl _)).trans (hb.mono (by have := HQ.out; have := HQ1.out; omega))) [])
  have HZ8 : Hid (w8.heap[q + 1]? = _) := Lib.hid ((hb.block (q + 1) (by have := HQ1.out; omega)).trans HZ7.out)
  clear hwr hb HW7 HO7 HZ7 HB7
  go_wp2_with fail
  --@8
  refine (out_c w8 r r L6 HW8.out (by rw [HLN.out]; decide)).mono ?_
  rintro e w9 ⟨u, rfl, hov, ho9⟩
  have HB9 := Lib.hid (BS.of_vs hov.vs)
  have HO9 := Lib.hid (HO8.out.then ho9)
  have HZ9 := Lib.hid (ho9.heap HZ8.out (by simp))
  clear hov ho9 HW8 HO8 HZ8
  go_wp2_with fail
  --@9
  refine (of_c w9 u _ HB9.out (by rw [HLN.out]; decide) (HT.out.only HO9.out (by simp))).mono ?_
  rintro e w10 ⟨rfl, ho10⟩
  have HO10 := Lib.hid (HO9.out.then ho10)
  have HZ10 := Lib.hid (ho10.heap HZ9.out (by simp))
  clear ho10 HB9 HO9 HZ9
  obtain ⟨E, hev, hes, hei, he1⟩ := store_facts _ (Sha.sum_length L6)
  rw [hev]
  have HEV := Lib.hid hev; have HES := Lib.hid hes; have HEI := Lib.hid hei; have HE1 := Lib.hid he1
  clear hev hes hei he1
  go_wp2_with (refine wpList_store_row rfl 25 _ _ rfl (q + 1) E rfl rfl _ _ HZ10.out HEI.out (by rw [HES.out]; simp) HE1.out ?_)
  --@10
  have hres : (w10.setRow (q + 1) E).heap[q + 1]? = some (.cells E 25 (0, 0)) := setRow_heap _ _ _ E _ _ HZ10.out
  have hof : Only [] w (w10.setRow (q + 1) E) := HO10.out.setRow (.inr (by have := HQ.out; omega)) E
  generalize World.setRow _ _ _ = w11 at *
  refine bodyPost_ret (v := .agg E) (results_cell_row rfl _ _ (q + 1) 25 E (0, 0) _ rfl hres Tryd.underlying25 rfl HEI.out) rfl ⟨by unfold idB; rw [HRR.out, HL6.out, HEV.out], hof⟩
end Go.Proofs.YtpgcfpfmicghnaaDoor.mrk
