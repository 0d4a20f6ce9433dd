/-
  THE WALKS of the reference's Leaf and Node.
-/
import Derived.Test.YtpgcfpfmicghnaaDoorMrkNode
import Derived.Test.YtpgcfpfmicghnaaDoorShaRefOf
set_option linter.unusedVariables false
set_option linter.unusedSimpArgs false
namespace Go.Proofs.YtpgcfpfmicghnaaDoor.mrk
open Go Go.RowKit Go.Lm Go.ChangeShapes Go.WideShapes Go.Proofs.YtpgcfpfmicghnaaDoor.sha

theorem ref_str (t : ByteArray) (l : List UInt8) (h : t.data.toList = l) (hs : l.length ≤ 1000000) (W : World) : Calls Tryd.prog 26 #[.string t] W fun e w' => e = .returned (dv (Sha.sum l)) ∧ Only [] W w' := by
  subst h
  exact ref_c t W (by rw [len_data] at hs; exact hs)
theorem str_cons (x : UInt8) (s : ByteArray) : (({ data := #[x] } : ByteArray) ++ s).data.toList = x :: s.data.toList := by simp
theorem str_app (s t : ByteArray) : (s ++ t).data.toList = s.data.toList ++ t.data.toList := by simp
/-- A digest is stored in the result's cell, and handed back. -/
theorem store_facts (d : List UInt8) (hd : d.length = 32) : ∃ D : Array Value, dv d = .agg D ∧ D.size = 32 ∧ (Tryd.prog.info? 25).map (·.size) = some D.size ∧ D.all (·.oneCell') = true :=
  ⟨(d.map u8v).toArray, rfl, by simp [hd], by simp only [List.size_toArray, List.length_map, hd]; kernel_rfl, u8vs_one d⟩

set_option maxRecDepth 100000 in
set_option maxHeartbeats 2000000 in
theorem rleaf_c (w : World) (s : ByteArray) (hs : s.size ≤ 100000) : Calls Tryd.prog 14 #[.string s] w fun e w' => e = .returned (dv (leafD s.data.toList)) ∧ Only [] w w' := by
  unfold leafD
  go_enter Tryd.func14, Tryd.ntmps14
  go_upto_region 1 with fail
  generalize hg : World.alloc _ _ = w1
  have he : w1 = w.alloc (.cells (List.replicate 32 (Value.int .u8 0)).toArray 25 (0, 0)) := hg.symm.trans rfl
  have HZ1 : Hid (w1.heap[w.heap.size]? = some (.cells (List.replicate 32 (Value.int .u8 0)).toArray 25 (0, 0))) := Lib.hid (by rw [he]; exact heap_alloc_new w _)
  have HO1 : Hid (Only [] w w1) := Lib.hid (by rw [he]; exact (Only.refl [] w).alloc _)
  clear hg he
  go_wp2_with fail
  refine (ref_str _ (0 :: s.data.toList) (str_cons 0 s) (by simp only [List.length_cons, len_data]; omega) w1).mono ?_
  rintro e w4 ⟨rfl, ho4⟩
  have HO4 := Lib.hid (HO1.out.then ho4)
  have HZR4 := Lib.hid (ho4.heap HZ1.out (by simp))
  clear ho4
  obtain ⟨D, hdv, hcs, hci, hc1⟩ := store_facts _ (Sha.sum_length (0 :: s.data.toList))
  rw [hdv]
  have HDV := Lib.hid hdv; have HDS := Lib.hid hcs; have HDI := Lib.hid hci; have HD1 := Lib.hid hc1
  clear hcs hci hc1 hdv
  go_wp2_with (refine wpList_store_row rfl 25 _ _ rfl (w.heap.size) D rfl rfl _ _ HZR4.out HDI.out (by rw [HDS.out]; simp) HD1.out ?_)
  have hres : (w4.setRow (w.heap.size) D).heap[w.heap.size]? = some (.cells D 25 (0, 0)) := setRow_heap _ _ _ D _ _ HZR4.out
  have hof : Only [] w (w4.setRow (w.heap.size) D) := HO4.out.setRow (.inr (by omega)) D
  generalize World.setRow _ _ _ = w8 at *
  refine bodyPost_ret (v := .agg D) (results_cell_row rfl _ _ (w.heap.size) 25 D (0, 0) _ rfl hres Tryd.underlying25 rfl HDI.out) rfl ⟨by rw [HDV.out], hof⟩

set_option maxRecDepth 100000 in
set_option maxHeartbeats 2000000 in
theorem rnode_c (w : World) (l r : List UInt8) (hl : l.length = 32) (hr : r.length = 32) : Calls Tryd.prog 16 #[dv l, dv r] w fun e w' => e = .returned (dv (nodeD l r)) ∧ Only [] w w' := by
  obtain ⟨A, hA⟩ : ∃ A, (l.map u8v).toArray = A := ⟨_, rfl⟩
  obtain ⟨C, hC⟩ : ∃ C, (r.map u8v).toArray = C := ⟨_, rfl⟩
  have hd1 : dv l = .agg A := by unfold dv; rw [hA]
  have hd2 : dv r = .agg C := by unfold dv; rw [hC]
  rw [hd1, hd2]
  unfold nodeD
  have HA := Lib.hid hA; have HC := Lib.hid hC; have HL := Lib.hid hl; have HR := Lib.hid hr
  have hsA : A.size = 32 := by rw [← hA]; simp [hl]
  have hsC : C.size = 32 := by rw [← hC]; simp [hr]
  have HSA := Lib.hid hsA; have HSC := Lib.hid hsC
  clear hA hC hl hr hd1 hd2 hsA hsC
  go_enter Tryd.func16, Tryd.ntmps16
  go_upto_region 1 with fail
  generalize hg : World.alloc _ _ = w1
  have h3 := three w (.cells A 25 (0, 0)) (.cells C 25 (0, 0)) (.cells (List.replicate 32 (Value.int .u8 0)).toArray 25 (0, 0))
  have he : w1 = ((w.alloc (.cells A 25 (0, 0))).alloc (.cells C 25 (0, 0))).alloc (.cells (List.replicate 32 (Value.int .u8 0)).toArray 25 (0, 0)) := hg.symm.trans rfl
  rw [← he] at h3
  have HO1 : Hid (Only [] w w1) := Lib.hid (by rw [he]; exact (((Only.refl [] w).alloc _).alloc _).alloc _)
  have hbl := bs_block h3.1 HA.out HL.out (by omega)
  have hbr := bs_block h3.2.1 HC.out HR.out (by omega)
  have hs1 := run_string_of_bytes (P := Tryd.prog) Tryd.underlying23 Tryd.underlying5 Tryd.underlying9 (hbl.only (Only.refl [] w1).drew (by simp))
  have hs2 := run_string_of_bytes (P := Tryd.prog) Tryd.underlying23 Tryd.underlying5 Tryd.underlying9 (hbr.only (Only.refl [] w1).drew (by simp))
  have HZ1 := Lib.hid h3.2.2
  obtain ⟨S1, hS1⟩ : ∃ S : ByteArray, (⟨l.toArray⟩ : ByteArray) = S := ⟨_, rfl⟩
  obtain ⟨S2, hS2⟩ : ∃ S : ByteArray, (⟨r.toArray⟩ : ByteArray) = S := ⟨_, rfl⟩
  rw [hS1] at hs1; rw [hS2] at hs2
  have hz1 : S1.size = 32 := by rw [← hS1]; exact HL.out
  have hz2 : S2.size = 32 := by rw [← hS2]; exact HR.out
  have HS1 := Lib.hid hS1; have HS2 := Lib.hid hS2
  clear hg h3 he hbl hbr hS1 hS2
  go_still_tail 6, (by kernel_rfl)
  change wpList _ _ _ _ _ w1.drew
  have HO2 := Lib.hid HO1.out.drew
  have HZ2 : Hid (w1.drew.heap[w.heap.size + 1 + 1]? = some (.cells (List.replicate 32 (Value.int .u8 0)).toArray 25 (0, 0))) := HZ1
  generalize w1.drew = w2 at *
  clear hs1 hs2 HO1 HZ1
  --@2
  go_wp2_with fail
  --@3
  refine (ref_str _ (1 :: (l ++ r)) (by rw [str_app, str_cons, ← HS1.out, ← HS2.out]; rfl) (by simp [HL.out, HR.out]) w2).mono ?_
  rintro e w4 ⟨rfl, ho4⟩
  have HO4 := Lib.hid (HO2.out.then ho4)
  have HZR4 := Lib.hid (ho4.heap HZ2.out (by simp))
  clear ho4
  obtain ⟨D, hdv, hcs, hci, hc1⟩ := store_facts _ (Sha.sum_length (1 :: (l ++ r)))
  rw [hdv]
  have HDV := Lib.hid hdv; have HDS := Lib.hid hcs; have HDI := Lib.hid hci; have HD1 := Lib.hid hc1
  clear hcs hci hc1 hdv
  go_wp2_with (refine wpList_store_row rfl 25 _ _ rfl (w.heap.size + 1 + 1) D rfl rfl _ _ HZR4.out HDI.out (by rw [HDS.out]; simp) HD1.out ?_)
  have hres : (w4.setRow (w.heap.size + 1 + 1) D).heap[w.heap.size + 1 + 1]? = some (.cells D 25 (0, 0)) := setRow_heap _ _ _ D _ _ HZR4.out
  have hof : Only [] w (w4.setRow (w.heap.size + 1 + 1) D) := HO4.out.setRow (.inr (by omega)) D
  generalize World.setRow _ _ _ = w8 at *
  refine bodyPost_ret (v := .agg D) (results_cell_row rfl _ _ (w.heap.size + 1 + 1) 25 D (0, 0) _ rfl hres Tryd.underlying25 rfl HDI.out) rfl ⟨by rw [HDV.out], hof⟩
end Go.Proofs.YtpgcfpfmicghnaaDoor.mrk
