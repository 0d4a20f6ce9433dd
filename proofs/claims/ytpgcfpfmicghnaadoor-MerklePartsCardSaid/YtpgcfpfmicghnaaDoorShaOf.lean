/-
  THE WALKS of Of, and of a digest that is none.
-/
import Derived.Test.YtpgcfpfmicghnaaDoorShaSum
set_option linter.unusedVariables false
set_option linter.unusedSimpArgs false
namespace Go.Proofs.YtpgcfpfmicghnaaDoor.sha
open Go Go.RowKit Go.Lm

/-- A digest, as a value. -/
def dv (d : List UInt8) : Value := .agg (d.map u8v).toArray
theorem u8vs_one (l : List UInt8) : (l.map u8v).toArray.all (·.oneCell') = true := by
  rw [Array.all_eq_true_iff_forall_mem]
  intro x hx
  simp only [List.mem_toArray, List.mem_map] at hx
  obtain ⟨n, _, rfl⟩ := hx
  rfl
theorem tab_zero {w : World} (h : Tab w) : 2 < w.heap.size := World.block_lt_of_cell? w _ (h 0 (by decide))

/-- A digest is laid in the result's cell, and handed back. -/
theorem ret_sum {w w1 : World} {r : Nat} {z : Array Value} {d : List UInt8} (hd : d.length = 32) (hz : z.size = 32) (hr : w1.heap[r]? = some (.cells z 25 (0, 0))) (ho : Only [] w w1) (hlt : w.heap.size ≤ r) :
    ∃ C : Array Value, C.size = 32 ∧ C = (d.map u8v).toArray ∧ (Tryd.prog.info? 25).map (·.size) = some C.size ∧ C.all (·.oneCell') = true := by
  refine ⟨_, ?_, rfl, ?_, u8vs_one d⟩
  · simp [hd]
  · simp only [List.size_toArray, List.length_map, hd]; kernel_rfl

set_option maxRecDepth 100000 in
set_option maxHeartbeats 1000000 in
theorem of_c (w : World) (v : Value) (m : List UInt8) (hv : BS w v m) (hl : m.length ≤ 100000000) (hT : Tab w) :
    Calls Tryd.prog 27 #[v] w fun e w' => e = .returned (dv (Sha.sum m)) ∧ Only [] w w' := by
  have H0 := Lib.hid (tab_zero hT); have HT := Lib.hid hT; have HV := Lib.hid hv; have HL := Lib.hid hl
  clear hT hv hl
  go_enter Tryd.func27, Tryd.ntmps27
  go_upto_region 1 with fail
  generalize hg : World.alloc w _ = w1
  have hres : ∃ z : Array Value, z.size = 32 ∧ w1.heap[w.heap.size]? = some (.cells z 25 (0, 0)) :=
    ⟨(List.replicate 32 (Value.int .u8 0)).toArray, by simp, by rw [← hg]; exact (heap_alloc_new w _).trans rfl⟩
  have ho1 : Only [] w w1 := hg ▸ (Only.refl [] w).alloc _
  have hs1 : w1.heap.size = w.heap.size + 1 := by rw [← hg]; simp
  obtain ⟨z, hz, hzr⟩ := hres
  have HZ := Lib.hid hz; have HZR := Lib.hid hzr; have HO1 := Lib.hid ho1; have HS1 := Lib.hid hs1
  clear hg hz hzr ho1 hs1
  go_wp2_with fail
  refine (new_c w1).mono ?_
  rintro e w2 ⟨rfl, hb2, ho2⟩
  have HB2 := Lib.hid hb2; have HO2 := Lib.hid (HO1.out.then ho2); have HZR2 := Lib.hid (ho2.heap HZR.out (by simp))
  clear hb2 ho2
  go_wp2_with fail
  refine (write_c _ w2 [] HB2.out (HT.out.only HO2.out (by simp)) (by have := H0.out; have := HS1.out; omega) v m (HV.out.only HO2.out (by simp)) (fun c h1 h2 => by have := HV.out.lt h2 h1; have := HS1.out; omega) (by simp; have := HL.out; omega)).mono ?_
  rintro e w3 ⟨rfl, hb3, ho3⟩
  rw [List.nil_append] at hb3
  have HB3 := Lib.hid hb3; have HO3 := Lib.hid (only_own HO2.out ho3 (by have := HS1.out; omega)); have HZR3 := Lib.hid (ho3.heap HZR2.out (by have := HS1.out; simp; omega))
  clear hb3 ho3
  go_wp2_with fail
  refine (sum_c _ w3 m HB3.out (HT.out.only HO3.out (by simp)) HL.out).mono ?_
  rintro e w4 ⟨rfl, ho4⟩
  have HO4 := Lib.hid (HO3.out.then ho4); have HZR4 := Lib.hid (ho4.heap HZR3.out (by simp))
  clear ho4
  obtain ⟨C, hcs, hc, hci, hc1⟩ := ret_sum (Sha.sum_length m) HZ.out HZR4.out HO4.out (Nat.le_refl _)
  rw [← hc]
  have HC := Lib.hid hc; have HCS := Lib.hid hcs; have HCI := Lib.hid hci; have HC1 := Lib.hid hc1
  clear hcs hc hci hc1
  go_wp2_with (refine wpList_store_row rfl 25 _ _ rfl w.heap.size C rfl rfl _ _ HZR4.out HCI.out (HZ.out.trans HCS.out.symm) HC1.out ?_)
  have hres : (w4.setRow w.heap.size C).heap[w.heap.size]? = some (.cells C 25 (0, 0)) := setRow_heap _ _ _ C _ _ HZR4.out
  have hof : Only [] w (w4.setRow w.heap.size C) := HO4.out.setRow (.inr (Nat.le_refl _)) C
  generalize World.setRow _ _ _ = w8 at *
  refine bodyPost_ret (v := .agg C) (results_cell_row rfl _ _ w.heap.size 25 C (0, 0) _ rfl hres Tryd.underlying25 rfl HCI.out) rfl ⟨by rw [dv, HC.out], hof⟩

set_option maxRecDepth 100000 in
set_option maxHeartbeats 1000000 in
theorem sum_none (w : World) (hT : Tab w) : Calls Tryd.prog 47 #[.pointer none] w fun e w' => e = .returned (dv (Sha.sum [])) ∧ Only [] w w' := by
  have HT := Lib.hid hT
  clear hT
  go_enter Tryd.func47, Tryd.ntmps47
  go_upto_region 2 with fail
  generalize hg : World.alloc w _ = w1
  have hres : ∃ z : Array Value, z.size = 32 ∧ w1.heap[w.heap.size]? = some (.cells z 25 (0, 0)) :=
    ⟨(List.replicate 32 (Value.int .u8 0)).toArray, by simp, by rw [← hg]; exact (heap_alloc_new w _).trans rfl⟩
  have ho1 : Only [] w w1 := hg ▸ (Only.refl [] w).alloc _
  obtain ⟨z, hz, hzr⟩ := hres
  have HZ := Lib.hid hz; have HZR := Lib.hid hzr; have HO1 := Lib.hid ho1
  clear hg hz hzr ho1
  go_wp2_with fail
  refine (of_c w1 _ [] (BS.nil w1) (by simp) (HT.out.only HO1.out (by simp))).mono ?_
  rintro e w4 ⟨rfl, ho4⟩
  have HO4 := Lib.hid (HO1.out.then ho4); have HZR4 := Lib.hid (ho4.heap HZR.out (by simp))
  clear ho4
  obtain ⟨C, hcs, hc, hci, hc1⟩ := ret_sum (Sha.sum_length []) HZ.out HZR4.out HO4.out (Nat.le_refl _)
  have hdv : dv (Sha.sum []) = .agg C := by rw [hc]; rfl
  rw [hdv]
  have HDV := Lib.hid hdv; have HCS := Lib.hid hcs; have HCI := Lib.hid hci; have HC1 := Lib.hid hc1
  clear hcs hc hci hc1 hdv
  go_wp2_with (refine wpList_store_row rfl 25 _ _ rfl w.heap.size C rfl rfl _ _ HZR4.out HCI.out (HZ.out.trans HCS.out.symm) HC1.out ?_)
  have hres : (w4.setRow w.heap.size C).heap[w.heap.size]? = some (.cells C 25 (0, 0)) := setRow_heap _ _ _ C _ _ HZR4.out
  have hof : Only [] w (w4.setRow w.heap.size C) := HO4.out.setRow (.inr (Nat.le_refl _)) C
  generalize World.setRow _ _ _ = w8 at *
  refine bodyPost_ret (v := .agg C) (results_cell_row rfl _ _ w.heap.size 25 C (0, 0) _ rfl hres Tryd.underlying25 rfl HCI.out) rfl ⟨by rw [HDV.out], hof⟩

theorem write_none (w : World) (v : Value) : Calls Tryd.prog 46 #[.pointer none, v] w fun e w' => e = .returned (.tuple #[]) ∧ w = w' := by
  go_enter Tryd.func46, Tryd.ntmps46
  go_wp2
  refine bodyPost_ret (results_none rfl _ _ _) rfl ⟨rfl, rfl⟩
end Go.Proofs.YtpgcfpfmicghnaaDoor.sha
