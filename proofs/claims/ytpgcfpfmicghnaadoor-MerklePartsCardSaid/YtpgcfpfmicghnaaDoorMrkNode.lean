/-
  THE WALKS of pair, Node, Leaf.
-/
import Derived.Test.YtpgcfpfmicghnaaDoorMrkMem
import Derived.Deep.RegionHeld3
import Derived.Deep.RegionWith
import Derived.Outline
import Derived.BigQuiet
import Derived.RegionTactic
set_option linter.unusedVariables false
set_option linter.unusedSimpArgs false
namespace Go.Proofs.YtpgcfpfmicghnaaDoor.mrk
open Go Go.RowKit Go.Lm Go.ChangeShapes Go.WideShapes Go.Proofs.YtpgcfpfmicghnaaDoor.sha

def leafD (b : List UInt8) : List UInt8 := Sha.sum (0 :: b)
def nodeD (l r : List UInt8) : List UInt8 := Sha.sum (1 :: (l ++ r))

theorem four (w : World) (A B C D : Obj) : ((((w.alloc A).alloc B).alloc C).alloc D).heap[w.heap.size]? = some A ∧ ((((w.alloc A).alloc B).alloc C).alloc D).heap[w.heap.size + 1]? = some B ∧ ((((w.alloc A).alloc B).alloc C).alloc D).heap[w.heap.size + 1 + 1]? = some C ∧ ((((w.alloc A).alloc B).alloc C).alloc D).heap[w.heap.size + 1 + 1 + 1]? = some D := by
  have e1 : (w.alloc A).heap.size = w.heap.size + 1 := by simp
  have e2 : ((w.alloc A).alloc B).heap.size = w.heap.size + 1 + 1 := by simp
  have e3 : (((w.alloc A).alloc B).alloc C).heap.size = w.heap.size + 1 + 1 + 1 := by simp
  refine ⟨?_, ?_, ?_, ?_⟩
  · rw [Below.heap_alloc _ _ _ (by omega), Below.heap_alloc _ _ _ (by omega), Below.heap_alloc _ _ _ (by omega)]; exact heap_alloc_new w A
  · rw [Below.heap_alloc _ _ _ (by omega), Below.heap_alloc _ _ _ (by omega)]
    have := heap_alloc_new (w.alloc A) B
    rw [e1] at this; exact this
  · rw [Below.heap_alloc _ _ _ (by omega)]
    have := heap_alloc_new ((w.alloc A).alloc B) C
    rw [e2] at this; exact this
  · have := heap_alloc_new (((w.alloc A).alloc B).alloc C) D
    rw [e3] at this; exact this
theorem three (w : World) (A B C : Obj) : (((w.alloc A).alloc B).alloc C).heap[w.heap.size]? = some A ∧ (((w.alloc A).alloc B).alloc C).heap[w.heap.size + 1]? = some B ∧ (((w.alloc A).alloc B).alloc C).heap[w.heap.size + 1 + 1]? = some C := by
  have e1 : (w.alloc A).heap.size = w.heap.size + 1 := by simp
  have e2 : ((w.alloc A).alloc B).heap.size = w.heap.size + 1 + 1 := by simp
  refine ⟨?_, ?_, ?_⟩
  · rw [Below.heap_alloc _ _ _ (by omega), Below.heap_alloc _ _ _ (by omega)]; exact heap_alloc_new w A
  · rw [Below.heap_alloc _ _ _ (by omega)]
    have := heap_alloc_new (w.alloc A) B
    rw [e1] at this; exact this
  · have := heap_alloc_new ((w.alloc A).alloc B) C
    rw [e2] at this; exact this
theorem bs_block {W : World} {q n : Nat} {l : List UInt8} {A : Array Value} {t : TypeId} (h : W.heap[q]? = some (.cells A t (0, 0))) (hA : (l.map u8v).toArray = A) (hn : l.length = n) (hm : n ≤ 1000) : BS W (.slice (some ⟨q, 0, none⟩) n n) l := by
  subst hA
  exact BS.of_vs (VS.of_block h n n _ (by simp [hn]) (by rw [List.take_of_length_le (by simp [hn])]) (Nat.le_refl _) (by unfold maxLen; omega))
theorem bss3 {W : World} {q0 q1 q2 q3 : Nat} {l r : List UInt8} {A C : Array Value} {t0 t1 t2 t3 : TypeId} (hA : (l.map u8v).toArray = A) (hC : (r.map u8v).toArray = C) (hl : l.length = 32) (hr : r.length = 32)
    (h0 : W.heap[q0]? = some (.cells A t0 (0, 0))) (h1 : W.heap[q1]? = some (.cells C t1 (0, 0))) (h2 : W.heap[q2]? = some (.cells #[.int .u8 1] t2 (0, 0)))
    (h3 : W.heap[q3]? = some (.cells #[.slice (some ⟨q2, 0, none⟩) 1 1, .slice (some ⟨q0, 0, none⟩) 32 32, .slice (some ⟨q1, 0, none⟩) 32 32] t3 (0, 0))) : BSS W (.slice (some ⟨q3, 0, none⟩) 3 3) [[1], l, r] := by
  have k0 := bs_block (l := [1]) (n := 1) h2 rfl rfl (by omega)
  have k1 := bs_block h0 hA hl (by omega)
  have k2 := bs_block h1 hC hr (by omega)
  refine ⟨_, 3, rfl, Nat.le_refl _, by unfold maxLen; omega, fun k hk => ?_⟩
  match k, hk with
  | 0, _ => exact ⟨q3, 0, _, rfl, by rw [cell_of_row _ _ _ _ _ _ h3]; rfl, k0⟩
  | 1, _ => exact ⟨q3, 0, _, rfl, by rw [cell_of_row _ _ _ _ _ _ h3]; rfl, k1⟩
  | 2, _ => exact ⟨q3, 0, _, rfl, by rw [cell_of_row _ _ _ _ _ _ h3]; rfl, k2⟩

set_option maxRecDepth 100000 in
set_option maxHeartbeats 2000000 in
theorem pair_c (w : World) (l r : List UInt8) (hl : l.length = 32) (hr : r.length = 32) : Calls Tryd.prog 29 #[dv l, dv r] w fun e w' => ∃ u, e = .returned u ∧ OV w' w.heap.size 5 u ((1 :: (l ++ r)).map u8v) ∧ Only [] w w' := by
  obtain ⟨A, hA⟩ : ∃ A, (l.map u8v).toArray = A := ⟨_, rfl⟩
  obtain ⟨C, hC⟩ : ∃ C, (r.map u8v).toArray = C := ⟨_, rfl⟩
  have hAs : A.size = 32 := by rw [← hA]; simp [hl]
  have hCs : C.size = 32 := by rw [← hC]; simp [hr]
  unfold dv
  rw [hA, hC]
  have HA := Lib.hid hA; have HC := Lib.hid hC; have HAS := Lib.hid hAs; have HCS := Lib.hid hCs
  have HL := Lib.hid hl; have HR := Lib.hid hr
  clear hA hC hAs hCs hl hr
  go_enter Tryd.func29, Tryd.ntmps29
  go_wp2_with fail
  have hbss := fun B D => four w (.cells A 25 (0, 0)) (.cells C 25 (0, 0)) B D
  go_region_with (go_at_call 50; refine Calls.mono (cat.concat_c _ _ [[1], l, r] ?_ ?_) ?_; exact bss3 HA.out HC.out HL.out HR.out (hbss _ _).1 (hbss _ _).2.1 (hbss _ _).2.2.1 (hbss _ _).2.2.2; simp [HL.out, HR.out]; rintro e w2 ⟨u, rfl, hov, ho2⟩; obtain ⟨a, n, c, rfl⟩ : ∃ a n c, u = .slice a n c := (by obtain ⟨a, cap, h, _⟩ := hov.slice; exact ⟨_, _, _, h⟩); have HOV := Lib.hid hov; have HO2 : Hid (Only [] w w2) := Lib.hid ((((((Only.refl [] w).alloc _).alloc _).alloc _).alloc _).drew.then ho2); have HSZ : Hid (w.heap.size ≤ w2.heap.size) := Lib.hid HO2.out.size)
  all_goals
    go_wp2
    go_ret
    refine ⟨_, rfl, ?_, HO2.out⟩
    have h : OV w2 w.heap.size 5 (.slice a n c) ((1 :: (l ++ r)).map u8v) := by
      have h := OV.mono HOV.out (B' := w.heap.size) (by simp; omega)
      simpa using h
    exact h

set_option maxRecDepth 100000 in
set_option maxHeartbeats 2000000 in
theorem node_c (w : World) (l r : List UInt8) (hl : l.length = 32) (hr : r.length = 32) (hT : Tab w) : Calls Tryd.prog 15 #[dv l, dv r] w fun e w' => e = .returned (dv (nodeD l r)) ∧ Only [] w w' := by
  obtain ⟨A, hA⟩ : ∃ A, (l.map u8v).toArray = A := ⟨_, rfl⟩
  obtain ⟨C, hC⟩ : ∃ C, (r.map u8v).toArray = C := ⟨_, rfl⟩
  have hAs : (Tryd.prog.info? 25).map (·.size) = some A.size := by rw [← hA]; simp only [List.size_toArray, List.length_map, hl]; kernel_rfl
  have hCs : (Tryd.prog.info? 25).map (·.size) = some C.size := by rw [← hC]; simp only [List.size_toArray, List.length_map, hr]; kernel_rfl
  have HP : Hid (∀ W : World, Calls Tryd.prog 29 #[.agg A, .agg C] W fun e w' => ∃ u, e = .returned u ∧ OV w' W.heap.size 5 u ((1 :: (l ++ r)).map u8v) ∧ Only [] W w') := Lib.hid (fun W => by have h := pair_c W l r hl hr; unfold dv at h; rw [hA, hC] at h; exact h)
  have HL : Hid ((1 :: (l ++ r)).length ≤ 100000000) := Lib.hid (by simp [hl, hr])
  have hd1 : dv l = .agg A := by unfold dv; rw [hA]
  have hd2 : dv r = .agg C := by unfold dv; rw [hC]
  rw [hd1, hd2]
  unfold nodeD
  have HAS := Lib.hid hAs; have HCS := Lib.hid hCs; have HT := Lib.hid hT
  clear hA hC hAs hCs hl hr hd1 hd2 hT
  go_enter Tryd.func15, Tryd.ntmps15
  go_upto_region 1 with fail
  generalize hg : World.alloc _ _ = w1
  have h3 := three w (.cells A 25 (0, 0)) (.cells C 25 (0, 0)) (.cells (List.replicate 32 (Value.int .u8 0)).toArray 25 (0, 0))
  have he : w1 = ((w.alloc (.cells A 25 (0, 0))).alloc (.cells C 25 (0, 0))).alloc (.cells (List.replicate 32 (Value.int .u8 0)).toArray 25 (0, 0)) := hg.symm.trans rfl
  rw [← he] at h3
  have HO1 : Hid (Only [] w w1) := Lib.hid (by rw [he]; exact (((Only.refl [] w).alloc _).alloc _).alloc _)
  have HA1 := Lib.hid h3.1; have HC1 := Lib.hid h3.2.1; have HZ1 := Lib.hid h3.2.2
  clear hg h3 he
  go_wp2_with (first
    | (refine wpList_load_row rfl 25 _ rfl w.heap.size rfl _ A _ _ HA1.out Tryd.underlying25 rfl HAS.out ?_)
    | (refine wpList_load_row rfl 25 _ rfl (w.heap.size + 1) rfl _ C _ _ HC1.out Tryd.underlying25 rfl HCS.out ?_))
  --@3
  refine (HP.out w1).mono ?_
  rintro e w2 ⟨u, rfl, hov, ho2⟩
  have HB2 := Lib.hid (BS.of_vs hov.vs)
  have HO2 := Lib.hid (HO1.out.then ho2)
  have HZ2 := Lib.hid (ho2.heap HZ1.out (by simp))
  clear hov ho2 HA1 HC1 HZ1 HO1
  go_wp2_with fail
  refine (of_c w2 u _ HB2.out HL.out (HT.out.only HO2.out (by simp))).mono ?_
  rintro e w4 ⟨rfl, ho4⟩
  have HO4 := Lib.hid (HO2.out.then ho4)
  have HZR4 := Lib.hid (ho4.heap HZ2.out (by simp))
  clear ho4 HB2 HO2 HZ2
  obtain ⟨D, hcs, hc, hci, hc1⟩ := ret_sum (Sha.sum_length (1 :: (l ++ r))) (by simp) HZR4.out HO4.out (by omega)
  have hdv : dv (Sha.sum (1 :: (l ++ r))) = .agg D := by rw [hc]; rfl
  rw [hdv]
  have HDV := Lib.hid hdv; have HDS := Lib.hid hcs; have HDI := Lib.hid hci; have HD1 := Lib.hid hc1
  clear hcs hc hci hc1 hdv
  go_wp2_with (refine wpList_store_row rfl 25 _ _ rfl (w.heap.size + 1 + 1) D rfl rfl _ _ HZR4.out HDI.out (by rw [HDS.out]; simp) HD1.out ?_)
  have hres : (w4.setRow (w.heap.size + 1 + 1) D).heap[w.heap.size + 1 + 1]? = some (.cells D 25 (0, 0)) := setRow_heap _ _ _ D _ _ HZR4.out
  have hof : Only [] w (w4.setRow (w.heap.size + 1 + 1) D) := HO4.out.setRow (.inr (by omega)) D
  generalize World.setRow _ _ _ = w8 at *
  refine bodyPost_ret (v := .agg D) (results_cell_row rfl _ _ (w.heap.size + 1 + 1) 25 D (0, 0) _ rfl hres Tryd.underlying25 rfl HDI.out) rfl ⟨by rw [HDV.out], hof⟩

set_option maxRecDepth 100000 in
set_option maxHeartbeats 2000000 in
theorem leaf_c (w : World) (v : Value) (b : List UInt8) (hv : BS w v b) (hl : b.length ≤ 1000000) (hT : Tab w) : Calls Tryd.prog 13 #[v] w fun e w' => e = .returned (dv (leafD b)) ∧ Only [] w w' := by
  unfold leafD
  obtain ⟨i0, hi, hz0, hz1, hz2⟩ := info_parts cat.info_u8
  have HI := Lib.hid hi; have HI0 := Lib.hid hz0; have HI1 := Lib.hid hz1; have HI2 := Lib.hid hz2
  have HV := Lib.hid hv; have HL := Lib.hid hl; have HT := Lib.hid hT
  clear hi hz0 hz1 hz2 hv hl hT
  go_enter Tryd.func13, Tryd.ntmps13
  go_upto_region 1 with fail
  generalize hg : World.alloc _ _ = w1
  have he : w1 = w.alloc (.cells (List.replicate 32 (Value.int .u8 0)).toArray 25 (0, 0)) := hg.symm.trans rfl
  have HZ1 : Hid (w1.heap[w.heap.size]? = some (.cells (List.replicate 32 (Value.int .u8 0)).toArray 25 (0, 0))) := Lib.hid (by rw [he]; exact heap_alloc_new w _)
  have HO1 : Hid (Only [] w w1) := Lib.hid (by rw [he]; exact (Only.refl [] w).alloc _)
  clear hg he
  have hown : OV (w1.alloc (.cells #[.int .u8 0] 5 (0, 0))) w1.heap.size 5 (.slice (some ⟨w1.heap.size, 0, none⟩) 1 1) [.int .u8 0] := World.ownsRow_lit w1 #[.int .u8 0] 1 (Nat.le_refl _) (by unfold maxLen; omega) rfl
  have ho2 : Only [] w1 (w1.alloc (.cells #[.int .u8 0] 5 (0, 0))) := (Only.refl [] w1).alloc _
  obtain ⟨v', w2, hrun, hov, hgr⟩ := run_append_vs (P := Tryd.prog) (ty := 23) Tryd.underlying23 HI.out HI0.out HI1.out HI2.out rfl hown (VS.of_bs (HV.out.only (HO1.out.then ho2) (by simp))) (cat.u8s_one b) (by simp; have := HL.out; unfold maxLen; omega) (by simp; have := HL.out; omega) (by simp)
  have HB2 : Hid (BS w2 v' (0 :: b)) := Lib.hid (BS.of_vs hov.vs)
  have HO2 : Hid (Only [] w w2) := Lib.hid ((HO1.out.then ho2).trans (Only.of_grown hgr) (by simp) (by simp [Value.ownBlock]; have := HO1.out.size; omega))
  have HZ2 : Hid (w2.heap[w.heap.size]? = some (.cells (List.replicate 32 (Value.int .u8 0)).toArray 25 (0, 0))) := Lib.hid ((Only.of_grown hgr).heap (ho2.heap HZ1.out (by simp)) (by have := lt_of_block HZ1.out; simp [Value.ownBlock]; omega))
  have HRUN := Lib.hid hrun
  clear hown ho2 hov hgr hrun HZ1
  go_wp2_with (at_builtin; refine wpList_append_run rfl _ _ _ rfl rfl rfl HRUN.out ?_)
  --@5
  refine (of_c w2 v' _ HB2.out (by simp; have := HL.out; omega) (HT.out.only HO2.out (by simp))).mono ?_
  rintro e w4 ⟨rfl, ho4⟩
  have HO4 := Lib.hid (HO2.out.then ho4)
  have HZR4 := Lib.hid (ho4.heap HZ2.out (by simp))
  clear ho4 HB2 HO2 HZ2
  obtain ⟨D, hcs, hc, hci, hc1⟩ := ret_sum (Sha.sum_length (0 :: b)) (by simp) HZR4.out HO4.out (Nat.le_refl _)
  have hdv : dv (Sha.sum (0 :: b)) = .agg D := by rw [hc]; rfl
  rw [hdv]
  have HDV := Lib.hid hdv; have HDS := Lib.hid hcs; have HDI := Lib.hid hci; have HD1 := Lib.hid hc1
  clear hcs hc hci hc1 hdv
  go_wp2_with (refine wpList_store_row rfl 25 _ _ rfl w.heap.size D rfl rfl _ _ HZR4.out HDI.out (by rw [HDS.out]; simp) HD1.out ?_)
  have hres : (w4.setRow w.heap.size D).heap[w.heap.size]? = some (.cells D 25 (0, 0)) := setRow_heap _ _ _ D _ _ HZR4.out
  have hof : Only [] w (w4.setRow w.heap.size D) := HO4.out.setRow (.inr (Nat.le_refl _)) D
  generalize World.setRow _ _ _ = w8 at *
  refine bodyPost_ret (v := .agg D) (results_cell_row rfl _ _ w.heap.size 25 D (0, 0) _ rfl hres Tryd.underlying25 rfl HDI.out) rfl ⟨by rw [HDV.out], hof⟩
end Go.Proofs.YtpgcfpfmicghnaaDoor.mrk
