/-
  THE WALKS of the reference's words and round.
-/
import Derived.Test.YtpgcfpfmicghnaaDoorShaOf
import Derived.Test.YtpgcfpfmicghnaaDoorGen8
set_option linter.unusedVariables false
set_option linter.unusedSimpArgs false
namespace Go.Proofs.YtpgcfpfmicghnaaDoor.sha
open Go Go.RowKit Go.Lm

set_option maxRecDepth 100000 in
set_option maxHeartbeats 1000000 in
theorem words_c (w : World) : Calls Tryd.prog 42 #[] w fun e w' => e = .returned (.agg (Sha.K.map u32v).toArray) ∧ Only [] w w' := by
  go_enter Tryd.func42, Tryd.ntmps42
  go_upto_region 1 with fail
  generalize hg : World.alloc w _ = w1
  have hres : ∃ z : Array Value, z.size = 64 ∧ w1.heap[w.heap.size]? = some (.cells z 72 (0, 0)) :=
    ⟨((List.replicate 64 0).map u32v).toArray, by simp, by rw [← hg]; exact (heap_alloc_new w _).trans rfl⟩
  have ho1 : Only [] w w1 := hg ▸ (Only.refl [] w).alloc _
  obtain ⟨z, hz, hzr⟩ := hres
  have HZ := Lib.hid hz; have HZR := Lib.hid hzr; have HO1 := Lib.hid ho1
  clear hg hz hzr ho1
  go_wp2_with (first
    | (refine wpList_build rfl 72 _ rfl (by kernel_rfl) ?_)
    | (refine wpList_store_row rfl 72 _ _ rfl w.heap.size _ rfl rfl _ _ HZR.out (by kernel_rfl) (HZ.out.trans (by kernel_rfl)) (by kernel_rfl) ?_))
  generalize hC : Option.getD _ _ = C
  have hC2 : C = (Sha.K.map u32v).toArray := by rw [← hC]; kernel_rfl
  have hres : (w1.setRow w.heap.size C).heap[w.heap.size]? = some (.cells C 72 (0, 0)) := setRow_heap _ _ _ C _ _ HZR.out
  have hof : Only [] w (w1.setRow w.heap.size C) := HO1.out.setRow (.inr (Nat.le_refl _)) C
  have hci : (Tryd.prog.info? 72).map (·.size) = some C.size := by rw [hC2]; kernel_rfl
  have HC := Lib.hid hC2
  clear hC hC2
  generalize World.setRow _ _ _ = w8 at *
  refine bodyPost_ret (v := .agg C) (results_cell_row rfl _ _ w.heap.size 72 C (0, 0) _ rfl hres Tryd.underlying72 rfl hci) rfl ⟨by rw [HC.out], hof⟩

theorem two_allocs (w : World) (o0 o1 : Obj) : ∀ W, (w.alloc o0).alloc o1 = W → W.heap[w.heap.size]? = some o0 ∧ W.heap[w.heap.size + 1]? = some o1 ∧ Only [] w W ∧ W.heap.size = w.heap.size + 1 + 1 := by
  rintro W rfl
  refine ⟨?_, ?_, ((Only.refl [] w).alloc _).alloc _, by simp⟩
  · rw [Below.heap_alloc _ _ _ (by simp)]; exact heap_alloc_new w _
  · simpa using heap_alloc_new (w.alloc o0) o1

set_option maxRecDepth 100000 in
set_option maxHeartbeats 4000000 in
theorem round_c (w : World) (h : List Nat) (h8 : Sha.W8 h) (kt wt : Nat) : Calls Tryd.prog 44 #[.agg (h.map u32v).toArray, .int .u32 kt, .int .u32 wt] w fun e w' => e = .returned (.agg ((Sha.rnd h kt wt).map u32v).toArray) ∧ Only [] w w' := by
  obtain ⟨a, b, c, d, e, f, g, i, rfl, la, lb, lc, ld, le, lf, lg, li⟩ := h8.parts
  rw [Sha.rnd_eight]
  obtain ⟨A, hA⟩ : ∃ A, A = (List.map u32v [a, b, c, d, e, f, g, i]).toArray := ⟨_, rfl⟩
  rw [← hA]
  obtain ⟨one1, hone⟩ : ∃ x, Sha.one e f g i kt wt = x := ⟨_, rfl⟩
  obtain ⟨two1, htwo⟩ : ∃ x, Sha.two a b c = x := ⟨_, rfl⟩
  rw [hone, htwo]
  have hone' : (i + Sha.big e 6 11 25 + (e &&& f ^^^ (4294967295 - e) &&& g) + kt + wt) % 4294967296 = one1 := hone
  have htwo' : (Sha.big a 2 13 22 + (a &&& b ^^^ a &&& c ^^^ b &&& c)) % 4294967296 = two1 := htwo
  have HONE := Lib.hid hone'; have HTWO := Lib.hid htwo'; have HA := Lib.hid hA
  clear hone hone' htwo htwo' hA h8
  go_enter Tryd.func44, Tryd.ntmps44
  go_upto_region 1 with fail
  generalize hW : World.alloc (World.alloc w _) _ = W
  obtain ⟨g0, g1, ho, hsz⟩ := two_allocs w _ _ W hW
  clear hW
  rw [HA.out] at g0
  have hv : Wds W w.heap.size 71 [a, b, c, d, e, f, g, i] := g0
  have c0 := hv.cell 0 (by simp)
  have c1 := hv.cell 1 (by simp)
  have c2 := hv.cell 2 (by simp)
  have c3 := hv.cell 3 (by simp)
  have c4 := hv.cell 4 (by simp)
  have c5 := hv.cell 5 (by simp)
  have c6 := hv.cell 6 (by simp)
  have c7 := hv.cell 7 (by simp)
  simp only [List.getD_cons_zero, List.getD_cons_succ] at c0 c1 c2 c3 c4 c5 c6 c7
  obtain ⟨z, hz, hgz⟩ : ∃ z : Array Value, z.size = 8 ∧ W.heap[w.heap.size + 1]? = some (.cells z 71 (0, 0)) := ⟨_, by rfl, g1⟩
  have HG1 := Lib.hid hgz; have HZ := Lib.hid hz; have HO := Lib.hid ho; have HV := Lib.hid hv
  clear g0 g1 ho hsz hv hz hgz
  have x1 := u32_and_nat e f le lf
  have x2 : bits .xor .u32 (if IntKind.u32.signed = true then -1 else IntKind.u32.max) (e : Int) = ((4294967295 - e : Nat) : Int) := u32_not e le
  have x3 := u32_and_nat (4294967295 - e) g (by omega) lg
  have x4 := u32_xor_nat (e &&& f) ((4294967295 - e) &&& g) (Nat.and_lt_two_pow (n := 32) _ lf) (Nat.and_lt_two_pow (n := 32) _ lg)
  have x5 := u32_and_nat a b la lb
  have x6 := u32_and_nat a c la lc
  have x7 := u32_and_nat b c lb lc
  have x8 := u32_xor_nat (a &&& b) (a &&& c) (Nat.and_lt_two_pow (n := 32) _ lb) (Nat.and_lt_two_pow (n := 32) _ lc)
  have x9 := u32_xor_nat ((a &&& b) ^^^ (a &&& c)) (b &&& c) (Nat.xor_lt_two_pow (n := 32) (Nat.and_lt_two_pow (n := 32) _ lb) (Nat.and_lt_two_pow (n := 32) _ lc)) (Nat.and_lt_two_pow (n := 32) _ lc)
  have y1 := u32_xor_nat (Sha.rr 6 e) (Sha.rr 11 e) (Sha.rr_lt le) (Sha.rr_lt le)
  have y2 : bits .xor .u32 ((Sha.rr 6 e ^^^ Sha.rr 11 e : Nat) : Int) (Sha.rr 25 e : Nat) = (Sha.big e 6 11 25 : Nat) := u32_xor_nat _ _ (Nat.xor_lt_two_pow (n := 32) (Sha.rr_lt le) (Sha.rr_lt le)) (Sha.rr_lt le)
  have y3 := u32_xor_nat (Sha.rr 2 a) (Sha.rr 13 a) (Sha.rr_lt la) (Sha.rr_lt la)
  have y4 : bits .xor .u32 ((Sha.rr 2 a ^^^ Sha.rr 13 a : Nat) : Int) (Sha.rr 22 a : Nat) = (Sha.big a 2 13 22 : Nat) := u32_xor_nat _ _ (Nat.xor_lt_two_pow (n := 32) (Sha.rr_lt la) (Sha.rr_lt la)) (Sha.rr_lt la)
  go_upto_region 3 with fail
  go_quiet ((first | (go_at_call 43; with_reducible exact Calls.quiet_of_same ((right_6 e le _).mono fun _ _ h => ⟨h.1, h.2.symm⟩)) | (go_at_call 43; with_reducible exact Calls.quiet_of_same ((right_11 e le _).mono fun _ _ h => ⟨h.1, h.2.symm⟩)) | (go_at_call 43; with_reducible exact Calls.quiet_of_same ((right_25 e le _).mono fun _ _ h => ⟨h.1, h.2.symm⟩))))
  go_upto_region 4 with fail
  go_quiet ((first | (go_at_call 43; with_reducible exact quiet_add_same ((right_2 a la _).mono fun _ _ h => ⟨h.1, h.2.symm⟩)) | (go_at_call 43; with_reducible exact quiet_add_same ((right_13 a la _).mono fun _ _ h => ⟨h.1, h.2.symm⟩)) | (go_at_call 43; with_reducible exact quiet_add_same ((right_22 a la _).mono fun _ _ h => ⟨h.1, h.2.symm⟩))))
  go_upto_region 5 with fail
  rw [sum_one, sum_two (Sha.big a 2 13 22), HONE.out, HTWO.out]
  generalize hgw : World.drewN (World.drewN W _) _ = w1
  have hv1 : Wds w1 w.heap.size 71 [a, b, c, d, e, f, g, i] := hgw ▸ HV.out
  have ho1 : Only [] w w1 := hgw ▸ (HO.out.drewN _).drewN _
  have hg1 : w1.heap[w.heap.size + 1]? = some (.cells z 71 (0, 0)) := hgw ▸ HG1.out
  have c0 := hv1.cell 0 (by simp)
  have c1 := hv1.cell 1 (by simp)
  have c2 := hv1.cell 2 (by simp)
  have c3 := hv1.cell 3 (by simp)
  have c4 := hv1.cell 4 (by simp)
  have c5 := hv1.cell 5 (by simp)
  have c6 := hv1.cell 6 (by simp)
  have c7 := hv1.cell 7 (by simp)
  simp only [List.getD_cons_zero, List.getD_cons_succ] at c0 c1 c2 c3 c4 c5 c6 c7
  have HG1' := Lib.hid hg1; have HO1 := Lib.hid ho1
  have s1 := sum_two one1 two1
  have s2 := sum_two d one1
  have S1 := Lib.hid s1; have S2 := Lib.hid s2
  clear hgw hv1 ho1 hg1 x1 x2 x3 x4 x5 x6 x7 x8 x9 y1 y2 y3 y4 s1 s2 HG1 HO HV
  go_wp2_with (first
    | (refine wpList_build rfl 71 _ rfl (by kernel_rfl) ?_)
    | (refine wpList_store_row rfl 71 _ _ rfl (w.heap.size + 1) _ rfl rfl _ _ HG1'.out (by kernel_rfl) (HZ.out.trans (by kernel_rfl)) (by kernel_rfl) ?_))
  try rw [S1.out]
  try rw [S2.out]
  generalize hC : Option.getD _ _ = C
  have hC2 : C = (List.map u32v [(one1 + two1) % 4294967296, a, b, c, (d + one1) % 4294967296, e, f, g]).toArray := by rw [← hC]; kernel_rfl
  have hres : (w1.setRow (w.heap.size + 1) C).heap[w.heap.size + 1]? = some (.cells C 71 (0, 0)) := setRow_heap _ _ _ C _ _ HG1'.out
  have hof : Only [] w (w1.setRow (w.heap.size + 1) C) := HO1.out.setRow (.inr (by omega)) C
  have hci : (Tryd.prog.info? 71).map (·.size) = some C.size := by rw [hC2]; kernel_rfl
  have HC := Lib.hid hC2
  clear hC hC2
  generalize World.setRow _ _ _ = w8 at *
  refine bodyPost_ret (v := .agg C) (results_cell_row rfl _ _ (w.heap.size + 1) 71 C (0, 0) _ rfl hres Tryd.underlying71 rfl hci) rfl ⟨by rw [HC.out], hof⟩
end Go.Proofs.YtpgcfpfmicghnaaDoor.sha
