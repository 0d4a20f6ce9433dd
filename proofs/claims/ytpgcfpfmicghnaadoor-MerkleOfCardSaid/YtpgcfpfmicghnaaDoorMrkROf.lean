/-
  THE WALK of the reference's Of.
-/
import Derived.Test.YtpgcfpfmicghnaaDoorMrkOf
import Derived.Test.YtpgcfpfmicghnaaDoorMrkRSpan
import Derived.Test.YtpgcfpfmicghnaaDoorMrkNode
import Derived.Test.YtpgcfpfmicghnaaDoorMrkRoot
import Derived.Test.YtpgcfpfmicghnaaDoorMrkRNode
import Derived.Test.YtpgcfpfmicghnaaDoorMrkId
import Derived.Test.YtpgcfpfmicghnaaDoorGenM
import Derived.Laws.ResultCell
set_option linter.unusedVariables false
set_option linter.unusedSimpArgs false
namespace Go.Proofs.YtpgcfpfmicghnaaDoor.mrk
open Go Go.RowKit Go.Lm Go.ChangeShapes Go.WideShapes Go.Proofs.YtpgcfpfmicghnaaDoor.sha

set_option maxRecDepth 100000 in
set_option maxHeartbeats 4000000 in
theorem rof_bad (w : World) (t : ByteArray) (b : List UInt8) (P : Int) (ht : t.data.toList = b) (hb : b.length ≤ 100000) (hc : (cnt b.length P).2 ≠ 0) : Calls Tryd.prog 18 #[.string t, .int .i64 P] w fun e w' => e = .returned (.tuple #[.agg #[.int .u64 0, .int .u32 0, .slice none 0 0], .int .i64 ((cnt b.length P).2 : Nat)]) ∧ Only [] w w' := by
  obtain ⟨s, hs⟩ : ∃ s, b.length = s := ⟨_, rfl⟩
  rw [hs] at hb hc ⊢
  have hts : t.size = s := by rw [← len_data, ht, hs]
  have hcc := fun W => rcount_c W s P (by omega)
  obtain ⟨N, hN⟩ : ∃ N, (cnt s P).1 = N := ⟨_, rfl⟩
  obtain ⟨E, hE⟩ : ∃ E, (cnt s P).2 = E := ⟨_, rfl⟩
  rw [hN, hE] at hcc
  rw [hE] at hc ⊢
  have HC := Lib.hid hcc
  clear hs hN hE hcc
  have heI : ¬ ((E : Int) = 0) := by omega
  have hws : IntKind.u64.wrap (s : Int) = (s : Int) := by rw [IntKind.wrap_u64]; omega
  go_enter Tryd.func18, Tryd.ntmps18
  go_wp2_with fail
  refine (HC.out _).mono ?_
  rintro e w1 ⟨rfl, rfl⟩
  go_wp2_with fail
  have ho : Only [] w (w.alloc (.cells #[.int .u64 0, .int .u32 0, .slice none 0 0] 39 (0, 0))) := (Only.refl [] w).alloc _
  --@b
  refine bodyPost_ret (v := .tuple #[.agg #[.int .u64 0, .int .u32 0, .slice none 0 0], .int .i64 E]) (by rw [results_cell_tmp rfl]; go_simp) rfl ⟨rfl, ?_⟩
  first | exact ho | exact ((((ho.setCell (.inr (Nat.le_refl _)) _).setCell (.inr (Nat.le_refl _)) _).setCell (.inr (Nat.le_refl _)) _)) | exact ho.setRow (.inr (Nat.le_refl _)) _

set_option maxRecDepth 100000 in
set_option maxHeartbeats 4000000 in
theorem rof_ok (w : World) (t : ByteArray) (b : List UInt8) (p : Nat) (ht : t.data.toList = b) (hb : b.length ≤ 100000) (hp0 : 0 < p) (hp1 : p ≤ 65536) (hn : cntN b.length p ≤ 1024) :
    Calls Tryd.prog 18 #[.string t, .int .i64 (p : Nat)] w fun e w' => ∃ u, e = .returned (.tuple #[.agg #[.int .u64 (b.length : Nat), .int .u32 (p : Nat), u], .int .i64 0]) ∧ OD w' w.heap.size u (leavesD b p (cntN b.length p)) ∧ Only [] w w' := by
  have HTB := Lib.hid ht
  obtain ⟨s, hs⟩ : ∃ s, b.length = s := ⟨_, rfl⟩
  rw [hs] at hb hn ⊢
  have hts : t.size = s := by rw [← len_data, ht, hs]
  have HSL := Lib.hid hs
  obtain ⟨n, hn'⟩ : ∃ n, cntN s p = n := ⟨_, rfl⟩
  have hcc := fun W => rcount_c W s (p : Nat) (by omega)
  rw [cnt_ok s p hp0 hp1 hn] at hcc
  have hsp := fun W i hi => rspan_c W s p i (by omega) hp0 hp1 hn hi
  rw [hn'] at hn hcc hsp ⊢
  have HCN := Lib.hid hcc; have HSP := Lib.hid hsp; have HLT := Lib.hid (fun i (hi : i < n) => span_lt s p i hp0 (by rw [hn']; exact hi))
  have hws : IntKind.u64.wrap (s : Int) = (s : Int) := by rw [IntKind.wrap_u64]; omega
  have hwp : IntKind.u32.wrap (p : Int) = (p : Int) := by rw [IntKind.wrap_u32]; omega
  clear hs hn' hcc hsp hp0 ht
  go_enter Tryd.func18, Tryd.ntmps18
  go_wp2_with fail
  refine (HCN.out _).mono ?_
  rintro e w1 ⟨rfl, rfl⟩
  --@0
  go_upto_region 5 with fail
  --@1
  generalize hg : World.alloc _ _ = w1
  have he1 : w1 = (w.alloc (.cells #[.int .u64 0, .int .u32 0, .slice none 0 0] 39 (0, 0))).alloc (.cells #[.int .u64 (s : Nat), .int .u32 (p : Nat), .slice none 0 0] 39 (0, 0)) := hg.symm.trans rfl
  have ho1 : Only [] w w1 := by rw [he1]; exact ((Only.refl [] w).alloc _).alloc _
  have h2 := two w (.cells #[.int .u64 0, .int .u32 0, .slice none 0 0] 39 (0, 0)) (.cells #[.int .u64 (s : Nat), .int .u32 (p : Nat), .slice none 0 0] 39 (0, 0))
  rw [← he1] at h2
  have hm1 : M3 w1 (w.heap.size + 1) 39 s p (.slice none 0 0) := h2.2
  have hz1 : M3 w1 w.heap.size 39 0 0 (.slice none 0 0) := h2.1
  have hsz : w1.heap.size = w.heap.size + 2 := by rw [he1]; simp
  clear hg he1 h2
  obtain ⟨q, hq⟩ : ∃ q, w.heap.size = q := ⟨_, rfl⟩
  rw [hq] at hm1 hz1 hsz ⊢
  have HQ := Lib.hid hq; have HM1 := Lib.hid hm1; have HZ1 := Lib.hid hz1; have HO1 := Lib.hid ho1; have HSZ := Lib.hid hsz
  clear hq hm1 hz1 ho1 hsz
  go_wp2_with fail
  --@2
  go_loopw [9] (fun c wx => ∃ (k : Nat) (u : Value), c = .int .i64 (k : Nat) ∧ k ≤ n ∧ M3 wx (q + 1) 39 s p u ∧ M3 wx q 39 0 0 (.slice none 0 0) ∧ OD wx (q + 2) u (leavesD b p k) ∧ Only [] w wx) (fun c _ => n - (intOf c).toNat)
  case atStart => exact ⟨0, _, rfl, Nat.zero_le _, HM1.out, HZ1.out, OD.nil _ _, HO1.out⟩
  case round =>
    obtain ⟨k, u, rfl, hk, hm, hz, hod, ho⟩ := hrel
    have HM := Lib.hid hm; have HZ := Lib.hid hz; have HOD := Lib.hid hod; have HO := Lib.hid ho
    clear hm hz hod ho
    obtain ⟨ua, uc, rfl, -, -⟩ := HOD.out.slice
    rw [leavesD_length] at HM HOD
    obtain ⟨c0, c1, c2, cf⟩ := HM.out.cells
    by_cases hlt : k < n
    · have hltI : (k : Int) < (n : Int) := by omega
      go_wp2_with fail
      --@3
      refine (HSP.out wr k hlt).mono ?_
      rintro e wr' ⟨rfl, rfl⟩
      have hA := HLT.out k hlt
      have hpe := part_eq b p (p * k) (by rw [HSL.out]; exact hA)
      rw [HSL.out] at hpe
      have hnx := leavesD_succ b p k
      rw [← hpe] at hnx
      obtain ⟨A, hA'⟩ : ∃ A, p * k = A := ⟨_, rfl⟩
      rw [hA'] at hA hnx ⊢
      obtain ⟨L, hL⟩ : ∃ L, min (s - A) p = L := ⟨_, rfl⟩
      rw [hL] at hnx ⊢
      obtain ⟨E', hE'⟩ : ∃ E, A + L = E := ⟨_, rfl⟩
      have hAL : E' ≤ s := by omega
      have hex : (t.extract A E').data.toList = (b.take E').drop A := by
        rw [ByteArray.data_extract, Array.toList_extract, HTB.out, List.extract_eq_take_drop, List.drop_take]
      have hbs := fun (x : Later [] wr.drew) => rleaf_c x.at' (t.extract A E') (by rw [ByteArray.size_extract]; omega)
      rw [hex] at hbs
      rw [hE'] at hnx
      obtain ⟨d, hd⟩ : ∃ d, leafD ((b.take E').drop A) = d := ⟨_, rfl⟩
      rw [hd] at hnx hbs
      have hdl : d.length = 32 := by rw [← hd]; exact Sha.sum_length _
      obtain ⟨E, hev, hes, hei, he1⟩ := store_facts d hdl
      rw [hev] at hbs
      have HLF := Lib.hid hbs; have HES : Hid (E.size = 32) := Lib.hid hes; have HEV := Lib.hid hev; have HEL := Lib.hid hdl; have HNX := Lib.hid hnx
      have hwL : IntKind.i64.wrap (A : Int) = (A : Int) := by rw [IntKind.wrap_i64]; omega
      have hwE : IntKind.i64.wrap (E' : Int) = (E' : Int) := by rw [IntKind.wrap_i64]; omega
      have hwE' : (A : Int) + (L : Int) = (E' : Int) := by omega
      have hle1 : A ≤ E' := by omega
      have HUL : Hid ((leavesD b p k).length ≤ 1000000) := Lib.hid (by rw [leavesD_length]; omega)
      have HAL := Lib.hid hAL; have HAE := Lib.hid hE'
      clear hpe hA' hL hd hdl hex hev hes hei he1 hnx hbs hE'
      go_upto_region 9 with fail
      --@4
      refine wp_region_M [] (by kernel_rfl) ?_
      change wpAnyM _ _ _ _ _ _ _ _ (World.drew _)
      have c2' : ∀ x : Later [] wr.drew, x.at'.cell? ⟨q + 1, 2, none⟩ = some (.slice ua k uc) := fun x => (Only.refl [] wr).drew.then x.only |>.cell c2 (by simp)
      have HBW : Hid (q + 2 ≤ wr.drew.heap.size) := Lib.hid (by have := HO1.out.size; have := HSZ.out; have := HM.out.lt; exact Nat.succ_le_of_lt HM.out.lt)
      --@5
      refine wpAnyM_take (i := 0) (oi := { dst := some 46, op := .fieldAddr 39 (.tmp 8) 2, type := 0, pos := "ref.go:56", after := #[], guard := none }) rfl (by kernel_rfl) (by kernel_rfl) (by kernel_rfl) (YieldsOn.pure (by rfl) (by intro x; first | (go_simp; first | done | rfl) | (unfold execOp; simp only [Sem.run_bind]; go_simp; first | done | rfl))) (by exact fun _ _ _ h => h) ?_
      try simp only [Act.put, List.setIfInBounds_toArray, List.set_cons_zero, List.set_cons_succ]
      refine wpAnyM_take (i := 1) (oi := { dst := some 47, op := .load 22 (.tmp 46), type := 22, pos := "ref.go:56", after := #[{ on := 0, ground := .data }], guard := none }) rfl (by kernel_rfl) (by kernel_rfl) (by kernel_rfl) (YieldsOn.value (by rfl) (by rfl) (by intro x; first | (go_simp; first | done | rfl) | (unfold execOp; simp only [Sem.run_bind]; go_simp; first | done | rfl))) (by exact fun _ _ _ h => h) ?_
      try simp only [Act.put, List.setIfInBounds_toArray, List.set_cons_zero, List.set_cons_succ]
      refine wpAnyM_take (i := 2) (oi := { dst := some 48, op := .move (.tmp 0), type := 9, pos := "ref.go:56", after := #[], guard := none }) rfl (by kernel_rfl) (by kernel_rfl) (by kernel_rfl) (YieldsOn.pure (by rfl) (by intro x; first | (go_simp; first | done | rfl) | (unfold execOp; simp only [Sem.run_bind]; go_simp; first | done | rfl))) (by exact fun _ _ _ h => h) ?_
      try simp only [Act.put, List.setIfInBounds_toArray, List.set_cons_zero, List.set_cons_succ]
      refine wpAnyM_take (i := 3) (oi := { dst := some 49, op := .move (.tmp 10), type := 32, pos := "ref.go:56", after := #[], guard := none }) rfl (by kernel_rfl) (by kernel_rfl) (by kernel_rfl) (YieldsOn.pure (by rfl) (by intro x; first | (go_simp; first | done | rfl) | (unfold execOp; simp only [Sem.run_bind]; go_simp; first | done | rfl))) (by exact fun _ _ _ h => h) ?_
      try simp only [Act.put, List.setIfInBounds_toArray, List.set_cons_zero, List.set_cons_succ]
      refine wpAnyM_take (i := 4) (oi := { dst := some 50, op := .convert 32 3 (.tmp 49), type := 3, pos := "ref.go:56", after := #[{ on := 3, ground := .data }], guard := none }) rfl (by kernel_rfl) (by kernel_rfl) (by kernel_rfl) (YieldsOn.value (by rfl) (by rfl) (by intro x; first | (go_simp; first | done | rfl) | (unfold execOp; simp only [Sem.run_bind]; go_simp; first | done | rfl))) (by exact fun _ _ _ h => h) ?_
      try simp only [Act.put, List.setIfInBounds_toArray, List.set_cons_zero, List.set_cons_succ]
      refine wpAnyM_take (i := 5) (oi := { dst := some 51, op := .move (.tmp 10), type := 32, pos := "ref.go:56", after := #[], guard := none }) rfl (by kernel_rfl) (by kernel_rfl) (by kernel_rfl) (YieldsOn.pure (by rfl) (by intro x; first | (go_simp; first | done | rfl) | (unfold execOp; simp only [Sem.run_bind]; go_simp; first | done | rfl))) (by exact fun _ _ _ h => h) ?_
      try simp only [Act.put, List.setIfInBounds_toArray, List.set_cons_zero, List.set_cons_succ]
      refine wpAnyM_take (i := 6) (oi := { dst := some 52, op := .convert 32 3 (.tmp 51), type := 3, pos := "ref.go:56", after := #[{ on := 5, ground := .data }], guard := none }) rfl (by kernel_rfl) (by kernel_rfl) (by kernel_rfl) (YieldsOn.value (by rfl) (by rfl) (by intro x; first | (go_simp; first | done | rfl) | (unfold execOp; simp only [Sem.run_bind]; go_simp; first | done | rfl))) (by exact fun _ _ _ h => h) ?_
      try simp only [Act.put, List.setIfInBounds_toArray, List.set_cons_zero, List.set_cons_succ]
      refine wpAnyM_take (i := 7) (oi := { dst := some 53, op := .move (.tmp 11), type := 3, pos := "ref.go:56", after := #[], guard := none }) rfl (by kernel_rfl) (by kernel_rfl) (by kernel_rfl) (YieldsOn.pure (by rfl) (by intro x; first | (go_simp; first | done | rfl) | (unfold execOp; simp only [Sem.run_bind]; go_simp; first | done | rfl))) (by exact fun _ _ _ h => h) ?_
      try simp only [Act.put, List.setIfInBounds_toArray, List.set_cons_zero, List.set_cons_succ]
      refine wpAnyM_take (i := 8) (oi := { dst := some 54, op := .binOp BinOp.add 3 (.tmp 52) (.tmp 53) 3, type := 3, pos := "ref.go:56", after := #[{ on := 6, ground := .data }, { on := 7, ground := .data }], guard := none }) rfl (by kernel_rfl) (by kernel_rfl) (by kernel_rfl) (YieldsOn.value (by rfl) (by rfl) (by intro x; first | (go_simp; first | done | rfl) | (unfold execOp; simp only [Sem.run_bind]; go_simp; first | done | rfl))) (by exact fun _ _ _ h => h) ?_
      try simp only [Act.put, List.setIfInBounds_toArray, List.set_cons_zero, List.set_cons_succ]
      --@r7
      refine wpAnyM_take (i := 9) (oi := { dst := some 55, op := .slice 9 (.tmp 48) (some (.tmp 50)) (some (.tmp 54)) none, type := 9, pos := "ref.go:56", after := #[{ on := 2, ground := .data }, { on := 4, ground := .data }, { on := 8, ground := .data }], guard := none }) rfl (by kernel_rfl) (by kernel_rfl) (by kernel_rfl) (YieldsOn.value (by rfl) (by rfl) (by intro x; first | (go_simp; first | done | rfl) | (unfold execOp; simp only [Sem.run_bind]; go_simp; first | done | rfl))) (by exact fun _ _ _ h => h) ?_
      try simp only [Act.put, List.setIfInBounds_toArray, List.set_cons_zero, List.set_cons_succ]
      refine wpAnyM_take (i := 10) (oi := { dst := some 56, op := .call { callee := Callee.value (.func 14), args := #[.tmp 55], argTypes := #[9] }, type := 25, pos := "ref.go:56", after := #[{ on := 9, ground := .data }], guard := none }) rfl (by kernel_rfl) (by kernel_rfl) (by kernel_rfl) (YieldsOn.call (by rfl) (by rfl) (by intro x; go_simp; first | done | rfl | exact ⟨rfl, rfl⟩) (fun x => HLF.out x)) (by exact fun _ _ _ h => h) ?_
      try simp only [Act.put, List.setIfInBounds_toArray, List.set_cons_zero, List.set_cons_succ]
      --@r9
      refine wpAnyM_one (i := 11) (o := { dst := some 57, op := .buildSlice 22 1 #[(0, .tmp 56)], type := 22, pos := "ref.go:56", after := #[{ on := 10, ground := .data }], guard := none }) (by kernel_rfl) rfl (fun x1 hx1 K hK => ?_)
      refine step_one_dig rfl (.tmp 56) rfl E rfl HES.out ?_
      refine hK _ _ ((Only.refl [] x1).alloc _) ?_
      clear hK K
      try simp only [Act.put, List.setIfInBounds_toArray, List.set_cons_zero, List.set_cons_succ]
      --@r10
      refine wpAnyM_last (i := 12) (o := { dst := some 58, op := .call { callee := Callee.builtin Builtin.append, args := #[.tmp 47, .tmp 57], argTypes := #[22, 22] }, type := 22, pos := "ref.go:56", after := #[{ on := 1, ground := .data }, { on := 11, ground := .data }, { on := 10, ground := .chain }], guard := none }) (by kernel_rfl) rfl (by kernel_rfl) (fun x2 hx2 K hK => ?_)
      have hxx : Only [] wr x2 := ((Only.refl [] wr).drew).then (hx1.then (((Only.refl [] x1).alloc (.cells E 25)).then hx2))
      have hBx : q + 2 ≤ x2.heap.size := by have h1 := hxx.size; have h2 := HM.out.lt; omega
      obtain ⟨u', x3, hrun, hod3, hg3⟩ := app_dig2 (ty := 22) (HOD.out.only hxx (by simp)) HEL.out HUL.out hBx HEV.out (hx2.heap (heap_alloc_new x1 (.cells E 25)) (by simp))
      have hnr : ∀ j, j < q + 2 → j ∉ (Value.slice ua k uc).ownBlock.toList := fun j hj hm => by have := (HOD.out.lt (c := j) (by simpa using hm)).1; omega
      have HM3 := Lib.hid ((HM.out.only hxx (by simp)).only (Only.of_grown hg3) (hnr (q + 1) (by omega)))
      have HZ3 := Lib.hid ((HZ.out.only hxx (by simp)).only (Only.of_grown hg3) (hnr q (by omega)))
      have HO3 : Hid (Only [] w x3) := Lib.hid ((HO.out.then hxx).trans (Only.of_grown hg3) (by simp) (fun i hi => .inr (by have := HQ.out; rcases Nat.lt_or_ge i (q + 2) with h | h; exact absurd hi (hnr i h); omega)))
      rw [← HNX.out] at hod3
      have HOD3 := Lib.hid hod3; have HRUN := Lib.hid hrun
      clear hod3 hrun hg3 hnr hBx hxx
      obtain ⟨va, vc, hva, -, -⟩ := HOD3.out.slice
      rw [leavesD_length] at hva
      subst hva
      refine step_append_run rfl (.tmp 47) (.tmp 57) 22 rfl rfl rfl HRUN.out ?_
      refine hK _ _ ?_
      clear hK K
      try simp only [Act.put, List.setIfInBounds_toArray, List.set_cons_zero, List.set_cons_succ]
      --@r11
      refine wpAnyM_take (i := 13) (oi := { dst := some 59, op := .fieldAddr 39 (.tmp 8) 2, type := 0, pos := "ref.go:56", after := #[{ on := 0, ground := .phase }, { on := 1, ground := .phase }, { on := 2, ground := .phase }, { on := 3, ground := .phase }, { on := 4, ground := .phase }, { on := 5, ground := .phase }, { on := 6, ground := .phase }, { on := 7, ground := .phase }, { on := 8, ground := .phase }, { on := 9, ground := .phase }, { on := 10, ground := .phase }, { on := 11, ground := .phase }, { on := 12, ground := .phase }], guard := none }) rfl (by kernel_rfl) (by kernel_rfl) (by kernel_rfl) (YieldsOn.pure (by rfl) (by intro x; first | (go_simp; first | done | rfl) | (unfold execOp; simp only [Sem.run_bind]; go_simp; first | done | rfl))) (by exact fun _ _ _ h => h) ?_
      try simp only [Act.put, List.setIfInBounds_toArray, List.set_cons_zero, List.set_cons_succ]
      refine wpAnyM_last (i := 14) (o := { dst := none, op := .store 22 (.tmp 59) (.tmp 58), type := 0, pos := "ref.go:56", after := #[{ on := 13, ground := .data }, { on := 12, ground := .data }, { on := 12, ground := .chain }, { on := 0, ground := .phase }, { on := 1, ground := .phase }, { on := 2, ground := .phase }, { on := 3, ground := .phase }, { on := 4, ground := .phase }, { on := 5, ground := .phase }, { on := 6, ground := .phase }, { on := 7, ground := .phase }, { on := 8, ground := .phase }, { on := 9, ground := .phase }, { on := 10, ground := .phase }, { on := 11, ground := .phase }, { on := 12, ground := .phase }], guard := none }) (by kernel_rfl) rfl (by kernel_rfl) (fun x4 hx4 K hK => ?_)
      obtain ⟨-, -, c2x, cfx⟩ := (HM3.out.only hx4 (by simp)).cells
      --@r12
      rw [if_pos (by rfl)]
      unfold Oper.wp execOp
      go_simp
      --@r12b
      refine hK _ _ ?_
      clear hK K
      try simp only [Act.put, List.setIfInBounds_toArray, List.set_cons_zero, List.set_cons_succ]
      refine wpAnyM_done (by kernel_rfl) (fun x5 hx5 => ?_) _
      --@r13
      have HM5 := Lib.hid (((HM3.out.only hx4 (by simp)).set (.slice va (k + 1) vc)).only hx5 (by simp))
      have HZ5 : Hid (M3 x5 q 39 0 0 (.slice none 0 0)) := Lib.hid (M3.only (S := [q + 1]) (HZ3.out.only hx4 (by simp)) (((Only.refl [q + 1] x4).setCell (.inl (by simp)) (.slice va (k + 1) vc)).then (hx5.mono (by simp))) (by simp))
      have HO5 : Hid (Only [] w x5) := Lib.hid (((HO3.out.then hx4).setCell (.inr (by have := HQ.out; show w.heap.size ≤ q + 1; omega)) (.slice va (k + 1) vc)).then hx5)
      have HOD5 := Lib.hid (OD.only (S := [q + 1]) (HOD3.out.only hx4 (by simp)) (((Only.refl [q + 1] x4).setCell (.inl (by simp)) (.slice va (k + 1) vc)).then (hx5.mono (by simp))) (fun c hc => by have := (HOD3.out.lt hc).1; simp; omega))
      clear HM3 HZ3 HO3 HOD3 c2x cfx hx4 hx5 HRUN
      go_wp2_with fail
      --@6
      go_roundw
      case rel => exact ⟨k + 1, _, by go_num, by omega, HM5.out, HZ5.out, HOD5.out, HO5.out⟩
      case measure => simp [intOf]; omega
    · have hkn : k = n := by omega
      subst hkn
      --@7
      obtain ⟨d0, d1, d2, df⟩ := HZ.out.cells
      go_wp2_with fail
      --@8
      have hres := HZ.out.set3 s p (.slice ua k uc)
      have hof : Only [] w (((wr.setCell ⟨q, 0, none⟩ (.int .u64 (s : Nat))).setCell ⟨q, 1, none⟩ (.int .u32 (p : Nat))).setCell ⟨q, 2, none⟩ (.slice ua k uc)) := ((HO.out.setCell (.inr (by have := HQ.out; show w.heap.size ≤ q; omega)) _).setCell (.inr (by have := HQ.out; show w.heap.size ≤ q; omega)) _).setCell (.inr (by have := HQ.out; show w.heap.size ≤ q; omega)) _
      have hod9 : OD (((wr.setCell ⟨q, 0, none⟩ (.int .u64 (s : Nat))).setCell ⟨q, 1, none⟩ (.int .u32 (p : Nat))).setCell ⟨q, 2, none⟩ (.slice ua k uc)) (q + 2) (.slice ua k uc) (leavesD b p k) := OD.only (S := [q]) HOD.out ((((Only.refl [q] wr).setCell (.inl (by simp)) _).setCell (.inl (by simp)) _).setCell (.inl (by simp)) _) (fun c hc => by have := (HOD.out.lt hc).1; simp; omega)
      refine bodyPost_ret (v := .tuple #[.agg #[.int .u64 (s : Nat), .int .u32 (p : Nat), .slice ua k uc], .int .i64 0]) (results_row_tmp (p := 4) (q := 5) rfl _ _ q 39 _ (0, 0) _ rfl hres Tryd.underlying39 rfl (by kernel_rfl)) rfl ⟨_, rfl, ?_, hof⟩
      refine ⟨⟨hod9.1.1, ?_⟩, hod9.2⟩
      rcases hod9.1.2 with hn | ⟨g, cap', cur, h1, h2, rest⟩
      · exact .inl hn
      · exact .inr ⟨g, cap', cur, h1, by have := HQ.out; omega, rest⟩
end Go.Proofs.YtpgcfpfmicghnaaDoor.mrk
