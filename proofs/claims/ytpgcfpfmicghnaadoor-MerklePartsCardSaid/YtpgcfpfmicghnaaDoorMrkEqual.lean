/-
  THE WALK of slices.Equal of digests.
-/
import Derived.Test.YtpgcfpfmicghnaaDoorMrkEq
import Derived.Test.YtpgcfpfmicghnaaDoorMrkSame
set_option linter.unusedVariables false
set_option linter.unusedSimpArgs false
namespace Go.Proofs.YtpgcfpfmicghnaaDoor.mrk
open Go Go.RowKit Go.Lm Go.ChangeShapes Go.WideShapes Go.Proofs.YtpgcfpfmicghnaaDoor.sha

set_option maxRecDepth 100000 in
set_option maxHeartbeats 4000000 in
theorem sleq_c (w : World) (v u : Value) (xs bs : List (List UInt8)) (hv : DS w v xs) (hu : DS w u bs) (hn : xs.length ≤ 100000) (hm : bs.length ≤ 100000) : Calls Tryd.prog 39 #[v, u] w fun e w' => e = .returned (.bool (decide (xs = bs))) ∧ Only [] w w' := by
  have HV := Lib.hid hv; have HU := Lib.hid hu
  obtain ⟨a, cap, rfl, k1, k2, -, k3, -⟩ := hv
  obtain ⟨b, cbp, rfl, j1, j2, -, j3, -⟩ := hu
  have HA32 := Lib.hid k3; have HB32 := Lib.hid j3
  clear k1 k2 j1 j2 k3 j3
  obtain ⟨n, hn'⟩ : ∃ n, xs.length = n := ⟨_, rfl⟩
  obtain ⟨m, hm'⟩ : ∃ m, bs.length = m := ⟨_, rfl⟩
  rw [hn'] at hn HV ⊢
  rw [hm'] at hm HU ⊢
  have HN := Lib.hid hn'; have HM := Lib.hid hm'
  clear hn' hm'
  obtain ⟨R, hR⟩ : ∃ R, decide (xs = bs) = R := ⟨_, rfl⟩
  rw [hR]
  have HR := Lib.hid hR
  clear hR
  by_cases hnm : n = m
  · subst hnm
    go_enter Tryd.func39, Tryd.ntmps39
    go_wp2_with fail
    --@0
    go_loopw [13] (fun v wx => ∃ k : Nat, v = .int .i64 (k : Nat) ∧ k ≤ n ∧ xs.take k = bs.take k ∧ Only [] w wx) (fun v _ => n - (intOf v).toNat)
    case atStart => exact ⟨0, rfl, Nat.zero_le _, rfl, Only.refl [] w⟩
    case round =>
      obtain ⟨k, rfl, hk, he, ho⟩ := hrel
      have HE := Lib.hid he; have HO := Lib.hid ho
      clear he ho
      by_cases hlt : k < n
      · have hltI : (k : Int) < (n : Int) := by omega
        obtain ⟨ba, oa, rfl, hrx⟩ := DS.at (HV.out.only HO.out (by simp)) k (by rw [HN.out]; exact hlt)
        obtain ⟨bb, ob, rfl, hry⟩ := DS.at (HU.out.only HO.out (by simp)) k (by rw [HM.out]; exact hlt)
        have hkx : k < xs.length := by rw [HN.out]; exact hlt
        have hky : k < bs.length := by rw [HM.out]; exact hlt
        have hlx : xs[k].length = 32 := HA32.out _ (List.getElem_mem hkx)
        have hly : bs[k].length = 32 := HB32.out _ (List.getElem_mem hky)
        rw [Nat.mul_comm 32 k] at hrx hry
        obtain ⟨x, hx⟩ : ∃ x, xs[k] = x := ⟨_, rfl⟩
        obtain ⟨y, hy⟩ : ∃ y, bs[k] = y := ⟨_, rfl⟩
        rw [hx] at hrx hlx
        rw [hy] at hry hly
        have hneq := fun W => neq_dv x y hlx hly W
        have hgd := fun p q W => guard_dv .neq x y p q W
        unfold dv at hneq hgd
        have hXi : (Tryd.prog.info? 25).map (·.size) = some (x.map u8v).length := by rw [List.length_map, hlx]; kernel_rfl
        have hYi : (Tryd.prog.info? 25).map (·.size) = some (y.map u8v).length := by rw [List.length_map, hly]; kernel_rfl
        obtain ⟨X, hX⟩ : ∃ X, x.map u8v = X := ⟨_, rfl⟩
        obtain ⟨Y, hY⟩ : ∃ Y, y.map u8v = Y := ⟨_, rfl⟩
        rw [hX] at hrx hneq hgd hXi
        rw [hY] at hry hneq hgd hYi
        have HRX := Lib.hid (show wr.drew.rangeAt ba (oa + k * 32) X from hrx); have HRY := Lib.hid (show wr.drew.rangeAt bb (ob + k * 32) Y from hry); have HXI := Lib.hid hXi; have HYI := Lib.hid hYi
        have HXY := Lib.hid (⟨⟨hkx, hx⟩, ⟨hky, hy⟩⟩ : (∃ h : k < xs.length, xs[k] = x) ∧ (∃ h : k < bs.length, bs[k] = y))
        clear hrx hry hXi hYi hX hY hx hy hlx hly hkx hky
        go_upto_region 6 with fail
        --@1
        refine wp_region_any (by kernel_rfl) ?_
        change wpAny _ _ _ _ _ _ _ (World.drew _)
        refine wpAny_take (i := 0) (oi := { dst := some 16, op := .move (.tmp 0), type := 22, pos := "slices.go:25", after := #[], guard := none }) (v := .slice (some ⟨ba, oa, none⟩) n cap) rfl (by kernel_rfl) (by kernel_rfl) (by kernel_rfl) (fun _ _ _ h => h) (Or.inl ⟨by rfl, by (intro w; go_simp; first | done | with_reducible rfl)⟩) ?_
        try simp only [Act.put, List.setIfInBounds_toArray, List.set_cons_zero, List.set_cons_succ]
        refine wpAny_take (i := 1) (oi := { dst := some 17, op := .move (.tmp 5), type := 3, pos := "slices.go:25", after := #[], guard := none }) (v := .int .i64 (k : Nat)) rfl (by kernel_rfl) (by kernel_rfl) (by kernel_rfl) (fun _ _ _ h => h) (Or.inl ⟨by rfl, by (intro w; go_simp; first | done | with_reducible rfl)⟩) ?_
        try simp only [Act.put, List.setIfInBounds_toArray, List.set_cons_zero, List.set_cons_succ]
        refine wpAny_take (i := 2) (oi := { dst := some 18, op := .indexAddr 22 (.tmp 16) (.tmp 17), type := 0, pos := "slices.go:25", after := #[{ on := 0, ground := .data }, { on := 1, ground := .data }], guard := none }) (v := .pointer (some ⟨ba, oa + k * 32, none⟩)) rfl (by kernel_rfl) (by kernel_rfl) (by kernel_rfl) (fun _ _ _ h => h) (Or.inl ⟨by rfl, by (intro w; go_simp; first | done | with_reducible rfl)⟩) ?_
        try simp only [Act.put, List.setIfInBounds_toArray, List.set_cons_zero, List.set_cons_succ]
        refine wpAny_take (i := 4) (oi := { dst := some 20, op := .move (.tmp 1), type := 22, pos := "slices.go:25", after := #[], guard := none }) (v := .slice (some ⟨bb, ob, none⟩) n cbp) rfl (by kernel_rfl) (by kernel_rfl) (by kernel_rfl) (fun _ _ _ h => h) (Or.inl ⟨by rfl, by (intro w; go_simp; first | done | with_reducible rfl)⟩) ?_
        try simp only [Act.put, List.setIfInBounds_toArray, List.set_cons_zero, List.set_cons_succ]
        refine wpAny_take (i := 5) (oi := { dst := some 21, op := .move (.tmp 5), type := 3, pos := "slices.go:25", after := #[], guard := none }) (v := .int .i64 (k : Nat)) rfl (by kernel_rfl) (by kernel_rfl) (by kernel_rfl) (fun _ _ _ h => h) (Or.inl ⟨by rfl, by (intro w; go_simp; first | done | with_reducible rfl)⟩) ?_
        try simp only [Act.put, List.setIfInBounds_toArray, List.set_cons_zero, List.set_cons_succ]
        refine wpAny_take (i := 6) (oi := { dst := some 22, op := .indexAddr 22 (.tmp 20) (.tmp 21), type := 0, pos := "slices.go:25", after := #[{ on := 4, ground := .data }, { on := 5, ground := .data }], guard := none }) (v := .pointer (some ⟨bb, ob + k * 32, none⟩)) rfl (by kernel_rfl) (by kernel_rfl) (by kernel_rfl) (fun _ _ _ h => h) (Or.inl ⟨by rfl, by (intro w; go_simp; first | done | with_reducible rfl)⟩) ?_
        try simp only [Act.put, List.setIfInBounds_toArray, List.set_cons_zero, List.set_cons_succ]
        refine wpAny_ready (rs := [3, 7]) (by kernel_rfl) (by simp) ?_
        refine AllReady.cons (o := { dst := some 19, op := .load 25 (.tmp 18), type := 25, pos := "slices.go:25", after := #[{ on := 2, ground := .data }], guard := none }) rfl (fun K hK => ?_) ?_
        rotate_left
        refine AllReady.cons (o := { dst := some 23, op := .load 25 (.tmp 22), type := 25, pos := "slices.go:25", after := #[{ on := 6, ground := .data }], guard := none }) rfl (fun K hK => ?_) ?_
        rotate_left
        exact AllReady.nil
        focus
          refine step_load_mid rfl 25 (.tmp 18) rfl ba (oa + k * 32) (by rfl) _ _ HRX.out Tryd.underlying25 rfl HXI.out ?_
          refine hK _ _ ?_
          clear hK K
          try simp only [Act.put, List.setIfInBounds_toArray, List.set_cons_zero, List.set_cons_succ]
          refine wpAny_ready (rs := [7]) (by kernel_rfl) (by simp) ?_
          refine AllReady.cons (o := { dst := some 23, op := .load 25 (.tmp 22), type := 25, pos := "slices.go:25", after := #[{ on := 6, ground := .data }], guard := none }) rfl (fun K hK => ?_) AllReady.nil
          refine step_load_mid rfl 25 (.tmp 22) rfl bb (ob + k * 32) (by rfl) _ _ HRY.out Tryd.underlying25 rfl HYI.out ?_
          refine hK _ _ ?_
          clear hK K
          try simp only [Act.put, List.setIfInBounds_toArray, List.set_cons_zero, List.set_cons_succ]
        rotate_left
        focus
          refine step_load_mid rfl 25 (.tmp 22) rfl bb (ob + k * 32) (by rfl) _ _ HRY.out Tryd.underlying25 rfl HYI.out ?_
          refine hK _ _ ?_
          clear hK K
          try simp only [Act.put, List.setIfInBounds_toArray, List.set_cons_zero, List.set_cons_succ]
          refine wpAny_ready (rs := [3]) (by kernel_rfl) (by simp) ?_
          refine AllReady.cons (o := { dst := some 19, op := .load 25 (.tmp 18), type := 25, pos := "slices.go:25", after := #[{ on := 2, ground := .data }], guard := none }) rfl (fun K hK => ?_) AllReady.nil
          refine step_load_mid rfl 25 (.tmp 18) rfl ba (oa + k * 32) (by rfl) _ _ HRX.out Tryd.underlying25 rfl HXI.out ?_
          refine hK _ _ ?_
          clear hK K
          try simp only [Act.put, List.setIfInBounds_toArray, List.set_cons_zero, List.set_cons_succ]
        all_goals
          refine wpAny_ready (rs := [8]) (by kernel_rfl) (by simp) ?_
          refine AllReady.cons (o := { dst := some 24, op := .binOp .neq 25 (.tmp 19) (.tmp 23) 25, type := 4, pos := "slices.go:25", after := #[{ on := 3, ground := .data }, { on := 7, ground := .data }], guard := none }) rfl (fun K hK => ?_) AllReady.nil
          --@5
          rw [if_pos (by rfl)]
          unfold Oper.wp execOp
          simp only [Sem.run_bind]
          --@6
          go_simp
          refine hK _ _ ?_
          clear hK K
          try simp only [Act.put, List.setIfInBounds_toArray, List.set_cons_zero, List.set_cons_succ]
          refine wpAny_done (by kernel_rfl) ?_ _
        all_goals
          by_cases hxy : x = y
          · subst hxy
            simp only [beq_self_eq_true, Bool.not_true]
            go_wp2
            go_roundw
            case rel =>
              refine ⟨k + 1, by go_num, by omega, ?_, HO.out.drew⟩
              obtain ⟨⟨h1, e1⟩, h2, e2⟩ := HXY.out
              rw [List.take_succ_eq_append_getElem h1, List.take_succ_eq_append_getElem h2, HE.out, e1, e2]
            case measure => simp [intOf]; omega
          · have hb : (x == y) = false := beq_eq_false_iff_ne.2 hxy
            have hr : R = false := by
              rw [← HR.out]
              obtain ⟨⟨h1, e1⟩, h2, e2⟩ := HXY.out
              exact decide_eq_false fun e => hxy (by subst e; rw [← e1, ← e2])
            simp only [hb, Bool.not_false]
            go_wp2
            --@7
            go_ret
            exact ⟨by first | rfl | (rw [hr]; rfl), HO.out.drew⟩
      · have hltI : ¬ (k : Int) < (n : Int) := by omega
        have hr : R = true := by
          have h := HE.out
          rw [List.take_of_length_le (by rw [HN.out]; omega), List.take_of_length_le (by rw [HM.out]; omega)] at h
          rw [← HR.out, decide_eq_true h]
        go_wp2_with fail
        --@2
        go_ret
        exact ⟨rfl, HO.out⟩
  · have hnI : ((n : Int) != (m : Int)) = true := by rw [bne_iff_ne]; omega
    have hnI2 : ¬ (n : Int) = (m : Int) := by omega
    have hr : R = false := by
      rw [← HR.out]
      exact decide_eq_false fun e => hnm (by rw [← HN.out, ← HM.out, e])
    go_enter Tryd.func39, Tryd.ntmps39
    go_wp2_with fail
    --@3
    go_ret
    exact ⟨by first | rfl | (rw [hr]; rfl), Only.refl [] w⟩
end Go.Proofs.YtpgcfpfmicghnaaDoor.mrk
