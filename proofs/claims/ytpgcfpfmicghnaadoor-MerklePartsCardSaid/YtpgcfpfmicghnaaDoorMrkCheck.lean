/-
  THE WALK of lighterman/merkle.Check.
-/
import Derived.Test.YtpgcfpfmicghnaaDoorMrkId
import Derived.Test.YtpgcfpfmicghnaaDoorMrkRCnt
import Derived.Test.YtpgcfpfmicghnaaDoorMrkEq
import Derived.Test.YtpgcfpfmicghnaaDoorGenM
set_option linter.unusedVariables false
set_option linter.unusedSimpArgs false
namespace Go.Proofs.YtpgcfpfmicghnaaDoor.mrk
open Go Go.RowKit Go.Lm Go.ChangeShapes Go.WideShapes Go.Proofs.YtpgcfpfmicghnaaDoor.sha Go.Proofs.YtpgcfpfmicghnaaDoor.cur

def idD (s p : Nat) (ds : List (List UInt8)) : List UInt8 := Sha.sum (idB s p ds)
/-- What Check tells. -/
def chk (s p : Nat) (ds : List (List UInt8)) (d : List UInt8) : Nat :=
  if (cnt s (p : Nat)).2 ≠ 0 then (cnt s (p : Nat)).2 else if (cnt s (p : Nat)).1 ≠ ds.length then 11 else if idD s p ds ≠ d then 33 else 0
theorem Mrk_wrap (x : Int) (h0 : 0 ≤ x) (h1 : x < 4611686018427387904) : wrap64 x = x := wrap64_of x h0 h1

set_option maxRecDepth 100000 in
set_option maxHeartbeats 4000000 in
theorem check_c (w : World) (s p : Nat) (v : Value) (ds : List (List UInt8)) (d : List UInt8) (hv : DS w v ds) (hd : d.length = 32) (hs : s < 18446744073709551616) (hp : p < 4294967296) (hn : ds.length ≤ 100000) (hT : Tab w) (hZ : Tz w) : Calls Tryd.prog 22 #[.agg #[.int .u64 (s : Nat), .int .u32 (p : Nat), v], dv d] w fun e w' => e = .returned (.int .i64 (chk s p ds d : Nat)) ∧ Only [] w w' := by
  have HV := Lib.hid hv; have HS := Lib.hid hs; have HP := Lib.hid hp; have HN := Lib.hid hn ; have HT := Lib.hid hT; have HTZ := Lib.hid hZ
  obtain ⟨D, hdv, hcs, hci, hc1⟩ := store_facts d hd
  have HDL := Lib.hid hd
  have HI32 : Hid ((idD s p ds).length = 32) := Lib.hid (Sha.sum_length _)
  clear hs hp hn hT hZ hd
  obtain ⟨a, cap, rfl, k1, k2, -⟩ := hv
  unfold maxLen at k2
  rw [hdv]
  have HDV := Lib.hid hdv; have HDS := Lib.hid hcs; have HDI := Lib.hid hci
  clear hdv hcs hci hc1
  obtain ⟨n, hn⟩ : ∃ n, ds.length = n := ⟨_, rfl⟩
  rw [hn] at k1 HV ⊢
  have HNL := Lib.hid hn
  clear hn
  obtain ⟨C, hC⟩ : ∃ C, chk s p ds d = C := ⟨_, rfl⟩
  rw [hC]
  have HC := Lib.hid hC
  clear hC
  go_enter Tryd.func22, Tryd.ntmps22
  have hwp : IntKind.i64.wrap (p : Int) = (p : Int) := by rw [IntKind.wrap_i64]; have := HP.out; omega
  go_upto_region 1 with fail
  generalize hg : World.alloc _ _ = w1
  have h2 := two w (.cells #[.int .u64 (s : Nat), .int .u32 (p : Nat), .slice a n cap] 35 (0, 0)) (.cells D 25 (0, 0))
  have he : w1 = (w.alloc (.cells #[.int .u64 (s : Nat), .int .u32 (p : Nat), .slice a n cap] 35 (0, 0))).alloc (.cells D 25 (0, 0)) := hg.symm.trans rfl
  rw [← he] at h2
  have HM1 := Lib.hid h2.1; have HD1 := Lib.hid h2.2
  have HO1 : Hid (Only [] w w1) := Lib.hid (by rw [he]; exact ((Only.refl [] w).alloc _).alloc _)
  obtain ⟨q, hq⟩ : ∃ q, w.heap.size = q := ⟨_, rfl⟩
  rw [hq] at HM1 HD1 ⊢
  have c0 : w1.cell? ⟨q, 0, none⟩ = some (.int .u64 (s : Nat)) := by simp [World.cell?, HM1.out]
  have c1 : w1.cell? ⟨q, 1, none⟩ = some (.int .u32 (p : Nat)) := by simp [World.cell?, HM1.out]
  have c2 : w1.cell? ⟨q, 2, none⟩ = some (.slice a n cap) := by simp [World.cell?, HM1.out]
  clear hg h2 he hq
  --@1
  go_wp2_with fail
  --@2
  refine (count_c w1 s (p : Nat) HS.out).mono ?_
  rintro e w1' ⟨rfl, rfl⟩
  obtain ⟨N, hN⟩ : ∃ N, (cnt s (p : Nat)).1 = N := ⟨_, rfl⟩
  obtain ⟨E, hE⟩ : ∃ E, (cnt s (p : Nat)).2 = E := ⟨_, rfl⟩
  rw [hN, hE]
  have hC := HC.out
  unfold chk at hC
  rw [hN, hE, HNL.out] at hC
  clear hN hE
  by_cases he : E = 0
  · subst he
    rw [if_neg (by simp)] at hC
    by_cases hnn : N = n
    · subst hnn
      rw [if_neg (by simp)] at hC
      have hIL := HI32.out
      have hneq := fun W => neq_dv (idD s p ds) d HI32.out HDL.out W
      have hgd := fun x y W => guard_dv .neq (idD s p ds) d x y W
      obtain ⟨I, hI⟩ : ∃ I, (((idD s p ds).map u8v).toArray) = I := ⟨_, rfl⟩
      have hdI : dv (idD s p ds) = .agg I := by unfold dv; rw [hI]
      rw [hdI, HDV.out] at hneq hgd
      have HIC : Hid (∀ x : Later [] w1.drew, Calls Tryd.prog 20 #[.agg #[.int .u64 (s : Nat), .int .u32 (p : Nat), .slice a N cap]] x.at' fun e w' => e = .returned (.agg I) ∧ Only [] x.at' w') := Lib.hid (fun x => by
        have ho := (HO1.out.drew).then x.only
        have h := id_c x.at' s p _ ds (HV.out.only ho (by simp)) HS.out HP.out HN.out (HT.out.only ho (by simp)) (HTZ.out.only ho (by simp))
        rw [show Sha.sum (idB s p ds) = idD s p ds from rfl, hdI] at h
        exact h)
      clear hI hdI hIL
      go_upto_region 6 with fail
      --@3
      refine wp_region_M [] (by kernel_rfl) ?_
      change wpAnyM _ _ _ _ _ _ _ _ (World.drew _)
      refine wpAnyM_take (i := 0) (oi := { dst := some 27, op := .load 35 (.tmp 2), type := 35, pos := "merkle.go:97", after := #[], guard := none }) rfl (by kernel_rfl) (by kernel_rfl) (by kernel_rfl) (YieldsOn.row (by rfl) 35 (.tmp 2) rfl q (by rfl) _ _ _ _ HM1.out (by simp) Tryd.underlying35 rfl (by kernel_rfl)) (by exact fun _ _ _ h => h) ?_
      try simp only [Act.put, List.setIfInBounds_toArray, List.set_cons_zero, List.set_cons_succ]
      refine wpAnyM_take (i := 1) (oi := { dst := some 28, op := .call { callee := Callee.value (.func 20), args := #[.tmp 27], argTypes := #[35] }, type := 25, pos := "merkle.go:97", after := #[{ on := 0, ground := .data }], guard := none }) rfl (by kernel_rfl) (by kernel_rfl) (by kernel_rfl) (YieldsOn.call (by rfl) (by rfl) (by intro x; go_simp; first | done | rfl | exact ⟨rfl, rfl⟩) (fun x => HIC.out x)) (by exact fun _ _ _ h => h) ?_
      try simp only [Act.put, List.setIfInBounds_toArray, List.set_cons_zero, List.set_cons_succ]
      refine wpAnyM_take (i := 2) (oi := { dst := some 29, op := .load 25 (.tmp 3), type := 25, pos := "merkle.go:97", after := #[], guard := none }) rfl (by kernel_rfl) (by kernel_rfl) (by kernel_rfl) (YieldsOn.row (by rfl) 25 (.tmp 3) rfl (q + 1) (by rfl) _ _ _ _ HD1.out (by simp) Tryd.underlying25 rfl HDI.out) (by exact fun _ _ _ h => h) ?_
      try simp only [Act.put, List.setIfInBounds_toArray, List.set_cons_zero, List.set_cons_succ]
      refine wpAnyM_take (i := 3) (oi := { dst := some 30, op := .binOp BinOp.neq 25 (.tmp 28) (.tmp 29) 25, type := 4, pos := "merkle.go:97", after := #[{ on := 1, ground := .data }, { on := 2, ground := .data }], guard := none }) rfl (by kernel_rfl) (by kernel_rfl) (by kernel_rfl) (YieldsOn.value (by rfl) (by rfl) (by intro x; first | (go_simp; first | done | rfl) | (unfold execOp; simp only [Sem.run_bind]; go_simp; first | done | rfl))) (by exact fun _ _ _ h => h) ?_
      try simp only [Act.put, List.setIfInBounds_toArray, List.set_cons_zero, List.set_cons_succ]
      refine wpAnyM_take (i := 4) (oi := { dst := some 26, op := .assign (.tmp 30), type := 4, pos := "merkle.go:97", after := #[{ on := 3, ground := .data }, { on := 1, ground := .chain }], guard := none }) rfl (by kernel_rfl) (by kernel_rfl) (by kernel_rfl) (YieldsOn.pure (by rfl) (by intro x; first | (go_simp; first | done | rfl) | (unfold execOp; simp only [Sem.run_bind]; go_simp; first | done | rfl))) (by exact fun _ _ _ h => h) ?_
      try simp only [Act.put, List.setIfInBounds_toArray, List.set_cons_zero, List.set_cons_succ]
      refine wpAnyM_done (by kernel_rfl) (fun w2 hw2 => ?_) _
      by_cases hid : idD s p ds = d
      · rw [if_neg (by simp [hid])] at hC
        have hb : (idD s p ds == d) = true := by rw [hid]; exact beq_self_eq_true d
        rw [hb]
        simp only [Bool.not_true]
        subst hC
        go_wp2_with fail
        go_ret
        exact ⟨rfl, HO1.out.drew.then hw2⟩
      · rw [if_pos hid] at hC
        have hb : (idD s p ds == d) = false := beq_eq_false_iff_ne.2 hid
        rw [hb]
        simp only [Bool.not_false]
        subst hC
        go_wp2_with fail
        go_ret
        exact ⟨rfl, HO1.out.drew.then hw2⟩
    · rw [if_pos hnn] at hC
      have hnI : ¬ ((N : Int) = (n : Int)) := by omega
      subst hC
      go_wp2_with fail
      go_ret
      exact ⟨rfl, HO1.out⟩
  · rw [if_pos he] at hC
    have heI : ¬ ((E : Int) = 0) := by omega
    subst hC
    go_wp2_with fail
    go_ret
    exact ⟨rfl, HO1.out⟩
end Go.Proofs.YtpgcfpfmicghnaaDoor.mrk
