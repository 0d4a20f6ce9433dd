/-
  THE WALKS of Whole, when some lack; the laws' awake.
-/
import Derived.Test.YtidkadlmnidmoaaArqAdd
import Derived.Test.YtidkadlmnidmoaaArqCame
set_option linter.unusedVariables false
set_option linter.unusedSimpArgs false
namespace Go.Proofs.Ytidkadlmnidmoaa.arq
open Go Go.RowKit Go.Lm

theorem whole_no (w : World) (p rl rh : Nat) (tot each : Int) (us : List Value) (hs : List Bool) (h : PC w p rl rh tot each us hs) (hf : false ∈ hs) : Calls Try.prog 12 #[.pointer (some ⟨p, 0, none⟩)] w fun e w' => e = .returned (.tuple #[.slice none 0 0, .bool false]) ∧ Only [] w w' := by
  obtain ⟨c0, c1, c2, c3⟩ := h.cells
  have HV := Lib.hid h.bvs
  have hsm := h.small
  have HF := Lib.hid (decide_eq_true hf)
  clear h c0 c1 c2 hf
  go_enter Try.func12, Try.ntmps12
  go_wp2_with fail
  refine (contains_c w _ hs false HV.out hsm).mono ?_
  rintro e w1 ⟨rfl, ho⟩
  have HO := Lib.hid ho
  rw [HF.out]
  clear ho
  go_wp2
  go_ret2
  exact ⟨rfl, HO.out⟩

theorem clock0 : Arq.came0 (Arq.newClock 9 2 100) 20 = ⟨2, 100, 60, 20, 10, true⟩ := rfl

set_option maxRecDepth 100000 in
set_option maxHeartbeats 4000000 in
theorem awake_c (w : World) : Calls Try.prog 9 #[] w fun e w' => e = .returned (.bool true) ∧ Only [] w w' := by
  go_enter Try.func9, Try.ntmps9
  go_wp2_with fail
  refine (newclock_c w 9 2 100).mono ?_
  rintro e w1 ⟨rfl, ho1⟩
  have HO1 := Lib.hid ho1
  clear ho1
  --@1
  go_wp2_with fail
  refine (came0_c w1 (Arq.newClock 9 2 100) 20 (by decide) rfl).mono ?_
  rintro e w2 ⟨rfl, ho2⟩
  rw [clock0]
  have HO2 := Lib.hid (HO1.out.then ho2)
  clear ho2
  rw [show clkV ⟨2, 100, 60, 20, 10, true⟩ = .agg #[.int .u64 2, .int .u64 100, .int .u64 60, .int .u64 20, .int .u64 10, .bool true] from rfl]
  --@2
  go_wp2_with fail
  have hC : CB (w2.alloc (.cells #[.int .u64 2, .int .u64 100, .int .u64 60, .int .u64 20, .int .u64 10, .bool true] 43 (0, 0))) w2.heap.size 43 ⟨2, 100, 60, 20, 10, true⟩ := CB.new w2 _ ⟨2, 100, 60, 20, 10, true⟩
  have HO3 : Hid (Only [] w (w2.alloc (.cells #[.int .u64 2, .int .u64 100, .int .u64 60, .int .u64 20, .int .u64 10, .bool true] 43 (0, 0)))) := Lib.hid (HO2.out.alloc _)
  generalize World.alloc w2 _ = w3 at *
  generalize w2.heap.size = C at *
  have HC3 := Lib.hid hC
  clear hC HO1 HO2
  refine (newpieces_c w3 5 2 3 (by decide) (by decide) (by decide) (by decide) (by decide)).mono ?_
  rintro e w4 ⟨p, rl, rh, rfl, hp4, hp1, hp2, hp3, ho4⟩
  have HO4 := Lib.hid (HO3.out.then ho4)
  have HC4 := Lib.hid (HC3.out.only ho4 (by simp))
  have HP4 := Lib.hid hp4
  have hCl : C < w3.heap.size := lt_of_block HC3.out
  have HD : Hid (w.heap.size ≤ rl ∧ w.heap.size ≤ rh ∧ C ≠ rl ∧ C ≠ rh) := Lib.hid ⟨by have := HO3.out.size; omega, by have := HO3.out.size; omega, by omega, by omega⟩
  clear ho4 hp4 hp1 hp2 hp3 HO3 HC3 hCl
  --@3
  go_wp2_with fail
  have hv5 : BS (w4.alloc (.cells #[.int .u8 9] 5 (0, 0))) (.slice (some ⟨w4.heap.size, 0, none⟩) 1 1) [9] := BS.lit w4 #[.int .u8 9] 5 (0, 0) 1 [9] rfl rfl (by simp [maxLen])
  have HO5 : Hid (Only [] w (w4.alloc (.cells #[.int .u8 9] 5 (0, 0)))) := Lib.hid (HO4.out.alloc _)
  have HC5 := Lib.hid (HC4.out.only ((Only.refl [] w4).alloc (.cells #[.int .u8 9] 5 (0, 0))) (by simp))
  have HP5 := Lib.hid (HP4.out.only ((Only.refl [] w4).alloc (.cells #[.int .u8 9] 5 (0, 0))) (by simp) (by simp) (by simp))
  generalize World.alloc w4 _ = w5 at *
  generalize w4.heap.size = q4 at *
  refine (add_new w5 p rl rh 5 2 _ _ HP5.out (by decide) (by decide) (by decide) (by decide) 2 (by decide) _ [9] hv5 (by decide) (by decide)).mono ?_
  rintro e w6 ⟨rfl, u6, w5', hov6, ho6, hp6, ho6'⟩
  have HO6 : Hid (Only [] w w6) := Lib.hid ((HO5.out.then ho6).trans ho6' (by simp) (by have := HD.out; simp; omega))
  have HC6 := Lib.hid ((HC5.out.only ho6 (by simp)).only ho6' (by have := HD.out; simp; omega))
  have hp6 : PC w6 p rl rh 5 2 [.slice none 0 0, .slice none 0 0, u6] [false, false, true] := hp6
  have HP6 := Lib.hid hp6
  clear hov6 ho6 hp6 ho6' hv5 HO5 HC5 HP5 HO4 HC4 HP4
  --@4
  go_wp2_with fail
  have HO7 : Hid (Only [] w (w6.alloc (.cells #[.int .u8 8] 5 (0, 0)))) := Lib.hid (HO6.out.alloc _)
  have HC7 := Lib.hid (HC6.out.only ((Only.refl [] w6).alloc (.cells #[.int .u8 8] 5 (0, 0))) (by simp))
  have HP7 := Lib.hid (HP6.out.only ((Only.refl [] w6).alloc (.cells #[.int .u8 8] 5 (0, 0))) (by simp) (by simp) (by simp))
  generalize World.alloc w6 _ = w7 at *
  generalize w6.heap.size = q6 at *
  refine (add_again w7 p rl rh 5 2 _ _ HP7.out (by decide) (by decide) (by decide) (by decide) 2 (by decide) _ 1 1 (by decide) (by decide)).mono ?_
  rintro e w8 ⟨rfl, ho8⟩
  have HO8 := Lib.hid (HO7.out.then ho8)
  have HC8 := Lib.hid (HC7.out.only ho8 (by simp))
  have HP8 := Lib.hid (HP7.out.only ho8 (by simp) (by simp) (by simp))
  clear ho8 HO7 HC7 HP7 HO6 HC6 HP6
  --@5
  go_wp2_with fail
  have HO9 : Hid (Only [] w (w8.alloc (.cells #[.int .u8 9] 5 (0, 0)))) := Lib.hid (HO8.out.alloc _)
  have HC9 := Lib.hid (HC8.out.only ((Only.refl [] w8).alloc (.cells #[.int .u8 9] 5 (0, 0))) (by simp))
  have HP9 := Lib.hid (HP8.out.only ((Only.refl [] w8).alloc (.cells #[.int .u8 9] 5 (0, 0))) (by simp) (by simp) (by simp))
  generalize World.alloc w8 _ = w9 at *
  generalize w8.heap.size = q8 at *
  refine (add_form w9 p rl rh 5 2 _ _ HP9.out (by decide) (by decide) (by decide) (by decide) 0 (by decide) _ 1 1 (by decide)).mono ?_
  rintro e wa ⟨rfl, hoa⟩
  have HOA := Lib.hid (HO9.out.then hoa)
  have HCA := Lib.hid (HC9.out.only hoa (by simp))
  have HPA := Lib.hid (HP9.out.only hoa (by simp) (by simp) (by simp))
  clear hoa HO9 HC9 HP9 HO8 HC8 HP8
  --@6
  go_wp2_with fail
  refine (whole_no wa p rl rh 5 2 _ _ HPA.out (by decide)).mono ?_
  rintro e wb ⟨rfl, hob⟩
  have HOB := Lib.hid (HOA.out.then hob)
  have HCB := Lib.hid (HCA.out.only hob (by simp))
  have HPB := Lib.hid (HPA.out.only hob (by simp) (by simp) (by simp))
  clear hob HOA HCA HPA
  --@7
  go_wp2_with fail
  refine (have_c wb p rl rh 5 2 _ _ HPB.out).mono ?_
  rintro e wc ⟨v, rfl, hov, hoc⟩
  have HOC := Lib.hid (HOB.out.then hoc)
  have HCC := Lib.hid (HCB.out.only hoc (by simp))
  have HPC := Lib.hid (HPB.out.only hoc (by simp) (by simp) (by simp))
  have HV := Lib.hid hov.vs
  obtain ⟨av, nv, cv, rfl⟩ := OV.isSlice hov
  clear hov hoc HOB HCB HPB
  --@8
  go_wp2_with fail
  refine (asked_c wc _ [false, false, true] 1 HV.out (by decide)).mono ?_
  rintro e wd ⟨u, rfl, hou, hod⟩
  have HOD := Lib.hid (HOC.out.then hod)
  have HPD := Lib.hid (HPC.out.only hod (by simp) (by simp) (by simp))
  rw [show il (Arq.asked [false, false, true] 1 [false, false, true].length) = [.int .i64 0] from rfl] at hou
  obtain ⟨au, cu, rfl, k1, k2, -, k3⟩ := id hou.vs
  obtain ⟨bu, ou, rfl, d0⟩ := k3 0 (by decide)
  have d0 : wd.cell? ⟨bu, ou + 0, none⟩ = some (.int .i64 0) := d0
  rw [Nat.add_zero] at d0
  obtain ⟨e0, e1, e2, e3, e4, e5, -⟩ := (HCC.out.only hod (by simp)).cells
  have e2 : wd.cell? ⟨C, 2, none⟩ = some (.int .u64 60) := e2
  have e3 : wd.cell? ⟨C, 3, none⟩ = some (.int .u64 20) := e3
  have e4 : wd.cell? ⟨C, 4, none⟩ = some (.int .u64 10) := e4
  have e5 : wd.cell? ⟨C, 5, none⟩ = some (.bool true) := e5
  clear hou hod k3 HOC HCC HPC e0 e1
  simp only [List.length_cons, List.length_nil] at k1 ⊢
  unfold maxLen at k2
  --@9
  go_wp2_with fail
  refine (count_c wd p rl rh 5 2 _ _ HPD.out).mono ?_
  rintro e we ⟨rfl, rfl⟩
  --@10
  go_wp2
  --@11
  go_wp2
  go_ret
  exact ⟨rfl, HOD.out⟩
end Go.Proofs.Ytidkadlmnidmoaa.arq
