/-
  ArqRaw, walked.
-/
import Derived.Test.YtidkadlmnidmoaaArqRcame
import Derived.Test.YtidkadlmnidmoaaArqAwake
import Derived.Deep.Slices
import Derived.ChangeArms
set_option linter.unusedVariables false
set_option linter.unusedSimpArgs false
namespace Go.Lm.Arq
theorem within_lt (x l m : Nat) (hm : m < 18446744073709551616) : within x l m < 18446744073709551616 := by unfold within; omega
theorem late_ok (c : Clk) (h : Ok c) : Ok (late c) := by
  obtain ⟨h1, h2, h3, h4, h5⟩ := h
  exact ⟨h1, h2, within_lt _ _ _ h2, h4, h5⟩
theorem came_ok (c : Clk) (a : Nat) (h : Ok c) (ha : a < 18446744073709551616) : Ok (came c a) := by
  obtain ⟨h1, h2, h3, h4, h5⟩ := h
  exact ⟨h1, h2, within_lt _ _ _ h2, newMean_lt c a h4 ha, newOff_lt c a h5 h4 ha⟩
theorem new_ok (f l m : Nat) (hl : l < 18446744073709551616) (hm : m < 18446744073709551616) : Ok (newClock f l m) :=
  ⟨hl, hm, within_lt _ _ _ hm, by show (0 : Nat) < _; omega, by show (0 : Nat) < _; omega⟩
end Go.Lm.Arq
namespace Go.Proofs.Ytidkadlmnidmoaa.arq
open Go Go.RowKit Go.Lm

section
open Go.ChangeShapes Go.WideShapes
variable {H : Type} {enc : TypeId × Value → H}
theorem struct6 {P : Program} {w : World} {base : Nat} {spare : Nat → Bool} {held : Bool} {t : TypeId} {f0 f1 f2 f3 f4 f5 : Field} {fuel : Nat} {cs : List Value} {x : DataW H × List MemPlace} (ht : P.underlying t = some (.struct #[f0, f1, f2, f3, f4, f5])) (h : DataW.trod enc P w base spare held fuel t cs = some x) :
    ∃ y0 y1 y2 y3 y4 y5 n, DataW.trod enc P w base spare held n f0.type ((cs.drop f0.offset).take (P.cellsOf f0.type)) = some y0 ∧
      DataW.trod enc P w base spare held n f1.type ((cs.drop f1.offset).take (P.cellsOf f1.type)) = some y1 ∧
      DataW.trod enc P w base spare held n f2.type ((cs.drop f2.offset).take (P.cellsOf f2.type)) = some y2 ∧
      DataW.trod enc P w base spare held n f3.type ((cs.drop f3.offset).take (P.cellsOf f3.type)) = some y3 ∧
      DataW.trod enc P w base spare held n f4.type ((cs.drop f4.offset).take (P.cellsOf f4.type)) = some y4 ∧
      DataW.trod enc P w base spare held n f5.type ((cs.drop f5.offset).take (P.cellsOf f5.type)) = some y5 := by
  obtain ⟨xs, n, _, rfl, hl, hlen, hf⟩ := DataW.trod_struct ht h
  match xs, hlen with
  | [y0, y1, y2, y3, y4, y5], _ => exact ⟨y0, y1, y2, y3, y4, y5, n, by simpa using hf 0 f0 rfl, by simpa using hf 1 f1 rfl, by simpa using hf 2 f2 rfl, by simpa using hf 3 f3 rfl, by simpa using hf 4 f4 rfl, by simpa using hf 5 f5 rfl⟩
theorem clk_opened {W : World} {v : Value} {d : DataW H} {ps : List MemPlace} {base : Nat} (hv : Value.okWide Try.prog W .any base 43 v)
    (h : DataW.Trod enc Try.prog W 0 (fun _ => true) true 43 v d ps) : ∃ m : Arq.Clk, v = clkV m ∧ Arq.Ok m := by
  have ce : Try.prog.cellsOf 43 = 6 := by kernel_rfl
  have k1 : Try.prog.cellsOf 40 = 1 := by kernel_rfl
  have k2 : Try.prog.cellsOf 4 = 1 := by kernel_rfl
  unfold Value.okWide at hv
  rw [Try.underlying43] at hv
  obtain ⟨cs, rfl, hs, _⟩ := hv
  rw [ce] at hs
  obtain ⟨fuel, hf⟩ := h
  obtain ⟨y0, y1, y2, y3, y4, y5, n, g0, g1, g2, g3, g4, g5⟩ := struct6 Try.underlying43 hf
  obtain ⟨l⟩ := cs
  match l, hs with
  | [v0, v1, v2, v3, v4, v5], _ =>
    simp [k1, k2, Value.cells] at g0 g1 g2 g3 g4 g5
    obtain ⟨z0, hz0, _, w0⟩ := DataW.trod_int Try.underlying40 g0
    obtain ⟨z1, hz1, _, w1⟩ := DataW.trod_int Try.underlying40 g1
    obtain ⟨z2, hz2, _, w2⟩ := DataW.trod_int Try.underlying40 g2
    obtain ⟨z3, hz3, _, w3⟩ := DataW.trod_int Try.underlying40 g3
    obtain ⟨z4, hz4, _, w4⟩ := DataW.trod_int Try.underlying40 g4
    obtain ⟨b5, hb5, _⟩ := DataW.trod_bool Try.underlying4 g5
    have h0 := wf_u64 w0
    have h1 := wf_u64 w1
    have h2 := wf_u64 w2
    have h3 := wf_u64 w3
    have h4 := wf_u64 w4
    obtain ⟨z0, rfl⟩ := Int.eq_ofNat_of_zero_le h0.1
    obtain ⟨z1, rfl⟩ := Int.eq_ofNat_of_zero_le h1.1
    obtain ⟨z2, rfl⟩ := Int.eq_ofNat_of_zero_le h2.1
    obtain ⟨z3, rfl⟩ := Int.eq_ofNat_of_zero_le h3.1
    obtain ⟨z4, rfl⟩ := Int.eq_ofNat_of_zero_le h4.1
    obtain rfl : v0 = .int .u64 (z0 : Int) := by simpa using hz0
    obtain rfl : v1 = .int .u64 (z1 : Int) := by simpa using hz1
    obtain rfl : v2 = .int .u64 (z2 : Int) := by simpa using hz2
    obtain rfl : v3 = .int .u64 (z3 : Int) := by simpa using hz3
    obtain rfl : v4 = .int .u64 (z4 : Int) := by simpa using hz4
    obtain rfl : v5 = .bool b5 := by simpa using hb5
    exact ⟨⟨z0, z1, z2, z3, z4, b5⟩, rfl, ⟨by show z0 < 18446744073709551616; omega, by show z1 < 18446744073709551616; omega, by show z2 < 18446744073709551616; omega, by show z3 < 18446744073709551616; omega, by show z4 < 18446744073709551616; omega⟩⟩
end

set_option maxRecDepth 100000 in
set_option maxHeartbeats 4000000 in
theorem raw_c (w : World) (c : Arq.Clk) (hok : Arq.Ok c) (a : Nat) (ha : a < 18446744073709551616) : Calls Try.prog 6 #[clkV c, .int .u64 (a : Int)] w fun e w' => e = .returned (.bool true) ∧ Below w.heap.size w w' := by
  have HC1 := Lib.hid (fun W => came_c W c a ha hok.mean hok.off)
  have HC2 := Lib.hid (fun W => rcame_c W c a ha hok.mean hok.off)
  have HL1 := Lib.hid (fun W => late_c W c hok.wait)
  have HL2 := Lib.hid (fun W => rlate_c W c hok.wait)
  have HM := Lib.hid (fun W => model_c W c)
  have HMC := Lib.hid (fun W => model_c W (Arq.came c a))
  have HML := Lib.hid (fun W => model_c W (Arq.late c))
  clear hok ha
  generalize Arq.came c a = d at *
  generalize Arq.late c = f at *
  obtain ⟨l, m, wt, mn, of, an⟩ := c
  obtain ⟨dl, dm, dw, dn, df, da⟩ := d
  obtain ⟨fl, fm, fw, fn, ff, fa⟩ := f
  simp only [clkV] at HC1 HC2 HL1 HL2 HM HMC HML ⊢
  go_enter Try.func6, Try.ntmps6
  go_wp2_with fail
  have hA : CB (w.alloc (.cells #[.int .u64 (l : Int), .int .u64 (m : Int), .int .u64 (wt : Int), .int .u64 (mn : Int), .int .u64 (of : Int), .bool an] 43 (0, 0))) w.heap.size 43 ⟨l, m, wt, mn, of, an⟩ := CB.new w _ ⟨l, m, wt, mn, of, an⟩
  have HO1 : Hid (Only [] w (w.alloc (.cells #[.int .u64 (l : Int), .int .u64 (m : Int), .int .u64 (wt : Int), .int .u64 (mn : Int), .int .u64 (of : Int), .bool an] 43 (0, 0)))) := Lib.hid ((Only.refl [] w).alloc _)
  generalize World.alloc w _ = w1 at *
  obtain ⟨q, hq⟩ : ∃ q, w.heap.size = q := ⟨_, rfl⟩
  rw [hq] at hA ⊢
  have HQ := Lib.hid hq; have HA := Lib.hid hA
  clear hq hA
  refine (awake_c w1).mono ?_
  rintro e w2 ⟨rfl, ho2⟩
  have HA2 := Lib.hid (HA.out.only ho2 (by simp))
  have HO2 := Lib.hid (HO1.out.then ho2)
  clear ho2 HA HO1
  go_wp2_with fail
  --@1
  obtain ⟨c0, c1, c2, c3, c4, c5, cf⟩ := CB.cells HA2.out
  have x0 := fun x : Later [] w2 => Later.cell c0 (by simp) x
  have x1 := fun x : Later [] w2 => Later.cell c1 (by simp) x
  have x2 := fun x : Later [] w2 => Later.cell c2 (by simp) x
  have x3 := fun x : Later [] w2 => Later.cell c3 (by simp) x
  have x4 := fun x : Later [] w2 => Later.cell c4 (by simp) x
  have x5 := fun x : Later [] w2 => Later.cell c5 (by simp) x
  clear c0 c1 c2 c3 c4 c5 cf
  refine wp_region_later [] (by kernel_rfl) (by kernel_rfl) ?_
  repeat (go_big_quiet_step (first
    | (go_at_call 20; with_reducible exact Calls.later_nil (HC1.out _))
    | (go_at_call 21; with_reducible exact Calls.later_nil (HC2.out _))
    | (go_at_call 18; with_reducible exact Calls.later_nil (HL1.out _))
    | (go_at_call 19; with_reducible exact Calls.later_nil (HL2.out _))
    | (go_at_call 22; first | with_reducible exact Calls.later_nil (HM.out _) | with_reducible exact Calls.later_nil (HMC.out _) | with_reducible exact Calls.later_nil (HML.out _))))
  --@2
  refine wpQuiet_nil ?_
  rintro _ ⟨x9, rfl⟩
  have HX9 := Lib.hid x9.only
  clear x0 x1 x2 x3 x4 x5
  generalize x9.at' = w9 at *
  have HO9 := Lib.hid (HO2.out.then HX9.out)
  go_wp2
  go_ret
  exact ⟨rfl, HO9.out.below (by simp) (by rw [HQ.out]; exact Nat.le_refl _)⟩
end Go.Proofs.Ytidkadlmnidmoaa.arq
