/-
  THE WALKS of the reference's New, Late, and of modelOf.
-/
import Derived.Test.YtidkadlmnidmoaaArqRef
import Derived.Test.YtidkadlmnidmoaaArqCames
set_option linter.unusedVariables false
set_option linter.unusedSimpArgs false
namespace Go.Proofs.Ytidkadlmnidmoaa.arq
open Go Go.RowKit Go.Lm

theorem CB.setWait {w : World} {b : Nat} {t : TypeId} {c : Arq.Clk} (h : CB w b t c) (o : Nat) : CB (w.setCell ⟨b, 2, none⟩ (.int .u64 (o : Int))) b t ⟨c.least, c.most, o, c.mean, c.off, c.any⟩ := by
  unfold CB at *
  exact (Lm.heap_setCell_same (k := 2) h _).trans rfl

set_option maxHeartbeats 1000000 in
theorem model_c (w : World) (c : Arq.Clk) : Calls Try.prog 22 #[clkV c] w fun e w' => e = .returned (clkV c) ∧ Only [] w w' := by
  obtain ⟨l, m, wt, mn, of, an⟩ := c
  unfold clkV
  simp only []
  go_enter Try.func22, Try.ntmps22
  go_wp2
  (try simp only [Exit.inBlock, Exit.then])
  refine bodyPost_ret (v := .agg #[.int .u64 (l : Int), .int .u64 (m : Int), .int .u64 (wt : Int), .int .u64 (mn : Int), .int .u64 (of : Int), .bool an]) (by rw [results_cell rfl]; go_simp) rfl ⟨rfl, ((Only.refl [] w).alloc _).alloc _⟩

set_option maxHeartbeats 2000000 in
theorem rnew_c (w : World) (f l m : Nat) : Calls Try.prog 17 #[.int .u64 (f : Int), .int .u64 (l : Int), .int .u64 (m : Int)] w fun e w' => e = .returned (clkV (Arq.newClock f l m)) ∧ Only [] w w' := by
  have HB := Lib.hid (fun W => bound_c W ⟨l, m, 0, 0, 0, false⟩ f)
  obtain ⟨y, hy⟩ : ∃ y, Arq.within f l m = y := ⟨_, rfl⟩
  have HB : Hid (∀ W : World, Calls Try.prog 29 #[.agg #[.int .u64 (l : Int), .int .u64 (m : Int), .int .u64 0, .int .u64 0, .int .u64 0, .bool false], .int .u64 (f : Int)] W fun e w' => e = .returned (.int .u64 (y : Int)) ∧ Only [] W w') := Lib.hid (fun W => by have h := bound_c W ⟨l, m, 0, 0, 0, false⟩ f; simp only [hy] at h; exact h)
  have HR : Hid (clkV (Arq.newClock f l m) = .agg #[.int .u64 (l : Int), .int .u64 (m : Int), .int .u64 (y : Int), .int .u64 0, .int .u64 0, .bool false]) := Lib.hid (by
    unfold Arq.newClock clkV Arq.bounded
    simp only [hy]
    rfl)
  rw [HR.out]
  clear hy
  go_enter Try.func17, Try.ntmps17
  go_wp2_with fail
  refine (HB.out _).mono ?_
  rintro e w2 ⟨rfl, ho2⟩
  have hR1 : CB (w.alloc (.cells #[.int .u64 0, .int .u64 0, .int .u64 0, .int .u64 0, .int .u64 0, .bool false] 45 (0, 0))) w.heap.size 45 ⟨0, 0, 0, 0, 0, false⟩ := CB.new w _ ⟨0, 0, 0, 0, 0, false⟩
  have hR2 := (hR1.only ((Only.refl [] _).alloc (.cells #[.int .u64 (l : Int), .int .u64 (m : Int), .int .u64 0, .int .u64 0, .int .u64 0, .bool false] 45 (0, 0))) (by simp)).only ho2 (by simp)
  have hC1 := CB.new (w.alloc (.cells #[.int .u64 0, .int .u64 0, .int .u64 0, .int .u64 0, .int .u64 0, .bool false] 45 (0, 0))) 45 ⟨l, m, 0, 0, 0, false⟩
  rw [World.size_alloc] at hC1
  have hC2 := hC1.only ho2 (by simp)
  have HO2 : Hid (Only [] w w2) := Lib.hid ((((Only.refl [] w).alloc _).alloc _).then ho2)
  obtain ⟨q, hq⟩ : ∃ q, w.heap.size = q := ⟨_, rfl⟩
  rw [hq] at hR2 hC2 ⊢
  have HQ := Lib.hid hq
  clear hR1 hC1 ho2 hq
  have HR2 := Lib.hid hR2; have HC2 := Lib.hid hC2
  obtain ⟨d0, d1, d2, d3, d4, d5, df⟩ := CB.cells hC2
  have hC3 := hC2.setWait y
  have hR3 := hR2.only ((Only.refl [q + 1] w2).setCell (p := ⟨q + 1, 2, none⟩) (.inl (by simp)) (.int .u64 (y : Int))) (by simp)
  have ho3 := only_one HO2.out (D := q + 1) (by have := HQ.out; omega) 2 (.int .u64 (y : Int))
  have HO3 := Lib.hid ho3; have HC3 := Lib.hid hC3; have HR3 := Lib.hid hR3
  clear hC2 hR2 hC3 hR3 ho3
  go_upto_region 3 with fail
  generalize World.setCell _ _ _ = w3 at *
  clear d0 d1 d2 d3 d4 d5 df
  obtain ⟨d0, d1, d2, d3, d4, d5, df⟩ := CB.cells HC3.out
  obtain ⟨c0, c1, c2, c3, c4, c5, cf⟩ := CB.cells HR3.out
  --@1
  go_wp2
  (try simp only [Exit.inBlock, Exit.then])
  refine bodyPost_ret (v := .agg #[.int .u64 (l : Int), .int .u64 (m : Int), .int .u64 (y : Int), .int .u64 0, .int .u64 0, .bool false]) (by rw [results_cell rfl]; go_simp) rfl ⟨rfl, only_set6 HO3.out (by have := HQ.out; omega) _ _ _ _ _ _⟩

set_option maxHeartbeats 2000000 in
theorem rlate_c (w : World) (c : Arq.Clk) (hw : c.wait < 18446744073709551616) : Calls Try.prog 19 #[clkV c] w fun e w' => e = .returned (clkV (Arq.late c)) ∧ Only [] w w' := by
  obtain ⟨p, hp⟩ : ∃ p, Arq.plus c.wait c.wait = p := ⟨_, rfl⟩
  have HP : Hid (∀ W : World, Calls Try.prog 31 #[.int .u64 (c.wait : Int), .int .u64 (c.wait : Int)] W fun e w' => e = .returned (.int .u64 (p : Int)) ∧ Only [] W w') := Lib.hid (fun W => by have h := rsum_c W c.wait c.wait hw hw; rw [hp] at h; exact h)
  obtain ⟨y, hy⟩ : ∃ y, Arq.within p c.least c.most = y := ⟨_, rfl⟩
  have HB : Hid (∀ W : World, Calls Try.prog 29 #[.agg #[.int .u64 (c.least : Int), .int .u64 (c.most : Int), .int .u64 (c.wait : Int), .int .u64 (c.mean : Int), .int .u64 (c.off : Int), .bool c.any], .int .u64 (p : Int)] W fun e w' => e = .returned (.int .u64 (y : Int)) ∧ Only [] W w') := Lib.hid (fun W => by have h := bound_c W c p; rw [hy] at h; exact h)
  have HR : Hid (clkV (Arq.late c) = .agg #[.int .u64 (c.least : Int), .int .u64 (c.most : Int), .int .u64 (y : Int), .int .u64 (c.mean : Int), .int .u64 (c.off : Int), .bool c.any]) := Lib.hid (by unfold Arq.late Arq.bounded clkV; simp only [hp, hy])
  clear hp hy
  rw [HR.out]
  unfold clkV
  go_enter Try.func19, Try.ntmps19
  go_upto_region 1 with fail
  have hA : CB ((w.alloc (.cells #[.int .u64 (c.least : Int), .int .u64 (c.most : Int), .int .u64 (c.wait : Int), .int .u64 (c.mean : Int), .int .u64 (c.off : Int), .bool c.any] 45 (0, 0))).alloc (.cells #[.int .u64 0, .int .u64 0, .int .u64 0, .int .u64 0, .int .u64 0, .bool false] 45 (0, 0))) w.heap.size 45 c := (CB.new w 45 c).only ((Only.refl [] _).alloc _) (by simp)
  have hZ : CB ((w.alloc (.cells #[.int .u64 (c.least : Int), .int .u64 (c.most : Int), .int .u64 (c.wait : Int), .int .u64 (c.mean : Int), .int .u64 (c.off : Int), .bool c.any] 45 (0, 0))).alloc (.cells #[.int .u64 0, .int .u64 0, .int .u64 0, .int .u64 0, .int .u64 0, .bool false] 45 (0, 0))) (w.heap.size + 1) 45 ⟨0, 0, 0, 0, 0, false⟩ := by
    have h := CB.new (w.alloc (.cells #[.int .u64 (c.least : Int), .int .u64 (c.most : Int), .int .u64 (c.wait : Int), .int .u64 (c.mean : Int), .int .u64 (c.off : Int), .bool c.any] 45 (0, 0))) 45 ⟨0, 0, 0, 0, 0, false⟩
    rw [World.size_alloc] at h
    exact h
  have HO1 : Hid (Only [] w ((w.alloc (.cells #[.int .u64 (c.least : Int), .int .u64 (c.most : Int), .int .u64 (c.wait : Int), .int .u64 (c.mean : Int), .int .u64 (c.off : Int), .bool c.any] 45 (0, 0))).alloc (.cells #[.int .u64 0, .int .u64 0, .int .u64 0, .int .u64 0, .int .u64 0, .bool false] 45 (0, 0)))) := Lib.hid (((Only.refl [] w).alloc _).alloc _)
  generalize World.alloc (World.alloc w _) _ = w1 at *
  obtain ⟨q, hq⟩ : ∃ q, w.heap.size = q := ⟨_, rfl⟩
  rw [hq] at hA hZ ⊢
  have HQ := Lib.hid hq
  have HA := Lib.hid hA; have HZ := Lib.hid hZ
  obtain ⟨c0, c1, c2, c3, c4, c5, cf⟩ := CB.cells hA
  clear hA hZ hq
  have hqq : ¬ q = q + 1 := by omega
  have hqq' : ¬ q + 1 = q := by omega
  --@2
  go_region_with (first | (go_at_call 31; (with_reducible refine (HP.out _).mono ?_); rintro e w2 ⟨rfl, ho2⟩; have hx2 : Only [] w1 w2 := (by first | exact (Only.refl [] w1).drew.then ho2 | exact ho2); obtain ⟨g0, g1, g2, g3, g4, g5, gf⟩ := CB.cells (HA.out.only hx2 (by simp)); have HX2 := Lib.hid hx2; clear ho2 hx2) | (go_at_call 29; (with_reducible refine (HB.out _).mono ?_); rintro e w3 ⟨rfl, ho3⟩; have hx3 : Only [] w1 w3 := HX2.out.then ho3; obtain ⟨g0, g1, g2, g3, g4, g5, gf⟩ := CB.cells (HA.out.only hx3 (by simp)); have HX3 := Lib.hid hx3; clear ho3 hx3))
  all_goals
    have HA4 := Lib.hid ((HA.out.only HX3.out (by simp)).setWait y)
    have HZ4 := Lib.hid ((HZ.out.only HX3.out (by simp)).only ((Only.refl [q] w3).setCell (p := ⟨q, 2, none⟩) (.inl (by simp)) (.int .u64 (y : Int))) (by simp))
    have HO4 := Lib.hid (only_one (HO1.out.then HX3.out) (D := q) (by have := HQ.out; omega) 2 (.int .u64 (y : Int)))
    generalize World.setCell _ _ _ = w4 at *
    clear c0 c1 c2 c3 c4 c5 cf g0 g1 g2 g3 g4 g5 gf
    obtain ⟨c0, c1, c2, c3, c4, c5, cf⟩ := CB.cells HA4.out
    obtain ⟨d0, d1, d2, d3, d4, d5, df⟩ := CB.cells HZ4.out
    go_wp2
    (try simp only [Exit.inBlock, Exit.then])
    refine bodyPost_ret (v := .agg #[.int .u64 (c.least : Int), .int .u64 (c.most : Int), .int .u64 (y : Int), .int .u64 (c.mean : Int), .int .u64 (c.off : Int), .bool c.any]) (by rw [results_cell rfl]; go_simp) rfl ⟨rfl, only_set6 HO4.out (by have := HQ.out; omega) _ _ _ _ _ _⟩
end Go.Proofs.Ytidkadlmnidmoaa.arq
