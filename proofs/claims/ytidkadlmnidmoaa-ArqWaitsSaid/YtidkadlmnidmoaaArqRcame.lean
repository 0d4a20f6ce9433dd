/-
  THE WALK of the reference's Came.
-/
import Derived.Test.YtidkadlmnidmoaaArqRefs
set_option linter.unusedVariables false
set_option linter.unusedSimpArgs false
namespace Go.Lm.Arq
theorem four_plus (o : Nat) (ho : o < 18446744073709551616) : plus (plus o o) (plus o o) = four o := by
  unfold plus four
  split <;> split <;> split <;> omega
end Go.Lm.Arq
namespace Go.Proofs.Ytidkadlmnidmoaa.arq
open Go Go.RowKit Go.Lm
set_option maxRecDepth 100000 in
set_option maxHeartbeats 20000000 in
theorem rcame_c (w : World) (c : Arq.Clk) (a0 : Nat) (ha0 : a0 < 18446744073709551616) (hmn : c.mean < 18446744073709551616) (hof : c.off < 18446744073709551616) : Calls Try.prog 21 #[clkV c, .int .u64 (a0 : Int)] w fun e w' => e = .returned (clkV (Arq.came c a0)) ∧ Only [] w w' := by
  obtain ⟨a, ha⟩ : ∃ a, Arq.newMean c a0 = a := ⟨_, rfl⟩
  obtain ⟨o, ho⟩ : ∃ o, Arq.newOff c a0 = o := ⟨_, rfl⟩
  have ha64 : a < 18446744073709551616 := by rw [← ha]; exact Arq.newMean_lt c a0 hmn ha0
  have ho64 : o < 18446744073709551616 := by rw [← ho]; exact Arq.newOff_lt c a0 hof hmn ha0
  obtain ⟨f, hf⟩ : ∃ f, Arq.four o = f := ⟨_, rfl⟩
  have hf64 : f < 18446744073709551616 := by rw [← hf]; exact Arq.four_lt o ho64
  obtain ⟨g, hg⟩ : ∃ g, max 1 f = g := ⟨_, rfl⟩
  have hg64 : g < 18446744073709551616 := by omega
  obtain ⟨l, m, wt, mn, of, an⟩ := c
  obtain ⟨p, hp⟩ : ∃ p, Arq.plus a g = p := ⟨_, rfl⟩
  obtain ⟨y, hy⟩ : ∃ y, Arq.within p l m = y := ⟨_, rfl⟩
  have HP : Hid (∀ W : World, Calls Try.prog 31 #[.int .u64 (a : Int), .int .u64 (g : Int)] W fun e w' => e = .returned (.int .u64 (p : Int)) ∧ Only [] W w') := Lib.hid (fun W => by have h := rsum_c W a g ha64 hg64; rw [hp] at h; exact h)
  have HB : Hid (∀ W : World, Calls Try.prog 29 #[.agg #[.int .u64 (l : Int), .int .u64 (m : Int), .int .u64 (wt : Int), .int .u64 (a : Int), .int .u64 (o : Int), .bool true], .int .u64 (p : Int)] W fun e w' => e = .returned (.int .u64 (y : Int)) ∧ Only [] W w') := Lib.hid (fun W => by have h := bound_c W ⟨l, m, wt, a, o, true⟩ p; unfold clkV at h; simp only [hy] at h; exact h)
  obtain ⟨tw, htw⟩ : ∃ tw, Arq.plus o o = tw := ⟨_, rfl⟩
  have htw64 : tw < 18446744073709551616 := by rw [← htw]; exact Arq.plus_lt o o
  have htf : Arq.plus tw tw = f := by rw [← htw, Arq.four_plus o ho64, hf]
  have HS1 : Hid (∀ W : World, Calls Try.prog 31 #[.int .u64 (o : Int), .int .u64 (o : Int)] W fun e w' => e = .returned (.int .u64 (tw : Int)) ∧ Only [] W w') := Lib.hid (fun W => by have h := rsum_c W o o ho64 ho64; rw [htw] at h; exact h)
  have HS2 : Hid (∀ W : World, Calls Try.prog 31 #[.int .u64 (tw : Int), .int .u64 (tw : Int)] W fun e w' => e = .returned (.int .u64 (f : Int)) ∧ Only [] W w') := Lib.hid (fun W => by have h := rsum_c W tw tw htw64 htw64; rw [htf] at h; exact h)
  have HR : Hid (clkV (Arq.came ⟨l, m, wt, mn, of, an⟩ a0) = .agg #[.int .u64 (l : Int), .int .u64 (m : Int), .int .u64 (y : Int), .int .u64 (a : Int), .int .u64 (o : Int), .bool true]) := Lib.hid (by unfold Arq.came Arq.waited Arq.bounded clkV; simp only [ha, ho, hf, hg, hp, hy])
  have HG := Lib.hid hg
  rw [HR.out]
  unfold clkV
  have HA0 := Lib.hid ha; have HO0 := Lib.hid ho
  have HB0 := Lib.hid (⟨ha0, hmn, hof, ho64, ha64⟩ : _ ∧ _ ∧ _ ∧ _ ∧ _)
  clear hp hy hg hf ha ho ha0 hmn hof ha64 ho64 hf64 hg64 htw htw64 htf
  go_enter Try.func21, Try.ntmps21
  go_upto_if 9 with fail
  --@1
  have hA : CB ((w.alloc (.cells #[.int .u64 (l : Int), .int .u64 (m : Int), .int .u64 (wt : Int), .int .u64 (mn : Int), .int .u64 (of : Int), .bool an] 45 (0, 0))).alloc (.cells #[.int .u64 0, .int .u64 0, .int .u64 0, .int .u64 0, .int .u64 0, .bool false] 45 (0, 0))) w.heap.size 45 ⟨l, m, wt, mn, of, an⟩ := (CB.new w 45 ⟨l, m, wt, mn, of, an⟩).only ((Only.refl [] _).alloc _) (by simp)
  have hZ : CB ((w.alloc (.cells #[.int .u64 (l : Int), .int .u64 (m : Int), .int .u64 (wt : Int), .int .u64 (mn : Int), .int .u64 (of : Int), .bool an] 45 (0, 0))).alloc (.cells #[.int .u64 0, .int .u64 0, .int .u64 0, .int .u64 0, .int .u64 0, .bool false] 45 (0, 0))) (w.heap.size + 1) 45 ⟨0, 0, 0, 0, 0, false⟩ := by
    have h := CB.new (w.alloc (.cells #[.int .u64 (l : Int), .int .u64 (m : Int), .int .u64 (wt : Int), .int .u64 (mn : Int), .int .u64 (of : Int), .bool an] 45 (0, 0))) 45 ⟨0, 0, 0, 0, 0, false⟩
    rw [World.size_alloc] at h
    exact h
  have HO1 : Hid (Only [] w ((w.alloc (.cells #[.int .u64 (l : Int), .int .u64 (m : Int), .int .u64 (wt : Int), .int .u64 (mn : Int), .int .u64 (of : Int), .bool an] 45 (0, 0))).alloc (.cells #[.int .u64 0, .int .u64 0, .int .u64 0, .int .u64 0, .int .u64 0, .bool false] 45 (0, 0)))) := Lib.hid (((Only.refl [] w).alloc _).alloc _)
  generalize World.alloc (World.alloc w _) _ = w1 at *
  obtain ⟨q, hq⟩ : ∃ q, w.heap.size = q := ⟨_, rfl⟩
  rw [hq] at hA hZ ⊢
  have HQ := Lib.hid hq
  have HA1 := Lib.hid hA; have HZ1 := Lib.hid hZ
  clear hA hZ hq
  have hqq : ¬ q = q + 1 := by omega
  have hqq' : ¬ q + 1 = q := by omega
  go_cut [] (fun wx => CB wx q 45 ⟨l, m, wt, a, o, an⟩ ∧ CB wx (q + 1) 45 ⟨0, 0, 0, 0, 0, false⟩ ∧ Only [] w wx)
  case first =>
    obtain ⟨c0, c1, c2, c3, c4, c5, cf⟩ := CB.cells HA1.out
    cases an with
    | true =>
      obtain ⟨d, hd⟩ : ∃ d, max mn a0 - min mn a0 = d := ⟨_, rfl⟩
      have ha := HA0.out; have ho := HO0.out
      unfold Arq.newMean at ha
      unfold Arq.newOff at ho
      simp only [if_true, hd] at ha ho
      have hB := HB0.out
      have hd64 : d < 18446744073709551616 := by have := hB.1; have := hB.2.1; simp only at *; omega
      have HP1 : Hid (∀ W : World, Calls Try.prog 33 #[.int .u64 (of : Int), .int .u64 3, .int .u64 (d : Int)] W fun e w' => e = .returned (.int .u64 (o : Int)) ∧ Only [] W w') := Lib.hid (fun W => by have h := rpart_c W of 3 d (.inl rfl) hB.2.2.1 hd64; rw [ho] at h; exact h)
      have HP2 : Hid (∀ W : World, Calls Try.prog 33 #[.int .u64 (mn : Int), .int .u64 7, .int .u64 (a0 : Int)] W fun e w' => e = .returned (.int .u64 (a : Int)) ∧ Only [] W w') := Lib.hid (fun W => by have h := rpart_c W mn 7 a0 (.inr rfl) hB.2.1 hB.1; rw [ha] at h; exact h)
      have HD := Lib.hid hd; have HD64 := Lib.hid hd64
      clear ha ho hB hd hd64
      --@2
      go_upto_if 17 with fail
      go_cut [5] (fun off wx => off = .int .u64 (d : Int) ∧ wx = w1)
      case first =>
        by_cases hlt : (a0 : Int) < (mn : Int)
        · have hd2 : IntKind.u64.wrap ((mn : Int) - (a0 : Int)) = (d : Int) := by
            rw [show (mn : Int) - (a0 : Int) = (d : Int) by have := HD.out; omega]
            exact wrapN _ HD64.out
          go_wp2
          go_meet
          exact ⟨by first | rfl | rw [hd2], rfl⟩
        · have hd2 : IntKind.u64.wrap ((a0 : Int) - (mn : Int)) = (d : Int) := by
            rw [show (a0 : Int) - (mn : Int) = (d : Int) by have := HD.out; omega]
            exact wrapN _ HD64.out
          go_wp2
          go_meet
          exact ⟨by first | rfl | rw [hd2], rfl⟩
      case rest =>
      obtain ⟨rfl, rfl⟩ := hcut
      obtain ⟨w1, hw1⟩ : ∃ w1, w1 = wc := ⟨_, rfl⟩
      subst hw1
      --@3
      go_wp2_with fail
      refine (HP1.out w1).mono ?_
      rintro e w2 ⟨rfl, ho2⟩
      have hA2 := HA1.out.only ho2 (by simp)
      have HZ2 := Lib.hid (HZ1.out.only ho2 (by simp))
      have HO2 := Lib.hid (HO1.out.then ho2)
      clear c0 c1 c2 c3 c4 c5 cf ho2
      obtain ⟨c0, c1, c2, c3, c4, c5, cf⟩ := CB.cells hA2
      have hA3 := hA2.setOff o
      have hZ3 := HZ2.out.only ((Only.refl [q] w2).setCell (p := ⟨q, 4, none⟩) (.inl (by simp)) (.int .u64 (o : Int))) (by simp)
      have HO3 := Lib.hid (only_one HO2.out (D := q) (by have := HQ.out; omega) 4 (.int .u64 (o : Int)))
      have HA3 := Lib.hid hA3; have HZ3 := Lib.hid hZ3
      clear hA2 hA3 hZ3
      go_upto_region 6 with fail
      --@3
      generalize World.setCell _ _ _ = w3 at *
      clear c0 c1 c2 c3 c4 c5 cf
      obtain ⟨c0, c1, c2, c3, c4, c5, cf⟩ := CB.cells HA3.out
      go_wp2_with fail
      refine (HP2.out w3).mono ?_
      rintro e w4 ⟨rfl, ho4⟩
      have hA4 := HA3.out.only ho4 (by simp)
      have HZ4 := Lib.hid (HZ3.out.only ho4 (by simp))
      have HO4 := Lib.hid (HO3.out.then ho4)
      clear c0 c1 c2 c3 c4 c5 cf ho4
      obtain ⟨c0, c1, c2, c3, c4, c5, cf⟩ := CB.cells hA4
      have HA5 := Lib.hid (hA4.setMean a)
      have HZ5 := Lib.hid (HZ4.out.only ((Only.refl [q] w4).setCell (p := ⟨q, 3, none⟩) (.inl (by simp)) (.int .u64 (a : Int))) (by simp))
      have HO5 := Lib.hid (only_one HO4.out (D := q) (by have := HQ.out; omega) 3 (.int .u64 (a : Int)))
      clear hA4
      go_wp2_with fail
      go_meet
      --@4
      exact ⟨HA5.out, HZ5.out, HO5.out⟩
    | false =>
      have ha := HA0.out; have ho := HO0.out
      unfold Arq.newMean at ha
      unfold Arq.newOff at ho
      simp only [if_false, Bool.false_eq_true] at ha ho
      subst ha
      have hoI : (a0 : Int) / 2 = (o : Int) := by omega
      have wo : IntKind.u64.wrap (o : Int) = (o : Int) := wrapN _ (by have := HB0.out.1; omega)
      clear ho
      --@5
      go_wp2_with fail
      go_meet
      --@6
      exact ⟨(HA1.out.setMean a0).setOff o, HZ1.out.only ((((Only.refl [q] w1).setCell (.inl (by simp)) _).setCell (.inl (by simp)) _)) (by simp), only_one (only_one HO1.out (by have := HQ.out; omega) _ _) (by have := HQ.out; omega) _ _⟩
  case rest =>
    obtain ⟨hA2, hZ2, ho2⟩ := hcut
    have HA2 := Lib.hid hA2; have HZ2 := Lib.hid hZ2; have HO2 := Lib.hid ho2
    clear hZ2 ho2 HA1 HZ1 HO1 HA0 HO0
    obtain ⟨c0, c1, c2, c3, c4, c5, cf⟩ := CB.cells hA2
    have HA3 := Lib.hid (hA2.setAny true)
    have HZ3 := Lib.hid (HZ2.out.only ((Only.refl [q] wc).setCell (p := ⟨q, 5, none⟩) (.inl (by simp)) (.bool true)) (by simp))
    have HO3 := Lib.hid (only_one HO2.out (D := q) (by have := HQ.out; omega) 5 (.bool true))
    clear hA2
    go_upto_region 10 with fail
    generalize World.setCell _ _ _ = w3 at *
    clear c0 c1 c2 c3 c4 c5 cf
    obtain ⟨c0, c1, c2, c3, c4, c5, cf⟩ := CB.cells HA3.out
    --@7
    go_wp2_with fail
    refine (HS1.out w3).mono ?_
    rintro e w4 ⟨rfl, ho4⟩
    have HA4 := Lib.hid (HA3.out.only ho4 (by simp))
    have HZ4 := Lib.hid (HZ3.out.only ho4 (by simp))
    have HO4 := Lib.hid (HO3.out.then ho4)
    clear c0 c1 c2 c3 c4 c5 cf ho4
    go_wp2_with fail
    refine (HS2.out w4).mono ?_
    rintro e w5 ⟨rfl, ho5⟩
    have HA5 := Lib.hid (HA4.out.only ho5 (by simp))
    have HZ5 := Lib.hid (HZ4.out.only ho5 (by simp))
    have HO5 := Lib.hid (HO4.out.then ho5)
    clear ho5
    go_upto_if 47 with fail
    go_cut [7] (fun ff wx => ff = .int .u64 (g : Int) ∧ wx = w5)
    case first =>
      by_cases hf1 : (f : Int) < 1
      · obtain rfl : g = 1 := by have := HG.out; omega
        go_wp2
        go_meet
        exact ⟨rfl, rfl⟩
      · obtain rfl : g = f := by have := HG.out; omega
        go_wp2
        go_meet
        exact ⟨rfl, rfl⟩
    case rest =>
      obtain ⟨rfl, rfl⟩ := hcut
      obtain ⟨c0, c1, c2, c3, c4, c5, cf⟩ := CB.cells HA5.out
      obtain ⟨w5, hw5⟩ : ∃ w5, w5 = wc := ⟨_, rfl⟩
      subst hw5
      --@8
      go_upto_region 14 with fail
      go_region_with (first | (go_at_call 31; (with_reducible refine (HP.out _).mono ?_); rintro e w6 ⟨rfl, ho6⟩; have hx6 : Only [] w5 w6 := (by first | exact (Only.refl [] w5).drew.then ho6 | exact ho6); obtain ⟨g0, g1, g2, g3, g4, g5, gf⟩ := CB.cells (HA5.out.only hx6 (by simp)); have HX6 := Lib.hid hx6; clear ho6 hx6) | (go_at_call 29; (with_reducible refine (HB.out _).mono ?_); rintro e w7 ⟨rfl, ho7⟩; have hx7 : Only [] w5 w7 := HX6.out.then ho7; obtain ⟨g0, g1, g2, g3, g4, g5, gf⟩ := CB.cells (HA5.out.only hx7 (by simp)); have HX7 := Lib.hid hx7; clear ho7 hx7))
      --@9
      all_goals
        have HA8 := Lib.hid ((HA5.out.only HX7.out (by simp)).setWait y)
        have HZ8 := Lib.hid ((HZ5.out.only HX7.out (by simp)).only ((Only.refl [q] w7).setCell (p := ⟨q, 2, none⟩) (.inl (by simp)) (.int .u64 (y : Int))) (by simp))
        have HO8 := Lib.hid (only_one (HO5.out.then HX7.out) (D := q) (by have := HQ.out; omega) 2 (.int .u64 (y : Int)))
        generalize World.setCell _ _ _ = w8 at *
        clear c0 c1 c2 c3 c4 c5 cf g0 g1 g2 g3 g4 g5 gf
        obtain ⟨c0, c1, c2, c3, c4, c5, cf⟩ := CB.cells HA8.out
        obtain ⟨d0, d1, d2, d3, d4, d5, df⟩ := CB.cells HZ8.out
        go_wp2
        (try simp only [Exit.inBlock, Exit.then])
        refine bodyPost_ret (v := .agg #[.int .u64 (l : Int), .int .u64 (m : Int), .int .u64 (y : Int), .int .u64 (a : Int), .int .u64 (o : Int), .bool true]) (by rw [results_cell rfl]; go_simp) rfl ⟨rfl, only_set6 HO8.out (by have := HQ.out; omega) _ _ _ _ _ _⟩
end Go.Proofs.Ytidkadlmnidmoaa.arq
