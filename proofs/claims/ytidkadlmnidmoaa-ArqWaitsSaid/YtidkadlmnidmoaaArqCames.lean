/-
  THE WALK of Came, of any clock.
-/
import Derived.Test.YtidkadlmnidmoaaArqPart
import Derived.Test.YtidkadlmnidmoaaArqCame
set_option linter.unusedVariables false
set_option linter.unusedSimpArgs false
namespace Go.Lm.Arq
def newMean (c : Clk) (a : Nat) : Nat := if c.any then part c.mean 7 a else a
def newOff (c : Clk) (a : Nat) : Nat := if c.any then part c.off 3 (max c.mean a - min c.mean a) else a / 2
def came (c : Clk) (a : Nat) : Clk := waited ⟨c.least, c.most, c.wait, newMean c a, newOff c a, true⟩
theorem newMean_lt (c : Clk) (a : Nat) (h : c.mean < 18446744073709551616) (ha : a < 18446744073709551616) : newMean c a < 18446744073709551616 := by
  unfold newMean; split
  · exact part_lt _ _ _ (.inr rfl) h ha
  · exact ha
theorem newOff_lt (c : Clk) (a : Nat) (h : c.off < 18446744073709551616) (hm : c.mean < 18446744073709551616) (ha : a < 18446744073709551616) : newOff c a < 18446744073709551616 := by
  unfold newOff; split
  · exact part_lt _ _ _ (.inl rfl) h (by omega)
  · omega
end Go.Lm.Arq
namespace Go.Proofs.Ytidkadlmnidmoaa.arq
open Go Go.RowKit Go.Lm

theorem CB.setOff {w : World} {b : Nat} {t : TypeId} {c : Arq.Clk} (h : CB w b t c) (o : Nat) : CB (w.setCell ⟨b, 4, none⟩ (.int .u64 (o : Int))) b t ⟨c.least, c.most, c.wait, c.mean, o, c.any⟩ := by
  unfold CB at *
  exact (Lm.heap_setCell_same (k := 4) h _).trans rfl
theorem CB.setMean {w : World} {b : Nat} {t : TypeId} {c : Arq.Clk} (h : CB w b t c) (o : Nat) : CB (w.setCell ⟨b, 3, none⟩ (.int .u64 (o : Int))) b t ⟨c.least, c.most, c.wait, o, c.off, c.any⟩ := by
  unfold CB at *
  exact (Lm.heap_setCell_same (k := 3) h _).trans rfl
theorem CB.setAny {w : World} {b : Nat} {t : TypeId} {c : Arq.Clk} (h : CB w b t c) (o : Bool) : CB (w.setCell ⟨b, 5, none⟩ (.bool o)) b t ⟨c.least, c.most, c.wait, c.mean, c.off, o⟩ := by
  unfold CB at *
  exact (Lm.heap_setCell_same (k := 5) h _).trans rfl
theorem only_one {S : List Nat} {w0 w : World} {D : Nat} (h : Only S w0 w) (hD : w0.heap.size ≤ D) (k : Nat) (v : Value) : Only S w0 (w.setCell ⟨D, k, none⟩ v) := h.setCell (.inr hD) _

set_option maxRecDepth 100000 in
set_option maxHeartbeats 8000000 in
theorem came_c (w : World) (c : Arq.Clk) (a0 : Nat) (ha0 : a0 < 18446744073709551616) (hmn : c.mean < 18446744073709551616) (hof : c.off < 18446744073709551616) : Calls Try.prog 20 #[clkV c, .int .u64 (a0 : Int)] w fun e w' => e = .returned (clkV (Arq.came c a0)) ∧ Only [] w w' := by
  obtain ⟨a, ha⟩ : ∃ a, Arq.newMean c a0 = a := ⟨_, rfl⟩
  obtain ⟨o, ho⟩ : ∃ o, Arq.newOff c a0 = o := ⟨_, rfl⟩
  have ha64 : a < 18446744073709551616 := by rw [← ha]; exact Arq.newMean_lt c a0 hmn ha0
  have ho64 : o < 18446744073709551616 := by rw [← ho]; exact Arq.newOff_lt c a0 hof hmn ha0
  obtain ⟨f, hf⟩ : ∃ f, Arq.four o = f := ⟨_, rfl⟩
  have hf64 : f < 18446744073709551616 := by rw [← hf]; exact Arq.four_lt o ho64
  obtain ⟨g, hg⟩ : ∃ g, max 1 f = g := ⟨_, rfl⟩
  have hg64 : g < 18446744073709551616 := by omega
  obtain ⟨l, m, wt, mn, of, an⟩ := c
  obtain ⟨p, hp⟩ : ∃ p, Arq.plus a g = p := ⟨_, rfl⟩
  obtain ⟨y, hy⟩ : ∃ y, Arq.within p l m = y := ⟨_, rfl⟩
  have HP : Hid (∀ W : World, Calls Try.prog 30 #[.int .u64 (a : Int), .int .u64 (g : Int)] W fun e w' => e = .returned (.int .u64 (p : Int)) ∧ W = w') := Lib.hid (fun W => by have h := plus_c W a g ha64 hg64; rw [hp] at h; exact h)
  have HB : Hid (∀ W : World, Calls Try.prog 28 #[.agg #[.int .u64 (l : Int), .int .u64 (m : Int), .int .u64 (wt : Int), .int .u64 (a : Int), .int .u64 (o : Int), .bool true], .int .u64 (p : Int)] W fun e w' => e = .returned (.agg #[.int .u64 (l : Int), .int .u64 (m : Int), .int .u64 (y : Int), .int .u64 (a : Int), .int .u64 (o : Int), .bool true]) ∧ Only [] W w') := Lib.hid (fun W => by have h := bounded_c W ⟨l, m, wt, a, o, true⟩ p; unfold Arq.bounded clkV at h; simp only [hy] at h; exact h)
  have HR : Hid (clkV (Arq.came ⟨l, m, wt, mn, of, an⟩ a0) = .agg #[.int .u64 (l : Int), .int .u64 (m : Int), .int .u64 (y : Int), .int .u64 (a : Int), .int .u64 (o : Int), .bool true]) := Lib.hid (by unfold Arq.came Arq.waited Arq.bounded clkV; simp only [ha, ho, hf, hg, hp, hy])
  have hgI : max (1 : Int) (f : Int) = (g : Int) := by omega
  have hgI2 : (if (1 : Int) < (f : Int) then (f : Int) else 1) = (g : Int) := by split <;> omega
  have hfo : (f : Int) = if (4611686018427387903 : Int) < (o : Int) then 18446744073709551615 else 4 * (o : Int) := by
    rw [← hf]; unfold Arq.four; split <;> split <;> omega
  have hcs : ((4611686018427387903 : Int) < (o : Int) ∧ f = 18446744073709551615) ∨ (¬ ((4611686018427387903 : Int) < (o : Int)) ∧ (f : Int) = 4 * (o : Int)) := by
    by_cases h : (4611686018427387903 : Int) < (o : Int)
    · rw [if_pos h] at hfo; exact .inl ⟨h, by omega⟩
    · rw [if_neg h] at hfo; exact .inr ⟨h, hfo⟩
  have HCS := Lib.hid hcs
  have HGI := Lib.hid hgI; have HGI2 := Lib.hid hgI2; have HG := Lib.hid hg
  rw [HR.out]
  unfold clkV
  have HA0 := Lib.hid ha; have HO0 := Lib.hid ho
  have HB0 := Lib.hid (⟨ha0, hmn, hof, ho64, ha64⟩ : _ ∧ _ ∧ _ ∧ _ ∧ _)
  clear hp hy hg hf hfo hcs hgI hgI2 ha ho ha0 hmn hof ha64 ho64 hf64 hg64
  go_enter Try.func20, Try.ntmps20
  go_upto_if 7 with fail
  --@1
  have hA : CB ((w.alloc (.cells #[.int .u64 (l : Int), .int .u64 (m : Int), .int .u64 (wt : Int), .int .u64 (mn : Int), .int .u64 (of : Int), .bool an] 43 (0, 0))).alloc (.cells #[.int .u64 0, .int .u64 0, .int .u64 0, .int .u64 0, .int .u64 0, .bool false] 43 (0, 0))) w.heap.size 43 ⟨l, m, wt, mn, of, an⟩ := (CB.new w 43 ⟨l, m, wt, mn, of, an⟩).only ((Only.refl [] _).alloc _) (by simp)
  have hZ : CB ((w.alloc (.cells #[.int .u64 (l : Int), .int .u64 (m : Int), .int .u64 (wt : Int), .int .u64 (mn : Int), .int .u64 (of : Int), .bool an] 43 (0, 0))).alloc (.cells #[.int .u64 0, .int .u64 0, .int .u64 0, .int .u64 0, .int .u64 0, .bool false] 43 (0, 0))) (w.heap.size + 1) 43 ⟨0, 0, 0, 0, 0, false⟩ := by
    have h := CB.new (w.alloc (.cells #[.int .u64 (l : Int), .int .u64 (m : Int), .int .u64 (wt : Int), .int .u64 (mn : Int), .int .u64 (of : Int), .bool an] 43 (0, 0))) 43 ⟨0, 0, 0, 0, 0, false⟩
    rw [World.size_alloc] at h
    exact h
  have HO1 : Hid (Only [] w ((w.alloc (.cells #[.int .u64 (l : Int), .int .u64 (m : Int), .int .u64 (wt : Int), .int .u64 (mn : Int), .int .u64 (of : Int), .bool an] 43 (0, 0))).alloc (.cells #[.int .u64 0, .int .u64 0, .int .u64 0, .int .u64 0, .int .u64 0, .bool false] 43 (0, 0)))) := Lib.hid (((Only.refl [] w).alloc _).alloc _)
  generalize World.alloc (World.alloc w _) _ = w1 at *
  obtain ⟨q, hq⟩ : ∃ q, w.heap.size = q := ⟨_, rfl⟩
  rw [hq] at hA hZ ⊢
  have HQ := Lib.hid hq
  have HA1 := Lib.hid hA; have HZ1 := Lib.hid hZ
  clear hA hZ hq
  have hqq : ¬ q = q + 1 := by omega
  have hqq' : ¬ q + 1 = q := by omega
  go_cut [] (fun wx => CB wx q 43 ⟨l, m, wt, a, o, true⟩ ∧ CB wx (q + 1) 43 ⟨0, 0, 0, 0, 0, false⟩ ∧ Only [] w wx)
  case first =>
    obtain ⟨c0, c1, c2, c3, c4, c5, cf⟩ := CB.cells HA1.out
    cases an with
    | true =>
      obtain ⟨d, hd⟩ : ∃ d, max mn a0 - min mn a0 = d := ⟨_, rfl⟩
      have ha := HA0.out; have ho := HO0.out
      unfold Arq.newMean at ha
      unfold Arq.newOff at ho
      simp only [if_true, hd] at ha ho
      have hB := HB0.out
      have HP1 : Hid (∀ W : World, Calls Try.prog 32 #[.int .u64 (of : Int), .int .u64 3, .int .u64 (d : Int)] W fun e w' => e = .returned (.int .u64 (o : Int)) ∧ Only [] W w') := Lib.hid (fun W => by have h := part_c W of 3 d (.inl rfl) hB.2.2.1 (by have := hB.1; have := hB.2.1; simp only at *; omega); rw [ho] at h; exact h)
      have HP2 : Hid (∀ W : World, Calls Try.prog 32 #[.int .u64 (mn : Int), .int .u64 7, .int .u64 (a0 : Int)] W fun e w' => e = .returned (.int .u64 (a : Int)) ∧ Only [] W w') := Lib.hid (fun W => by have h := part_c W mn 7 a0 (.inr rfl) hB.2.1 hB.1; rw [ha] at h; exact h)
      have hdd : IntKind.u64.wrap (max (mn : Int) (a0 : Int) - min (mn : Int) (a0 : Int)) = (d : Int) := by
        rw [show max (mn : Int) (a0 : Int) - min (mn : Int) (a0 : Int) = (d : Int) by omega]
        exact wrapN _ (by have := hB.1; have := hB.2.1; simp only at *; omega)
      clear ha ho hB hd
      --@2
      go_wp2_with fail
      refine (HP1.out w1).mono ?_
      rintro e w2 ⟨rfl, ho2⟩
      have hA2 := HA1.out.only ho2 (by simp)
      have HZ2 := Lib.hid (HZ1.out.only ho2 (by simp))
      have HO2 := Lib.hid (HO1.out.then ho2)
      clear c0 c1 c2 c3 c4 c5 cf ho2 hdd
      obtain ⟨c0, c1, c2, c3, c4, c5, cf⟩ := CB.cells hA2
      have hA3 := hA2.setOff o
      have hZ3 := HZ2.out.only ((Only.refl [q] w2).setCell (p := ⟨q, 4, none⟩) (.inl (by simp)) (.int .u64 (o : Int))) (by simp)
      have HO3 := Lib.hid (only_one HO2.out (D := q) (by have := HQ.out; omega) 4 (.int .u64 (o : Int)))
      have HA3 := Lib.hid hA3; have HZ3 := Lib.hid hZ3
      clear hA2 hA3 hZ3
      go_upto_region 3 with fail
      --@3
      generalize World.setCell _ _ _ = w3 at *
      clear c0 c1 c2 c3 c4 c5 cf
      obtain ⟨c0, c1, c2, c3, c4, c5, cf⟩ := CB.cells HA3.out
      go_wp2_with fail
      refine (HP2.out w3).mono ?_
      rintro e w4 ⟨rfl, ho4⟩
      have hA4 := HA3.out.only ho4 (by simp)
      have HZ4 := Lib.hid (HZ3.out.only ho4 (by simp))
      have HO4 := Lib.hid (HO3.out.then ho4)
      clear c0 c1 c2 c3 c4 c5 cf ho4
      obtain ⟨c0, c1, c2, c3, c4, c5, cf⟩ := CB.cells hA4
      have HA5 := Lib.hid (hA4.setMean a)
      have HZ5 := Lib.hid (HZ4.out.only ((Only.refl [q] w4).setCell (p := ⟨q, 3, none⟩) (.inl (by simp)) (.int .u64 (a : Int))) (by simp))
      have HO5 := Lib.hid (only_one HO4.out (D := q) (by have := HQ.out; omega) 3 (.int .u64 (a : Int)))
      clear hA4
      go_wp2_with fail
      go_meet
      --@4
      exact ⟨HA5.out, HZ5.out, HO5.out⟩
    | false =>
      have ha := HA0.out; have ho := HO0.out
      unfold Arq.newMean at ha
      unfold Arq.newOff at ho
      simp only [if_false, Bool.false_eq_true] at ha ho
      subst ha
      have hoI : (a0 : Int) / 2 = (o : Int) := by omega
      have wo : IntKind.u64.wrap (o : Int) = (o : Int) := wrapN _ (by have := HB0.out.1; omega)
      clear ho
      --@5
      go_wp2_with fail
      go_meet
      --@6
      exact ⟨((HA1.out.setMean a0).setOff o).setAny true, HZ1.out.only (((((Only.refl [q] w1).setCell (.inl (by simp)) _).setCell (.inl (by simp)) _).setCell (.inl (by simp)) _)) (by simp), only_one (only_one (only_one HO1.out (by have := HQ.out; omega) _ _) (by have := HQ.out; omega) _ _) (by have := HQ.out; omega) _ _⟩
  case rest =>
    obtain ⟨hA2, hZ2, ho2⟩ := hcut
    have HA := Lib.hid hA2; have HZ := Lib.hid hZ2; have HO2 := Lib.hid ho2
    clear hA2 hZ2 ho2 HA1 HZ1 HO1 HA0 HO0
    have hgI := HGI.out; have hgI2 := HGI2.out; have hcs := HCS.out; have hg := HG.out
    obtain ⟨c0, c1, c2, c3, c4, c5, cf⟩ := CB.cells HA.out
    clear cf
    --@7
    rcases hcs with ⟨h1, rfl⟩ | ⟨h1, h2⟩
    · obtain rfl : g = 18446744073709551615 := by omega
      have HP : Hid (∀ W : World, Calls Try.prog 30 #[.int .u64 (a : Int), .int .u64 18446744073709551615] W fun e w' => e = .returned (.int .u64 (p : Int)) ∧ W = w') := Lib.hid HP.out
      clear hg hgI hgI2
      go_upto_region 8 with fail
      --@8
      go_region_held3 (fun w' => w'.cell? ⟨q, 0, none⟩ = some (.int .u64 (l : Int)) ∧ w'.cell? ⟨q, 1, none⟩ = some (.int .u64 (m : Int)) ∧ w'.cell? ⟨q, 2, none⟩ = some (.int .u64 (wt : Int)) ∧ w'.cell? ⟨q, 3, none⟩ = some (.int .u64 (a : Int)) ∧ w'.cell? ⟨q, 4, none⟩ = some (.int .u64 (o : Int)) ∧ w'.cell? ⟨q, 5, none⟩ = some (.bool true)) (go_keep) (first | (go_at_call 30; (try rw [show max (1 : Int) 18446744073709551615 = 18446744073709551615 from rfl]); (with_reducible refine (HP.out _).mono ?_); rintro e w' ⟨rfl, rfl⟩) | (go_at_call 28; (with_reducible refine (HB.out _).mono ?_); rintro e w3 ⟨rfl, ho3⟩; have hx3 : Only [] wc w3 := (by first | exact (Only.refl [] wc).drew.then ho3 | exact ho3); obtain ⟨g0, g1, g2, g3, g4, g5, gf⟩ := CB.cells (HA.out.only hx3 (by simp)); obtain ⟨d0, d1, d2, d3, d4, d5, df⟩ := CB.cells (HZ.out.only hx3 (by simp)); have HX3 := Lib.hid hx3; clear ho3 hx3 gf))
      go_wp2
      (try simp only [Exit.inBlock, Exit.then])
      refine bodyPost_ret (v := .agg #[.int .u64 (l : Int), .int .u64 (m : Int), .int .u64 (y : Int), .int .u64 (a : Int), .int .u64 (o : Int), .bool true]) (by rw [results_cell rfl]; go_simp) rfl ⟨rfl, only_set6 (HO2.out.then HX3.out) (by have := HQ.out; omega) _ _ _ _ _ _⟩
    · have hgx : (if (1 : Int) < (o : Int) * 4 then (o : Int) * 4 else 1) = (g : Int) := by split <;> omega
      have hgx2 : max (1 : Int) ((o : Int) * 4) = (g : Int) := by omega
      have hsh : IntKind.u64.wrap ((o : Int) * 2 ^ 2) = (f : Int) := by rw [IntKind.wrap_u64]; omega
      clear hg
      go_upto_region 8 with fail
      --@9
      go_region_held3 (fun w' => w'.cell? ⟨q, 0, none⟩ = some (.int .u64 (l : Int)) ∧ w'.cell? ⟨q, 1, none⟩ = some (.int .u64 (m : Int)) ∧ w'.cell? ⟨q, 2, none⟩ = some (.int .u64 (wt : Int)) ∧ w'.cell? ⟨q, 3, none⟩ = some (.int .u64 (a : Int)) ∧ w'.cell? ⟨q, 4, none⟩ = some (.int .u64 (o : Int)) ∧ w'.cell? ⟨q, 5, none⟩ = some (.bool true)) (go_keep) (first | (go_at_call 30; (try rw [hgx]); (with_reducible refine (HP.out _).mono ?_); rintro e w' ⟨rfl, rfl⟩) | (go_at_call 28; (with_reducible refine (HB.out _).mono ?_); rintro e w3 ⟨rfl, ho3⟩; have hx3 : Only [] wc w3 := (by first | exact (Only.refl [] wc).drew.then ho3 | exact ho3); obtain ⟨g0, g1, g2, g3, g4, g5, gf⟩ := CB.cells (HA.out.only hx3 (by simp)); obtain ⟨d0, d1, d2, d3, d4, d5, df⟩ := CB.cells (HZ.out.only hx3 (by simp)); have HX3 := Lib.hid hx3; clear ho3 hx3 gf))
      go_wp2
      (try simp only [Exit.inBlock, Exit.then])
      refine bodyPost_ret (v := .agg #[.int .u64 (l : Int), .int .u64 (m : Int), .int .u64 (y : Int), .int .u64 (a : Int), .int .u64 (o : Int), .bool true]) (by rw [results_cell rfl]; go_simp) rfl ⟨rfl, only_set6 (HO2.out.then HX3.out) (by have := HQ.out; omega) _ _ _ _ _ _⟩
end Go.Proofs.Ytidkadlmnidmoaa.arq
