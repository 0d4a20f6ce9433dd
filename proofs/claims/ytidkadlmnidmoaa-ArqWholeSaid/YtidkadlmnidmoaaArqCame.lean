/-
  THE WALK of Came, of a clock to which no answer came yet.
-/
import Derived.Test.YtidkadlmnidmoaaArqClk
set_option linter.unusedVariables false
set_option linter.unusedSimpArgs false
namespace Go.Lm.Arq
def four (o : Nat) : Nat := if 4611686018427387903 < o then 18446744073709551615 else 4 * o
/-- A clock's wait, when its mean and what they are off are laid. -/
def waited (c : Clk) : Clk := bounded c (plus c.mean (max 1 (four c.off)))
def came0 (c : Clk) (a : Nat) : Clk := waited ⟨c.least, c.most, c.wait, a, a / 2, true⟩
theorem four_lt (o : Nat) (h : o < 18446744073709551616) : four o < 18446744073709551616 := by unfold four; split <;> omega
end Go.Lm.Arq
namespace Go.Proofs.Ytidkadlmnidmoaa.arq
open Go Go.RowKit Go.Lm

set_option maxHeartbeats 2000000 in
theorem came0_c (w : World) (c : Arq.Clk) (a : Nat) (ha : a < 18446744073709551616) (hany : c.any = false) : Calls Try.prog 20 #[clkV c, .int .u64 (a : Int)] w fun e w' => e = .returned (clkV (Arq.came0 c a)) ∧ Only [] w w' := by
  obtain ⟨l, m, wt, mn, of, an⟩ := c
  simp only at hany
  subst hany
  obtain ⟨o, ho⟩ : ∃ o, a / 2 = o := ⟨_, rfl⟩
  have hoI : (a : Int) / 2 = (o : Int) := by omega
  have ho63 : o < 9223372036854775808 := by omega
  obtain ⟨f, hf⟩ : ∃ f, Arq.four o = f := ⟨_, rfl⟩
  have hf64 : f < 18446744073709551616 := by rw [← hf]; exact Arq.four_lt o (by omega)
  obtain ⟨g, hg⟩ : ∃ g, max 1 f = g := ⟨_, rfl⟩
  have hg64 : g < 18446744073709551616 := by omega
  obtain ⟨p, hp⟩ : ∃ p, Arq.plus a g = p := ⟨_, rfl⟩
  obtain ⟨y, hy⟩ : ∃ y, Arq.within p l m = y := ⟨_, rfl⟩
  have HP : Hid (∀ W : World, Calls Try.prog 30 #[.int .u64 (a : Int), .int .u64 (g : Int)] W fun e w' => e = .returned (.int .u64 (p : Int)) ∧ W = w') := Lib.hid (fun W => by have h := plus_c W a g ha hg64; rw [hp] at h; exact h)
  have HB : Hid (∀ W : World, Calls Try.prog 28 #[.agg #[.int .u64 (l : Int), .int .u64 (m : Int), .int .u64 (wt : Int), .int .u64 (a : Int), .int .u64 (o : Int), .bool true], .int .u64 (p : Int)] W fun e w' => e = .returned (.agg #[.int .u64 (l : Int), .int .u64 (m : Int), .int .u64 (y : Int), .int .u64 (a : Int), .int .u64 (o : Int), .bool true]) ∧ Only [] W w') := Lib.hid (fun W => by have h := bounded_c W ⟨l, m, wt, a, o, true⟩ p; unfold Arq.bounded clkV at h; simp only [hy] at h; exact h)
  have HR : Hid (clkV (Arq.came0 ⟨l, m, wt, mn, of, false⟩ a) = .agg #[.int .u64 (l : Int), .int .u64 (m : Int), .int .u64 (y : Int), .int .u64 (a : Int), .int .u64 (o : Int), .bool true]) := Lib.hid (by unfold Arq.came0 Arq.waited Arq.bounded clkV; simp only [ho, hf, hg, hp, hy])
  have hgI : max (1 : Int) (f : Int) = (g : Int) := by omega
  have hgI2 : (if (1 : Int) < (f : Int) then (f : Int) else 1) = (g : Int) := by split <;> omega
  have hfo : (f : Int) = if (4611686018427387903 : Int) < (o : Int) then 18446744073709551615 else 4 * (o : Int) := by
    rw [← hf]; unfold Arq.four; split <;> split <;> omega
  rw [HR.out]
  unfold clkV
  clear hp hy hg hf ho
  go_enter Try.func20, Try.ntmps20
  --@1
  have hcs : ((4611686018427387903 : Int) < (o : Int) ∧ f = 18446744073709551615) ∨ (¬ ((4611686018427387903 : Int) < (o : Int)) ∧ (f : Int) = 4 * (o : Int)) := by
    by_cases h : (4611686018427387903 : Int) < (o : Int)
    · rw [if_pos h] at hfo; exact .inl ⟨h, by omega⟩
    · rw [if_neg h] at hfo; exact .inr ⟨h, hfo⟩
  have hA : CB ((w.alloc (.cells #[.int .u64 (l : Int), .int .u64 (m : Int), .int .u64 (wt : Int), .int .u64 (a : Int), .int .u64 (o : Int), .bool true] 43 (0, 0))).alloc (.cells #[.int .u64 0, .int .u64 0, .int .u64 0, .int .u64 0, .int .u64 0, .bool false] 43 (0, 0))) w.heap.size 43 ⟨l, m, wt, a, o, true⟩ := (CB.new w 43 ⟨l, m, wt, a, o, true⟩).only ((Only.refl [] _).alloc _) (by simp)
  have hZ : CB ((w.alloc (.cells #[.int .u64 (l : Int), .int .u64 (m : Int), .int .u64 (wt : Int), .int .u64 (a : Int), .int .u64 (o : Int), .bool true] 43 (0, 0))).alloc (.cells #[.int .u64 0, .int .u64 0, .int .u64 0, .int .u64 0, .int .u64 0, .bool false] 43 (0, 0))) (w.heap.size + 1) 43 ⟨0, 0, 0, 0, 0, false⟩ := by
    have h := CB.new (w.alloc (.cells #[.int .u64 (l : Int), .int .u64 (m : Int), .int .u64 (wt : Int), .int .u64 (a : Int), .int .u64 (o : Int), .bool true] 43 (0, 0))) 43 ⟨0, 0, 0, 0, 0, false⟩
    rw [World.size_alloc] at h
    exact h
  have HO2 : Hid (Only [] w ((w.alloc (.cells #[.int .u64 (l : Int), .int .u64 (m : Int), .int .u64 (wt : Int), .int .u64 (a : Int), .int .u64 (o : Int), .bool true] 43 (0, 0))).alloc (.cells #[.int .u64 0, .int .u64 0, .int .u64 0, .int .u64 0, .int .u64 0, .bool false] 43 (0, 0)))) := Lib.hid (((Only.refl [] w).alloc _).alloc _)
  have HA := Lib.hid hA; have HZ := Lib.hid hZ
  clear hA hZ hfo
  rcases hcs with ⟨h1, rfl⟩ | ⟨h1, h2⟩
  · obtain rfl : g = 18446744073709551615 := by omega
    have HP : Hid (∀ W : World, Calls Try.prog 30 #[.int .u64 (a : Int), .int .u64 18446744073709551615] W fun e w' => e = .returned (.int .u64 (p : Int)) ∧ W = w') := Lib.hid HP.out
    go_upto_region 8 with fail
    generalize World.alloc (World.alloc w _) _ = w2 at *
    obtain ⟨q, hq⟩ : ∃ q, w.heap.size = q := ⟨_, rfl⟩
    rw [hq] at HA HZ ⊢
    have HQ := Lib.hid hq
    obtain ⟨c0, c1, c2, c3, c4, c5, cf⟩ := CB.cells HA.out
    clear hq cf
    have hqq : ¬ q = q + 1 := by omega
    have hqq' : ¬ q + 1 = q := by omega
    go_region_held3 (fun w' => w'.cell? ⟨q, 0, none⟩ = some (.int .u64 (l : Int)) ∧ w'.cell? ⟨q, 1, none⟩ = some (.int .u64 (m : Int)) ∧ w'.cell? ⟨q, 2, none⟩ = some (.int .u64 (wt : Int)) ∧ w'.cell? ⟨q, 3, none⟩ = some (.int .u64 (a : Int)) ∧ w'.cell? ⟨q, 4, none⟩ = some (.int .u64 (o : Int)) ∧ w'.cell? ⟨q, 5, none⟩ = some (.bool true)) (go_keep) (first | (go_at_call 30; (try rw [hgx]); (with_reducible refine (HP.out _).mono ?_); rintro e w' ⟨rfl, rfl⟩) | (go_at_call 28; (with_reducible refine (HB.out _).mono ?_); rintro e w3 ⟨rfl, ho3⟩; have hx3 : Only [] w2 w3 := (by first | exact (Only.refl [] w2).drew.then ho3 | exact ho3); obtain ⟨g0, g1, g2, g3, g4, g5, gf⟩ := CB.cells (HA.out.only hx3 (by simp)); obtain ⟨d0, d1, d2, d3, d4, d5, df⟩ := CB.cells (HZ.out.only hx3 (by simp)); have HX3 := Lib.hid hx3; clear ho3 hx3 gf))
    go_wp2
    (try simp only [Exit.inBlock, Exit.then])
    refine bodyPost_ret (v := .agg #[.int .u64 (l : Int), .int .u64 (m : Int), .int .u64 (y : Int), .int .u64 (a : Int), .int .u64 (o : Int), .bool true]) (by rw [results_cell rfl]; go_simp) rfl ⟨rfl, only_set6 (HO2.out.then HX3.out) (by have := HQ.out; omega) _ _ _ _ _ _⟩
  · have hgx : (if (1 : Int) < (o : Int) * 4 then (o : Int) * 4 else 1) = (g : Int) := by split <;> omega
    have hgx2 : max (1 : Int) ((o : Int) * 4) = (g : Int) := by omega
    have hsh : IntKind.u64.wrap ((o : Int) * 2 ^ 2) = (f : Int) := by rw [IntKind.wrap_u64]; omega
    go_upto_region 8 with fail
    generalize World.alloc (World.alloc w _) _ = w2 at *
    obtain ⟨q, hq⟩ : ∃ q, w.heap.size = q := ⟨_, rfl⟩
    rw [hq] at HA HZ ⊢
    have HQ := Lib.hid hq
    obtain ⟨c0, c1, c2, c3, c4, c5, cf⟩ := CB.cells HA.out
    clear hq cf
    have hqq : ¬ q = q + 1 := by omega
    have hqq' : ¬ q + 1 = q := by omega
    go_region_held3 (fun w' => w'.cell? ⟨q, 0, none⟩ = some (.int .u64 (l : Int)) ∧ w'.cell? ⟨q, 1, none⟩ = some (.int .u64 (m : Int)) ∧ w'.cell? ⟨q, 2, none⟩ = some (.int .u64 (wt : Int)) ∧ w'.cell? ⟨q, 3, none⟩ = some (.int .u64 (a : Int)) ∧ w'.cell? ⟨q, 4, none⟩ = some (.int .u64 (o : Int)) ∧ w'.cell? ⟨q, 5, none⟩ = some (.bool true)) (go_keep) (first | (go_at_call 30; (try rw [hgx]); (with_reducible refine (HP.out _).mono ?_); rintro e w' ⟨rfl, rfl⟩) | (go_at_call 28; (with_reducible refine (HB.out _).mono ?_); rintro e w3 ⟨rfl, ho3⟩; have hx3 : Only [] w2 w3 := (by first | exact (Only.refl [] w2).drew.then ho3 | exact ho3); obtain ⟨g0, g1, g2, g3, g4, g5, gf⟩ := CB.cells (HA.out.only hx3 (by simp)); obtain ⟨d0, d1, d2, d3, d4, d5, df⟩ := CB.cells (HZ.out.only hx3 (by simp)); have HX3 := Lib.hid hx3; clear ho3 hx3 gf))
    go_wp2
    (try simp only [Exit.inBlock, Exit.then])
    refine bodyPost_ret (v := .agg #[.int .u64 (l : Int), .int .u64 (m : Int), .int .u64 (y : Int), .int .u64 (a : Int), .int .u64 (o : Int), .bool true]) (by rw [results_cell rfl]; go_simp) rfl ⟨rfl, only_set6 (HO2.out.then HX3.out) (by have := HQ.out; omega) _ _ _ _ _ _⟩
end Go.Proofs.Ytidkadlmnidmoaa.arq
