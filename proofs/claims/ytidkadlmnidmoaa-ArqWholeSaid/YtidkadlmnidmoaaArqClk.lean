/-
  THE WALKS of the clock: Add64 (the model stands in), plus, within, bounded, NewClock.
-/
import Derived.Test.YtidkadlmnidmoaaRows
import Derived.Test.YtidkadlmnidmoaaGen5
import Derived.WalkSpells
import Derived.PlainAid
import Derived.Laws.OwnMore
import Derived.Laws.Externs
import Derived.Laws.ResultCell
import Derived.Handy
import Derived.Deep.RegionHeld3
import Derived.RangeFuncBox
import Derived.Deep.DeepCutAuto
import Derived.Deep.RegionWith
import Derived.Outline
import Derived.BigQuiet
import Derived.OwnWalk
import Derived.RegionTactic
set_option linter.unusedVariables false
set_option linter.unusedSimpArgs false
namespace Go.Lm.Arq
/-- A sum that doesn't go over. -/
def plus (a b : Nat) : Nat := if a + b < 18446744073709551616 then a + b else 18446744073709551615
def within (x least most : Nat) : Nat := min (max x least) most
/-- A clock. -/
structure Clk where
  least : Nat
  most : Nat
  wait : Nat
  mean : Nat
  off : Nat
  any : Bool
def bounded (c : Clk) (x : Nat) : Clk := ⟨c.least, c.most, within x c.least c.most, c.mean, c.off, c.any⟩
def newClock (first least most : Nat) : Clk := bounded ⟨least, most, 0, 0, 0, false⟩ first
def late (c : Clk) : Clk := bounded c (plus c.wait c.wait)
structure Ok (c : Clk) : Prop where
  least : c.least < 18446744073709551616
  most : c.most < 18446744073709551616
  wait : c.wait < 18446744073709551616
  mean : c.mean < 18446744073709551616
  off : c.off < 18446744073709551616
theorem plus_lt (a b : Nat) : plus a b < 18446744073709551616 := by unfold plus; split <;> omega
end Go.Lm.Arq
namespace Go.Proofs.Ytidkadlmnidmoaa.arq
open Go Go.RowKit Go.Lm

def clkV (c : Arq.Clk) : Value := .agg #[.int .u64 (c.least : Int), .int .u64 (c.most : Int), .int .u64 (c.wait : Int), .int .u64 (c.mean : Int), .int .u64 (c.off : Int), .bool c.any]

/-- BODILESS: Add64, the model's own entry. -/
theorem run_add64 (x y : Nat) (w : World) : (callFunc 37 #[.int .u64 (x : Int), .int .u64 (y : Int), .int .u64 0]).run Try.prog w =
    .ok (.value (.tuple #[.int .u64 (((x + y) % 18446744073709551616 : Nat) : Int), .int .u64 (((x + y) / 18446744073709551616 : Nat) : Int)])) w := by
  rw [run_callFunc_extern Try.func37 (by kernel_rfl) (by kernel_rfl) (by kernel_rfl) (e := (Extern.MathBitsCarry.rows[0]'(by decide)).2) (by kernel_rfl)]
  have h : ((Extern.MathBitsCarry.rows[0]'(by decide)).2 #[.int .u64 (x : Int), .int .u64 (y : Int), .int .u64 0]).run Try.prog w = .ok (Extern.MathBitsCarry.pair ((x + y + 0) % Extern.MathBitsCarry.m64) ((x + y + 0) / Extern.MathBitsCarry.m64)) w := rfl
  rw [h]
  rfl

/-- BODILESS. -/
theorem plus_c (w : World) (x y : Nat) (hx : x < 18446744073709551616) (hy : y < 18446744073709551616) : Calls Try.prog 30 #[.int .u64 (x : Int), .int .u64 (y : Int)] w fun e w' => e = .returned (.int .u64 (Arq.plus x y : Nat)) ∧ w = w' := by
  have hadd := run_add64 x y w
  unfold Arq.plus
  by_cases h : x + y < 18446744073709551616
  · have e1 : (x + y) / 18446744073709551616 = 0 := Nat.div_eq_of_lt h
    rw [Nat.mod_eq_of_lt h, e1] at hadd
    rw [if_pos h]
    obtain ⟨z, hz⟩ : ∃ z, x + y = z := ⟨_, rfl⟩
    rw [hz] at hadd ⊢
    rw [show ((0 : Nat) : Int) = 0 from rfl] at hadd
    clear e1 hz
    go_enter Try.func30, Try.ntmps30
    go_wp2
    go_ret
    exact ⟨rfl, rfl⟩
  · have e1 : (x + y) / 18446744073709551616 = 1 := by omega
    obtain ⟨z, hz⟩ : ∃ z, (x + y) % 18446744073709551616 = z := ⟨_, rfl⟩
    rw [hz, e1] at hadd
    rw [if_neg h]
    rw [show ((1 : Nat) : Int) = 1 from rfl] at hadd
    clear e1 hz
    go_enter Try.func30, Try.ntmps30
    go_wp2
    go_ret
    exact ⟨rfl, rfl⟩

theorem within_c (w : World) (x l m : Nat) : Calls Try.prog 36 #[.int .u64 (x : Int), .int .u64 (l : Int), .int .u64 (m : Int)] w fun e w' => e = .returned (.int .u64 (Arq.within x l m : Nat)) ∧ w = w' := by
  unfold Arq.within
  by_cases h1 : x < l
  · have g1 : (x : Int) < (l : Int) := by omega
    rw [Nat.max_eq_right (by omega)]
    by_cases h2 : m < l
    · have g2 : (m : Int) < (l : Int) := by omega
      rw [Nat.min_eq_right (by omega)]
      go_enter Try.func36, Try.ntmps36
      go_wp2
      go_ret
      exact ⟨by first | rfl | simp [*], rfl⟩
    · have g2 : ¬ ((m : Int) < (l : Int)) := by omega
      rw [Nat.min_eq_left (by omega)]
      go_enter Try.func36, Try.ntmps36
      go_wp2
      go_ret
      exact ⟨by first | rfl | simp [*], rfl⟩
  · have g1 : ¬ ((x : Int) < (l : Int)) := by omega
    rw [Nat.max_eq_left (by omega)]
    by_cases h2 : m < x
    · have g2 : (m : Int) < (x : Int) := by omega
      rw [Nat.min_eq_right (by omega)]
      go_enter Try.func36, Try.ntmps36
      go_wp2
      go_ret
      exact ⟨by first | rfl | simp [*], rfl⟩
    · have g2 : ¬ ((m : Int) < (x : Int)) := by omega
      rw [Nat.min_eq_left (by omega)]
      go_enter Try.func36, Try.ntmps36
      go_wp2
      go_ret
      exact ⟨by first | rfl | simp [*], rfl⟩

/-- Block b holds a clock. -/
def CB (w : World) (b : Nat) (t : TypeId) (c : Arq.Clk) : Prop := w.heap[b]? = some (.cells #[.int .u64 (c.least : Int), .int .u64 (c.most : Int), .int .u64 (c.wait : Int), .int .u64 (c.mean : Int), .int .u64 (c.off : Int), .bool c.any] t (0, 0))
theorem CB.cells {w : World} {b : Nat} {t : TypeId} {c : Arq.Clk} (h : CB w b t c) : w.cell? ⟨b, 0, none⟩ = some (.int .u64 (c.least : Int)) ∧ w.cell? ⟨b, 1, none⟩ = some (.int .u64 (c.most : Int)) ∧ w.cell? ⟨b, 2, none⟩ = some (.int .u64 (c.wait : Int)) ∧ w.cell? ⟨b, 3, none⟩ = some (.int .u64 (c.mean : Int)) ∧
    w.cell? ⟨b, 4, none⟩ = some (.int .u64 (c.off : Int)) ∧ w.cell? ⟨b, 5, none⟩ = some (.bool c.any) ∧ ∀ k, w.frozen? ⟨b, k, none⟩ = false := by
  unfold CB at h
  refine ⟨?_, ?_, ?_, ?_, ?_, ?_, fun k => by simp [World.frozen?, h]⟩
  all_goals
    rw [cell_of_row _ _ _ _ _ _ h]
    rfl
theorem CB.only {S : List Nat} {w w' : World} {b : Nat} {t : TypeId} {c : Arq.Clk} (h : CB w b t c) (ho : Only S w w') (hn : b ∉ S) : CB w' b t c := ho.heap h hn
theorem CB.new (w : World) (t : TypeId) (c : Arq.Clk) : CB (w.alloc (.cells #[.int .u64 (c.least : Int), .int .u64 (c.most : Int), .int .u64 (c.wait : Int), .int .u64 (c.mean : Int), .int .u64 (c.off : Int), .bool c.any] t (0, 0))) w.heap.size t c := heap_alloc_new w _
theorem only_set6 {S : List Nat} {w0 w : World} {D : Nat} (h : Only S w0 w) (hD : w0.heap.size ≤ D) (v0 v1 v2 v3 v4 v5 : Value) :
    Only S w0 ((((((w.setCell ⟨D, 0, none⟩ v0).setCell ⟨D, 1, none⟩ v1).setCell ⟨D, 2, none⟩ v2).setCell ⟨D, 3, none⟩ v3).setCell ⟨D, 4, none⟩ v4).setCell ⟨D, 5, none⟩ v5) :=
  (((((h.setCell (.inr hD) _).setCell (.inr hD) _).setCell (.inr hD) _).setCell (.inr hD) _).setCell (.inr hD) _).setCell (.inr hD) _
theorem results_cell {fn : Func} {p : Tmp} {ty : TypeId} (h : fn.results = #[.cell p ty]) (tmps : Array Value) (P : Program) (w : World) :
    (results fn tmps).run P w =
      ((asAddr (tmps.getD p undef)).run P w).andThen fun a w₁ => (loadVar ty a).run P w₁ := by
  simp only [results, h]
  simp [Sem.run_bind, Result.andThen]

set_option maxHeartbeats 1000000 in
theorem bounded_c (w : World) (c : Arq.Clk) (x : Nat) : Calls Try.prog 28 #[clkV c, .int .u64 (x : Int)] w fun e w' => e = .returned (clkV (Arq.bounded c x)) ∧ Only [] w w' := by
  unfold clkV Arq.bounded
  simp only []
  go_enter Try.func28, Try.ntmps28
  go_wp2_with fail
  refine (within_c _ x c.least c.most).mono ?_
  rintro e w' ⟨rfl, rfl⟩
  obtain ⟨y, hy⟩ : ∃ y, Arq.within x c.least c.most = y := ⟨_, rfl⟩
  rw [hy]
  go_wp2
  (try simp only [Exit.inBlock, Exit.then])
  refine bodyPost_ret (v := .agg #[.int .u64 (c.least : Int), .int .u64 (c.most : Int), .int .u64 (y : Int), .int .u64 (c.mean : Int), .int .u64 (c.off : Int), .bool c.any]) (by rw [results_cell rfl]; go_simp) rfl ⟨by rw [hy], ((Only.refl [] w).alloc _).alloc _⟩

set_option maxHeartbeats 1000000 in
theorem newclock_c (w : World) (f l m : Nat) : Calls Try.prog 16 #[.int .u64 (f : Int), .int .u64 (l : Int), .int .u64 (m : Int)] w fun e w' => e = .returned (clkV (Arq.newClock f l m)) ∧ Only [] w w' := by
  have HB := Lib.hid (fun W => bounded_c W ⟨l, m, 0, 0, 0, false⟩ f)
  obtain ⟨y, hy⟩ : ∃ y, Arq.within f l m = y := ⟨_, rfl⟩
  have hres : clkV (Arq.bounded ⟨l, m, 0, 0, 0, false⟩ f) = .agg #[.int .u64 (l : Int), .int .u64 (m : Int), .int .u64 (y : Int), .int .u64 0, .int .u64 0, .bool false] := by
    unfold clkV Arq.bounded
    simp only [hy]
    rfl
  have HR := Lib.hid hres
  unfold Arq.newClock
  clear hy hres
  go_enter Try.func16, Try.ntmps16
  go_wp2_with fail
  refine (HB.out _).mono ?_
  rintro e w2 ⟨rfl, ho2⟩
  have hb := ho2.heap (heap_alloc_new w _) (by simp)
  have HO2 := Lib.hid (((Only.refl [] w).alloc _).then ho2)
  rw [HR.out]
  have hc : CB w2 w.heap.size 43 ⟨0, 0, 0, 0, 0, false⟩ := hb
  obtain ⟨c0, c1, c2, c3, c4, c5, cf⟩ := CB.cells hc
  clear hb ho2 hc
  go_wp2
  (try simp only [Exit.inBlock, Exit.then])
  refine bodyPost_ret (v := .agg #[.int .u64 (l : Int), .int .u64 (m : Int), .int .u64 (y : Int), .int .u64 0, .int .u64 0, .bool false]) (by rw [results_cell rfl]; go_simp) rfl ⟨by rw [HR.out], only_set6 HO2.out (Nat.le_refl _) _ _ _ _ _ _⟩

set_option maxHeartbeats 2000000 in
theorem late_c (w : World) (c : Arq.Clk) (hw : c.wait < 18446744073709551616) : Calls Try.prog 18 #[clkV c] w fun e w' => e = .returned (clkV (Arq.late c)) ∧ Only [] w w' := by
  obtain ⟨p, hp⟩ : ∃ p, Arq.plus c.wait c.wait = p := ⟨_, rfl⟩
  have HP : Hid (∀ W : World, Calls Try.prog 30 #[.int .u64 (c.wait : Int), .int .u64 (c.wait : Int)] W fun e w' => e = .returned (.int .u64 (p : Int)) ∧ W = w') := Lib.hid (fun W => by have h := plus_c W c.wait c.wait hw hw; rw [hp] at h; exact h)
  obtain ⟨y, hy⟩ : ∃ y, Arq.within p c.least c.most = y := ⟨_, rfl⟩
  have HB : Hid (∀ W : World, Calls Try.prog 28 #[.agg #[.int .u64 (c.least : Int), .int .u64 (c.most : Int), .int .u64 (c.wait : Int), .int .u64 (c.mean : Int), .int .u64 (c.off : Int), .bool c.any], .int .u64 (p : Int)] W fun e w' => e = .returned (.agg #[.int .u64 (c.least : Int), .int .u64 (c.most : Int), .int .u64 (y : Int), .int .u64 (c.mean : Int), .int .u64 (c.off : Int), .bool c.any]) ∧ Only [] W w') := Lib.hid (fun W => by have h := bounded_c W c p; unfold Arq.bounded clkV at h; rw [hy] at h; exact h)
  have HR : Hid (clkV (Arq.late c) = .agg #[.int .u64 (c.least : Int), .int .u64 (c.most : Int), .int .u64 (y : Int), .int .u64 (c.mean : Int), .int .u64 (c.off : Int), .bool c.any]) := Lib.hid (by unfold Arq.late Arq.bounded clkV; simp only [hp, hy])
  clear hp hy
  rw [HR.out]
  unfold clkV
  go_enter Try.func18, Try.ntmps18
  go_upto_region 1 with fail
  have hA : CB (w.alloc (.cells #[.int .u64 (c.least : Int), .int .u64 (c.most : Int), .int .u64 (c.wait : Int), .int .u64 (c.mean : Int), .int .u64 (c.off : Int), .bool c.any] 43 (0, 0))) w.heap.size 43 c := CB.new w _ c
  have hsz : (w.alloc (.cells #[.int .u64 (c.least : Int), .int .u64 (c.most : Int), .int .u64 (c.wait : Int), .int .u64 (c.mean : Int), .int .u64 (c.off : Int), .bool c.any] 43 (0, 0))).heap.size = w.heap.size + 1 := by simp
  have HO1 : Hid (Only [] w (w.alloc (.cells #[.int .u64 (c.least : Int), .int .u64 (c.most : Int), .int .u64 (c.wait : Int), .int .u64 (c.mean : Int), .int .u64 (c.off : Int), .bool c.any] 43 (0, 0)))) := Lib.hid ((Only.refl [] w).alloc _)
  generalize World.alloc w _ = w1 at *
  have hA2 : CB (w1.alloc (.cells #[.int .u64 0, .int .u64 0, .int .u64 0, .int .u64 0, .int .u64 0, .bool false] 43 (0, 0))) w.heap.size 43 c := hA.only ((Only.refl [] w1).alloc _) (by simp)
  have hZ2 : CB (w1.alloc (.cells #[.int .u64 0, .int .u64 0, .int .u64 0, .int .u64 0, .int .u64 0, .bool false] 43 (0, 0))) (w.heap.size + 1) 43 ⟨0, 0, 0, 0, 0, false⟩ := by
    have h := CB.new w1 43 ⟨0, 0, 0, 0, 0, false⟩
    rw [hsz] at h
    exact h
  have HO2 : Hid (Only [] w (w1.alloc (.cells #[.int .u64 0, .int .u64 0, .int .u64 0, .int .u64 0, .int .u64 0, .bool false] 43 (0, 0)))) := Lib.hid (HO1.out.alloc _)
  generalize World.alloc w1 _ = w2 at *
  obtain ⟨q, hq⟩ : ∃ q, w.heap.size = q := ⟨_, rfl⟩
  rw [hq] at hA2 hZ2 ⊢
  have HQ := Lib.hid hq
  have HA := Lib.hid hA2; have HZ := Lib.hid hZ2
  obtain ⟨c0, c1, c2, c3, c4, c5, cf⟩ := CB.cells hA2
  clear hA hA2 hZ2 hsz hq cf
  have hqq : ¬ q = q + 1 := by omega
  have hqq' : ¬ q + 1 = q := by omega
  --@1
  go_region_held3 (fun w' => w'.cell? ⟨q, 0, none⟩ = some (.int .u64 (c.least : Int)) ∧ w'.cell? ⟨q, 1, none⟩ = some (.int .u64 (c.most : Int)) ∧ w'.cell? ⟨q, 2, none⟩ = some (.int .u64 (c.wait : Int)) ∧ w'.cell? ⟨q, 3, none⟩ = some (.int .u64 (c.mean : Int)) ∧ w'.cell? ⟨q, 4, none⟩ = some (.int .u64 (c.off : Int)) ∧ w'.cell? ⟨q, 5, none⟩ = some (.bool c.any)) (go_keep) (first | (go_at_call 30; (with_reducible refine (HP.out _).mono ?_); rintro e w' ⟨rfl, rfl⟩) | (go_at_call 28; (with_reducible refine (HB.out _).mono ?_); rintro e w3 ⟨rfl, ho3⟩; have hx3 : Only [] w2 w3 := (by first | exact (Only.refl [] w2).drew.then ho3 | exact ho3); obtain ⟨g0, g1, g2, g3, g4, g5, gf⟩ := CB.cells (HA.out.only hx3 (by simp)); obtain ⟨d0, d1, d2, d3, d4, d5, df⟩ := CB.cells (HZ.out.only hx3 (by simp)); have HX3 := Lib.hid hx3; clear ho3 hx3 gf))
  --@2
  go_wp2
  (try simp only [Exit.inBlock, Exit.then])
  refine bodyPost_ret (v := .agg #[.int .u64 (c.least : Int), .int .u64 (c.most : Int), .int .u64 (y : Int), .int .u64 (c.mean : Int), .int .u64 (c.off : Int), .bool c.any]) (by rw [results_cell rfl]; go_simp) rfl ⟨rfl, only_set6 (HO2.out.then HX3.out) (by have := HQ.out; omega) _ _ _ _ _ _⟩
end Go.Proofs.Ytidkadlmnidmoaa.arq
