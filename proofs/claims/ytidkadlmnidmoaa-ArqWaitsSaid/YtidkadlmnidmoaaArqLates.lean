/-
  ArqLate, walked.
-/
import Derived.Test.YtidkadlmnidmoaaArqAwake
set_option linter.unusedVariables false
set_option linter.unusedSimpArgs false
namespace Go.Proofs.Ytidkadlmnidmoaa.arq
open Go Go.RowKit Go.Lm

theorem late_bare (m x y : Nat) (hx : x ≤ m) (hm : m < 4294967296) (hy : min (2 * x) m = y) (W : World) : Calls Try.prog 18 #[.agg #[.int .u64 0, .int .u64 (m : Int), .int .u64 (x : Int), .int .u64 0, .int .u64 0, .bool false]] W
    fun e w' => e = .returned (.agg #[.int .u64 0, .int .u64 (m : Int), .int .u64 (y : Int), .int .u64 0, .int .u64 0, .bool false]) ∧ Only [] W w' := by
  have h := late_c W ⟨0, m, x, 0, 0, false⟩ (show x < _ by omega)
  have e : Arq.late ⟨0, m, x, 0, 0, false⟩ = ⟨0, m, y, 0, 0, false⟩ := by
    unfold Arq.late Arq.bounded Arq.within Arq.plus
    simp only
    rw [if_pos (by omega)]
    congr 1
    omega
  rw [e] at h
  exact h

theorem CB.put {w : World} {b : Nat} {t : TypeId} {c : Arq.Clk} (h : CB w b t c) (c' : Arq.Clk) : CB ((((((w.setCell ⟨b, 0, none⟩ (.int .u64 (c'.least : Int))).setCell ⟨b, 1, none⟩ (.int .u64 (c'.most : Int))).setCell ⟨b, 2, none⟩ (.int .u64 (c'.wait : Int))).setCell ⟨b, 3, none⟩ (.int .u64 (c'.mean : Int))).setCell ⟨b, 4, none⟩ (.int .u64 (c'.off : Int))).setCell ⟨b, 5, none⟩ (.bool c'.any)) b t c' := by
  unfold CB at *
  have h0 := Lm.heap_setCell_same (k := 0) h (.int .u64 (c'.least : Int))
  have h1 := Lm.heap_setCell_same (k := 1) h0 (.int .u64 (c'.most : Int))
  have h2 := Lm.heap_setCell_same (k := 2) h1 (.int .u64 (c'.wait : Int))
  have h3 := Lm.heap_setCell_same (k := 3) h2 (.int .u64 (c'.mean : Int))
  have h4 := Lm.heap_setCell_same (k := 4) h3 (.int .u64 (c'.off : Int))
  exact (Lm.heap_setCell_same (k := 5) h4 (.bool c'.any)).trans rfl

set_option maxRecDepth 100000 in
set_option maxHeartbeats 20000000 in
theorem lates_c (w : World) (f m n : Nat) (hf : f < 4294967296) (hm : m < 4294967296) (hn : n < 256) : Calls Try.prog 8 #[.int .u32 (f : Int), .int .u32 (m : Int), .int .u8 (n : Int)] w fun e w' => e = .returned (.bool true) ∧ Below w.heap.size w w' := by
  obtain ⟨N, hN⟩ : ∃ N, n % 50 = N := ⟨_, rfl⟩
  have hN1 : (n : Int) % 50 = (N : Int) := by omega
  have hN2 : (n : Int).tmod 50 = (N : Int) := by rw [Int.tmod_eq_emod_of_nonneg (by omega)]; exact hN1
  have hN50 : N < 50 := by omega
  obtain ⟨x0, hx0⟩ : ∃ x0, min f m = x0 := ⟨_, rfl⟩
  have hx0m : x0 ≤ m := by omega
  have hc : clkV (Arq.newClock f 0 m) = .agg #[.int .u64 0, .int .u64 (m : Int), .int .u64 (x0 : Int), .int .u64 0, .int .u64 0, .bool false] := by
    unfold Arq.newClock Arq.bounded Arq.within clkV
    simp only
    rw [show min (max f 0) m = x0 by omega]
    rfl
  have HC := Lib.hid hc
  have HX0 := Lib.hid hx0
  have HN := Lib.hid hN
  clear hc hx0 hN
  have wm : IntKind.u64.wrap (m : Int) = (m : Int) := by rw [IntKind.wrap_u64]; omega
  have wf : IntKind.u64.wrap (f : Int) = (f : Int) := by rw [IntKind.wrap_u64]; omega
  go_enter Try.func8, Try.ntmps8
  go_wp2_with fail
  refine (awake_c w).mono ?_
  rintro e w1 ⟨rfl, ho1⟩
  have HO1 := Lib.hid ho1
  clear ho1
  go_wp2_with fail
  refine (newclock_c w1 f 0 m).mono ?_
  rintro e w2 ⟨rfl, ho2⟩
  have HO2 := Lib.hid (HO1.out.then ho2)
  rw [HC.out]
  clear ho2 HO1
  go_upto_if 24 with fail
  have hcb := CB.new w2 43 ⟨0, m, x0, 0, 0, false⟩
  have HO3 := Lib.hid (HO2.out.alloc (.cells #[.int .u64 0, .int .u64 (m : Int), .int .u64 (x0 : Int), .int .u64 0, .int .u64 0, .bool false] 43 (0, 0)))
  --@1
  generalize World.alloc w2 _ = w3 at *
  obtain ⟨C, hC⟩ : ∃ C, w2.heap.size = C := ⟨_, rfl⟩
  rw [hC] at hcb ⊢
  have HCB := Lib.hid hcb
  have HCW : Hid (w.heap.size ≤ C) := Lib.hid (by have := HO2.out.size; omega)
  clear hcb hC
  go_cut [9] (fun wt wx => wt = .int .u64 (x0 : Nat) ∧ wx = w3)
  case first =>
    rcases (show ((m : Int) < (f : Int) ∧ x0 = m) ∨ (¬ ((m : Int) < (f : Int)) ∧ x0 = f) by have := HX0.out; omega) with ⟨hfm, he⟩ | ⟨hfm, he⟩
    · have HE := Lib.hid he
      clear HX0 HC he
      go_wp2
      go_meet
      exact ⟨by rw [HE.out], rfl⟩
    · have HE := Lib.hid he
      clear HX0 HC he
      go_wp2
      go_meet
      exact ⟨by rw [HE.out], rfl⟩
  case rest =>
    obtain ⟨rfl, rfl⟩ := hcut
    clear HX0 HC wf
    go_wp2_with fail
    go_loopw [9, 10] (fun wt i wr => ∃ k x : Nat, k ≤ N ∧ x ≤ m ∧ wt = .int .u64 (x : Nat) ∧ i = .int .i64 (k : Nat) ∧ CB wr C 43 ⟨0, m, x, 0, 0, false⟩ ∧ Only [] w wr) (fun _ i _ => N - (intOf i).toNat)
    case atStart => exact ⟨0, x0, Nat.zero_le _, hx0m, rfl, rfl, HCB.out, HO3.out⟩
    case round =>
      obtain ⟨k, x, hk, hx, rfl, rfl, hcb, ho⟩ := hrel
      have HO := Lib.hid ho; have HCB := Lib.hid hcb
      obtain ⟨e0, e1, e2, e3, e4, e5, ef⟩ := hcb.cells
      replace e0 : wr.cell? ⟨C, 0, none⟩ = some (.int .u64 0) := e0
      replace e1 : wr.cell? ⟨C, 1, none⟩ = some (.int .u64 (m : Int)) := e1
      replace e2 : wr.cell? ⟨C, 2, none⟩ = some (.int .u64 (x : Int)) := e2
      replace e3 : wr.cell? ⟨C, 3, none⟩ = some (.int .u64 0) := e3
      replace e4 : wr.cell? ⟨C, 4, none⟩ = some (.int .u64 0) := e4
      replace e5 : wr.cell? ⟨C, 5, none⟩ = some (.bool false) := e5
      clear ho hcb ef
      by_cases hlt : k < N
      · have hltI : (k : Int) < (N : Int) := by omega
        obtain ⟨y, hy⟩ : ∃ y, min (2 * x) m = y := ⟨_, rfl⟩
        have HL := Lib.hid (fun W => late_bare m x y hx hm hy W)
        have HY := Lib.hid hy
        clear hy
        go_wp2_with fail
        refine (HL.out wr).mono ?_
        rintro e w4 ⟨rfl, ho4⟩
        have HCB4 := Lib.hid (HCB.out.only ho4 (by simp))
        have HO4 := Lib.hid (HO.out.then ho4)
        clear ho4 e0 e1 e2 e3 e4 e5 HO HCB
        obtain ⟨e0, e1, e2, e3, e4, e5, ef⟩ := HCB4.out.cells
        have HCB5 := Lib.hid (HCB4.out.put ⟨0, m, y, 0, 0, false⟩)
        have HO5 := Lib.hid (only_set6 HO4.out HCW.out (.int .u64 0) (.int .u64 (m : Int)) (.int .u64 (y : Int)) (.int .u64 0) (.int .u64 0) (.bool false))
        replace e0 : w4.cell? ⟨C, 0, none⟩ = some (.int .u64 0) := e0
        replace e1 : w4.cell? ⟨C, 1, none⟩ = some (.int .u64 (m : Int)) := e1
        replace e2 : w4.cell? ⟨C, 2, none⟩ = some (.int .u64 (x : Int)) := e2
        replace e3 : w4.cell? ⟨C, 3, none⟩ = some (.int .u64 0) := e3
        replace e4 : w4.cell? ⟨C, 4, none⟩ = some (.int .u64 0) := e4
        replace e5 : w4.cell? ⟨C, 5, none⟩ = some (.bool false) := e5
        go_upto_region 14 with fail
        generalize World.setCell _ _ _ = w5 at *
        clear e0 e1 e2 e3 e4 e5 ef
        obtain ⟨z, hz⟩ : ∃ z, 2 * x = z := ⟨_, rfl⟩
        have wx : IntKind.u64.wrap (2 * (x : Int)) = (z : Int) := by rw [IntKind.wrap_u64]; omega
        rcases (show ((m : Int) < (z : Int) ∧ y = m) ∨ (¬ ((m : Int) < (z : Int)) ∧ y = z) by have := HY.out; omega) with ⟨h2, hye⟩ | ⟨h2, hye⟩
        all_goals clear hz
        · have HYE := Lib.hid hye
          clear hye
          go_wp2
          --@4
          go_roundw
          --@5
          case rel => exact ⟨k + 1, y, by omega, by have := HYE.out; omega, by rw [HYE.out], by go_num, HCB5.out, HO5.out⟩
          case measure => simp [intOf]; omega
        · have HYE := Lib.hid hye
          clear hye
          --@6
          go_wp2
          --@7
          go_roundw
          --@8
          case rel => exact ⟨k + 1, y, by omega, by have := HYE.out; omega, by rw [HYE.out], by go_num, HCB5.out, HO5.out⟩
          case measure => simp [intOf]; omega
      · obtain rfl : k = N := by omega
        --@3
        go_wp2
        go_ret
        exact ⟨by simp, HO.out.below (by simp) (Nat.le_refl _)⟩
end Go.Proofs.Ytidkadlmnidmoaa.arq
