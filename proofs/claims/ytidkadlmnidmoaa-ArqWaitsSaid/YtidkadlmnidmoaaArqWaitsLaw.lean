/-
  ArqWaits, walked.
-/
import Derived.Test.YtidkadlmnidmoaaArqClocksLaw
set_option linter.unusedVariables false
set_option linter.unusedSimpArgs false
namespace Go.Lm.Arq
theorem within_in (x l m : Nat) (h : l ≤ m) : l ≤ within x l m ∧ within x l m ≤ m := by unfold within; omega
/-- A clock's wait behind answers that always take as long. -/
def steady (a o : Nat) : Nat := a + max 1 (4 * o)
theorem part_same (a : Nat) : part a 7 a = a := by unfold part; omega
theorem part_less (o a : Nat) (h : o ≤ a) : part o 3 0 ≤ a := by unfold part; omega
theorem waited_steady (l m wt a o : Nat) (ha : a < 4294967296) (ho : o ≤ a / 2) : waited ⟨l, m, wt, a, o, true⟩ = ⟨l, m, within (steady a o) l m, a, o, true⟩ := by
  unfold waited bounded steady four
  simp only
  rw [if_neg (by omega)]
  unfold plus
  rw [if_pos (by omega)]
theorem came_first (l m wt a : Nat) (ha : a < 4294967296) : came ⟨l, m, wt, 0, 0, false⟩ a = ⟨l, m, within (steady a (a / 2)) l m, a, a / 2, true⟩ := by
  unfold came newMean newOff
  simp only [Bool.false_eq_true, if_false]
  exact waited_steady l m wt a (a / 2) ha (Nat.le_refl _)
theorem came_next (l m wt a o : Nat) (ha : a < 4294967296) (ho : o ≤ a / 2) : came ⟨l, m, wt, a, o, true⟩ a = ⟨l, m, within (steady a (part o 3 0)) l m, a, part o 3 0, true⟩ := by
  unfold came newMean newOff
  simp only [if_true]
  rw [part_same, show max a a - min a a = 0 by omega]
  exact waited_steady l m wt a _ ha (part_less o _ ho)
end Go.Lm.Arq
namespace Go.Proofs.Ytidkadlmnidmoaa.arq
open Go Go.RowKit Go.Lm

/-- What the second loop keeps. -/
def Wtd (l m a k : Nat) (c : Arq.Clk) : Prop := (k = 0 ∧ ∃ x, c = ⟨l, m, x, 0, 0, false⟩ ∧ l ≤ x ∧ x ≤ m) ∨ (0 < k ∧ ∃ o, o ≤ a / 2 ∧ c = ⟨l, m, Arq.within (Arq.steady a o) l m, a, o, true⟩)
theorem Wtd.next {l m a k : Nat} {c : Arq.Clk} (h : Wtd l m a k c) (ha : a < 4294967296) : ∃ o, o ≤ a / 2 ∧ Arq.came c a = ⟨l, m, Arq.within (Arq.steady a o) l m, a, o, true⟩ := by
  rcases h with ⟨_, x, rfl, _⟩ | ⟨_, o, ho, rfl⟩
  · exact ⟨a / 2, Nat.le_refl _, Arq.came_first l m x a ha⟩
  · exact ⟨Arq.part o 3 0, Arq.part_less o _ ho, Arq.came_next l m _ a o ha ho⟩
theorem Wtd.bounds {l m a k : Nat} {c : Arq.Clk} (h : Wtd l m a k c) (hlm : l ≤ m) (hm : m < 8589934592) (ha : a < 4294967296) : c.mean < 18446744073709551616 ∧ c.off < 18446744073709551616 := by
  rcases h with ⟨_, x, rfl, _⟩ | ⟨_, o, ho, rfl⟩
  · exact ⟨by show (0 : Nat) < _; omega, by show (0 : Nat) < _; omega⟩
  · exact ⟨by show a < _; omega, by show o < _; omega⟩

theorem late_wait (l m x : Nat) (hlm : l ≤ m) (hm : m < 8589934592) (hx : x ≤ m) (W : World) : ∃ y, l ≤ y ∧ y ≤ m ∧ ∀ W : World, Calls Try.prog 18 #[.agg #[.int .u64 (l : Int), .int .u64 (m : Int), .int .u64 (x : Int), .int .u64 0, .int .u64 0, .bool false]] W
    fun e w' => e = .returned (.agg #[.int .u64 (l : Int), .int .u64 (m : Int), .int .u64 (y : Int), .int .u64 0, .int .u64 0, .bool false]) ∧ Only [] W w' := by
  have hb := Arq.within_in (Arq.plus x x) l m hlm
  exact ⟨_, hb.1, hb.2, fun W => late_c W ⟨l, m, x, 0, 0, false⟩ (show x < _ by omega)⟩

set_option maxRecDepth 100000 in
set_option maxHeartbeats 8000000 in
theorem waits_c (w : World) (l r a n : Nat) (hl : l < 4294967296) (hr : r < 4294967296) (ha : a < 4294967296) (hn : n < 256) : Calls Try.prog 7 #[.int .u32 (l : Int), .int .u32 (r : Int), .int .u32 (a : Int), .int .u8 (n : Int)] w fun e w' => e = .returned (.bool true) ∧ Below w.heap.size w w' := by
  obtain ⟨N, hN⟩ : ∃ N, n % 70 = N := ⟨_, rfl⟩
  have hN1 : (n : Int) % 70 = (N : Int) := by omega
  have hN2 : (n : Int).tmod 70 = (N : Int) := by rw [Int.tmod_eq_emod_of_nonneg (by omega)]; exact hN1
  have hN70 : N < 70 := by omega
  obtain ⟨m, hm⟩ : ∃ m, l + r = m := ⟨_, rfl⟩
  have hmI : (l : Int) + (r : Int) = (m : Int) := by omega
  have wl : IntKind.u64.wrap (l : Int) = (l : Int) := wrapN _ (by omega)
  have wr' : IntKind.u64.wrap (r : Int) = (r : Int) := wrapN _ (by omega)
  have wm : IntKind.u64.wrap (m : Int) = (m : Int) := wrapN _ (by omega)
  have wa : IntKind.u64.wrap (a : Int) = (a : Int) := wrapN _ (by omega)
  have HLM : Hid (l ≤ m ∧ m < 8589934592 ∧ a < 4294967296) := Lib.hid ⟨by omega, by omega, ha⟩
  obtain ⟨x0, hx0⟩ : ∃ x0, Arq.within 0 l m = x0 := ⟨_, rfl⟩
  have HX0 : Hid (l ≤ x0 ∧ x0 ≤ m) := Lib.hid (by rw [← hx0]; exact Arq.within_in 0 l m HLM.out.1)
  have HC : Hid (clkV (Arq.newClock 0 l m) = .agg #[.int .u64 (l : Int), .int .u64 (m : Int), .int .u64 (x0 : Int), .int .u64 0, .int .u64 0, .bool false]) := Lib.hid (by
    unfold Arq.newClock Arq.bounded clkV
    simp only [hx0]
    rfl)
  clear hN hm hx0 hl hr ha
  go_enter Try.func7, Try.ntmps7
  go_wp2_with fail
  refine (awake_c w).mono ?_
  rintro e w1 ⟨rfl, ho1⟩
  have HO1 := Lib.hid ho1
  clear ho1
  go_wp2_with fail
  refine (newclock_c w1 0 l m).mono ?_
  rintro e w2 ⟨rfl, ho2⟩
  have HO2 := Lib.hid (HO1.out.then ho2)
  rw [HC.out]
  clear ho2 HO1 HC
  go_upto_region 6 with fail
  have hA : CB (w2.alloc (.cells #[.int .u64 (l : Int), .int .u64 (m : Int), .int .u64 (x0 : Int), .int .u64 0, .int .u64 0, .bool false] 43 (0, 0))) w2.heap.size 43 ⟨l, m, x0, 0, 0, false⟩ := CB.new w2 _ ⟨l, m, x0, 0, 0, false⟩
  have HO3 : Hid (Only [] w (w2.alloc (.cells #[.int .u64 (l : Int), .int .u64 (m : Int), .int .u64 (x0 : Int), .int .u64 0, .int .u64 0, .bool false] 43 (0, 0)))) := Lib.hid (HO2.out.alloc _)
  generalize World.alloc w2 _ = w3 at *
  obtain ⟨C, hC⟩ : ∃ C, w2.heap.size = C := ⟨_, rfl⟩
  rw [hC] at hA ⊢
  have HCW : Hid (w.heap.size ≤ C) := Lib.hid (by have := HO2.out.size; omega)
  have HA := Lib.hid hA
  clear hA hC HO2
  go_wp2_with fail
  --@1
  go_loopw [12] (fun i wr => ∃ k x : Nat, k ≤ N ∧ i = .int .i64 (k : Nat) ∧ l ≤ x ∧ x ≤ m ∧ CB wr C 43 ⟨l, m, x, 0, 0, false⟩ ∧ Only [] w wr) (fun i _ => N - (intOf i).toNat)
  case atStart => exact ⟨0, x0, Nat.zero_le _, rfl, HX0.out.1, HX0.out.2, HA.out, HO3.out⟩
  case round =>
    clear HX0 HA HO3
    obtain ⟨k, x, hk, rfl, hlx, hxm, hA, ho⟩ := hrel
    obtain ⟨wq, hwq⟩ : ∃ wq, wq = wr := ⟨_, rfl⟩
    subst hwq
    have HA := Lib.hid hA; have HO := Lib.hid ho
    have HX := Lib.hid (⟨hlx, hxm⟩ : _ ∧ _)
    clear ho
    by_cases hlt : k < N
    · have hltI : (k : Int) < (N : Int) := by omega
      obtain ⟨y, hy1, hy2, hcall⟩ := late_wait l m x HLM.out.1 HLM.out.2.1 hxm wq
      have HL := Lib.hid hcall
      obtain ⟨e0, e1, e2, e3, e4, e5, ef⟩ := hA.cells
      replace e3 : wq.cell? ⟨C, 3, none⟩ = some (.int .u64 0) := e3
      replace e4 : wq.cell? ⟨C, 4, none⟩ = some (.int .u64 0) := e4
      clear hA hcall hlx hxm
      go_wp2_with fail
      refine (HL.out wq).mono ?_
      rintro e w4 ⟨rfl, ho4⟩
      clear e0 e1 e2 e3 e4 e5 ef
      have hA4 := HA.out.only ho4 (by simp)
      have HO5 := Lib.hid (only_set6 (HO.out.then ho4) HCW.out (.int .u64 (l : Int)) (.int .u64 (m : Int)) (.int .u64 (y : Int)) (.int .u64 0) (.int .u64 0) (.bool false))
      have HA5 : Hid (CB ((((((w4.setCell ⟨C, 0, none⟩ (.int .u64 (l : Int))).setCell ⟨C, 1, none⟩ (.int .u64 (m : Int))).setCell ⟨C, 2, none⟩ (.int .u64 (y : Int))).setCell ⟨C, 3, none⟩ (.int .u64 0)).setCell ⟨C, 4, none⟩ (.int .u64 0)).setCell ⟨C, 5, none⟩ (.bool false)) C 43 ⟨l, m, y, 0, 0, false⟩) := Lib.hid (hA4.put ⟨l, m, y, 0, 0, false⟩)
      obtain ⟨e0, e1, e2, e3, e4, e5, ef⟩ := hA4.cells
      clear hA4 ho4
      go_upto_region 10 with fail
      generalize World.setCell _ _ _ = w5 at *
      clear e0 e1 e2 e3 e4 e5 ef
      obtain ⟨e0, e1, e2, e3, e4, e5, ef⟩ := HA5.out.cells
      have t1 : ¬ ((y : Int) < (l : Int)) := by omega
      have t2 : ¬ ((m : Int) < (y : Int)) := by omega
      clear e0 e1 e3 e4 e5 ef
      --@2
      go_wp2
      go_roundw
      case rel => exact ⟨k + 1, y, by omega, by go_num, hy1, hy2, HA5.out, HO5.out⟩
      case measure => simp [intOf]; omega
    · obtain rfl : k = N := by omega
      clear hA hlx hxm
      go_wp2_with fail
      --@3
      go_loopw [13] (fun i wr => ∃ (j : Nat) (c : Arq.Clk), j ≤ 60 ∧ i = .int .i64 (j : Nat) ∧ Wtd l m a j c ∧ CB wr C 43 c ∧ Only [] w wr) (fun i _ => 60 - (intOf i).toNat)
      case atStart => exact ⟨0, _, Nat.zero_le _, rfl, .inl ⟨rfl, x, rfl, HX.out.1, HX.out.2⟩, HA.out, HO.out⟩
      case round =>
        clear HX HA HO
        obtain ⟨j, c, hj, rfl, hwt, hA, ho⟩ := hrel
        obtain ⟨wp, hwp⟩ : ∃ wp, wp = wr := ⟨_, rfl⟩
        subst hwp
        have HA := Lib.hid hA; have HO := Lib.hid ho; have HWT := Lib.hid hwt
        clear ho
        by_cases hlt : j < 60
        · have hltI : (j : Int) < 60 := by omega
          obtain ⟨o, ho, hcm⟩ := hwt.next HLM.out.2.2
          have HWN : Hid (Wtd l m a (j + 1) ⟨l, m, Arq.within (Arq.steady a o) l m, a, o, true⟩) := Lib.hid (.inr ⟨by omega, o, ho, rfl⟩)
          obtain ⟨y, hy⟩ : ∃ y, Arq.within (Arq.steady a o) l m = y := ⟨_, rfl⟩
          have hb := Arq.within_in (Arq.steady a o) l m HLM.out.1
          rw [hy] at hb hcm HWN
          have hbd := hwt.bounds HLM.out.1 HLM.out.2.1 HLM.out.2.2
          have HC1 := Lib.hid (fun W => came_c W c a (by have := HLM.out.2.2; omega) hbd.1 hbd.2)
          rw [hcm] at HC1
          obtain ⟨cl, cm, cw, cn, cf, ca⟩ := c
          simp only [clkV] at HC1
          obtain ⟨e0, e1, e2, e3, e4, e5, ef⟩ := hA.cells
          have t1 : ¬ ((y : Int) < (l : Int)) := by omega
          have t2 : ¬ ((m : Int) < (y : Int)) := by omega
          clear hA hwt ho hcm hy hb hbd
          go_wp2_with fail
          refine (HC1.out wp).mono ?_
          rintro e w4 ⟨rfl, ho4⟩
          clear e0 e1 e2 e3 e4 e5 ef
          have hA4 := HA.out.only ho4 (by simp)
          have HO5 := Lib.hid (only_set6 (HO.out.then ho4) HCW.out (.int .u64 (l : Int)) (.int .u64 (m : Int)) (.int .u64 (y : Int)) (.int .u64 (a : Int)) (.int .u64 (o : Int)) (.bool true))
          have HA5 := Lib.hid (hA4.put ⟨l, m, y, a, o, true⟩)
          obtain ⟨e0, e1, e2, e3, e4, e5, ef⟩ := hA4.cells
          clear hA4 ho4
          go_upto_region 16 with fail
          (try simp only [] at HA5)
          generalize World.setCell _ _ _ = w5 at *
          clear e0 e1 e2 e3 e4 e5 ef
          obtain ⟨e0, e1, e2, e3, e4, e5, ef⟩ := HA5.out.cells
          clear e0 e1 e4 e5 ef
          --@4
          go_wp2
          go_roundw
          case rel => exact ⟨j + 1, _, by omega, by go_num, HWN.out, HA5.out, HO5.out⟩
          case measure => simp [intOf]; omega
        · obtain rfl : j = 60 := by omega
          rcases hwt with ⟨h0, _⟩ | ⟨_, o, ho, rfl⟩
          · omega
          obtain ⟨s, hs⟩ : ∃ s, Arq.steady a o = s := ⟨_, rfl⟩
          have hsd : s = a + max 1 (4 * o) := by rw [← hs]; rfl
          obtain ⟨y, hy⟩ : ∃ y, Arq.within (Arq.steady a o) l m = y := ⟨_, rfl⟩
          have hyd : y = min (max s l) m := by rw [← hy, hs]; rfl
          rw [hy] at HA hA
          obtain ⟨e0, e1, e2, e3, e4, e5, ef⟩ := hA.cells
          obtain ⟨hf, hhf⟩ : ∃ hf, a / 2 = hf := ⟨_, rfl⟩
          have hf1 : (a : Int) / 2 = (hf : Int) := by omega
          have hf2 : (a : Int).tdiv 2 = (hf : Int) := by rw [Int.tdiv_eq_ediv_of_nonneg (by omega)]; exact hf1
          have hf3 : IntKind.u64.wrap (hf : Int) = (hf : Int) := wrapN _ (by have := HLM.out.2.2; omega)
          have ho2 : (o : Int) ≤ (hf : Int) := by omega
          rw [hhf] at ho
          clear hhf
          have HLS := Lib.hid (⟨hsd, hyd⟩ : _ ∧ _)
          clear e0 e1 e3 e5 ef hA hs hy hsd hyd HWT
          --@5
          go_upto_if 78 with fail
          go_cut [14] (fun ss wx => ss = .int .u64 (s : Int) ∧ wx = wp)
          case first =>
            by_cases h0 : (0 : Int) < (o : Int)
            · have w4 : IntKind.u64.wrap (4 * (o : Int)) = 4 * (o : Int) := by rw [IntKind.wrap_u64]; have := HLM.out.2.2; omega
              have w5 : IntKind.u64.wrap ((a : Int) + 4 * (o : Int)) = (s : Int) := by rw [IntKind.wrap_u64]; have := HLM.out.2.2; have := HLS.out.1; omega
              go_wp2
              go_meet
              exact ⟨rfl, rfl⟩
            · have w5 : IntKind.u64.wrap ((a : Int) + 1) = (s : Int) := by rw [IntKind.wrap_u64]; have := HLM.out.2.2; have := HLS.out.1; omega
              go_wp2
              go_meet
              exact ⟨by first | rfl | rw [← w5] | (congr 1; have := HLS.out.1; omega), rfl⟩
          case rest =>
            obtain ⟨rfl, rfl⟩ := hcut
            --@6
            rcases (show y = s ∨ ((s : Int) < (l : Int) ∧ y = l ∧ ¬ ((y : Int) = (s : Int))) ∨ (¬ ((s : Int) < (l : Int)) ∧ (m : Int) < (s : Int) ∧ y = m ∧ ¬ ((y : Int) = (s : Int))) by have := HLS.out.2; have := HLM.out; omega) with rfl | ⟨t1, rfl, t2⟩ | ⟨t0, t1, rfl, t2⟩
            · go_wp2
              go_ret
              exact ⟨rfl, HO.out.below (by simp) (Nat.le_refl _)⟩
            · have t3 : ((y : Int) == (s : Int)) = false := by rw [beq_eq_false_iff_ne]; exact t2
              go_wp2
              go_ret
              exact ⟨rfl, HO.out.below (by simp) (Nat.le_refl _)⟩
            · have t3 : ((y : Int) == (s : Int)) = false := by rw [beq_eq_false_iff_ne]; exact t2
              go_wp2
              go_ret
              exact ⟨rfl, HO.out.below (by simp) (Nat.le_refl _)⟩
end Go.Proofs.Ytidkadlmnidmoaa.arq
