/-
  THE WALKS of wire.may and wire.Put.
-/
import Derived.Test.YtdoiebbbgmlkaaaDoorWrPlain
import Derived.Test.YtdoiebbbgmlkaaaDoorCurAwake
import Derived.Test.YtdoiebbbgmlkaaaDoorCurPut
import Derived.Test.YtdoiebbbgmlkaaaDoorCrcWalks
import Derived.Test.YtdoiebbbgmlkaaaDoorCrcRef
import Derived.Test.YtdoiebbbgmlkaaaDoorGen5
import Derived.Deep.DeepCutAuto
import Derived.Deep.RegionWith
import Derived.Outline
import Derived.BigQuiet
import Derived.OwnWalk
import Derived.RegionTactic
import Derived.Laws.ResultCell
set_option linter.unusedVariables false
set_option linter.unusedSimpArgs false
namespace Go.Proofs.YtdoiebbbgmlkaaaDoor.wr
open Go Go.RowKit Go.Lm Go.Proofs.YtdoiebbbgmlkaaaDoor.cur Go.Proofs.YtdoiebbbgmlkaaaDoor.crc

/-- A message's value. -/
def msgV (m : Wr.Msg) (v : Value) : Value := .agg #[.int .u8 (m.kind : Int), .int .u64 (m.key : Int), .int .u64 (m.epoch : Int), .int .u32 (m.index : Int), .int .u32 (m.a : Int), .int .u32 (m.b : Int), v]
/-- Block b holds a message. -/
def MB (w : World) (b : Nat) (t : TypeId) (m : Wr.Msg) (v : Value) : Prop := w.heap[b]? = some (.cells #[.int .u8 (m.kind : Int), .int .u64 (m.key : Int), .int .u64 (m.epoch : Int), .int .u32 (m.index : Int), .int .u32 (m.a : Int), .int .u32 (m.b : Int), v] t (0, 0))
theorem MB.cells {w : World} {b : Nat} {t : TypeId} {m : Wr.Msg} {v : Value} (h : MB w b t m v) : w.cell? ⟨b, 0, none⟩ = some (.int .u8 (m.kind : Int)) ∧ w.cell? ⟨b, 1, none⟩ = some (.int .u64 (m.key : Int)) ∧ w.cell? ⟨b, 2, none⟩ = some (.int .u64 (m.epoch : Int)) ∧ w.cell? ⟨b, 3, none⟩ = some (.int .u32 (m.index : Int)) ∧
    w.cell? ⟨b, 4, none⟩ = some (.int .u32 (m.a : Int)) ∧ w.cell? ⟨b, 5, none⟩ = some (.int .u32 (m.b : Int)) ∧ w.cell? ⟨b, 6, none⟩ = some v ∧ ∀ k, w.frozen? ⟨b, k, none⟩ = false := by
  unfold MB at h
  refine ⟨?_, ?_, ?_, ?_, ?_, ?_, ?_, fun k => by simp [World.frozen?, h]⟩
  all_goals
    rw [cell_of_row _ _ _ _ _ _ h]
    rfl
theorem MB.lt {w : World} {b : Nat} {t : TypeId} {m : Wr.Msg} {v : Value} (h : MB w b t m v) : b < w.heap.size := lt_of_block h
theorem MB.only {S : List Nat} {w w' : World} {b : Nat} {t : TypeId} {m : Wr.Msg} {v : Value} (h : MB w b t m v) (ho : Only S w w') (hn : b ∉ S) : MB w' b t m v := ho.heap h hn
theorem MB.below {B : Nat} {w w' : World} {b : Nat} {t : TypeId} {m : Wr.Msg} {v : Value} (h : MB w b t m v) (hb : Below B w w') (hn : b < B) : MB w' b t m v := (hb.block b hn).trans h
theorem MB.new (w : World) (t : TypeId) (m : Wr.Msg) (v : Value) : MB (w.alloc (.cells #[.int .u8 (m.kind : Int), .int .u64 (m.key : Int), .int .u64 (m.epoch : Int), .int .u32 (m.index : Int), .int .u32 (m.a : Int), .int .u32 (m.b : Int), v] t (0, 0))) w.heap.size t m v := heap_alloc_new w _

set_option maxHeartbeats 1000000 in
theorem may_c (w : World) (m : Wr.Msg) (v : Value) (hv : BS w v m.bytes) : Calls Tryd.prog 19 #[msgV m v] w fun e w' => e = .returned (.bool (Wr.may m)) ∧ Only [] w w' := by
  obtain ⟨a, cap, rfl, h1, h2, -, -⟩ := hv
  unfold maxLen at h2
  unfold msgV Wr.may
  obtain ⟨k, y, p, i, x, z, bs⟩ := m
  simp only at *
  generalize bs.length = n at *
  by_cases hk1 : 1 ≤ k
  · by_cases hk6 : k ≤ 6
    · by_cases hn : n ≤ 1465
      · have e1 : (1 : Int) ≤ (k : Int) := by omega
        have e2 : (k : Int) ≤ 6 := by omega
        have e3 : (n : Int) ≤ 1465 := by omega
        rw [decide_eq_true hk1, decide_eq_true hk6, decide_eq_true hn]
        clear hk1 hk6 hn
        go_enter Tryd.func19, Tryd.ntmps19
        go_wp2
        go_ret
        exact ⟨rfl, (Only.refl [] w).alloc _⟩
      · have e1 : (1 : Int) ≤ (k : Int) := by omega
        have e2 : (k : Int) ≤ 6 := by omega
        have e3 : ¬ ((n : Int) ≤ 1465) := by omega
        rw [decide_eq_true hk1, decide_eq_true hk6, decide_eq_false hn]
        clear hk1 hk6 hn
        go_enter Tryd.func19, Tryd.ntmps19
        go_wp2
        go_ret
        exact ⟨by simp, (Only.refl [] w).alloc _⟩
    · have e1 : (1 : Int) ≤ (k : Int) := by omega
      have e2 : ¬ ((k : Int) ≤ 6) := by omega
      rw [decide_eq_true hk1, decide_eq_false hk6]
      clear hk1 hk6
      go_enter Tryd.func19, Tryd.ntmps19
      go_wp2
      go_ret
      exact ⟨rfl, (Only.refl [] w).alloc _⟩
  · have e1 : ¬ ((1 : Int) ≤ (k : Int)) := by omega
    rw [decide_eq_false hk1]
    clear hk1
    go_enter Tryd.func19, Tryd.ntmps19
    go_wp2
    go_ret
    exact ⟨rfl, (Only.refl [] w).alloc _⟩

set_option maxHeartbeats 1000000 in
theorem put_no (w : World) (m : Wr.Msg) (v : Value) (hv : BS w v m.bytes) (hm : Wr.may m = false) : Calls Tryd.prog 9 #[msgV m v] w fun e w' => e = .returned (.tuple #[.slice none 0 0, .int .i64 1]) ∧ Only [] w w' := by
  have HV := Lib.hid hv
  have HM := Lib.hid hm
  clear hv hm
  unfold msgV
  go_enter Tryd.func9, Tryd.ntmps9
  go_upto_region 1 with fail
  have hB : MB (w.alloc (.cells #[.int .u8 (m.kind : Int), .int .u64 (m.key : Int), .int .u64 (m.epoch : Int), .int .u32 (m.index : Int), .int .u32 (m.a : Int), .int .u32 (m.b : Int), v] 26 (0, 0))) w.heap.size 26 m v := MB.new w _ _ _
  have HO1 : Hid (Only [] w (w.alloc (.cells #[.int .u8 (m.kind : Int), .int .u64 (m.key : Int), .int .u64 (m.epoch : Int), .int .u32 (m.index : Int), .int .u32 (m.a : Int), .int .u32 (m.b : Int), v] 26 (0, 0)))) := (Only.refl [] w).alloc _
  generalize World.alloc w _ = w1 at *
  obtain ⟨c0, c1, c2, c3, c4, c5, c6, cf⟩ := MB.cells hB
  go_wp2_with fail
  have hmay := may_c w1 m v (HV.out.only HO1.out (by simp))
  rw [HM.out] at hmay
  refine hmay.mono ?_
  clear hmay
  rintro e w2 ⟨rfl, ho2⟩
  have HO2 := Lib.hid (HO1.out.then ho2)
  clear ho2
  go_wp2
  go_ret2
  exact ⟨rfl, HO2.out⟩

/-- A cell of an array. -/
theorem run_index_agg {P : Program} {t e : TypeId} {n : Nat} {kd kd' : IntKind} {cs : Array Value} {i : Nat} {v : Value} (ht : P.underlying t = some (.array n e)) (he : P.underlying e = some (.int kd)) (hs : (P.info? e).map (·.size) = some 1) (hi : i < n) (hc : cs[i]? = some v) (w : World) :
    (Instr.index t (.agg cs) (.int kd' (i : Int))).run P w = .ok v w := by
  have h1 : (isAgg e).run P w = .ok false w := by
    unfold isAgg
    rw [Sem.run_bind, run_underlying he w]
    rfl
  have hcond : 0 ≤ (i : Int) ∧ (i : Int) < (n : Int) := by omega
  simp only [Instr.index, asIntOf, Sem.run_bind, Sem.run_pure, Result.andThen_ok, run_underlying ht w]
  rw [if_pos hcond]
  simp only [Sem.run_bind, Go.Lm.sizeOf_one hs w, Result.andThen_ok, part, h1, Int.toNat_natCast, Nat.mul_one, hc]
  rfl

/-- The three numbers, one behind the other. -/
def tri (m : Wr.Msg) : Nat → List UInt8
  | 0 => Cur.put m.kind 1 ++ Cur.put m.key 8 ++ Cur.put m.epoch 8
  | 1 => Cur.put m.kind 1 ++ Cur.put m.key 8 ++ Cur.put m.epoch 8 ++ Cur.put m.index 4
  | 2 => Cur.put m.kind 1 ++ Cur.put m.key 8 ++ Cur.put m.epoch 8 ++ Cur.put m.index 4 ++ Cur.put m.a 4
  | _ => Cur.put m.kind 1 ++ Cur.put m.key 8 ++ Cur.put m.epoch 8 ++ Cur.put m.index 4 ++ Cur.put m.a 4 ++ Cur.put m.b 4
theorem tri_length (m : Wr.Msg) (k : Nat) : (tri m k).length ≤ 29 := by
  unfold tri
  split <;> simp [Cur.put_length]

set_option maxRecDepth 100000 in
set_option maxHeartbeats 4000000 in
theorem put_yes (w : World) (m : Wr.Msg) (v : Value) (hv : BS w v m.bytes) (hm : Wr.may m = true) (hok : Wr.Ok m) (hT : Tab w) : Calls Tryd.prog 9 #[msgV m v] w fun e w' => ∃ u, e = .returned (.tuple #[u, .int .i64 0]) ∧ OV w' w.heap.size 5 u ((Wr.dg m).map u8v) ∧ Only [] w w' := by
  have HV := Lib.hid hv; have HM := Lib.hid hm; have HOK := Lib.hid hok; have HT := Lib.hid hT
  have hb : m.bytes.length ≤ 1465 := by simp [Wr.may] at hm; omega
  obtain ⟨a, cap, hve, h1, h2, -, -⟩ := hv
  obtain ⟨n, hn⟩ : ∃ n, m.bytes.length = n := ⟨_, rfl⟩
  rw [hn] at hve hb h1
  subst hve
  have HN := Lib.hid hn
  clear hn
  unfold maxLen at h2
  have hkd := hok.kind
  clear hm hok hT
  unfold msgV
  go_enter Tryd.func9, Tryd.ntmps9
  go_upto_region 1 with fail
  --@01
  have hB : MB (w.alloc (.cells #[.int .u8 (m.kind : Int), .int .u64 (m.key : Int), .int .u64 (m.epoch : Int), .int .u32 (m.index : Int), .int .u32 (m.a : Int), .int .u32 (m.b : Int), .slice a n cap] 26 (0, 0))) w.heap.size 26 m (.slice a n cap) := MB.new w _ _ _
  have HO1 : Hid (Only [] w (w.alloc (.cells #[.int .u8 (m.kind : Int), .int .u64 (m.key : Int), .int .u64 (m.epoch : Int), .int .u32 (m.index : Int), .int .u32 (m.a : Int), .int .u32 (m.b : Int), .slice a n cap] 26 (0, 0)))) := Lib.hid ((Only.refl [] w).alloc _)
  generalize World.alloc w _ = w1 at *
  obtain ⟨q, hq⟩ : ∃ q, w.heap.size = q := ⟨_, rfl⟩
  rw [hq] at hB ⊢
  have HB1 := Lib.hid hB
  have HQ := Lib.hid hq
  clear hB hq
  --@02
  obtain ⟨c0, c1, c2, c3, c4, c5, c6, cf⟩ := MB.cells HB1.out
  go_wp2_with fail
  have hmay := may_c w1 m (.slice a n cap) (HV.out.only HO1.out (by simp))
  rw [HM.out] at hmay
  refine hmay.mono ?_
  clear hmay
  rintro e w2 ⟨rfl, ho2⟩
  have HO2 := Lib.hid (HO1.out.then ho2)
  have HB2 := Lib.hid (HB1.out.only ho2 (by simp))
  clear ho2 c0 c1 c2 c3 c4 c5 c6 cf HO1 HB1
  go_wp2_with fail
  --@03
  refine (newwriter_c w2).mono ?_
  rintro e w3 ⟨rfl, hw3, ho3⟩
  have hD : q < w2.heap.size := HB2.out.lt
  have HO3 := Lib.hid (HO2.out.then ho3)
  have HB3 := Lib.hid (HB2.out.only ho3 (by simp))
  have HW3 := Lib.hid hw3
  clear ho3 hw3 HO2 HB2
  generalize w2.heap.size = D at *
  obtain ⟨c0, c1, c2, c3, c4, c5, c6, cf⟩ := MB.cells HB3.out
  go_wp2_with fail
  refine (wnumber_c w3 D D [] HW3.out m.kind 1 (by have := HOK.out.kind; omega) (by decide)).mono ?_
  rintro e w4 ⟨rfl, hw4, hb4⟩
  rw [if_pos (by decide), List.nil_append] at hw4
  have HO4 : Hid (Only [] w w4) := Lib.hid (Lm.only_below HO3.out hb4 (by have := HQ.out; omega))
  have HW4 : Hid (WR w4 D D (Cur.put m.kind 1)) := Lib.hid hw4
  have HB4 := Lib.hid (HB3.out.below hb4 hD)
  clear hb4 hw4 c0 c1 c2 c3 c4 c5 c6 cf HO3 HW3 HB3
  obtain ⟨c0, c1, c2, c3, c4, c5, c6, cf⟩ := MB.cells HB4.out
  go_wp2_with fail
  --@04
  refine (wnumber_c w4 D D _ HW4.out m.key 8 HOK.out.key (by rw [Cur.put_length]; decide)).mono ?_
  rintro e w5 ⟨rfl, hw5, hb5⟩
  rw [if_pos (by decide)] at hw5
  have HO5 : Hid (Only [] w w5) := Lib.hid (Lm.only_below HO4.out hb5 (by have := HQ.out; omega))
  have HW5 : Hid (WR w5 D D (Cur.put m.kind 1 ++ Cur.put m.key 8)) := Lib.hid hw5
  have HB5 := Lib.hid (HB4.out.below hb5 hD)
  clear hb5 hw5 c0 c1 c2 c3 c4 c5 c6 cf HO4 HW4 HB4
  obtain ⟨c0, c1, c2, c3, c4, c5, c6, cf⟩ := MB.cells HB5.out
  go_wp2_with fail
  refine (wnumber_c w5 D D _ HW5.out m.epoch 8 HOK.out.epoch (by rw [List.length_append, Cur.put_length, Cur.put_length]; decide)).mono ?_
  rintro e w6 ⟨rfl, hw6, hb6⟩
  rw [if_pos (by decide)] at hw6
  have HO6 : Hid (Only [] w w6) := Lib.hid (Lm.only_below HO5.out hb6 (by have := HQ.out; omega))
  have HW6 : Hid (WR w6 D D (tri m 0)) := Lib.hid hw6
  have HB6 := Lib.hid (HB5.out.below hb6 hD)
  clear hb6 hw6 c0 c1 c2 c3 c4 c5 c6 cf HO5 HW5 HB5
  obtain ⟨c0, c1, c2, c3, c4, c5, c6, cf⟩ := MB.cells HB6.out
  have hi := HOK.out.index; have ha := HOK.out.a; have hbb := HOK.out.b
  --@1
  go_wp2_with fail
  --@2
  clear c0 c1 c2 c3 c4 c5 c6 cf
  go_loopw [31] (fun i wr => ∃ k : Nat, k ≤ 3 ∧ i = .int .i64 (k : Nat) ∧ WR wr D D (tri m k) ∧ Only [] w wr ∧ MB wr q 26 m (.slice a n cap)) (fun i _ => 3 - (intOf i).toNat)
  case atStart => exact ⟨0, by decide, rfl, HW6.out, HO6.out, HB6.out⟩
  case round =>
    obtain ⟨k, hk, rfl, hw, ho, hmb⟩ := hrel
    have HW := Lib.hid hw; have HO := Lib.hid ho; have HMB := Lib.hid hmb
    have HTL := Lib.hid (tri_length m k)
    clear hw ho hmb
    by_cases hlt : k < 3
    · have hstep : ∀ x, WR wr D D (tri m k) → x < 18446744073709551616 → Calls Tryd.prog 21 #[.pointer (some ⟨D, 0, none⟩), .int .u64 (x : Nat), .int .i64 4] wr fun e w' => e = .returned (.tuple #[]) ∧ WR w' D D (tri m k ++ Cur.put x 4) ∧ Below D wr w' := by
        intro x h hx
        refine (wnumber_c wr D D _ h x 4 hx (by have := HTL.out; omega)).mono ?_
        rintro e w' ⟨rfl, hw, hb⟩
        rw [if_pos (by decide)] at hw
        exact ⟨rfl, hw, hb⟩
      have HST := Lib.hid hstep
      clear hstep
      have hk3 : k = 0 ∨ k = 1 ∨ k = 2 := by omega
      rcases hk3 with rfl | rfl | rfl
      · rw [show ((0 : Nat) : Int) = 0 from rfl]
        have hix : ∀ w, (Instr.index 56 (.agg #[.int .u32 (m.index : Int), .int .u32 (m.a : Int), .int .u32 (m.b : Int)]) (.int .i64 0)).run Tryd.prog w = .ok (.int .u32 (m.index : Int)) w := fun w =>
          run_index_agg (kd' := .i64) (i := 0) Tryd.underlying56 Tryd.underlying23 (by kernel_rfl) (by decide) rfl w
        go_wp2_with fail
        --@21
        refine (HST.out m.index HW.out (by omega)).mono ?_
        rintro e w7 ⟨rfl, hw7, hb7⟩
        have HW7 : Hid (WR w7 D D (tri m 1)) := Lib.hid hw7
        have HO7 : Hid (Only [] w w7) := Lib.hid (Lm.only_below HO.out hb7 (by have := HQ.out; omega))
        have HB7 := Lib.hid (HMB.out.below hb7 hD)
        clear hw7 hb7
        go_wp2
        go_roundw
        case rel => exact ⟨1, by omega, by go_num, HW7.out, HO7.out, HB7.out⟩
        case measure => simp [intOf]
      · rw [show ((1 : Nat) : Int) = 1 from rfl]
        have hix : ∀ w, (Instr.index 56 (.agg #[.int .u32 (m.index : Int), .int .u32 (m.a : Int), .int .u32 (m.b : Int)]) (.int .i64 1)).run Tryd.prog w = .ok (.int .u32 (m.a : Int)) w := fun w =>
          run_index_agg (kd' := .i64) (i := 1) Tryd.underlying56 Tryd.underlying23 (by kernel_rfl) (by decide) rfl w
        go_wp2_with fail
        refine (HST.out m.a HW.out (by omega)).mono ?_
        rintro e w7 ⟨rfl, hw7, hb7⟩
        have HW7 : Hid (WR w7 D D (tri m 2)) := Lib.hid hw7
        have HO7 : Hid (Only [] w w7) := Lib.hid (Lm.only_below HO.out hb7 (by have := HQ.out; omega))
        have HB7 := Lib.hid (HMB.out.below hb7 hD)
        clear hw7 hb7
        go_wp2
        go_roundw
        case rel => exact ⟨2, by omega, by go_num, HW7.out, HO7.out, HB7.out⟩
        case measure => simp [intOf]
      · rw [show ((2 : Nat) : Int) = 2 from rfl]
        have hix : ∀ w, (Instr.index 56 (.agg #[.int .u32 (m.index : Int), .int .u32 (m.a : Int), .int .u32 (m.b : Int)]) (.int .i64 2)).run Tryd.prog w = .ok (.int .u32 (m.b : Int)) w := fun w =>
          run_index_agg (kd' := .i64) (i := 2) Tryd.underlying56 Tryd.underlying23 (by kernel_rfl) (by decide) rfl w
        go_wp2_with fail
        refine (HST.out m.b HW.out (by omega)).mono ?_
        rintro e w7 ⟨rfl, hw7, hb7⟩
        have HW7 : Hid (WR w7 D D (tri m 3)) := Lib.hid hw7
        have HO7 : Hid (Only [] w w7) := Lib.hid (Lm.only_below HO.out hb7 (by have := HQ.out; omega))
        have HB7 := Lib.hid (HMB.out.below hb7 hD)
        clear hw7 hb7
        go_wp2
        go_roundw
        case rel => exact ⟨3, by omega, by go_num, HW7.out, HO7.out, HB7.out⟩
        case measure => simp [intOf]
    · obtain rfl : k = 3 := by omega
      obtain ⟨c0, c1, c2, c3, c4, c5, c6, cf⟩ := MB.cells HMB.out
      --@3
      go_wp2_with fail
      refine (wnumber_c wr D D _ HW.out n 2 (by omega) (by have := HTL.out; omega)).mono ?_
      rintro e w7 ⟨rfl, hw7, hb7⟩
      rw [if_pos (by decide)] at hw7
      have HW7 : Hid (WR w7 D D (Wr.head m)) := Lib.hid (by unfold Wr.head; rw [HN.out]; exact hw7)
      have HO7 : Hid (Only [] w w7) := Lib.hid (Lm.only_below HO.out hb7 (by have := HQ.out; omega))
      have HB7 := Lib.hid (HMB.out.below hb7 hD)
      clear hw7 hb7 c0 c1 c2 c3 c4 c5 c6 cf HW HO HMB HTL
      have HLH := Lib.hid (Wr.head_length m)
      obtain ⟨c0, c1, c2, c3, c4, c5, c6, cf⟩ := MB.cells HB7.out
      --@4
      go_wp2_with fail
      refine (wbytes_c w7 D D _ m.bytes HW7.out _ (HV.out.only HO7.out (by simp)) (by rw [HLH.out, HN.out]; omega)).mono ?_
      rintro e w8 ⟨rfl, hw8, hb8⟩
      have HW8 : Hid (WR w8 D D (Wr.body m)) := Lib.hid hw8
      have HO8 : Hid (Only [] w w8) := Lib.hid (Lm.only_below HO7.out hb8 (by have := HQ.out; omega))
      clear hw8 hb8 c0 c1 c2 c3 c4 c5 c6 cf HW7 HO7 HB7 HLH
      have HLB : Hid ((Wr.body m).length = 31 + n) := Lib.hid (by rw [Wr.body_length, HN.out])
      have HDG : Hid (Wr.body m ++ Cur.put (Crc.sum (Wr.body m)) 4 = Wr.dg m) := Lib.hid rfl
      generalize Wr.body m = S at *
      --@5
      go_wp2_with fail
      refine (out_c w8 D D _ HW8.out (by rw [HLB.out]; omega)).mono ?_
      rintro e w9 ⟨u, rfl, hov9, ho9⟩
      have HO9 := Lib.hid (HO8.out.then ho9)
      have HW9 := Lib.hid (HW8.out.only ho9)
      have HB9 := Lib.hid (BS.of_vs hov9.vs)
      clear hov9 ho9 HO8 HW8
      go_wp2_with fail
      refine (of_c w9 u S HB9.out (by rw [HLB.out]; omega) (HT.out.only HO9.out (by simp))).mono ?_
      rintro e w10 ⟨rfl, ho10⟩
      have ho10 : Only [] w9 w10 := ho10.mono (by simp)
      have HO10 := Lib.hid (HO9.out.then ho10)
      have HW10 := Lib.hid (HW9.out.only ho10)
      clear ho10 HO9 HW9 HB9
      have hsum : Crc.sum S ≤ 4294967295 := Nat.sub_le _ _
      have hsw : IntKind.u64.wrap (Crc.sum S : Int) = (Crc.sum S : Int) := by rw [IntKind.wrap_u64]; omega
      go_wp2_with fail
      refine (wnumber_c w10 D D _ HW10.out (Crc.sum S) 4 (by omega) (by rw [HLB.out]; omega)).mono ?_
      rintro e w11 ⟨rfl, hw11, hb11⟩
      rw [if_pos (by decide)] at hw11
      have HO11 : Hid (Only [] w w11) := Lib.hid (Lm.only_below HO10.out hb11 (by have := HQ.out; omega))
      have HW11 : Hid (WR w11 D D (Wr.dg m)) := Lib.hid (by rw [← HDG.out]; exact hw11)
      clear hw11 hb11 HO10 HW10 hsum hsw HDG HLB
      have HL11 : Hid ((Wr.dg m).length = 35 + n) := Lib.hid (by rw [Wr.dg_length, HN.out])
      --@6
      go_wp2_with fail
      refine (out_c w11 D D _ HW11.out (by rw [HL11.out]; omega)).mono ?_
      rintro e w12 ⟨u8, rfl, hov8, ho8⟩
      have HO12 := Lib.hid (HO11.out.then ho8)
      have HV12 := Lib.hid (hov8.mono (by have := HO11.out.size; have := HQ.out; omega : q ≤ w11.heap.size))
      clear hov8 ho8
      go_wp2
      go_ret2
      exact ⟨_, rfl, by rw [HQ.out]; exact HV12.out, HO12.out⟩
end Go.Proofs.YtdoiebbbgmlkaaaDoor.wr
