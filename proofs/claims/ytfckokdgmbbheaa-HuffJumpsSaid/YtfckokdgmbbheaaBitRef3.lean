/-
  THE WALKS of the reference's readers: from the front; from the back.
-/
import Derived.Test.YtfckokdgmbbheaaBitRef2
import Derived.Laws.ResultCell
import Derived.Outline
import Derived.OwnWalk
set_option linter.unusedVariables false
set_option linter.unusedSimpArgs false
namespace Go.Proofs.Ytfckokdgmbbheaa.bit
open Go Go.RowKit Go.Lm

theorem results_cell_tmp2 {fn : Func} {p u u2 : Tmp} {ty : TypeId} (h : fn.results = #[.cell p ty, .tmp u, .tmp u2]) (tmps : Array Value) (P : Program) (w : World) :
    (results fn tmps).run P w =
      ((asAddr (tmps.getD p undef)).run P w).andThen fun a w₁ => ((loadVar ty a).run P w₁).andThen fun v w₂ => .ok (.tuple #[v, tmps.getD u undef, tmps.getD u2 undef]) w₂ := by
  simp only [results, h]
  simp [Sem.run_bind, Result.andThen]
theorem results_cell {fn : Func} {p : Tmp} {ty : TypeId} (h : fn.results = #[.cell p ty]) (tmps : Array Value) (P : Program) (w : World) :
    (results fn tmps).run P w =
      ((asAddr (tmps.getD p undef)).run P w).andThen fun a w₁ => (loadVar ty a).run P w₁ := by
  simp only [results, h]
  simp [Sem.run_bind, Result.andThen]

/-- What a read from the front gives, by bits: the number, the error, where it stands. -/
def freadL (L : List Bool) (p : Nat) (n : Int) : Nat × Int × Nat :=
  if n < 0 ∨ 32 < n then (0, 1, p) else if (L.length : Int) - p < n then (0, 10, p) else (Bt.num ((L.drop p).take n.toNat), 0, p + n.toNat)

theorem num_c' (w : World) (v : Value) (l : List Bool) (hv : VS w v (bl l)) (hl : l.length ≤ 63) : Calls Try.prog 62 #[v] w fun e w' => e = .returned (.int .u64 (Bt.num l : Nat)) ∧ w = w' := refnum_c w v l hv hl

def fbackL (p : Nat) (n : Int) : Nat := if 0 < n then p - min n.toNat p else p
theorem refleft_c (w : World) (a : Option Addr) (m cap : Nat) (x : Nat) (hm : m ≤ 100000000) (hx : x ≤ 100000000) : Calls Try.prog 49 #[.agg #[.slice a m cap, .int .i64 x]] w fun e w' =>
    e = .returned (.int .i64 ((m : Int) - (x : Int))) ∧ Only [] w w' := by
  go_enter Try.func49, Try.ntmps49
  go_wp2
  go_ret
  exact ⟨rfl, (Only.refl _ _).alloc _⟩

/-- What a read from the back gives: the bits that are left, how many lacked, the number. -/
def last (L : List Bool) (x : Nat) (n : Int) : List Bool × Nat × Nat :=
  if n < 1 ∨ 56 < n then (L, x, 0) else
    let k := min n.toNat L.length
    (L.take (L.length - k), x + (n.toNat - k), Bt.num (L.drop (L.length - k)) * 2 ^ (n.toNat - k))

set_option maxHeartbeats 2000000 in
theorem reflast_c (w : World) (a : Option Addr) (m cap x : Nat) (n : Int) (L : List Bool) (hv : VS w (.slice a m cap) (bl L)) (hx : x ≤ 1000000) (hl : L.length ≤ 1000000) : Calls Try.prog 59 #[.agg #[.slice a m cap, .int .i64 x], .int .i64 n] w fun e w' =>
    ∃ a' c', e = .returned (.tuple #[.agg #[.slice a' (last L x n).1.length c', .int .i64 (last L x n).2.1], .int .u64 ((last L x n).2.2 : Nat)]) ∧ VS w' (.slice a' (last L x n).1.length c') (bl (last L x n).1) ∧ Only [] w w' ∧ ∀ c, (Value.slice a' (last L x n).1.length c').ownBlock = some c → (Value.slice a m cap).ownBlock = some c := by
  have HV := Lib.hid hv
  obtain ⟨_, _, he, h1, h2, h3, _⟩ := hv
  simp only [Value.slice.injEq] at he
  obtain ⟨rfl, rfl, rfl⟩ := he
  rw [bl_length] at *
  unfold maxLen at h2
  clear h3
  by_cases h0 : n < 1
  · have e : last L x n = (L, x, 0) := by unfold last; rw [if_pos (.inl h0)]
    rw [e]; clear e
    go_enter Try.func59, Try.ntmps59
    go_wp2
    (try simp only [Exit.inBlock, Exit.then])
    refine bodyPost_ret (v := .tuple #[.agg #[.slice a L.length cap, .int .i64 x], .int .u64 0]) (by rw [results_cell_tmp rfl]; go_simp) rfl ⟨_, _, rfl, HV.out.only (((Only.refl [] w).alloc _).alloc _) (by simp), ((Only.refl [] w).alloc _).alloc _, fun c hc => hc⟩
  by_cases h56 : 56 < n
  · have e : last L x n = (L, x, 0) := by unfold last; rw [if_pos (.inr h56)]
    rw [e]; clear e
    go_enter Try.func59, Try.ntmps59
    go_wp2
    (try simp only [Exit.inBlock, Exit.then])
    refine bodyPost_ret (v := .tuple #[.agg #[.slice a L.length cap, .int .i64 x], .int .u64 0]) (by rw [results_cell_tmp rfl]; go_simp) rfl ⟨_, _, rfl, HV.out.only (((Only.refl [] w).alloc _).alloc _) (by simp), ((Only.refl [] w).alloc _).alloc _, fun c hc => hc⟩
  obtain ⟨n, rfl⟩ := Int.eq_ofNat_of_zero_le (show 0 ≤ n by omega)
  obtain ⟨k, hk⟩ : ∃ k, min n L.length = k := ⟨_, rfl⟩
  obtain ⟨d, hd⟩ : ∃ d, L.length - k = d := ⟨_, rfl⟩
  have e : last L x n = (L.take d, x + (n - k), Bt.num (L.drop d) * 2 ^ (n - k)) := by
    unfold last; rw [if_neg (by omega)]; simp only [Int.toNat_natCast, hk, hd]
  rw [e]
  have hdk : d + k = L.length := by omega
  have hld : (L.length : Int) - (k : Int) = (d : Int) := by omega
  have hs1 := fun w => run_sub_l (P := Try.prog) (t := 89) Try.underlying89 size_bool a L.length cap d (by omega) w
  have hs2 := fun w => run_sub_h (P := Try.prog) (t := 89) Try.underlying89 size_bool a L.length cap d (by omega) w
  have hv1 := HV.out.sub d L.length (by omega) (by rw [bl_length]; omega)
  have hv2 := HV.out.sub 0 d (by omega) (by rw [bl_length]; omega)
  have ec1 : ((bl L).take L.length).drop d = bl (L.drop d) := by
    unfold bl
    rw [← List.map_take, ← List.map_drop, List.take_length]
  have ec2 : ((bl L).take d).drop 0 = bl (L.take d) := by
    unfold bl
    rw [← List.map_take, List.drop_zero]
  rw [ec1] at hv1
  rw [ec2] at hv2
  have ht : (L.take d).length = d := by rw [List.length_take]; omega
  rw [ht]
  obtain ⟨A1, n1, c1, hV1⟩ : ∃ A n c, subv a cap d L.length = .slice A n c := ⟨_, _, _, rfl⟩
  obtain ⟨A2, c2, hV2⟩ : ∃ A c, subv a cap 0 d = .slice A d c := ⟨_, _, rfl⟩
  rw [hV1] at hs1 hv1
  rw [hV2] at hs2 hv2
  have hX := Bt.num_lt (L.drop d)
  have hXl : (L.drop d).length = k := by simp; omega
  rw [hXl] at hX
  have hbk : Hid (∀ c, (Value.slice A2 d c2).ownBlock = some c → (Value.slice a L.length cap).ownBlock = some c) := fun c hc => by rw [← hV2, subv_block] at hc; rw [ownBlock_slice]; exact hc
  have HV1 := Lib.hid hv1; have HV2 := Lib.hid hv2; have HX := Lib.hid hX; have HXL := Lib.hid hXl
  clear hv1 hv2 ec1 ec2 hV1 hV2 hX hXl ht e
  have hkn : k ≤ n := by omega
  have hn56 : n ≤ 56 := by omega
  have hcase : (L.length < n ∧ k = L.length) ∨ (¬ L.length < n ∧ k = n) := by omega
  have HD := Lib.hid hd; have HK := Lib.hid hk
  clear hd hk h1
  rcases hcase with ⟨hc, rfl⟩ | ⟨hc, rfl⟩
  · go_enter Try.func59, Try.ntmps59
    go_wp2_with fail
    refine (refnum_c _ _ _ (HV1.out.only (((Only.refl [] w).alloc _).alloc _) (by simp)) (by have := HXL.out; omega)).mono ?_
    rintro e w1 ⟨rfl, rfl⟩
    have hb0 : ((w.alloc (.cells #[.slice a L.length cap, .int .i64 x] 91)).alloc (.cells #[.slice none 0 0, .int .i64 0] 91)).heap[w.heap.size]? = some (.cells #[.slice a L.length cap, .int .i64 x] 91 (0, 0)) := (heap_alloc_old _ _ (by simp)).trans (heap_alloc_new w _)
    have hb1 : ((w.alloc (.cells #[.slice a L.length cap, .int .i64 x] 91)).alloc (.cells #[.slice none 0 0, .int .i64 0] 91)).heap[w.heap.size + 1]? = some (.cells #[.slice none 0 0, .int .i64 0] 91 (0, 0)) := heap_alloc2_new w _ _
    have ho : Only [] w ((w.alloc (.cells #[.slice a L.length cap, .int .i64 x] 91)).alloc (.cells #[.slice none 0 0, .int .i64 0] 91)) := ((Only.refl [] w).alloc _).alloc _
    have HB0 := Lib.hid hb0; have HB1 := Lib.hid hb1; have HO := Lib.hid ho
    clear hb0 hb1 ho hs1
    go_wp2_with fail
    go_loopw [7, 8] (fun y i wr => ∃ j : Nat, L.length + j ≤ n ∧ i = .int .i64 ((L.length + j : Nat) : Int) ∧ y = .int .u64 ((Bt.num (L.drop d) * 2 ^ j : Nat) : Int) ∧ wr.heap[w.heap.size]? = some (.cells #[.slice a L.length cap, .int .i64 ((x + j : Nat) : Int)] 91 (0, 0)) ∧
      wr.heap[w.heap.size + 1]? = some (.cells #[.slice none 0 0, .int .i64 0] 91 (0, 0)) ∧ Only [] w wr) (fun _ i _ => n - (intOf i).toNat)
    case atStart => exact ⟨0, by omega, rfl, by simp, HB0.out, HB1.out, HO.out⟩
    case round =>
      obtain ⟨j, hj, rfl, rfl, hb0, hb1, ho⟩ := hrel
      have HB0' := Lib.hid hb0; have HB1' := Lib.hid hb1; have HO' := Lib.hid ho
      have d0 := cell_of_row _ _ 0 _ _ _ hb0
      have d1 := cell_of_row _ _ 1 _ _ _ hb0
      have f0 : ∀ i, wr.frozen? ⟨w.heap.size, i, none⟩ = false := fun i => by simp [World.frozen?, hb0]
      simp only [List.getElem?_toArray, List.getElem?_cons_zero, List.getElem?_cons_succ] at d0 d1
      clear hb0 hb1 ho HB0 HB1 HO
      obtain ⟨i, hi⟩ : ∃ i, L.length + j = i := ⟨_, rfl⟩
      obtain ⟨y, hy⟩ : ∃ y, x + j = y := ⟨_, rfl⟩
      rw [hi]
      rw [hy] at HB0' d1
      have HI := Lib.hid hi; have HY := Lib.hid hy
      clear hi hy
      by_cases hjn : i < n
      · have hyb : y ≤ 1000060 := by have := HY.out; have := HI.out; omega
        have hps : Bt.num (L.drop d) * 2 ^ (j + 1) = Bt.num (L.drop d) * 2 ^ j * 2 := by rw [Nat.pow_succ, Nat.mul_assoc]
        have hbound : Bt.num (L.drop d) * 2 ^ j < 2 ^ 56 := by
          have h1 : Bt.num (L.drop d) * 2 ^ j < 2 ^ L.length * 2 ^ j := Nat.mul_lt_mul_of_pos_right HX.out (Nat.pow_pos (by decide))
          rw [← Nat.pow_add] at h1
          have h2 : 2 ^ (L.length + j) ≤ 2 ^ 56 := Nat.pow_le_pow_right (by decide) (by omega)
          omega
        generalize Bt.num (L.drop d) * 2 ^ j = Y at *
        have HPS := Lib.hid hps; clear hps
        have hY : Y < 72057594037927936 := hbound
        have hw2 : (Y : Int) * 2 % 18446744073709551616 = (Y : Int) * 2 := by omega
        have hb0' : (wr.setCell ⟨w.heap.size, 1, none⟩ (.int .i64 ((y : Int) + 1))).heap[w.heap.size]? = some (.cells #[.slice a L.length cap, .int .i64 ((y : Int) + 1)] 91 (0, 0)) := (Go.Lm.heap_setCell_same (k := 1) HB0'.out _).trans rfl
        have hb1' : (wr.setCell ⟨w.heap.size, 1, none⟩ (.int .i64 ((y : Int) + 1))).heap[w.heap.size + 1]? = some (.cells #[.slice none 0 0, .int .i64 0] 91 (0, 0)) := ((Only.refl [w.heap.size] wr).setCell (.inl (by simp)) _).heap HB1'.out (by simp)
        have ho' : Only [] w (wr.setCell ⟨w.heap.size, 1, none⟩ (.int .i64 ((y : Int) + 1))) := HO'.out.setCell (.inr (Nat.le_refl _)) _
        have G0 := Lib.hid hb0'; have G1 := Lib.hid hb1'; have GO := Lib.hid ho'
        clear hb0' hb1' ho' hbound
        go_wp2
        go_roundw
        case rel => exact ⟨j + 1, by have := HI.out; omega, by have := HI.out; simp; omega, by rw [HPS.out]; simp, by rw [G0.out]; have := HY.out; simp; omega, G1.out, GO.out⟩
        case measure => first | (simp [intOf]; done) | (simp [intOf]; omega)
      · have hin : i = n := by have := HI.out; omega
        subst hin
        have e1 := cell_of_row _ _ 0 _ _ _ HB1'.out
        have e2 := cell_of_row _ _ 1 _ _ _ HB1'.out
        have f1 : ∀ i, wr.frozen? ⟨w.heap.size + 1, i, none⟩ = false := fun i => by simp [World.frozen?, HB1'.out]
        simp only [List.getElem?_toArray, List.getElem?_cons_zero, List.getElem?_cons_succ] at e1 e2
        go_wp2
        have hjj : i - L.length = j := by have := HI.out; omega
        (try simp only [Exit.inBlock, Exit.then])
        refine bodyPost_ret (v := .tuple #[.agg #[.slice A2 d c2, .int .i64 (y : Int)], .int .u64 ((Bt.num (L.drop d) * 2 ^ j : Nat) : Int)]) (by rw [results_cell_tmp rfl]; go_simp) rfl ⟨A2, c2, by rw [hjj, HY.out], ?_, ?_, hbk.out⟩
        · exact HV2.out.only (S := []) (by repeat (first | exact HO'.out | refine Only.setCell ?_ (.inr (by simp)) _)) (by simp)
        · repeat (first | exact HO'.out | refine Only.setCell ?_ (.inr (by simp)) _)
  · go_enter Try.func59, Try.ntmps59
    go_wp2_with fail
    refine (refnum_c _ _ _ (HV1.out.only (((Only.refl [] w).alloc _).alloc _) (by simp)) (by have := HXL.out; omega)).mono ?_
    rintro e w1 ⟨rfl, rfl⟩
    have hb0 : ((w.alloc (.cells #[.slice a L.length cap, .int .i64 x] 91)).alloc (.cells #[.slice none 0 0, .int .i64 0] 91)).heap[w.heap.size]? = some (.cells #[.slice a L.length cap, .int .i64 x] 91 (0, 0)) := (heap_alloc_old _ _ (by simp)).trans (heap_alloc_new w _)
    have hb1 : ((w.alloc (.cells #[.slice a L.length cap, .int .i64 x] 91)).alloc (.cells #[.slice none 0 0, .int .i64 0] 91)).heap[w.heap.size + 1]? = some (.cells #[.slice none 0 0, .int .i64 0] 91 (0, 0)) := heap_alloc2_new w _ _
    have ho : Only [] w ((w.alloc (.cells #[.slice a L.length cap, .int .i64 x] 91)).alloc (.cells #[.slice none 0 0, .int .i64 0] 91)) := ((Only.refl [] w).alloc _).alloc _
    have HB0 := Lib.hid hb0; have HB1 := Lib.hid hb1; have HO := Lib.hid ho
    clear hb0 hb1 ho hs1
    go_wp2_with fail
    go_loopw [7, 8] (fun y i wr => ∃ j : Nat, k + j ≤ k ∧ i = .int .i64 ((k + j : Nat) : Int) ∧ y = .int .u64 ((Bt.num (L.drop d) * 2 ^ j : Nat) : Int) ∧ wr.heap[w.heap.size]? = some (.cells #[.slice a L.length cap, .int .i64 ((x + j : Nat) : Int)] 91 (0, 0)) ∧
      wr.heap[w.heap.size + 1]? = some (.cells #[.slice none 0 0, .int .i64 0] 91 (0, 0)) ∧ Only [] w wr) (fun _ i _ => k - (intOf i).toNat)
    case atStart => exact ⟨0, by omega, rfl, by simp, HB0.out, HB1.out, HO.out⟩
    case round =>
      obtain ⟨j, hj, rfl, rfl, hb0, hb1, ho⟩ := hrel
      have HB0' := Lib.hid hb0; have HB1' := Lib.hid hb1; have HO' := Lib.hid ho
      have d0 := cell_of_row _ _ 0 _ _ _ hb0
      have d1 := cell_of_row _ _ 1 _ _ _ hb0
      have f0 : ∀ i, wr.frozen? ⟨w.heap.size, i, none⟩ = false := fun i => by simp [World.frozen?, hb0]
      simp only [List.getElem?_toArray, List.getElem?_cons_zero, List.getElem?_cons_succ] at d0 d1
      clear hb0 hb1 ho HB0 HB1 HO
      obtain ⟨i, hi⟩ : ∃ i, k + j = i := ⟨_, rfl⟩
      obtain ⟨y, hy⟩ : ∃ y, x + j = y := ⟨_, rfl⟩
      rw [hi]
      rw [hy] at HB0' d1
      have HI := Lib.hid hi; have HY := Lib.hid hy
      clear hi hy
      by_cases hjn : i < k
      · have hyb : y ≤ 1000060 := by have := HY.out; have := HI.out; omega
        have hps : Bt.num (L.drop d) * 2 ^ (j + 1) = Bt.num (L.drop d) * 2 ^ j * 2 := by rw [Nat.pow_succ, Nat.mul_assoc]
        have hbound : Bt.num (L.drop d) * 2 ^ j < 2 ^ 56 := by
          have h1 : Bt.num (L.drop d) * 2 ^ j < 2 ^ k * 2 ^ j := Nat.mul_lt_mul_of_pos_right HX.out (Nat.pow_pos (by decide))
          rw [← Nat.pow_add] at h1
          have h2 : 2 ^ (k + j) ≤ 2 ^ 56 := Nat.pow_le_pow_right (by decide) (by omega)
          omega
        generalize Bt.num (L.drop d) * 2 ^ j = Y at *
        have HPS := Lib.hid hps; clear hps
        have hY : Y < 72057594037927936 := hbound
        have hw2 : (Y : Int) * 2 % 18446744073709551616 = (Y : Int) * 2 := by omega
        have hb0' : (wr.setCell ⟨w.heap.size, 1, none⟩ (.int .i64 ((y : Int) + 1))).heap[w.heap.size]? = some (.cells #[.slice a L.length cap, .int .i64 ((y : Int) + 1)] 91 (0, 0)) := (Go.Lm.heap_setCell_same (k := 1) HB0'.out _).trans rfl
        have hb1' : (wr.setCell ⟨w.heap.size, 1, none⟩ (.int .i64 ((y : Int) + 1))).heap[w.heap.size + 1]? = some (.cells #[.slice none 0 0, .int .i64 0] 91 (0, 0)) := ((Only.refl [w.heap.size] wr).setCell (.inl (by simp)) _).heap HB1'.out (by simp)
        have ho' : Only [] w (wr.setCell ⟨w.heap.size, 1, none⟩ (.int .i64 ((y : Int) + 1))) := HO'.out.setCell (.inr (Nat.le_refl _)) _
        have G0 := Lib.hid hb0'; have G1 := Lib.hid hb1'; have GO := Lib.hid ho'
        clear hb0' hb1' ho' hbound
        go_wp2
        go_roundw
        case rel => exact ⟨j + 1, by have := HI.out; omega, by have := HI.out; simp; omega, by rw [HPS.out]; simp, by rw [G0.out]; have := HY.out; simp; omega, G1.out, GO.out⟩
        case measure => first | (simp [intOf]; done) | (simp [intOf]; omega)
      · have hin : i = k := by have := HI.out; omega
        subst hin
        have e1 := cell_of_row _ _ 0 _ _ _ HB1'.out
        have e2 := cell_of_row _ _ 1 _ _ _ HB1'.out
        have f1 : ∀ i, wr.frozen? ⟨w.heap.size + 1, i, none⟩ = false := fun i => by simp [World.frozen?, HB1'.out]
        simp only [List.getElem?_toArray, List.getElem?_cons_zero, List.getElem?_cons_succ] at e1 e2
        go_wp2
        have hjj : i - i = j := by have := HI.out; omega
        (try simp only [Exit.inBlock, Exit.then])
        refine bodyPost_ret (v := .tuple #[.agg #[.slice A2 d c2, .int .i64 (y : Int)], .int .u64 ((Bt.num (L.drop d) * 2 ^ j : Nat) : Int)]) (by rw [results_cell_tmp rfl]; go_simp) rfl ⟨A2, c2, by rw [hjj, HY.out], ?_, ?_, hbk.out⟩
        · exact HV2.out.only (S := []) (by repeat (first | exact HO'.out | refine Only.setCell ?_ (.inr (by simp)) _)) (by simp)
        · repeat (first | exact HO'.out | refine Only.setCell ?_ (.inr (by simp)) _)
end Go.Proofs.Ytfckokdgmbbheaa.bit
