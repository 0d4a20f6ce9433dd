/-
  THE WALKS of Pieces: Add.
-/
import Derived.Test.YtidkadlmnidmoaaArqPcs
set_option linter.unusedVariables false
set_option linter.unusedSimpArgs false
namespace Go.Proofs.Ytidkadlmnidmoaa.arq
open Go Go.RowKit Go.Lm

set_option maxHeartbeats 2000000 in
/-- A piece comes that has not as many bytes as it must have. -/
theorem add_form (w : World) (p rl rh : Nat) (tot each : Int) (us : List Value) (hs : List Bool) (h : PC w p rl rh tot each us hs) (h0 : 0 ≤ tot) (h1 : tot ≤ 65536) (h2 : 1 ≤ each) (h3 : each ≤ 1500) (k : Nat) (hk : k < hs.length) (a : Option Addr) (n cap : Nat)
    (hl : (n : Int) ≠ min (max (tot - (k : Int) * each) 0) each) : Calls Try.prog 11 #[.pointer (some ⟨p, 0, none⟩), .int .i64 (k : Int), .slice a n cap] w fun e w' => e = .returned (.tuple #[.bool false, .int .i64 11]) ∧ Only [] w w' := by
  obtain ⟨c0, c1, c2, c3⟩ := h.cells
  have hsm := h.small
  obtain ⟨N, hN⟩ : ∃ N, hs.length = N := ⟨_, rfl⟩
  rw [hN] at c2 c3 hk hsm
  have hkI : (k : Int) < (N : Int) := by omega
  obtain ⟨m, hm⟩ : ∃ m, (k : Int) * each = m := ⟨_, rfl⟩
  have hm0 : 0 ≤ m := by rw [← hm]; exact Int.mul_nonneg (by omega) (by omega)
  have hm1 : m ≤ 1500000000 := by
    rw [← hm]
    calc (k : Int) * each ≤ 1000000 * each := Int.mul_le_mul_of_nonneg_right (by omega) (by omega)
      _ ≤ 1500000000 := by omega
  rw [hm] at hl
  obtain ⟨x, hx⟩ : ∃ x, min (max (tot - m) 0) each = x := ⟨_, rfl⟩
  rw [hx] at hl
  have HW : Hid (∀ W : World, Calls Try.prog 23 #[.int .i64 (tot - m), .int .i64 0, .int .i64 each] W fun e w' => e = .returned (.int .i64 x) ∧ W = w') := Lib.hid (fun W => by rw [← hx]; exact within_i_c W _ _ _)
  have hnx : ((n : Int) == x) = false := by rw [beq_eq_false_iff_ne]; exact hl
  have hnx2 : ((n : Int) != x) = true := by simp [bne, hnx]
  clear h hN hx hl
  have hw1 : IntKind.i64.wrap ((k : Int) * each) = m := by rw [hm, IntKind.wrap_i64]; omega
  have hw2 : IntKind.i64.wrap (tot - m) = tot - m := by rw [IntKind.wrap_i64]; omega
  have HM := Lib.hid hm
  clear hm
  go_enter Try.func11, Try.ntmps11
  go_wp2_with fail
  go_quiet (first | (go_at_call 23; exact Calls.quiet_of_same ((HW.out _).mono fun _ _ h => ⟨h.1, h.2.symm⟩)) | fail)
  go_wp2
  go_ret2
  exact ⟨rfl, (Only.refl [] w).drewN _⟩

set_option maxHeartbeats 2000000 in
/-- A piece comes that came already. -/
theorem add_again (w : World) (p rl rh : Nat) (tot each : Int) (us : List Value) (hs : List Bool) (h : PC w p rl rh tot each us hs) (h0 : 0 ≤ tot) (h1 : tot ≤ 65536) (h2 : 1 ≤ each) (h3 : each ≤ 1500) (k : Nat) (hk : k < hs.length) (a : Option Addr) (n cap : Nat)
    (hl : (n : Int) = min (max (tot - (k : Int) * each) 0) each) (hb : hs[k] = true) : Calls Try.prog 11 #[.pointer (some ⟨p, 0, none⟩), .int .i64 (k : Int), .slice a n cap] w fun e w' => e = .returned (.tuple #[.bool false, .int .i64 0]) ∧ Only [] w w' := by
  obtain ⟨c0, c1, c2, c3⟩ := h.cells
  have hsm := h.small
  have d0 := h.bit k hk
  rw [hb] at d0
  clear hb
  obtain ⟨N, hN⟩ : ∃ N, hs.length = N := ⟨_, rfl⟩
  rw [hN] at c2 c3 hk hsm
  have hkI : (k : Int) < (N : Int) := by omega
  obtain ⟨m, hm⟩ : ∃ m, (k : Int) * each = m := ⟨_, rfl⟩
  have hm0 : 0 ≤ m := by rw [← hm]; exact Int.mul_nonneg (by omega) (by omega)
  have hm1 : m ≤ 1500000000 := by
    rw [← hm]
    calc (k : Int) * each ≤ 1000000 * each := Int.mul_le_mul_of_nonneg_right (by omega) (by omega)
      _ ≤ 1500000000 := by omega
  rw [hm] at hl
  have HW : Hid (∀ W : World, Calls Try.prog 23 #[.int .i64 (tot - m), .int .i64 0, .int .i64 each] W fun e w' => e = .returned (.int .i64 (n : Int)) ∧ W = w') := Lib.hid (fun W => by rw [hl]; exact within_i_c W _ _ _)
  clear h hN hl
  have hw1 : IntKind.i64.wrap ((k : Int) * each) = m := by rw [hm, IntKind.wrap_i64]; omega
  have hw2 : IntKind.i64.wrap (tot - m) = tot - m := by rw [IntKind.wrap_i64]; omega
  have HM := Lib.hid hm
  clear hm
  go_enter Try.func11, Try.ntmps11
  go_wp2_with fail
  go_quiet (first | (go_at_call 23; exact Calls.quiet_of_same ((HW.out _).mono fun _ _ h => ⟨h.1, h.2.symm⟩)) | fail)
  go_wp2
  go_ret2
  exact ⟨rfl, (Only.refl [] w).drewN _⟩

theorem PC.at {w : World} {p rl rh : Nat} {tot each : Int} {us : List Value} {hs : List Bool} (h : PC w p rl rh tot each us hs) (k : Nat) (hk : k < hs.length) : w.cell? ⟨rl, k, none⟩ = some (us.getD k undef) ∧ w.cell? ⟨rh, k, none⟩ = some (.bool (hs.getD k false)) ∧ w.frozen? ⟨rl, k, none⟩ = false ∧ w.frozen? ⟨rh, k, none⟩ = false := by
  have hu : k < us.length := by rw [h.len]; exact hk
  refine ⟨?_, ?_, (h.free k).1, (h.free k).2⟩
  · have h := h.row
    simp [World.cell?, h, hu, List.getD_eq_getElem?_getD]
  · rw [h.bit k hk]
    simp [List.getD_eq_getElem?_getD, hk]
theorem PC.put {w : World} {p rl rh : Nat} {tot each : Int} {us : List Value} {hs : List Bool} (h : PC w p rl rh tot each us hs) (k : Nat) (u : Value) : PC ((w.setCell ⟨rl, k, none⟩ u).setCell ⟨rh, k, none⟩ (.bool true)) p rl rh tot each (us.set k u) (hs.set k true) := by
  have o1 : Only [rl] w (w.setCell ⟨rl, k, none⟩ u) := (Only.refl [rl] w).setCell (.inl (by simp)) _
  have o2 : Only [rh] (w.setCell ⟨rl, k, none⟩ u) ((w.setCell ⟨rl, k, none⟩ u).setCell ⟨rh, k, none⟩ (.bool true)) := (Only.refl [rh] _).setCell (.inl (by simp)) _
  have n1 := h.n1; have n2 := h.n2; have n3 := h.n3
  refine ⟨?_, ?_, ?_, ?_, ?_, n1, n2, n3⟩
  · rw [List.length_set]; exact o2.heap (o1.heap h.own (by simpa using n1)) (by simpa using n2)
  · have := Lm.heap_setCell_same (k := k) h.row u
    rw [show us.toArray.setIfInBounds k u = (us.set k u).toArray by simp] at this
    exact o2.heap this (by simpa using n3)
  · have := Lm.heap_setCell_same (k := k) (o1.heap h.bits (by simpa using n3.symm)) (.bool true)
    rw [show (bl hs).toArray.setIfInBounds k (.bool true) = (bl (hs.set k true)).toArray by simp [bl]] at this
    exact this
  · simp [h.len]
  · simpa using h.small
theorem only_put {w : World} (rl rh k : Nat) (u : Value) : Only [rl, rh] w ((w.setCell ⟨rl, k, none⟩ u).setCell ⟨rh, k, none⟩ (.bool true)) :=
  ((Only.refl [rl, rh] w).setCell (.inl (by simp)) _).setCell (.inl (by simp)) _

set_option maxHeartbeats 4000000 in
/-- A piece comes that is new. -/
theorem add_new (w : World) (p rl rh : Nat) (tot each : Int) (us : List Value) (hs : List Bool) (h : PC w p rl rh tot each us hs) (h0 : 0 ≤ tot) (h1 : tot ≤ 65536) (h2 : 1 ≤ each) (h3 : each ≤ 1500) (k : Nat) (hk : k < hs.length) (v : Value) (l : List UInt8) (hv : BS w v l)
    (hl : (l.length : Int) = min (max (tot - (k : Int) * each) 0) each) (hb : hs[k] = false) : Calls Try.prog 11 #[.pointer (some ⟨p, 0, none⟩), .int .i64 (k : Int), v] w fun e w' => e = .returned (.tuple #[.bool true, .int .i64 0]) ∧
      ∃ u w1, OV w1 w.heap.size 5 u (l.map u8v) ∧ Only [] w w1 ∧ PC w' p rl rh tot each (us.set k u) (hs.set k true) ∧ Only [rl, rh] w1 w' := by
  have HV := Lib.hid hv
  have HLL : Hid (l.length ≤ 140737488355328) := Lib.hid (by omega)
  obtain ⟨a, cap, rfl, -, -, -, -⟩ := hv
  have HP := Lib.hid h
  obtain ⟨c0, c1, c2, c3⟩ := h.cells
  have hsm := h.small
  have d0 := h.bit k hk
  rw [hb] at d0
  clear hb
  have hul : k < us.length := by rw [h.len]; exact hk
  obtain ⟨f0, f1⟩ := h.free k
  have e0 : w.cell? ⟨rl, k, none⟩ = some us[k] := by
    have h := h.row
    simp [World.cell?, h, hul]
  obtain ⟨uk, huk⟩ : ∃ uk, us[k] = uk := ⟨_, rfl⟩
  rw [huk] at e0
  have n3 := h.n3
  obtain ⟨N, hN⟩ : ∃ N, hs.length = N := ⟨_, rfl⟩
  rw [hN] at c2 c3 hk hsm
  have hkI : (k : Int) < (N : Int) := by omega
  obtain ⟨m, hm⟩ : ∃ m, (k : Int) * each = m := ⟨_, rfl⟩
  have hm0 : 0 ≤ m := by rw [← hm]; exact Int.mul_nonneg (by omega) (by omega)
  have hm1 : m ≤ 1500000000 := by
    rw [← hm]
    calc (k : Int) * each ≤ 1000000 * each := Int.mul_le_mul_of_nonneg_right (by omega) (by omega)
      _ ≤ 1500000000 := by omega
  rw [hm] at hl
  have HW : Hid (∀ W : World, Calls Try.prog 23 #[.int .i64 (tot - m), .int .i64 0, .int .i64 each] W fun e w' => e = .returned (.int .i64 (l.length : Int)) ∧ W = w') := Lib.hid (fun W => by rw [hl]; exact within_i_c W _ _ _)
  have HNN := Lib.hid hN
  clear h hN hl huk
  have hw1 : IntKind.i64.wrap ((k : Int) * each) = m := by rw [hm, IntKind.wrap_i64]; omega
  have hw2 : IntKind.i64.wrap (tot - m) = tot - m := by rw [IntKind.wrap_i64]; omega
  have HM := Lib.hid hm
  clear hm hul
  obtain ⟨L, hL⟩ : ∃ L, l.length = L := ⟨_, rfl⟩
  rw [hL] at HW HLL ⊢
  have HLL2 : Hid (l.length ≤ 140737488355328) := Lib.hid (by rw [hL]; exact HLL.out)
  have HV2 : Hid (BS w (.slice a L cap) l) := Lib.hid (by rw [← hL]; exact HV.out)
  clear HV hL
  go_enter Try.func11, Try.ntmps11
  go_wp2_with fail
  go_quiet (first | (go_at_call 23; exact Calls.quiet_of_same ((HW.out _).mono fun _ _ h => ⟨h.1, h.2.symm⟩)) | fail)
  go_wp2_with fail
  have HP1 := Lib.hid (HP.out.only ((Only.refl [] w).drewN nq) (by simp) (by simp) (by simp))
  have HV1 := Lib.hid (HV2.out.only ((Only.refl [] w).drewN nq) (by simp))
  have HO1 : Hid (Only [] w (w.drewN nq)) := Lib.hid ((Only.refl [] w).drewN nq)
  generalize w.drewN nq = w1 at *
  clear c0 c1 c2 c3 d0 f0 f1 e0
  have n1 := HP.out.n1
  have n2 := HP.out.n2
  have n1' := n1.symm
  have n2' := n2.symm
  have n3' := n3.symm
  obtain ⟨c0, c1, c2, c3⟩ := HP1.out.cells
  have HN : Hid (hs.length = N) := HNN
  rw [HN.out] at c2 c3
  obtain ⟨e0, d0, f0, f1⟩ := HP1.out.at k (by rw [HN.out]; exact hk)
  obtain ⟨uk, huk⟩ : ∃ uk, us.getD k undef = uk := ⟨_, rfl⟩
  obtain ⟨bk, hbk⟩ : ∃ bk, hs.getD k false = bk := ⟨_, rfl⟩
  rw [huk] at e0
  rw [hbk] at d0
  --@1
  go_region_held3 (fun w' => w'.cell? ⟨p, 2, none⟩ = some (.slice (some ⟨rl, 0, none⟩) N N) ∧ w'.cell? ⟨p, 3, none⟩ = some (.slice (some ⟨rh, 0, none⟩) N N)) (go_keep) (first | (go_at_call 24; (with_reducible refine (clone_c _ _ l (by first | with_reducible exact HV1.out | with_reducible exact HV1.out.only (Only.refl [] w1).drew (by simp)) HLL2.out).mono ?_); rintro e w5 ⟨u, rfl, hov, ho5⟩; obtain ⟨au, nu, cu, rfl⟩ := OV.isSlice hov; have hx5 : Only [] w1 w5 := (by first | exact (Only.refl [] w1).drew.then ho5 | exact ho5); obtain ⟨_, _, g2, g3⟩ := (HP1.out.only hx5 (by simp) (by simp) (by simp)).cells; rw [HN.out] at g2 g3; obtain ⟨g4, g5, g6, g7⟩ := (HP1.out.only hx5 (by simp) (by simp) (by simp)).at k (by rw [HN.out]; exact hk); rw [huk] at g4; rw [hbk] at g5; have HOV := Lib.hid hov; have HX5 := Lib.hid hx5; clear hov ho5 hx5))
  --@2
  go_wp2
  --@3
  go_ret2
  refine ⟨rfl, _, w5, ?_, HO1.out.then HX5.out, (HP1.out.only HX5.out (by simp) (by simp) (by simp)).put k _, only_put _ _ _ _⟩
  exact HOV.out.mono HO1.out.size
end Go.Proofs.Ytidkadlmnidmoaa.arq
