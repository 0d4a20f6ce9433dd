/-
  THE WALK of frame.WriteBlock.
-/
import Derived.Test.YtkblnlddamojoaaFrmBlk
set_option linter.unusedVariables false
set_option linter.unusedSimpArgs false
namespace Go.Proofs.Ytkblnlddamojoaa.frm
open Go Go.RowKit Go.Lm Go.Proofs.Ytkblnlddamojoaa.cur

/-- The number of a block's head. -/
def blkN (b : Bool) (k s : Nat) : Nat := 8 * s + 2 * k + if b then 1 else 0
set_option maxRecDepth 100000 in
set_option maxHeartbeats 2000000 in
theorem writeblock_yes (w : World) (b : Bool) (k s : Nat) (hk : k ≤ 2) (hs : s ≤ 2097151) : Calls Try.prog 15 #[.agg #[.bool b, .int .i64 k, .int .i64 s]] w fun e w' => ∃ v, e = .returned (.tuple #[v, .int .i64 0]) ∧ OV w' w.heap.size 5 v ((Cur.put (blkN b k s) 3).map u8v) ∧ Only [] w w' := by
  have o1 : bits .or .i64 ((8 * s : Nat) : Int) ((2 * k : Nat) : Int) = ((8 * s + 2 * k : Nat) : Int) := by
    rw [or_i64_nat _ _ (by omega) (by omega)]
    have h := Nat.two_pow_add_eq_or_of_lt (i := 3) (show 2 * k < 2 ^ 3 by omega) s
    rw [show 2 ^ 3 = 8 from rfl] at h
    rw [← h]
  have o2 : bits .or .i64 ((8 * s + 2 * k : Nat) : Int) 1 = ((8 * s + 2 * k + 1 : Nat) : Int) := by
    have h0 := or_i64_nat (8 * s + 2 * k) 1 (by omega) (by decide)
    have h := Nat.two_pow_add_eq_or_of_lt (i := 1) (show 1 < 2 ^ 1 by decide) (4 * s + k)
    rw [show 2 ^ 1 = 2 from rfl, show 2 * (4 * s + k) = 8 * s + 2 * k by omega] at h
    rw [show ((1 : Nat) : Int) = 1 from rfl] at h0
    rw [h0, ← h]
  obtain ⟨M, hM⟩ : ∃ M, 8 * s + 2 * k = M := ⟨_, rfl⟩
  obtain ⟨R, hR⟩ : ∃ R, blkN b k s = R := ⟨_, rfl⟩
  have hRM : R = M + if b then 1 else 0 := by rw [← hR, ← hM]; rfl
  rw [hR]
  rw [hM] at o1 o2
  have hMb : M ≤ 16777214 := by omega
  obtain ⟨M1, hM1⟩ : ∃ M1, M + 1 = M1 := ⟨_, rfl⟩
  rw [hM1] at o2
  obtain ⟨s8, hs8⟩ : ∃ x, 8 * s = x := ⟨_, rfl⟩
  obtain ⟨k2, hk2⟩ : ∃ x, 2 * k = x := ⟨_, rfl⟩
  rw [hs8, hk2] at o1
  have e1 : (s : Int) * 8 = (s8 : Int) := by omega
  have e2 : (k : Int) * 2 = (k2 : Int) := by omega
  have hRb : R ≤ 16777215 := by rw [hRM]; split <;> omega
  have HRB := Lib.hid hRb
  have i1 : (k : Int) ≤ 2 := by omega
  have i2 : (s : Int) < 2097152 := by omega
  have i3 : IntKind.i64.wrap (s8 : Int) = (s8 : Int) := by rw [IntKind.wrap_i64]; omega
  have i4 : IntKind.i64.wrap (k2 : Int) = (k2 : Int) := by rw [IntKind.wrap_i64]; omega
  have i5 : IntKind.u64.wrap (M : Int) = (M : Int) := by rw [IntKind.wrap_u64]; omega
  have i6 : IntKind.u64.wrap (M1 : Int) = (M1 : Int) := by rw [IntKind.wrap_u64]; omega
  have i7 : (0 : Int) ≤ (s : Int) := by omega
  have i8 : (0 : Int) ≤ (k : Int) := by omega
  clear hs hMb hRb hk
  generalize (s : Int) = sI at *
  generalize (k : Int) = kI at *
  cases b with
  | false =>
    obtain rfl : R = M := by simpa using hRM
    clear hR hRM hM hM1 hs8 hk2 o2
    go_enter Try.func15, Try.ntmps15
    go_wp2_with fail
    refine (newwriter_c _).mono ?_
    rintro e w2 ⟨rfl, hw2, ho2⟩
    have hD : w.heap.size ≤ w.heap.size + 1 := by omega
    have hw2q : WR w2 (w.heap.size + 1) (w.heap.size + 1) [] := by simpa using hw2
    have HW2 := Lib.hid hw2q
    have HO2 := Lib.hid (((Only.refl [] w).alloc _).then ho2)
    clear hw2 hw2q ho2
    go_wp2_with fail
    refine (wnumber_c w2 _ _ [] HW2.out R 3 (by have := HRB.out; omega) (by decide)).mono ?_
    rintro e w3 ⟨rfl, hw3, hb3⟩
    rw [if_pos (by decide), List.nil_append] at hw3
    have HW3 := Lib.hid hw3
    have HO3 := Lib.hid (Go.Lm.only_below HO2.out hb3 hD)
    clear hw3 hb3
    go_wp2_with fail
    refine (out_c w3 _ _ _ HW3.out (by simp [Cur.put_length])).mono ?_
    rintro e w4 ⟨v4, rfl, hov, ho4⟩
    have HOV := Lib.hid (hov.mono (B' := w.heap.size) HO3.out.size); have HO4 := Lib.hid (HO3.out.then ho4)
    clear hov ho4
    go_wp2
    go_ret2
    exact ⟨_, rfl, HOV.out, HO4.out⟩
  | true =>
    obtain rfl : R = M1 := by rw [← hM1, hRM]; rfl
    clear hR hRM hM hM1 hs8 hk2
    go_enter Try.func15, Try.ntmps15
    go_wp2_with fail
    refine (newwriter_c _).mono ?_
    rintro e w2 ⟨rfl, hw2, ho2⟩
    have hD : w.heap.size ≤ w.heap.size + 1 := by omega
    have hw2q : WR w2 (w.heap.size + 1) (w.heap.size + 1) [] := by simpa using hw2
    have HW2 := Lib.hid hw2q
    have HO2 := Lib.hid (((Only.refl [] w).alloc _).then ho2)
    clear hw2 hw2q ho2
    go_wp2_with fail
    refine (wnumber_c w2 _ _ [] HW2.out R 3 (by have := HRB.out; omega) (by decide)).mono ?_
    rintro e w3 ⟨rfl, hw3, hb3⟩
    rw [if_pos (by decide), List.nil_append] at hw3
    have HW3 := Lib.hid hw3
    have HO3 := Lib.hid (Go.Lm.only_below HO2.out hb3 hD)
    clear hw3 hb3
    go_wp2_with fail
    refine (out_c w3 _ _ _ HW3.out (by simp [Cur.put_length])).mono ?_
    rintro e w4 ⟨v4, rfl, hov, ho4⟩
    have HOV := Lib.hid (hov.mono (B' := w.heap.size) HO3.out.size); have HO4 := Lib.hid (HO3.out.then ho4)
    clear hov ho4
    go_wp2
    go_ret2
    exact ⟨_, rfl, HOV.out, HO4.out⟩
end Go.Proofs.Ytkblnlddamojoaa.frm
