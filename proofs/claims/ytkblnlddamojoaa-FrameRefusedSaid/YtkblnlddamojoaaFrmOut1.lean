/-
  THE WALK of frame.Write, part 1.
-/
import Derived.Test.YtkblnlddamojoaaFrmRead
set_option linter.unusedVariables false
set_option linter.unusedSimpArgs false
namespace Go.Proofs.Ytkblnlddamojoaa.frm
open Go Go.RowKit Go.Lm Go.Proofs.Ytkblnlddamojoaa.cur

theorem wmagic_1 (w : World) (B r : Nat) (l : List UInt8) (h : WR w B r l) (hl : l.length ≤ 1000000000) : Calls Try.prog 25 #[.pointer (some ⟨r, 0, none⟩), .int .u64 4247762216, .int .i64 4] w fun e w' =>
    e = .returned (.tuple #[]) ∧ WR w' B r (l ++ Cur.put 4247762216 4) ∧ Below B w w' := by
  have h1 := wnumber_c w B r l h 4247762216 4 (by decide) hl
  rw [if_pos (by decide)] at h1
  exact h1

set_option maxRecDepth 100000 in
set_option maxHeartbeats 4000000 in
theorem write_1_false (w : World) (size : Nat) (hs : size < 18446744073709551616) (g1 : size < 256) : Calls Try.prog 11 #[.int .u64 size, .bool false] w fun e w' => ∃ v, e = .returned v ∧ OV w' w.heap.size 5 v ((Cur.put 4247762216 4 ++ Cur.put 32 1 ++ Cur.put size 1).map u8v) ∧ Only [] w w' := by
  have o1 : bits .or .u64 (32 : Int) 64 = 96 := by decide +kernel
  have o2 : bits .or .u64 (32 : Int) 128 = 160 := by decide +kernel
  have o3 : bits .or .u64 (32 : Int) 192 = 224 := by decide +kernel
  have o4 : bits .or .u64 (32 : Int) 4 = 36 := by decide +kernel
  have hl1 := Cur.put_length 4247762216 4
  have hl2 := Cur.put_length 32 1
  have HL1 := Lib.hid hl1; have HL2 := Lib.hid hl2; have HS := Lib.hid hs
  clear hl1 hl2 hs
  obtain ⟨MG, hMG⟩ : ∃ MG, Cur.put 4247762216 4 = MG := ⟨_, rfl⟩
  rw [hMG] at HL1 ⊢
  have HMG := Lib.hid hMG; clear hMG
  have i1 : (size : Int) < 256 := by omega
  clear g1
  go_enter Try.func11, Try.ntmps11
  go_wp2_with fail
  refine (newwriter_c w).mono ?_
  rintro e w2 ⟨rfl, hw2, ho2⟩
  have HW2 := Lib.hid hw2; have HO2 := Lib.hid ho2
  have hD : w.heap.size ≤ w.heap.size := Nat.le_refl _
  clear hw2 ho2
  go_wp2_with fail
  refine (wmagic_1 w2 _ _ [] HW2.out (by decide)).mono ?_
  rintro e w3 ⟨rfl, hw3, hb3⟩
  rw [List.nil_append, HMG.out] at hw3
  have HW3 := Lib.hid hw3
  have HO3 := Lib.hid (Go.Lm.only_below HO2.out hb3 hD)
  clear hw3 hb3
  go_wp2_with fail
  refine (wnumber_c w3 _ _ MG HW3.out 32 1 (by decide) (by have := HL1.out; omega)).mono ?_
  rintro e w4 ⟨rfl, hw4, hb4⟩
  rw [if_pos (by decide)] at hw4
  have HW4 := Lib.hid hw4
  have HO4 := Lib.hid (Go.Lm.only_below HO3.out hb4 hD)
  clear hw4 hb4
  go_wp2_with fail
  refine (wnumber_c w4 _ _ _ HW4.out size 1 (by have := HS.out; omega) (by have := HL1.out; have := HL2.out; simp; omega)).mono ?_
  rintro e w5 ⟨rfl, hw5, hb5⟩
  rw [if_pos (by decide)] at hw5
  have HW5 := Lib.hid hw5
  have HO5 := Lib.hid (Go.Lm.only_below HO4.out hb5 hD)
  clear hw5 hb5
  go_wp2_with fail
  refine (out_c w5 _ _ _ HW5.out (by have := HL1.out; have := HL2.out; simp [Cur.put_length]; omega)).mono ?_
  rintro e w6 ⟨v6, rfl, hov6, ho6⟩
  have HOV6 := Lib.hid (hov6.mono (B' := w.heap.size) HO5.out.size); have HO6 := Lib.hid (HO5.out.then ho6)
  clear hov6 ho6
  go_wp2
  go_ret
  exact ⟨_, rfl, HOV6.out, HO6.out⟩

set_option maxRecDepth 100000 in
set_option maxHeartbeats 4000000 in
theorem write_1_true (w : World) (size : Nat) (hs : size < 18446744073709551616) (g1 : size < 256) : Calls Try.prog 11 #[.int .u64 size, .bool true] w fun e w' => ∃ v, e = .returned v ∧ OV w' w.heap.size 5 v ((Cur.put 4247762216 4 ++ Cur.put 36 1 ++ Cur.put size 1).map u8v) ∧ Only [] w w' := by
  have o1 : bits .or .u64 (32 : Int) 64 = 96 := by decide +kernel
  have o2 : bits .or .u64 (32 : Int) 128 = 160 := by decide +kernel
  have o3 : bits .or .u64 (32 : Int) 192 = 224 := by decide +kernel
  have o4 : bits .or .u64 (32 : Int) 4 = 36 := by decide +kernel
  have hl1 := Cur.put_length 4247762216 4
  have hl2 := Cur.put_length 36 1
  have HL1 := Lib.hid hl1; have HL2 := Lib.hid hl2; have HS := Lib.hid hs
  clear hl1 hl2 hs
  obtain ⟨MG, hMG⟩ : ∃ MG, Cur.put 4247762216 4 = MG := ⟨_, rfl⟩
  rw [hMG] at HL1 ⊢
  have HMG := Lib.hid hMG; clear hMG
  have i1 : (size : Int) < 256 := by omega
  clear g1
  go_enter Try.func11, Try.ntmps11
  go_wp2_with fail
  refine (newwriter_c w).mono ?_
  rintro e w2 ⟨rfl, hw2, ho2⟩
  have HW2 := Lib.hid hw2; have HO2 := Lib.hid ho2
  have hD : w.heap.size ≤ w.heap.size := Nat.le_refl _
  clear hw2 ho2
  go_wp2_with fail
  refine (wmagic_1 w2 _ _ [] HW2.out (by decide)).mono ?_
  rintro e w3 ⟨rfl, hw3, hb3⟩
  rw [List.nil_append, HMG.out] at hw3
  have HW3 := Lib.hid hw3
  have HO3 := Lib.hid (Go.Lm.only_below HO2.out hb3 hD)
  clear hw3 hb3
  go_wp2_with fail
  refine (wnumber_c w3 _ _ MG HW3.out 36 1 (by decide) (by have := HL1.out; omega)).mono ?_
  rintro e w4 ⟨rfl, hw4, hb4⟩
  rw [if_pos (by decide)] at hw4
  have HW4 := Lib.hid hw4
  have HO4 := Lib.hid (Go.Lm.only_below HO3.out hb4 hD)
  clear hw4 hb4
  go_wp2_with fail
  refine (wnumber_c w4 _ _ _ HW4.out size 1 (by have := HS.out; omega) (by have := HL1.out; have := HL2.out; simp; omega)).mono ?_
  rintro e w5 ⟨rfl, hw5, hb5⟩
  rw [if_pos (by decide)] at hw5
  have HW5 := Lib.hid hw5
  have HO5 := Lib.hid (Go.Lm.only_below HO4.out hb5 hD)
  clear hw5 hb5
  go_wp2_with fail
  refine (out_c w5 _ _ _ HW5.out (by have := HL1.out; have := HL2.out; simp [Cur.put_length]; omega)).mono ?_
  rintro e w6 ⟨v6, rfl, hov6, ho6⟩
  have HOV6 := Lib.hid (hov6.mono (B' := w.heap.size) HO5.out.size); have HO6 := Lib.hid (HO5.out.then ho6)
  clear hov6 ho6
  go_wp2
  go_ret
  exact ⟨_, rfl, HOV6.out, HO6.out⟩
end Go.Proofs.Ytkblnlddamojoaa.frm
