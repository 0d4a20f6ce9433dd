/-
  THE WALK of the laws' awake.
-/
import Derived.Test.YtoebpfnmgmnpoaaDoorCrcRef
import Derived.Lib.SlBytesConst
namespace Go.Proofs.YtoebpfnmgmnpoaaDoor.crc
open Go Go.RowKit Go.Lm

set_option maxHeartbeats 400000 in
theorem awake_c (w : World) (hT : Tab w) : Calls Tryd.prog 7 #[] w fun e w' => e = .returned (.bool true) ∧ Only [] w w' := by
  have H0 := Lib.hid (tab_zero hT)
  have HT := Lib.hid hT; clear hT
  go_enter Tryd.func7, Tryd.ntmps7
  go_wp2_with fail
  refine (new_c w).mono ?_
  rintro e w1 ⟨rfl, hb1, ho1⟩
  have HB1 := Lib.hid hb1; clear hb1
  have HO1 := Lib.hid ho1; clear ho1
  have kc := fun (w : World) (C : Array Value) (n c : Nat) => Lib.run_convert_bytes_const (P := Tryd.prog) w 26 5 C n c Tryd.underlying26 Tryd.underlying5
  go_wp2_with fail
  refine (write_bs _ 4294967295 _ (by omega) (Only.heap ((Only.refl [] _).alloc _) HB1.out (by simp)) (HT.out.only (HO1.out.alloc _) (by simp)) (by have := H0.out; omega) _ [49, 50, 51, 52] (BS.lit _ _ _ _ _ _ rfl rfl (by decide)) (by decide) (by have := HO1.out.size; have := lt_of_block HB1.out; simp [Value.ownBlock]; omega)).mono ?_
  rintro e w2 ⟨rfl, hb2, ho2⟩
  have HO2 : Hid (Only [] w w2) := (HO1.out.alloc _).trans ho2 (by simp) (by simp)
  have HB2 := Lib.hid hb2; clear hb2 ho2 HB1 HO1
  go_wp2_with fail
  refine (write_bs _ _ _ (Crc.fold_lt (by omega) _) (Only.heap ((Only.refl [] _).alloc _) HB2.out (by simp)) (HT.out.only (HO2.out.alloc _) (by simp)) (by have := H0.out; omega) _ [53, 54, 55, 56, 57] (BS.lit _ _ _ _ _ _ rfl rfl (by decide)) (by decide) (by have := lt_of_block HB2.out; simp [Value.ownBlock]; omega)).mono ?_
  rintro e w3 ⟨rfl, hb3, ho3⟩
  have HO3 : Hid (Only [] w w3) := (HO2.out.alloc _).trans ho3 (by simp) (by simp)
  have HB3 := Lib.hid hb3; clear hb3 ho3 HB2 HO2
  go_wp2_with fail
  refine (of_c _ _ [49, 50, 51, 52, 53, 54, 55, 56, 57] (BS.lit _ _ _ _ _ _ rfl rfl (by decide)) (by decide) (HT.out.only (HO3.out.alloc _) (by simp))).mono ?_
  rintro e w4 ⟨rfl, ho4⟩
  have HO4 : Hid (Only [] w w4) := (HO3.out.alloc _).trans ho4 (by simp) (by simp)
  have hc4 := cell_of_one (ho4.heap (Only.heap ((Only.refl [] _).alloc _) HB3.out (by simp)) (by simp))
  clear ho4 HB3 HO3
  have es : Crc.sum [49, 50, 51, 52, 53, 54, 55, 56, 57] = 3808858755 := by decide
  have ef : Crc.fold (Crc.fold 4294967295 [49, 50, 51, 52]) [53, 54, 55, 56, 57] = 486108540 := by decide
  rw [ef] at hc4
  rw [es]
  clear es ef
  go_wp2_with fail
  refine (sum_c _ 486108540 _ hc4 (by omega)).mono ?_
  rintro e w5 ⟨rfl, rfl⟩
  go_wp2
  go_ret
  exact ⟨rfl, HO4.out⟩
end Go.Proofs.YtoebpfnmgmnpoaaDoor.crc
