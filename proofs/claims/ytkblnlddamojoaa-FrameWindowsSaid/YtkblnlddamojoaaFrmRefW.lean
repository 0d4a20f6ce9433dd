/-
  THE WALK of the reference's Write.
-/
import Derived.Test.YtkblnlddamojoaaFrmBlk
set_option linter.unusedVariables false
set_option linter.unusedSimpArgs false
namespace Go.Proofs.Ytkblnlddamojoaa.frm
open Go Go.RowKit Go.Lm Go.Proofs.Ytkblnlddamojoaa.cur

theorem magic_eq : Cur.put 4247762216 4 = [40, 181, 47, 253] := by decide +kernel
theorem cat3 (s1 s2 : ByteArray) (l1 l2 : List UInt8) (h1 : s1.data.toList = l1) (h2 : s2.data.toList = l2) : ((⟨#[40, 181, 47, 253]⟩ : ByteArray) ++ s1 ++ s2).data.toList = [40, 181, 47, 253] ++ l1 ++ l2 := by
  subst h1 h2
  simp [ByteArray.data_append]

set_option maxHeartbeats 1000000 in
theorem refwrite_1_false (w : World) (size : Nat) (hs : size < 18446744073709551616) (g1 : size < 256) : Calls Try.prog 12 #[.int .u64 size, .bool false] w fun e w' => ∃ s, e = .returned (.string s) ∧ s.data.toList = [40, 181, 47, 253] ++ Cur.put 32 1 ++ Cur.put size 1 ∧ Only [] w w' := by
  have HS := Lib.hid hs; clear hs
  have i1 : (size : Int) < 256 := by omega
  clear g1
  go_enter Try.func12, Try.ntmps12
  go_wp2_with fail
  refine (refput_c w 32 1 (by decide) (by decide)).mono ?_
  rintro e w1 ⟨s1, rfl, hs1, ho1⟩
  rw [if_pos (by decide)] at hs1
  have hz1 : s1.size ≤ 8 := by have := congrArg List.length hs1; rw [len_data, Cur.put_length] at this; omega
  have HS1 := Lib.hid hs1; have HO1 := Lib.hid ho1
  clear hs1 ho1
  go_wp2_with fail
  refine (refput_c w1 size 1 (by have := HS.out; omega) (by decide)).mono ?_
  rintro e w2 ⟨s2, rfl, hs2, ho2⟩
  rw [if_pos (by decide)] at hs2
  have hz2 : s2.size ≤ 8 := by have := congrArg List.length hs2; rw [len_data, Cur.put_length] at this; omega
  have HS2 := Lib.hid hs2; have HO2 := Lib.hid (HO1.out.then ho2)
  clear hs2 ho2
  go_wp2
  go_ret
  exact ⟨_, rfl, cat3 s1 s2 _ _ HS1.out HS2.out, HO2.out⟩

set_option maxHeartbeats 1000000 in
theorem refwrite_1_true (w : World) (size : Nat) (hs : size < 18446744073709551616) (g1 : size < 256) : Calls Try.prog 12 #[.int .u64 size, .bool true] w fun e w' => ∃ s, e = .returned (.string s) ∧ s.data.toList = [40, 181, 47, 253] ++ Cur.put 36 1 ++ Cur.put size 1 ∧ Only [] w w' := by
  have HS := Lib.hid hs; clear hs
  have i1 : (size : Int) < 256 := by omega
  clear g1
  go_enter Try.func12, Try.ntmps12
  go_wp2_with fail
  refine (refput_c w 36 1 (by decide) (by decide)).mono ?_
  rintro e w1 ⟨s1, rfl, hs1, ho1⟩
  rw [if_pos (by decide)] at hs1
  have hz1 : s1.size ≤ 8 := by have := congrArg List.length hs1; rw [len_data, Cur.put_length] at this; omega
  have HS1 := Lib.hid hs1; have HO1 := Lib.hid ho1
  clear hs1 ho1
  go_wp2_with fail
  refine (refput_c w1 size 1 (by have := HS.out; omega) (by decide)).mono ?_
  rintro e w2 ⟨s2, rfl, hs2, ho2⟩
  rw [if_pos (by decide)] at hs2
  have hz2 : s2.size ≤ 8 := by have := congrArg List.length hs2; rw [len_data, Cur.put_length] at this; omega
  have HS2 := Lib.hid hs2; have HO2 := Lib.hid (HO1.out.then ho2)
  clear hs2 ho2
  go_wp2
  go_ret
  exact ⟨_, rfl, cat3 s1 s2 _ _ HS1.out HS2.out, HO2.out⟩

set_option maxHeartbeats 1000000 in
theorem refwrite_2_false (w : World) (size : Nat) (hs : size < 18446744073709551616) (g1 : ¬ size < 256) (g2 : size < 65792) : Calls Try.prog 12 #[.int .u64 size, .bool false] w fun e w' => ∃ s, e = .returned (.string s) ∧ s.data.toList = [40, 181, 47, 253] ++ Cur.put 96 1 ++ Cur.put (size - 256) 2 ∧ Only [] w w' := by
  have HS := Lib.hid hs; clear hs
  obtain ⟨X, hX⟩ : ∃ X, size - 256 = X := ⟨_, rfl⟩
  have HXX := Lib.hid hX
  have hXs : X < 18446744073709551616 := by omega
  have i1 : ¬ ((size : Int) < 256) := by omega
  have i2 : (size : Int) < 65792 := by omega
  have i3 : ((size : Int) - 256) % 18446744073709551616 = (X : Int) := by have := HS.out; omega
  have i4 : (size : Int) - 256 = (X : Int) := by omega
  have i5 : IntKind.u64.wrap ((size : Int) - 256) = (X : Int) := by rw [IntKind.wrap_u64]; exact i3
  have HS := Lib.hid hXs
  clear g1 g2 hX hXs
  go_enter Try.func12, Try.ntmps12
  go_wp2_with fail
  refine (refput_c w 96 1 (by decide) (by decide)).mono ?_
  rintro e w1 ⟨s1, rfl, hs1, ho1⟩
  rw [if_pos (by decide)] at hs1
  have hz1 : s1.size ≤ 8 := by have := congrArg List.length hs1; rw [len_data, Cur.put_length] at this; omega
  have HS1 := Lib.hid hs1; have HO1 := Lib.hid ho1
  clear hs1 ho1
  go_wp2_with fail
  refine (refput_c w1 X 2 (by have := HS.out; omega) (by decide)).mono ?_
  rintro e w2 ⟨s2, rfl, hs2, ho2⟩
  rw [if_pos (by decide)] at hs2
  have hz2 : s2.size ≤ 8 := by have := congrArg List.length hs2; rw [len_data, Cur.put_length] at this; omega
  have HS2 := Lib.hid hs2; have HO2 := Lib.hid (HO1.out.then ho2)
  clear hs2 ho2
  go_wp2
  go_ret
  exact ⟨_, rfl, by rw [HXX.out]; exact cat3 s1 s2 _ _ HS1.out HS2.out, HO2.out⟩

set_option maxHeartbeats 1000000 in
theorem refwrite_2_true (w : World) (size : Nat) (hs : size < 18446744073709551616) (g1 : ¬ size < 256) (g2 : size < 65792) : Calls Try.prog 12 #[.int .u64 size, .bool true] w fun e w' => ∃ s, e = .returned (.string s) ∧ s.data.toList = [40, 181, 47, 253] ++ Cur.put 100 1 ++ Cur.put (size - 256) 2 ∧ Only [] w w' := by
  have HS := Lib.hid hs; clear hs
  obtain ⟨X, hX⟩ : ∃ X, size - 256 = X := ⟨_, rfl⟩
  have HXX := Lib.hid hX
  have hXs : X < 18446744073709551616 := by omega
  have i1 : ¬ ((size : Int) < 256) := by omega
  have i2 : (size : Int) < 65792 := by omega
  have i3 : ((size : Int) - 256) % 18446744073709551616 = (X : Int) := by have := HS.out; omega
  have i4 : (size : Int) - 256 = (X : Int) := by omega
  have i5 : IntKind.u64.wrap ((size : Int) - 256) = (X : Int) := by rw [IntKind.wrap_u64]; exact i3
  have HS := Lib.hid hXs
  clear g1 g2 hX hXs
  go_enter Try.func12, Try.ntmps12
  go_wp2_with fail
  refine (refput_c w 100 1 (by decide) (by decide)).mono ?_
  rintro e w1 ⟨s1, rfl, hs1, ho1⟩
  rw [if_pos (by decide)] at hs1
  have hz1 : s1.size ≤ 8 := by have := congrArg List.length hs1; rw [len_data, Cur.put_length] at this; omega
  have HS1 := Lib.hid hs1; have HO1 := Lib.hid ho1
  clear hs1 ho1
  go_wp2_with fail
  refine (refput_c w1 X 2 (by have := HS.out; omega) (by decide)).mono ?_
  rintro e w2 ⟨s2, rfl, hs2, ho2⟩
  rw [if_pos (by decide)] at hs2
  have hz2 : s2.size ≤ 8 := by have := congrArg List.length hs2; rw [len_data, Cur.put_length] at this; omega
  have HS2 := Lib.hid hs2; have HO2 := Lib.hid (HO1.out.then ho2)
  clear hs2 ho2
  go_wp2
  go_ret
  exact ⟨_, rfl, by rw [HXX.out]; exact cat3 s1 s2 _ _ HS1.out HS2.out, HO2.out⟩

set_option maxHeartbeats 1000000 in
theorem refwrite_3_false (w : World) (size : Nat) (hs : size < 18446744073709551616) (g1 : ¬ size < 65792) (g2 : size < 4294967296) : Calls Try.prog 12 #[.int .u64 size, .bool false] w fun e w' => ∃ s, e = .returned (.string s) ∧ s.data.toList = [40, 181, 47, 253] ++ Cur.put 160 1 ++ Cur.put size 4 ∧ Only [] w w' := by
  have HS := Lib.hid hs; clear hs
  have i0 : ¬ ((size : Int) < 256) := by omega
  have i1 : ¬ ((size : Int) < 65792) := by omega
  have i2 : (size : Int) < 4294967296 := by omega
  clear g1 g2
  go_enter Try.func12, Try.ntmps12
  go_wp2_with fail
  refine (refput_c w 160 1 (by decide) (by decide)).mono ?_
  rintro e w1 ⟨s1, rfl, hs1, ho1⟩
  rw [if_pos (by decide)] at hs1
  have hz1 : s1.size ≤ 8 := by have := congrArg List.length hs1; rw [len_data, Cur.put_length] at this; omega
  have HS1 := Lib.hid hs1; have HO1 := Lib.hid ho1
  clear hs1 ho1
  go_wp2_with fail
  refine (refput_c w1 size 4 (by have := HS.out; omega) (by decide)).mono ?_
  rintro e w2 ⟨s2, rfl, hs2, ho2⟩
  rw [if_pos (by decide)] at hs2
  have hz2 : s2.size ≤ 8 := by have := congrArg List.length hs2; rw [len_data, Cur.put_length] at this; omega
  have HS2 := Lib.hid hs2; have HO2 := Lib.hid (HO1.out.then ho2)
  clear hs2 ho2
  go_wp2
  go_ret
  exact ⟨_, rfl, cat3 s1 s2 _ _ HS1.out HS2.out, HO2.out⟩

set_option maxHeartbeats 1000000 in
theorem refwrite_3_true (w : World) (size : Nat) (hs : size < 18446744073709551616) (g1 : ¬ size < 65792) (g2 : size < 4294967296) : Calls Try.prog 12 #[.int .u64 size, .bool true] w fun e w' => ∃ s, e = .returned (.string s) ∧ s.data.toList = [40, 181, 47, 253] ++ Cur.put 164 1 ++ Cur.put size 4 ∧ Only [] w w' := by
  have HS := Lib.hid hs; clear hs
  have i0 : ¬ ((size : Int) < 256) := by omega
  have i1 : ¬ ((size : Int) < 65792) := by omega
  have i2 : (size : Int) < 4294967296 := by omega
  clear g1 g2
  go_enter Try.func12, Try.ntmps12
  go_wp2_with fail
  refine (refput_c w 164 1 (by decide) (by decide)).mono ?_
  rintro e w1 ⟨s1, rfl, hs1, ho1⟩
  rw [if_pos (by decide)] at hs1
  have hz1 : s1.size ≤ 8 := by have := congrArg List.length hs1; rw [len_data, Cur.put_length] at this; omega
  have HS1 := Lib.hid hs1; have HO1 := Lib.hid ho1
  clear hs1 ho1
  go_wp2_with fail
  refine (refput_c w1 size 4 (by have := HS.out; omega) (by decide)).mono ?_
  rintro e w2 ⟨s2, rfl, hs2, ho2⟩
  rw [if_pos (by decide)] at hs2
  have hz2 : s2.size ≤ 8 := by have := congrArg List.length hs2; rw [len_data, Cur.put_length] at this; omega
  have HS2 := Lib.hid hs2; have HO2 := Lib.hid (HO1.out.then ho2)
  clear hs2 ho2
  go_wp2
  go_ret
  exact ⟨_, rfl, cat3 s1 s2 _ _ HS1.out HS2.out, HO2.out⟩

set_option maxHeartbeats 1000000 in
theorem refwrite_4_false (w : World) (size : Nat) (hs : size < 18446744073709551616) (g1 : ¬ size < 4294967296) : Calls Try.prog 12 #[.int .u64 size, .bool false] w fun e w' => ∃ s, e = .returned (.string s) ∧ s.data.toList = [40, 181, 47, 253] ++ Cur.put 224 1 ++ Cur.put size 8 ∧ Only [] w w' := by
  have HS := Lib.hid hs; clear hs
  have i0 : ¬ ((size : Int) < 256) := by omega
  have i1 : ¬ ((size : Int) < 65792) := by omega
  have i2 : ¬ ((size : Int) < 4294967296) := by omega
  clear g1
  go_enter Try.func12, Try.ntmps12
  go_wp2_with fail
  refine (refput_c w 224 1 (by decide) (by decide)).mono ?_
  rintro e w1 ⟨s1, rfl, hs1, ho1⟩
  rw [if_pos (by decide)] at hs1
  have hz1 : s1.size ≤ 8 := by have := congrArg List.length hs1; rw [len_data, Cur.put_length] at this; omega
  have HS1 := Lib.hid hs1; have HO1 := Lib.hid ho1
  clear hs1 ho1
  go_wp2_with fail
  refine (refput_c w1 size 8 (by have := HS.out; omega) (by decide)).mono ?_
  rintro e w2 ⟨s2, rfl, hs2, ho2⟩
  rw [if_pos (by decide)] at hs2
  have hz2 : s2.size ≤ 8 := by have := congrArg List.length hs2; rw [len_data, Cur.put_length] at this; omega
  have HS2 := Lib.hid hs2; have HO2 := Lib.hid (HO1.out.then ho2)
  clear hs2 ho2
  go_wp2
  go_ret
  exact ⟨_, rfl, cat3 s1 s2 _ _ HS1.out HS2.out, HO2.out⟩

set_option maxHeartbeats 1000000 in
theorem refwrite_4_true (w : World) (size : Nat) (hs : size < 18446744073709551616) (g1 : ¬ size < 4294967296) : Calls Try.prog 12 #[.int .u64 size, .bool true] w fun e w' => ∃ s, e = .returned (.string s) ∧ s.data.toList = [40, 181, 47, 253] ++ Cur.put 228 1 ++ Cur.put size 8 ∧ Only [] w w' := by
  have HS := Lib.hid hs; clear hs
  have i0 : ¬ ((size : Int) < 256) := by omega
  have i1 : ¬ ((size : Int) < 65792) := by omega
  have i2 : ¬ ((size : Int) < 4294967296) := by omega
  clear g1
  go_enter Try.func12, Try.ntmps12
  go_wp2_with fail
  refine (refput_c w 228 1 (by decide) (by decide)).mono ?_
  rintro e w1 ⟨s1, rfl, hs1, ho1⟩
  rw [if_pos (by decide)] at hs1
  have hz1 : s1.size ≤ 8 := by have := congrArg List.length hs1; rw [len_data, Cur.put_length] at this; omega
  have HS1 := Lib.hid hs1; have HO1 := Lib.hid ho1
  clear hs1 ho1
  go_wp2_with fail
  refine (refput_c w1 size 8 (by have := HS.out; omega) (by decide)).mono ?_
  rintro e w2 ⟨s2, rfl, hs2, ho2⟩
  rw [if_pos (by decide)] at hs2
  have hz2 : s2.size ≤ 8 := by have := congrArg List.length hs2; rw [len_data, Cur.put_length] at this; omega
  have HS2 := Lib.hid hs2; have HO2 := Lib.hid (HO1.out.then ho2)
  clear hs2 ho2
  go_wp2
  go_ret
  exact ⟨_, rfl, cat3 s1 s2 _ _ HS1.out HS2.out, HO2.out⟩
end Go.Proofs.Ytkblnlddamojoaa.frm
