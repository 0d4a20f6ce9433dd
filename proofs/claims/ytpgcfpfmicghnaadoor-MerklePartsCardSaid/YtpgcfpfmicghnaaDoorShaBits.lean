/-
  THE WALKS of the words' functions: RotateLeft32, turned, part, right.
-/
import Derived.Test.YtpgcfpfmicghnaaDoorRows
import Derived.Test.YtpgcfpfmicghnaaDoorGen
import Derived.Test.YtpgcfpfmicghnaaDoorShaPlain
import Derived.WalkSpells
import Derived.PlainAid
set_option linter.unusedVariables false
set_option linter.unusedSimpArgs false
namespace Go.Proofs.YtpgcfpfmicghnaaDoor.sha
open Go Go.RowKit Go.Lm

theorem rr_val (n x p q : Nat) (hx : x < 4294967296) (hp : 2 ^ (32 - n) = p) (hq : 2 ^ n = q) : bits .or .u32 ((x : Int) * (p : Int) % 4294967296) ((x : Int) / (q : Int)) = (Sha.rr n x : Nat) := by
  have e1 : (x : Int) * (p : Int) % 4294967296 = ((x * p % 4294967296 : Nat) : Int) := by simp
  have e2 : (x : Int) / (q : Int) = ((x / q : Nat) : Int) := by simp
  have h1 : x * p % 4294967296 < 4294967296 := Nat.mod_lt _ (by decide)
  have h2 : x / q < 4294967296 := Nat.lt_of_le_of_lt (Nat.div_le_self _ _) hx
  rw [e1, e2, u32_or_nat _ _ h1 h2, Sha.rr, hp, hq]
theorem rr_val' (n x p q : Nat) (hx : x < 4294967296) (hp : 2 ^ (32 - n) = p) (hq : 2 ^ n = q) : bits .or .u32 ((x : Int) / (q : Int)) ((x : Int) * (p : Int) % 4294967296) = (Sha.rr n x : Nat) := by
  have e1 : (x : Int) * (p : Int) % 4294967296 = ((x * p % 4294967296 : Nat) : Int) := by simp
  have e2 : (x : Int) / (q : Int) = ((x / q : Nat) : Int) := by simp
  have h1 : x * p % 4294967296 < 4294967296 := Nat.mod_lt _ (by decide)
  have h2 : x / q < 4294967296 := Nat.lt_of_le_of_lt (Nat.div_le_self _ _) hx
  rw [e1, e2, u32_or_nat _ _ h2 h1, Sha.rr, hp, hq, Nat.or_comm]

set_option maxHeartbeats 1000000 in
theorem rot_2 (x : Nat) (hx : x < 4294967296) (w : World) : Calls Tryd.prog 58 #[.int .u32 x, .int .i64 (-2)] w fun e w' => e = .returned (.int .u32 (Sha.rr 2 x : Nat)) ∧ w = w' := by
  have o1 : bits .and .u64 (IntKind.u64.wrap (-2)) 31 = 30 := by decide +kernel
  have o2 := rr_val 2 x 1073741824 4 hx rfl rfl
  go_enter Tryd.func58, Tryd.ntmps58
  go_wp2
  go_ret
  exact ⟨congrArg (fun z => Ending.returned (Value.int .u32 z)) o2, rfl⟩

set_option maxHeartbeats 1000000 in
theorem right_2 (x : Nat) (hx : x < 4294967296) (w : World) : Calls Tryd.prog 43 #[.int .u32 x, .int .u64 2] w fun e w' => e = .returned (.int .u32 (Sha.rr 2 x : Nat)) ∧ w = w' := by
  have o2 := rr_val' 2 x 1073741824 4 hx rfl rfl
  go_enter Tryd.func43, Tryd.ntmps43
  go_wp2
  go_ret
  exact ⟨congrArg (fun z => Ending.returned (Value.int .u32 z)) o2, rfl⟩

set_option maxHeartbeats 1000000 in
theorem rot_6 (x : Nat) (hx : x < 4294967296) (w : World) : Calls Tryd.prog 58 #[.int .u32 x, .int .i64 (-6)] w fun e w' => e = .returned (.int .u32 (Sha.rr 6 x : Nat)) ∧ w = w' := by
  have o1 : bits .and .u64 (IntKind.u64.wrap (-6)) 31 = 26 := by decide +kernel
  have o2 := rr_val 6 x 67108864 64 hx rfl rfl
  go_enter Tryd.func58, Tryd.ntmps58
  go_wp2
  go_ret
  exact ⟨congrArg (fun z => Ending.returned (Value.int .u32 z)) o2, rfl⟩

set_option maxHeartbeats 1000000 in
theorem right_6 (x : Nat) (hx : x < 4294967296) (w : World) : Calls Tryd.prog 43 #[.int .u32 x, .int .u64 6] w fun e w' => e = .returned (.int .u32 (Sha.rr 6 x : Nat)) ∧ w = w' := by
  have o2 := rr_val' 6 x 67108864 64 hx rfl rfl
  go_enter Tryd.func43, Tryd.ntmps43
  go_wp2
  go_ret
  exact ⟨congrArg (fun z => Ending.returned (Value.int .u32 z)) o2, rfl⟩

set_option maxHeartbeats 1000000 in
theorem rot_7 (x : Nat) (hx : x < 4294967296) (w : World) : Calls Tryd.prog 58 #[.int .u32 x, .int .i64 (-7)] w fun e w' => e = .returned (.int .u32 (Sha.rr 7 x : Nat)) ∧ w = w' := by
  have o1 : bits .and .u64 (IntKind.u64.wrap (-7)) 31 = 25 := by decide +kernel
  have o2 := rr_val 7 x 33554432 128 hx rfl rfl
  go_enter Tryd.func58, Tryd.ntmps58
  go_wp2
  go_ret
  exact ⟨congrArg (fun z => Ending.returned (Value.int .u32 z)) o2, rfl⟩

set_option maxHeartbeats 1000000 in
theorem right_7 (x : Nat) (hx : x < 4294967296) (w : World) : Calls Tryd.prog 43 #[.int .u32 x, .int .u64 7] w fun e w' => e = .returned (.int .u32 (Sha.rr 7 x : Nat)) ∧ w = w' := by
  have o2 := rr_val' 7 x 33554432 128 hx rfl rfl
  go_enter Tryd.func43, Tryd.ntmps43
  go_wp2
  go_ret
  exact ⟨congrArg (fun z => Ending.returned (Value.int .u32 z)) o2, rfl⟩

set_option maxHeartbeats 1000000 in
theorem rot_11 (x : Nat) (hx : x < 4294967296) (w : World) : Calls Tryd.prog 58 #[.int .u32 x, .int .i64 (-11)] w fun e w' => e = .returned (.int .u32 (Sha.rr 11 x : Nat)) ∧ w = w' := by
  have o1 : bits .and .u64 (IntKind.u64.wrap (-11)) 31 = 21 := by decide +kernel
  have o2 := rr_val 11 x 2097152 2048 hx rfl rfl
  go_enter Tryd.func58, Tryd.ntmps58
  go_wp2
  go_ret
  exact ⟨congrArg (fun z => Ending.returned (Value.int .u32 z)) o2, rfl⟩

set_option maxHeartbeats 1000000 in
theorem right_11 (x : Nat) (hx : x < 4294967296) (w : World) : Calls Tryd.prog 43 #[.int .u32 x, .int .u64 11] w fun e w' => e = .returned (.int .u32 (Sha.rr 11 x : Nat)) ∧ w = w' := by
  have o2 := rr_val' 11 x 2097152 2048 hx rfl rfl
  go_enter Tryd.func43, Tryd.ntmps43
  go_wp2
  go_ret
  exact ⟨congrArg (fun z => Ending.returned (Value.int .u32 z)) o2, rfl⟩

set_option maxHeartbeats 1000000 in
theorem rot_13 (x : Nat) (hx : x < 4294967296) (w : World) : Calls Tryd.prog 58 #[.int .u32 x, .int .i64 (-13)] w fun e w' => e = .returned (.int .u32 (Sha.rr 13 x : Nat)) ∧ w = w' := by
  have o1 : bits .and .u64 (IntKind.u64.wrap (-13)) 31 = 19 := by decide +kernel
  have o2 := rr_val 13 x 524288 8192 hx rfl rfl
  go_enter Tryd.func58, Tryd.ntmps58
  go_wp2
  go_ret
  exact ⟨congrArg (fun z => Ending.returned (Value.int .u32 z)) o2, rfl⟩

set_option maxHeartbeats 1000000 in
theorem right_13 (x : Nat) (hx : x < 4294967296) (w : World) : Calls Tryd.prog 43 #[.int .u32 x, .int .u64 13] w fun e w' => e = .returned (.int .u32 (Sha.rr 13 x : Nat)) ∧ w = w' := by
  have o2 := rr_val' 13 x 524288 8192 hx rfl rfl
  go_enter Tryd.func43, Tryd.ntmps43
  go_wp2
  go_ret
  exact ⟨congrArg (fun z => Ending.returned (Value.int .u32 z)) o2, rfl⟩

set_option maxHeartbeats 1000000 in
theorem rot_17 (x : Nat) (hx : x < 4294967296) (w : World) : Calls Tryd.prog 58 #[.int .u32 x, .int .i64 (-17)] w fun e w' => e = .returned (.int .u32 (Sha.rr 17 x : Nat)) ∧ w = w' := by
  have o1 : bits .and .u64 (IntKind.u64.wrap (-17)) 31 = 15 := by decide +kernel
  have o2 := rr_val 17 x 32768 131072 hx rfl rfl
  go_enter Tryd.func58, Tryd.ntmps58
  go_wp2
  go_ret
  exact ⟨congrArg (fun z => Ending.returned (Value.int .u32 z)) o2, rfl⟩

set_option maxHeartbeats 1000000 in
theorem right_17 (x : Nat) (hx : x < 4294967296) (w : World) : Calls Tryd.prog 43 #[.int .u32 x, .int .u64 17] w fun e w' => e = .returned (.int .u32 (Sha.rr 17 x : Nat)) ∧ w = w' := by
  have o2 := rr_val' 17 x 32768 131072 hx rfl rfl
  go_enter Tryd.func43, Tryd.ntmps43
  go_wp2
  go_ret
  exact ⟨congrArg (fun z => Ending.returned (Value.int .u32 z)) o2, rfl⟩

set_option maxHeartbeats 1000000 in
theorem rot_18 (x : Nat) (hx : x < 4294967296) (w : World) : Calls Tryd.prog 58 #[.int .u32 x, .int .i64 (-18)] w fun e w' => e = .returned (.int .u32 (Sha.rr 18 x : Nat)) ∧ w = w' := by
  have o1 : bits .and .u64 (IntKind.u64.wrap (-18)) 31 = 14 := by decide +kernel
  have o2 := rr_val 18 x 16384 262144 hx rfl rfl
  go_enter Tryd.func58, Tryd.ntmps58
  go_wp2
  go_ret
  exact ⟨congrArg (fun z => Ending.returned (Value.int .u32 z)) o2, rfl⟩

set_option maxHeartbeats 1000000 in
theorem right_18 (x : Nat) (hx : x < 4294967296) (w : World) : Calls Tryd.prog 43 #[.int .u32 x, .int .u64 18] w fun e w' => e = .returned (.int .u32 (Sha.rr 18 x : Nat)) ∧ w = w' := by
  have o2 := rr_val' 18 x 16384 262144 hx rfl rfl
  go_enter Tryd.func43, Tryd.ntmps43
  go_wp2
  go_ret
  exact ⟨congrArg (fun z => Ending.returned (Value.int .u32 z)) o2, rfl⟩

set_option maxHeartbeats 1000000 in
theorem rot_19 (x : Nat) (hx : x < 4294967296) (w : World) : Calls Tryd.prog 58 #[.int .u32 x, .int .i64 (-19)] w fun e w' => e = .returned (.int .u32 (Sha.rr 19 x : Nat)) ∧ w = w' := by
  have o1 : bits .and .u64 (IntKind.u64.wrap (-19)) 31 = 13 := by decide +kernel
  have o2 := rr_val 19 x 8192 524288 hx rfl rfl
  go_enter Tryd.func58, Tryd.ntmps58
  go_wp2
  go_ret
  exact ⟨congrArg (fun z => Ending.returned (Value.int .u32 z)) o2, rfl⟩

set_option maxHeartbeats 1000000 in
theorem right_19 (x : Nat) (hx : x < 4294967296) (w : World) : Calls Tryd.prog 43 #[.int .u32 x, .int .u64 19] w fun e w' => e = .returned (.int .u32 (Sha.rr 19 x : Nat)) ∧ w = w' := by
  have o2 := rr_val' 19 x 8192 524288 hx rfl rfl
  go_enter Tryd.func43, Tryd.ntmps43
  go_wp2
  go_ret
  exact ⟨congrArg (fun z => Ending.returned (Value.int .u32 z)) o2, rfl⟩

set_option maxHeartbeats 1000000 in
theorem rot_22 (x : Nat) (hx : x < 4294967296) (w : World) : Calls Tryd.prog 58 #[.int .u32 x, .int .i64 (-22)] w fun e w' => e = .returned (.int .u32 (Sha.rr 22 x : Nat)) ∧ w = w' := by
  have o1 : bits .and .u64 (IntKind.u64.wrap (-22)) 31 = 10 := by decide +kernel
  have o2 := rr_val 22 x 1024 4194304 hx rfl rfl
  go_enter Tryd.func58, Tryd.ntmps58
  go_wp2
  go_ret
  exact ⟨congrArg (fun z => Ending.returned (Value.int .u32 z)) o2, rfl⟩

set_option maxHeartbeats 1000000 in
theorem right_22 (x : Nat) (hx : x < 4294967296) (w : World) : Calls Tryd.prog 43 #[.int .u32 x, .int .u64 22] w fun e w' => e = .returned (.int .u32 (Sha.rr 22 x : Nat)) ∧ w = w' := by
  have o2 := rr_val' 22 x 1024 4194304 hx rfl rfl
  go_enter Tryd.func43, Tryd.ntmps43
  go_wp2
  go_ret
  exact ⟨congrArg (fun z => Ending.returned (Value.int .u32 z)) o2, rfl⟩

set_option maxHeartbeats 1000000 in
theorem rot_25 (x : Nat) (hx : x < 4294967296) (w : World) : Calls Tryd.prog 58 #[.int .u32 x, .int .i64 (-25)] w fun e w' => e = .returned (.int .u32 (Sha.rr 25 x : Nat)) ∧ w = w' := by
  have o1 : bits .and .u64 (IntKind.u64.wrap (-25)) 31 = 7 := by decide +kernel
  have o2 := rr_val 25 x 128 33554432 hx rfl rfl
  go_enter Tryd.func58, Tryd.ntmps58
  go_wp2
  go_ret
  exact ⟨congrArg (fun z => Ending.returned (Value.int .u32 z)) o2, rfl⟩

set_option maxHeartbeats 1000000 in
theorem right_25 (x : Nat) (hx : x < 4294967296) (w : World) : Calls Tryd.prog 43 #[.int .u32 x, .int .u64 25] w fun e w' => e = .returned (.int .u32 (Sha.rr 25 x : Nat)) ∧ w = w' := by
  have o2 := rr_val' 25 x 128 33554432 hx rfl rfl
  go_enter Tryd.func43, Tryd.ntmps43
  go_wp2
  go_ret
  exact ⟨congrArg (fun z => Ending.returned (Value.int .u32 z)) o2, rfl⟩

set_option maxHeartbeats 1000000 in
theorem turned_6 (x : Nat) (hx : x < 4294967296) (w : World) : Calls Tryd.prog 57 #[.int .u32 x, .int .i64 6, .int .i64 11, .int .i64 25] w fun e w' => e = .returned (.int .u32 (Sha.big x 6 11 25 : Nat)) ∧ w = w' := by
  have h1 := Sha.rr_lt (n := 6) hx; have h2 := Sha.rr_lt (n := 11) hx; have h3 := Sha.rr_lt (n := 25) hx
  have o1 := u32_xor_nat _ _ h1 h2
  have o2 := u32_xor_nat _ _ (Nat.xor_lt_two_pow (n := 32) h1 h2) h3
  have O1 := Lib.hid o1; have O2 := Lib.hid o2
  clear o1 o2 h1 h2 h3
  go_enter Tryd.func57, Tryd.ntmps57
  go_wp2_with fail
  refine (rot_6 x hx _).mono ?_
  rintro e w' ⟨rfl, rfl⟩
  go_wp2_with fail
  refine (rot_11 x hx _).mono ?_
  rintro e w' ⟨rfl, rfl⟩
  go_wp2_with fail
  refine (rot_25 x hx _).mono ?_
  rintro e w' ⟨rfl, rfl⟩
  go_wp2
  go_ret
  exact ⟨by simp [O1.out, O2.out, Sha.big], rfl⟩

set_option maxHeartbeats 1000000 in
theorem turned_2 (x : Nat) (hx : x < 4294967296) (w : World) : Calls Tryd.prog 57 #[.int .u32 x, .int .i64 2, .int .i64 13, .int .i64 22] w fun e w' => e = .returned (.int .u32 (Sha.big x 2 13 22 : Nat)) ∧ w = w' := by
  have h1 := Sha.rr_lt (n := 2) hx; have h2 := Sha.rr_lt (n := 13) hx; have h3 := Sha.rr_lt (n := 22) hx
  have o1 := u32_xor_nat _ _ h1 h2
  have o2 := u32_xor_nat _ _ (Nat.xor_lt_two_pow (n := 32) h1 h2) h3
  have O1 := Lib.hid o1; have O2 := Lib.hid o2
  clear o1 o2 h1 h2 h3
  go_enter Tryd.func57, Tryd.ntmps57
  go_wp2_with fail
  refine (rot_2 x hx _).mono ?_
  rintro e w' ⟨rfl, rfl⟩
  go_wp2_with fail
  refine (rot_13 x hx _).mono ?_
  rintro e w' ⟨rfl, rfl⟩
  go_wp2_with fail
  refine (rot_22 x hx _).mono ?_
  rintro e w' ⟨rfl, rfl⟩
  go_wp2
  go_ret
  exact ⟨by simp [O1.out, O2.out, Sha.big], rfl⟩

set_option maxHeartbeats 1000000 in
theorem part_7 (x : Nat) (hx : x < 4294967296) (w : World) : Calls Tryd.prog 56 #[.int .u32 x, .int .i64 7, .int .i64 18, .int .i64 3] w fun e w' => e = .returned (.int .u32 (Sha.sml x 7 18 3 : Nat)) ∧ ∃ n, w' = w.drewN n := by
  have h1 := Sha.rr_lt (n := 7) hx; have h2 := Sha.rr_lt (n := 18) hx
  have h3 : x / 8 < 4294967296 := Nat.lt_of_le_of_lt (Nat.div_le_self _ _) hx
  have o1 := u32_xor_nat _ _ h1 h2
  have o2 := u32_xor_nat _ _ (Nat.xor_lt_two_pow (n := 32) h1 h2) h3
  have O1 := Lib.hid o1; have O2 := Lib.hid o2
  clear o1 o2 h1 h2 h3
  go_enter Tryd.func56, Tryd.ntmps56
  go_wp2_with fail
  go_quiet ((first | (go_at_call 58; with_reducible exact Calls.quiet_of_same ((rot_7 x hx _).mono fun _ _ h => ⟨h.1, h.2.symm⟩)) | (go_at_call 58; with_reducible exact Calls.quiet_of_same ((rot_18 x hx _).mono fun _ _ h => ⟨h.1, h.2.symm⟩))))
  go_wp2
  go_ret
  refine ⟨?_, _, rfl⟩
  simp [O1.out, Sha.sml]
  simpa using O2.out

set_option maxHeartbeats 1000000 in
theorem part_17 (x : Nat) (hx : x < 4294967296) (w : World) : Calls Tryd.prog 56 #[.int .u32 x, .int .i64 17, .int .i64 19, .int .i64 10] w fun e w' => e = .returned (.int .u32 (Sha.sml x 17 19 10 : Nat)) ∧ ∃ n, w' = w.drewN n := by
  have h1 := Sha.rr_lt (n := 17) hx; have h2 := Sha.rr_lt (n := 19) hx
  have h3 : x / 1024 < 4294967296 := Nat.lt_of_le_of_lt (Nat.div_le_self _ _) hx
  have o1 := u32_xor_nat _ _ h1 h2
  have o2 := u32_xor_nat _ _ (Nat.xor_lt_two_pow (n := 32) h1 h2) h3
  have O1 := Lib.hid o1; have O2 := Lib.hid o2
  clear o1 o2 h1 h2 h3
  go_enter Tryd.func56, Tryd.ntmps56
  go_wp2_with fail
  go_quiet ((first | (go_at_call 58; with_reducible exact Calls.quiet_of_same ((rot_17 x hx _).mono fun _ _ h => ⟨h.1, h.2.symm⟩)) | (go_at_call 58; with_reducible exact Calls.quiet_of_same ((rot_19 x hx _).mono fun _ _ h => ⟨h.1, h.2.symm⟩))))
  go_wp2
  go_ret
  refine ⟨?_, _, rfl⟩
  simp [O1.out, Sha.sml]
  simpa using O2.out
end Go.Proofs.YtpgcfpfmicghnaaDoor.sha
