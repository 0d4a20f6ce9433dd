/-
  THE WALK of the reference's Of: by bits.
-/
import Derived.Test.YtdoiebbbgmlkaaaDoorRows
import Derived.Test.YtdoiebbbgmlkaaaDoorGen
import Derived.Test.YtdoiebbbgmlkaaaDoorCrcPlain
import Derived.Test.YtdoiebbbgmlkaaaDoorCrcWalks
import Derived.WalkSpells
import Derived.PlainAid
namespace Go.Proofs.YtdoiebbbgmlkaaaDoor.crc
open Go Go.RowKit Go.Lm

set_option maxHeartbeats 400000 in
theorem ref_c (s : ByteArray) (w : World) (hs : s.size ≤ 1000000) :
    Calls Tryd.prog 13 #[.string s] w fun e w' => e = .returned (.int .u32 (Crc.sum s.data.toList : Nat)) ∧ w = w' := by
  go_enter Tryd.func13, Tryd.ntmps13
  go_wp2
  go_loop [3, 4] (fun x i => ∃ k : Nat, k ≤ s.size ∧ i = .int .i64 k ∧ x = .int .u32 (Crc.fold 4294967295 (s.data.toList.take k) : Nat)) (fun _ i => s.size - (intOf i).toNat)
  case atStart => exact ⟨0, Nat.zero_le _, rfl, rfl⟩
  case round =>
    obtain ⟨k, hk, rfl, rfl⟩ := hrel
    have hF := Crc.fold_lt (x := 4294967295) (by omega) (s.data.toList.take k)
    by_cases hlt : k < s.size
    · have hft := Crc.fold_take 4294967295 s.data.toList k (by simpa using hlt)
      have HFT := Lib.hid hft; clear hft
      generalize Crc.fold 4294967295 (s.data.toList.take k) = X at hF HFT ⊢
      have hby := s[k].toNat_lt
      have hx8 := u32_xor_nat X s[k].toNat hF (by omega)
      have hY : X ^^^ s[k].toNat < 4294967296 := Nat.xor_lt_two_pow (n := 32) hF (by omega)
      go_wp2
      have HX8 := Lib.hid hx8; clear hx8
      have e8 := Crc.it_eight X s[k].toNat
      have HE8 := Lib.hid e8; clear e8
      have HBY := Lib.hid hby; clear hby
      go_loop [3, 5] (fun x i => ∃ j : Nat, j ≤ 8 ∧ i = .int .i64 j ∧ x = .int .u32 (Crc.it j (X ^^^ s[k].toNat) : Nat)) (fun _ i => 8 - (intOf i).toNat)
      case atStart => exact ⟨0, by omega, rfl, rfl⟩
      case round =>
        obtain ⟨j, hj, rfl, rfl⟩ := hrel
        have hI := Crc.it_lt hY j
        have hs1 : Crc.it (j + 1) (X ^^^ s[k].toNat) = Crc.s1 (Crc.it j (X ^^^ s[k].toNat)) := rfl
        by_cases hj8 : j < 8
        · generalize Crc.it j (X ^^^ s[k].toNat) = Y at hI hs1 ⊢
          have HS1 := Lib.hid hs1; clear hs1
          by_cases ho : Y % 2 = 1
          · have e1 : Crc.s1 Y = Y / 2 ^^^ 2197175160 := if_pos ho
            have HE1 := Lib.hid e1; clear e1
            have hb2 : ((Y : Int) % 2 == 1) = true := by rw [beq_iff_eq]; omega
            have hxx := u32_xor_nat (Y / 2) 2197175160 (by omega) (by omega)
            clear ho
            go_wp2
            go_round
            case rel => exact ⟨j + 1, by omega, by go_num, by rw [HS1.out, HE1.out, ← hxx]; rfl⟩
            case measure => simp [intOf]; omega
          · have e1 : Crc.s1 Y = Y / 2 := if_neg ho
            have HE1 := Lib.hid e1; clear e1
            have hb2 : ((Y : Int) % 2 == 1) = false := by rw [beq_eq_false_iff_ne]; omega
            clear ho
            go_wp2
            go_round
            case rel => exact ⟨j + 1, by omega, by go_num, by rw [HS1.out, HE1.out]; go_num⟩
            case measure => simp [intOf]; omega
        · have e : j = 8 := by omega
          subst e
          go_wp2
          go_round
          case rel => exact ⟨k + 1, by omega, by go_num, by rw [HFT.out, HE8.out]; rfl⟩
          case measure => simp [intOf]; omega
    · go_wp2
      go_ret
      have e : k = s.size := by omega
      have et : s.data.toList.take k = s.data.toList := List.take_of_length_le (by simp; omega)
      rw [et] at hF ⊢
      refine ⟨?_, rfl⟩
      rw [Crc.sum, ← u32_not' _ hF]; rfl
end Go.Proofs.YtdoiebbbgmlkaaaDoor.crc
