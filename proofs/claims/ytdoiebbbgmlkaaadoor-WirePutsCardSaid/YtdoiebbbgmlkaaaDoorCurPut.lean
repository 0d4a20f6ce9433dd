/-
  THE WALK of the reference's Put.
-/
import Derived.Test.YtdoiebbbgmlkaaaDoorCurWalks
import Derived.Handy
set_option linter.unusedVariables false
namespace Go.Proofs.YtdoiebbbgmlkaaaDoor.cur
open Go Go.RowKit Go.Lm

/-- Bytes in the order of 'put'. -/
theorem put_zero (x : Nat) : Cur.put x 0 = [] := rfl
theorem put_eq (x k : Nat) : (UInt8.ofNat (x / 256 ^ k)).toNat = x / 256 ^ k % 256 := by simp

set_option maxHeartbeats 1000000 in
theorem refput_c (w : World) (x : Nat) (n : Int) (hx : x < 18446744073709551616) (hn0 : -9223372036854775808 ≤ n) : Calls Tryd.prog 25 #[.int .u64 x, .int .i64 n] w fun e w' => ∃ s, e = .returned (.string s) ∧ s.data.toList = (if 1 ≤ n ∧ n ≤ 8 then Cur.put x n.toNat else []) ∧ Only [] w w' := by
  by_cases hn2 : n ≤ 8
  · by_cases hn1 : 1 ≤ n
    · rw [if_pos ⟨hn1, hn2⟩]
      obtain ⟨n, rfl⟩ := Int.eq_ofNat_of_zero_le (show 0 ≤ n by omega)
      rw [Int.toNat_natCast]
      obtain ⟨i0, hi, hz0, hz1, hz2⟩ := info_parts info_u8
      have HI := Lib.hid hi; have HZ0 := Lib.hid hz0; have HZ1 := Lib.hid hz1; have HZ2 := Lib.hid hz2
      clear hi hz0 hz1 hz2
      go_enter Tryd.func25, Tryd.ntmps25
      go_wp2
      go_loopw [0, 5, 6] (fun y o i wr => ∃ k : Nat, k ≤ n ∧ i = .int .i64 k ∧ y = .int .u64 ((x / 256 ^ k : Nat) : Int) ∧ OV wr w.heap.size 5 o ((Cur.put x k).map u8v) ∧ Only [] w wr) (fun _ _ i _ => n - (intOf i).toNat)
      case atStart => exact ⟨0, Nat.zero_le _, rfl, by simp, OV.nil _ _ _, Only.refl _ _⟩
      case round =>
        obtain ⟨k, hk, rfl, rfl, hov, hon⟩ := hrel
        obtain ⟨a, cap, hsl, _⟩ := hov.slice
        obtain ⟨m, hm⟩ : ∃ m, (List.map u8v (Cur.put x k)).length = m := ⟨_, rfl⟩
        rw [hm] at hsl
        subst hsl
        clear hm
        have HOV := Lib.hid hov; have HON := Lib.hid hon
        clear hov hon
        have hY : x / 256 ^ k < 18446744073709551616 := Nat.lt_of_le_of_lt (Nat.div_le_self _ _) hx
        have hnx : x / 256 ^ (k + 1) = x / 256 ^ k / 256 := by rw [Nat.div_div_eq_div_mul, Nat.pow_succ]
        have hpe := put_eq x k
        have hsn := Cur.put_snoc x k
        have hln := Cur.put_length x k
        by_cases hkn : k < n
        · obtain ⟨v', w', hrun, hov', hg⟩ := run_append_one (P := Tryd.prog) (ty := 24) (T := 5) (fr := (0, 0)) Tryd.underlying24 HI.out HZ0.out HZ1.out HZ2.out rfl HOV.out (u := .int .u8 ((UInt8.ofNat (x / 256 ^ k)).toNat : Int)) rfl (by simp [maxLen, hln]; omega) (by simp [hln]; omega) HON.out.size
          have hon' : Only [] w w' := (HON.out.alloc (.cells #[.int .u8 ((UInt8.ofNat (x / 256 ^ k)).toNat : Int)] 5)).trans (Only.of_grown hg) (by simp) (by
            intro c hc
            have := HOV.out.lt (c := c) (by simpa [eq_comm] using hc)
            exact .inr this.1)
          have e1 : (Cur.put x k).map u8v ++ [.int .u8 ((UInt8.ofNat (x / 256 ^ k)).toNat : Int)] = (Cur.put x (k + 1)).map u8v := by rw [hsn]; simp [u8v]
          rw [e1] at hov'
          rw [hpe] at hrun
          clear hpe hsn e1
          generalize x / 256 ^ k = Y at hrun hY hnx ⊢
          have HOV' := Lib.hid hov'; have HON' := Lib.hid hon'; have HRUN := Lib.hid hrun; have HNX := Lib.hid hnx
          clear hg hov' hon' hrun hnx
          have hyy : ((Y % 256 : Nat) : Int) = (Y : Int) % 256 := by omega
          rw [hyy] at HRUN
          clear hyy HOV HON
          go_wp2_with (at_builtin; refine wpList_append_run rfl _ _ _ rfl rfl rfl HRUN.out ?_)
          go_roundw
          case rel => exact ⟨k + 1, by omega, by go_num, by rw [HNX.out]; go_num, HOV'.out, HON'.out⟩
          case measure => simp [intOf]; omega
        · obtain rfl : k = n := by omega
          have hbs := BS.of_vs HOV.out.vs
          have hstr := run_string_of_bytes (P := Tryd.prog) Tryd.underlying24 Tryd.underlying5 Tryd.underlying9 hbs
          clear hbs
          go_wp2
          go_ret
          exact ⟨_, rfl, by simp, HON.out⟩
    · rw [if_neg (by omega)]
      go_enter Tryd.func25, Tryd.ntmps25
      go_wp2
      refine wp_loop_rounds 1 ?_
      rw [rounds_succ]
      have hstr := run_string_of_bytes (P := Tryd.prog) Tryd.underlying24 Tryd.underlying5 Tryd.underlying9 (BS.nil w)
      go_wp2
      go_ret
      exact ⟨_, rfl, by simp, Only.refl _ _⟩
  · rw [if_neg (by omega)]
    go_enter Tryd.func25, Tryd.ntmps25
    go_wp2
    go_ret
    exact ⟨_, rfl, rfl, Only.refl _ _⟩
end Go.Proofs.YtdoiebbbgmlkaaaDoor.cur
