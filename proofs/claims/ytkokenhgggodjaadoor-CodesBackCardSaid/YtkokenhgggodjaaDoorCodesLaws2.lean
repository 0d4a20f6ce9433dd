/-
  CodesBack, CodesRows, walked.
-/
import Derived.Test.YtkokenhgggodjaaDoorCodesLaws
set_option linter.unusedVariables false
namespace Go.Proofs.YtkokenhgggodjaaDoor.codes
open Go Go.RowKit Go.Lm

theorem pow31 : ∀ n, n ≤ 31 → (2 : Int) ^ n % 4294967296 = 2 ^ n := by decide

theorem and_u32 (a b : Nat) (ha : a < 4294967296) (hb : b < 4294967296) : bits .and .u32 (a : Int) (b : Int) = ((a &&& b : Nat) : Int) := by
  have hx : a &&& b < 2 ^ 32 := Nat.and_lt_two_pow _ (by omega)
  have h1 : (BitVec.ofInt 32 (a : Int)).toNat = a := by
    rw [BitVec.ofInt_natCast, BitVec.toNat_ofNat]; exact Nat.mod_eq_of_lt (by omega)
  have h2 : (BitVec.ofInt 32 (b : Int)).toNat = b := by
    rw [BitVec.ofInt_natCast, BitVec.toNat_ofNat]; exact Nat.mod_eq_of_lt (by omega)
  show IntKind.u32.wrap ((BitVec.ofInt 32 (a : Int) &&& BitVec.ofInt 32 (b : Int)).toNat : Int) = _
  rw [BitVec.toNat_and, h1, h2, IntKind.wrap_u32]
  omega
theorem and_low (m Q : Int) (hm0 : 0 ≤ m) (hm1 : m ≤ 4294967295) (hQ0 : 0 < Q) (hQ1 : Q ≤ 4294967296) : 0 ≤ bits .and .u32 m (Q - 1) ∧ bits .and .u32 m (Q - 1) < Q := by
  obtain ⟨a, rfl⟩ := Int.eq_ofNat_of_zero_le hm0
  obtain ⟨b, hb⟩ := Int.eq_ofNat_of_zero_le (show 0 ≤ Q - 1 by omega)
  rw [hb, and_u32 a b (by omega) (by omega)]
  have := Nat.and_le_right (n := a) (m := b)
  omega

set_option maxHeartbeats 400000 in
theorem back_c (kk cc m : Int) (hk0 : 0 ≤ kk) (hk1 : kk ≤ 255) (hc0 : 0 ≤ cc) (hc1 : cc ≤ 65535) (hm0 : 0 ≤ m) (hm1 : m ≤ 4294967295) (w : World) (hT : Tabs w) : Calls Tryd.prog 5 #[.int .u8 kk, .int .u16 cc, .int .u32 m] w fun e w' => e = .returned (.bool true) ∧ Below w.heap.size w w' := by
  have HT := Lib.hid hT; clear hT
  obtain ⟨k, hk⟩ : ∃ k, kk % 3 = k := ⟨_, rfl⟩
  have hk3 : k = 0 ∨ k = 1 ∨ k = 2 := by omega
  have hll : 0 ≤ Codes.last k ∧ Codes.last k ≤ 60 := by rcases hk3 with rfl | rfl | rfl <;> decide
  have hlen := Codes.last_eq k
  obtain ⟨c, hc⟩ : ∃ c : Nat, cc % (Codes.last k + 1) = (c : Int) := Int.eq_ofNat_of_zero_le (Int.emod_nonneg _ (by omega))
  have hcl : (c : Int) < Codes.last k + 1 := by rw [← hc]; exact Int.emod_lt_of_pos _ (by omega)
  have ec : Codes.code k c = ((Codes.begins k).getD c 0, (Codes.adds k).getD c 0, 0) := by
    rw [code_kind hk3, if_neg (by omega), Int.toNat_natCast]
  have hbd := Codes.bounds k hk3 c (by omega)
  obtain ⟨n, hn⟩ := Int.eq_ofNat_of_zero_le hbd.1
  have hlook := fun v => Codes.look_code k hk3 c (by omega) v
  have hof := fun v => of_kind hk3 v
  rw [hn] at ec hbd hlook
  have hp := pow31 n (by omega)
  have hp0 := Int.pow_pos (m := n) (show (0 : Int) < 2 by decide)
  rw [Int.toNat_natCast] at hbd hlook
  obtain ⟨Q, hQ⟩ : ∃ Q, (2 : Int) ^ n = Q := ⟨_, rfl⟩
  have hpq : (2 : Int) ^ n % 4294967296 = Q := by rw [hp, hQ]
  rw [hQ] at hbd hp0 hlook
  generalize (Codes.begins k).getD c 0 = X at ec hbd hlook
  have hback : ∀ x, 0 ≤ x → x < Q → Codes.of k (X + x) = ((c : Int), x, 0) := by
    intro x h0 h1
    rw [hof, hlook (X + x) (by omega) (by omega)]
    simp; omega
  have HB := Lib.hid hback; have EC := Lib.hid ec
  have hn31 : n ≤ 31 := by omega
  have hX : 0 ≤ X ∧ X + Q ≤ 4294967296 := by omega
  clear hback ec hlook hof hn hbd hp hQ hlen
  go_enter Tryd.func5, Tryd.ntmps5
  go_wp2_with fail
  refine (awake_c w HT.out).mono ?_
  rintro e w1 ⟨rfl, ho1⟩
  have HO1 := Lib.hid ho1; clear ho1
  go_wp2_with fail
  refine (last_c k w1 (HT.out.only HO1.out (by simp) (by simp))).mono ?_
  rintro e w2 ⟨rfl, ho2⟩
  have HO2 := Lib.hid (HO1.out.then ho2); clear ho2 HO1
  go_wp2_with fail
  refine (code_c k c (by omega) (by omega) w2 (HT.out.only HO2.out (by simp) (by simp))).mono ?_
  rintro e w3 ⟨rfl, ho3⟩
  have HO3 := Lib.hid (HO2.out.then ho3); clear ho3 HO2
  rw [EC.out]
  unfold trip
  have hx := and_low m Q hm0 hm1 hp0 (by omega)
  obtain ⟨x, hxe⟩ : ∃ x, bits .and .u32 m (Q - 1) = x := ⟨_, rfl⟩
  rw [hxe] at hx
  have hof := HB.out x hx.1 hx.2
  have HOF := Lib.hid hof; clear hof
  go_wp2_with fail
  refine (of_c k (X + x) (by omega) (by omega) w3 (HT.out.only HO3.out (by simp) (by simp))).mono ?_
  rintro e w4 ⟨rfl, ho4⟩
  have HO4 := Lib.hid (HO3.out.then ho4); clear ho4 HO3
  rw [HOF.out]
  unfold tripO
  go_wp2
  go_ret
  exact ⟨by simp, HO4.out.below (by simp) (Nat.le_refl _)⟩

set_option maxHeartbeats 400000 in
theorem rows_c (kk cc : Int) (hk0 : 0 ≤ kk) (hk1 : kk ≤ 255) (hc0 : 0 ≤ cc) (hc1 : cc ≤ 65535) (w : World) (hT : Tabs w) : Calls Tryd.prog 6 #[.int .u8 kk, .int .u16 cc] w fun e w' => e = .returned (.bool true) ∧ Below w.heap.size w w' := by
  have HT := Lib.hid hT; clear hT
  obtain ⟨k, hk⟩ : ∃ k, kk % 3 = k := ⟨_, rfl⟩
  have hk3 : k = 0 ∨ k = 1 ∨ k = 2 := by omega
  have hll : 0 < Codes.last k ∧ Codes.last k ≤ 60 := by rcases hk3 with rfl | rfl | rfl <;> decide
  have hlen := Codes.last_eq k
  obtain ⟨c, hc⟩ : ∃ c : Nat, cc % Codes.last k = (c : Int) := Int.eq_ofNat_of_zero_le (Int.emod_nonneg _ (by omega))
  have hcl : (c : Int) < Codes.last k := by rw [← hc]; exact Int.emod_lt_of_pos _ (by omega)
  have ec : Codes.code k c = ((Codes.begins k).getD c 0, (Codes.adds k).getD c 0, 0) := by
    rw [code_kind hk3, if_neg (by omega), Int.toNat_natCast]
  have ec1 : Codes.code k (c + 1) = ((Codes.begins k).getD (c + 1) 0, (Codes.adds k).getD (c + 1) 0, 0) := by
    rw [code_kind hk3, if_neg (by omega)]
    rfl
  have ec2 : Codes.code k (Codes.last k + 1) = (0, 0, 17) := by
    rw [code_kind hk3, if_pos (by omega)]
  have hbd := Codes.bounds k hk3 c (by omega)
  have hbd1 := Codes.bounds k hk3 (c + 1) (by omega)
  have hch := Codes.chain k hk3 c (by omega)
  have hp1 := Int.pow_pos (m := ((Codes.adds k).getD (c + 1) 0).toNat) (show (0 : Int) < 2 by decide)
  obtain ⟨n, hn⟩ := Int.eq_ofNat_of_zero_le hbd.1
  rw [hn] at ec hbd hch
  have hp := pow31 n (by omega)
  rw [Int.toNat_natCast] at hch
  obtain ⟨Q, hQ⟩ : ∃ Q, (2 : Int) ^ n = Q := ⟨_, rfl⟩
  have hpq : (2 : Int) ^ n % 4294967296 = Q := by rw [hp, hQ]
  have hp0 : 0 < Q := by rw [← hQ]; exact Int.pow_pos (by decide)
  rw [hQ] at hch
  generalize (Codes.begins k).getD c 0 = X at ec hbd hch
  rw [hch] at ec1 hbd1
  generalize (Codes.adds k).getD (c + 1) 0 = A at ec1 hbd1 hp1
  have hX : 0 ≤ X ∧ X + Q ≤ 4294967295 := by omega
  have EC := Lib.hid ec; have EC1 := Lib.hid ec1; have EC2 := Lib.hid ec2
  have hn31 : n ≤ 31 := by omega
  clear ec ec1 ec2 hn hbd hbd1 hp hp1 hQ hlen hch
  go_enter Tryd.func6, Tryd.ntmps6
  go_wp2_with fail
  refine (awake_c w HT.out).mono ?_
  rintro e w1 ⟨rfl, ho1⟩
  have HO1 := Lib.hid ho1; clear ho1
  go_wp2_with fail
  refine (last_c k w1 (HT.out.only HO1.out (by simp) (by simp))).mono ?_
  rintro e w2 ⟨rfl, ho2⟩
  have HO2 := Lib.hid (HO1.out.then ho2); clear ho2 HO1
  go_wp2_with fail
  refine (code_c k c (by omega) (by omega) w2 (HT.out.only HO2.out (by simp) (by simp))).mono ?_
  rintro e w3 ⟨rfl, ho3⟩
  have HO3 := Lib.hid (HO2.out.then ho3); clear ho3 HO2
  rw [EC.out]
  unfold trip
  go_wp2_with fail
  refine (code_c k (c + 1) (by omega) (by omega) w3 (HT.out.only HO3.out (by simp) (by simp))).mono ?_
  rintro e w4 ⟨rfl, ho4⟩
  have HO4 := Lib.hid (HO3.out.then ho4); clear ho4 HO3
  rw [EC1.out]
  unfold trip
  go_wp2_with fail
  refine (last_c k w4 (HT.out.only HO4.out (by simp) (by simp))).mono ?_
  rintro e w5 ⟨rfl, ho5⟩
  have HO5 := Lib.hid (HO4.out.then ho5); clear ho5 HO4
  go_wp2_with fail
  refine (code_c k (Codes.last k + 1) (by omega) (by omega) w5 (HT.out.only HO5.out (by simp) (by simp))).mono ?_
  rintro e w6 ⟨rfl, ho6⟩
  have HO6 := Lib.hid (HO5.out.then ho6); clear ho6 HO5
  rw [EC2.out]
  unfold trip
  go_wp2
  go_ret
  exact ⟨by simp, HO6.out.below (by simp) (Nat.le_refl _)⟩
end Go.Proofs.YtkokenhgggodjaaDoor.codes
