/-
  BitsGiven, walked.
-/
import Derived.Test.YtdpeajbjnennnaaBitClosed
import Derived.Test.YtdpeajbjnennnaaGen5
set_option linter.unusedVariables false
set_option linter.unusedSimpArgs false
namespace Go.Proofs.Ytdpeajbjnennnaa.bit
open Go Go.RowKit Go.Lm

theorem num_take_mod (L : List Bool) (k : Nat) (h : k ≤ L.length) : Bt.num (L.take k) = Bt.num L % 2 ^ k := by
  have h1 := Bt.num_split L k h
  have h2 := Bt.num_lt (L.take k)
  rw [List.length_take, Nat.min_eq_left h] at h2
  rw [h1, Nat.add_mul_mod_self_left, Nat.mod_eq_of_lt h2]
theorem num_first (c : UInt8) (l : List UInt8) (k : Nat) (hk : k ≤ 8) : Bt.num ((Bt.bitsOf (c :: l)).take k) = c.toNat % 2 ^ k := by
  have hl := Bt.byteBits_length c
  rw [Bt.bitsOf, List.take_append_of_le_length (by omega), num_take_mod _ _ (by omega), Bt.num_byteBits]
theorem and_low (c k : Nat) (hc : c < 256) (hk : k ≤ 8) : bits .and .u64 (c : Int) ((2 ^ k - 1 : Nat) : Int) = ((c % 2 ^ k : Nat) : Int) := by
  have h1 : 2 ^ k ≤ 2 ^ 8 := Nat.pow_le_pow_right (by decide) hk
  rw [bits_and_u64_nat _ _ (by omega) (by omega), Nat.and_two_pow_sub_one_eq_mod]

set_option maxRecDepth 100000 in
set_option maxHeartbeats 4000000 in
theorem given_c (w : World) (v : Value) (l : List UInt8) (hv : BS w v l) (n m k : Int) (hn0 : 0 ≤ n) (hn1 : n ≤ 255) (hm0 : 0 ≤ m) (hm1 : m ≤ 255) (hk0 : 0 ≤ k) (hk1 : k ≤ 255) : Calls Try.prog 6 #[v, .int .u8 n, .int .u8 m, .int .u8 k] w fun e w' => e = .returned (.bool true) ∧ Below w.heap.size w w' := by
  obtain ⟨a0, cap0, rfl, h3, h4, -⟩ := id hv
  have HV := Lib.hid hv; clear hv
  unfold maxLen at h4
  by_cases hbig : 200 < l.length
  · go_enter Try.func6, Try.ntmps6
    go_wp2_with fail
    refine (awake_c w).mono ?_
    rintro e w1 ⟨rfl, ho1⟩
    have HO1 := Lib.hid ho1; clear ho1
    go_wp2
    go_ret
    exact ⟨rfl, HO1.out.below (by simp) (Nat.le_refl _)⟩
  obtain ⟨N, hN⟩ : ∃ N : Nat, n % 33 = (N : Int) := ⟨(n % 33).toNat, by omega⟩
  obtain ⟨M, hM⟩ : ∃ M : Nat, m % 33 = (M : Int) := ⟨(m % 33).toNat, by omega⟩
  obtain ⟨K, hK⟩ : ∃ K : Nat, k % 9 = (K : Int) := ⟨(k % 9).toNat, by omega⟩
  have hNb : N ≤ 32 := by omega
  have hMb : M ≤ 32 := by omega
  have hKb : K ≤ 8 := by omega
  go_enter Try.func6, Try.ntmps6
  go_wp2_with fail
  refine (awake_c w).mono ?_
  rintro e w1 ⟨rfl, ho1⟩
  have HO1 := Lib.hid ho1
  have HV1 := Lib.hid (HV.out.only ho1 (by simp))
  clear ho1
  go_wp2_with fail
  refine (newforward_c w1 _ l HV1.out (by omega)).mono ?_
  rintro e w2 ⟨r, rfl, hr, ho2⟩
  have hB : w.heap.size ≤ r := by have := hr.1; have := HO1.out.size; omega
  have HO2 := Lib.hid (HO1.out.then ho2)
  have HR := Lib.hid hr
  have hC2 : w2.heap.size ≤ w2.heap.size := Nat.le_refl _
  clear hr ho2 HV1 HO1
  generalize hCC : w2.heap.size = C at HR hC2
  rw [← hCC] at hC2
  have hC2 : C ≤ w2.heap.size := by omega
  clear hCC
  generalize w1.heap.size = B at HR
  go_wp2_with fail
  refine (fread_c w2 B C r 0 N l HR.out hC2 (by omega) (by omega)).mono ?_
  rintro e w3 ⟨rfl, hr3, ho3⟩
  have hC3 : C ≤ w3.heap.size := by have := ho3.size; omega
  have HO3 := Lib.hid (only_own HO2.out ho3 hB)
  by_cases hs1 : 8 * l.length < N
  · have e1 : fread l 0 N = (0, 10, 0) := by unfold fread; rw [if_neg (by omega), if_pos (by omega)]
    rw [e1] at hr3 ⊢
    have HR3 := Lib.hid hr3
    clear hr3 ho3 e1 HR HO2
    go_wp2_with fail
    refine (fread_c w3 B C r 0 M l HR3.out hC3 (by omega) (by omega)).mono ?_
    rintro e w4 ⟨rfl, hr4, ho4⟩
    have HO4 := Lib.hid (only_own HO3.out ho4 hB)
    clear hr4 ho4
    go_wp2
    go_ret
    exact ⟨rfl, HO4.out.below (by simp) (Nat.le_refl _)⟩
  have e1 : fread l 0 N = (Bt.num (((Bt.bitsOf l).drop 0).take N), 0, N) := by
    unfold fread; rw [if_neg (by omega), if_neg (by omega)]; simp
  rw [e1] at hr3 ⊢
  have HR3 := Lib.hid hr3
  clear hr3 ho3 e1 HR HO2
  generalize Bt.num (((Bt.bitsOf l).drop 0).take N) = X1
  go_wp2_with fail
  refine (fread_c w3 B C r N M l HR3.out hC3 (by omega) (by omega)).mono ?_
  rintro e w4 ⟨rfl, hr4, ho4⟩
  have hC4 : C ≤ w4.heap.size := by have := ho4.size; omega
  have HO4 := Lib.hid (only_own HO3.out ho4 hB)
  by_cases hs2 : 8 * l.length < N + M
  · have e1 : fread l N M = (0, 10, N) := by unfold fread; rw [if_neg (by omega), if_pos (by omega)]
    rw [e1]
    clear hr4 ho4 e1
    go_wp2
    go_ret
    exact ⟨rfl, HO4.out.below (by simp) (Nat.le_refl _)⟩
  obtain ⟨X2, hX2⟩ : ∃ X2, Bt.num (((Bt.bitsOf l).drop N).take M) = X2 := ⟨_, rfl⟩
  have e2 : fread l N M = (X2, 0, N + M) := by
    unfold fread; rw [if_neg (by omega), if_neg (by omega)]; simp [hX2]
  rw [e2] at hr4 ⊢
  have HR4 := Lib.hid hr4; have E2 := Lib.hid e2
  clear hr4 ho4 e2 HR3 HO3 hX2
  have e3 : fback (N + M) M = N := by unfold fback; split <;> omega
  have e4 : fback (N + M) 1000 = 0 := by unfold fback; split <;> omega
  have E3 := Lib.hid e3; have E4 := Lib.hid e4
  clear e3 e4
  go_wp2_with fail
  refine (fback_c w4 B C r (N + M) M l HR4.out hC4 (by omega) (by omega)).mono ?_
  rintro e w5 ⟨rfl, hr5, ho5⟩
  rw [E3.out] at hr5
  have hC5 : C ≤ w5.heap.size := by have := ho5.size; omega
  have HO5 := Lib.hid (only_own HO4.out ho5 hB)
  have HR5 := Lib.hid hr5
  clear hr5 ho5 HR4 HO4
  go_wp2_with fail
  refine (fread_c w5 B C r N M l HR5.out hC5 (by omega) (by omega)).mono ?_
  rintro e w6 ⟨rfl, hr6, ho6⟩
  rw [E2.out] at hr6 ⊢
  have hC6 : C ≤ w6.heap.size := by have := ho6.size; omega
  have HO6 := Lib.hid (only_own HO5.out ho6 hB)
  have HR6 := Lib.hid hr6
  clear hr6 ho6 HR5 HO5
  go_wp2_with fail
  refine (fback_c w6 B C r (N + M) 1000 l HR6.out hC6 (by omega) (by omega)).mono ?_
  rintro e w7 ⟨rfl, hr7, ho7⟩
  rw [E4.out] at hr7
  have hC7 : C ≤ w7.heap.size := by have := ho7.size; omega
  have HO7 := Lib.hid (only_own HO6.out ho7 hB)
  have HR7 := Lib.hid hr7
  clear hr7 ho7 HR6 HO6
  go_wp2_with fail
  refine (fread_c w7 B C r 0 K l HR7.out hC7 (by omega) (by omega)).mono ?_
  rintro e w8 ⟨rfl, hr8, ho8⟩
  have HO8 := Lib.hid (only_own HO7.out ho8 hB)
  clear hr8 ho8 HR7 HO7
  by_cases hs3 : 8 * l.length < K
  · have e1 : fread l 0 K = (0, 10, 0) := by unfold fread; rw [if_neg (by omega), if_pos (by omega)]
    rw [e1]
    have hle : ¬ ((K : Int) ≤ 8 * (l.length : Int)) := by omega
    clear e1
    go_wp2
    go_ret
    exact ⟨by first | (simp; done) | (simp; omega), HO8.out.below (by simp) (Nat.le_refl _)⟩
  have hle : (K : Int) ≤ 8 * (l.length : Int) := by omega
  rcases Nat.eq_zero_or_pos K with rfl | hKp
  · have e1 : fread l 0 ((0 : Nat) : Int) = (0, 0, 0) := by
      unfold fread; rw [if_neg (by omega), if_neg (by omega)]; simp [Bt.num]
    rw [e1]
    clear e1
    go_wp2
    go_ret
    exact ⟨by first | (simp; done) | (simp; omega), HO8.out.below (by simp) (Nat.le_refl _)⟩
  · cases l with
    | nil => simp at hs3; omega
    | cons c l' =>
      have e1 : fread (c :: l') 0 K = (c.toNat % 2 ^ K, 0, K) := by
        unfold fread; rw [if_neg (by omega), if_neg (by omega)]
        simp only [List.drop_zero, Int.toNat_natCast, Nat.zero_add]
        rw [num_first c l' K hKb]
      rw [e1]
      have hbs := HV.out.only HO8.out (by simp)
      obtain ⟨_, _, he, -, -, -, hcells⟩ := hbs
      simp only [Value.slice.injEq] at he
      obtain ⟨rfl, -, -⟩ := he
      obtain ⟨b, off, rfl, hcell⟩ := hcells 0 (by simp)
      have hcell : w8.cell? ⟨b, off, none⟩ = some (.int .u8 (c.toNat : Int)) := hcell
      have hand := and_low c.toNat K c.toNat_lt hKb
      have hzz : ((K : Int) == 0) = false := by rw [beq_eq_false_iff_ne]; omega
      have hlp : (0 : Int) < ((c :: l').length : Int) := by simp only [List.length_cons]; omega
      have hcu := c.toNat_lt
      clear e1 hcells hs1 hs2 hs3 hN hM HV E2 E3 E4
      have hKK : K = 1 ∨ K = 2 ∨ K = 3 ∨ K = 4 ∨ K = 5 ∨ K = 6 ∨ K = 7 ∨ K = 8 := by omega
      rcases hKK with rfl | rfl | rfl | rfl | rfl | rfl | rfl | rfl
      all_goals
        simp only [Nat.reducePow, Nat.reduceSub, Int.cast_ofNat_Int, Int.natCast_one] at hand hK
        generalize (c :: l').length = ln at *
        go_wp2
        go_ret
        exact ⟨by first | (simp; done) | (simp; omega), HO8.out.below (by simp) (Nat.le_refl _)⟩
end Go.Proofs.Ytdpeajbjnennnaa.bit
