/-
  BitsOne, walked.
-/
import Derived.Test.YtdpeajbjnennnaaBitClosed
import Derived.Test.YtdpeajbjnennnaaGen5
import Derived.Outline
import Derived.OwnWalk
set_option linter.unusedVariables false
set_option linter.unusedSimpArgs false
namespace Go.Proofs.Ytdpeajbjnennnaa.bit
open Go Go.RowKit Go.Lm

theorem fread_one (l : List UInt8) (i : Nat) (h : i < 8 * l.length) (hi : i < (Bt.bitsOf l).length) : fread l i 1 = ((Bt.bitsOf l)[i].toNat, 0, i + 1) := by
  unfold fread
  rw [if_neg (by omega), if_neg (by omega)]
  have e : ((Bt.bitsOf l).drop i).take (1 : Int).toNat = [(Bt.bitsOf l)[i]] := by
    rw [List.drop_eq_getElem_cons hi]; rfl
  rw [e]
  simp [Bt.num]
/-- The value of a read from the back, of i bits. -/
def bval (M : List Bool) (i : Nat) : Nat := Bt.num (M.drop (M.length - min i M.length)) * 2 ^ (i - min i M.length)
theorem last_val (M : List Bool) (x i : Nat) (h1 : 1 ≤ i) (h2 : i ≤ 56) : (last M x (i : Int)).2.2 = bval M i := by
  unfold last bval
  rw [if_neg (by omega)]
  simp
theorem bval_succ (M : List Bool) (x i : Nat) : bval M (i + 1) = bval M i * 2 + (last (M.take (M.length - i)) x 1).2.2 := by
  unfold last
  rw [if_neg (by omega)]
  simp only [Int.toNat_one, List.length_take]
  unfold bval
  by_cases hi : i < M.length
  · have e1 : min (i + 1) M.length = i + 1 := by omega
    have e2 : min i M.length = i := by omega
    have e3 : min (M.length - i) M.length = M.length - i := by omega
    have e4 : min 1 (M.length - i) = 1 := by omega
    rw [e1, e2, e3, e4]
    simp only [Nat.sub_self, Nat.pow_zero, Nat.mul_one]
    have hk : M.length - (i + 1) < M.length := by omega
    rw [Bt.num_drop M _ hk, show M.length - (i + 1) + 1 = M.length - i by omega]
    have e5 : (M.take (M.length - i)).drop (M.length - i - 1) = [M[M.length - (i + 1)]] := by
      rw [List.drop_take, show M.length - i - (M.length - i - 1) = 1 by omega, List.drop_eq_getElem_cons (by omega)]
      simp only [List.take_succ_cons, List.take_zero]
      have hx : M.length - i - 1 = M.length - (i + 1) := by omega
      simp only [hx]
    rw [e5]
    simp [Bt.num]
    omega
  · have e1 : min (i + 1) M.length = M.length := by omega
    have e2 : min i M.length = M.length := by omega
    have e3 : M.length - i = 0 := by omega
    rw [e1, e2, e3]
    simp only [Nat.sub_self, Nat.zero_min, Nat.min_zero, List.take_zero, List.drop_nil, Bt.num, Nat.zero_mul, Nat.add_zero]
    rw [show i + 1 - M.length = (i - M.length) + 1 by omega, Nat.pow_succ, Nat.mul_assoc]
theorem bval_lt (M : List Bool) (i : Nat) : bval M i < 2 ^ i := by
  unfold bval
  have h1 := Bt.num_lt (M.drop (M.length - min i M.length))
  have h2 : (M.drop (M.length - min i M.length)).length = min i M.length := by rw [List.length_drop]; omega
  rw [h2] at h1
  have h3 := Nat.mul_lt_mul_of_pos_right h1 (Nat.pow_pos (n := i - min i M.length) (show 0 < 2 by decide))
  rw [← Nat.pow_add] at h3
  have h4 : min i M.length + (i - min i M.length) = i := by omega
  rw [h4] at h3
  exact h3

set_option maxRecDepth 100000 in
set_option maxHeartbeats 4000000 in
theorem one_c (w : World) (v : Value) (l : List UInt8) (hv : BS w v l) (n m : Int) (hn0 : 0 ≤ n) (hn1 : n ≤ 255) (hm0 : 0 ≤ m) (hm1 : m ≤ 255) : Calls Try.prog 4 #[v, .int .u8 n, .int .u8 m] w fun e w' => e = .returned (.bool true) ∧ Below w.heap.size w w' := by
  obtain ⟨a0, cap0, rfl, h3, h4, -⟩ := id hv
  have HV := Lib.hid hv; clear hv
  unfold maxLen at h4
  by_cases hz : l.length = 0
  · go_enter Try.func4, Try.ntmps4
    go_wp2_with fail
    refine (awake_c w).mono ?_
    rintro e w1 ⟨rfl, ho1⟩
    have HO1 := Lib.hid ho1; clear ho1
    rw [hz] at *
    go_wp2
    go_ret
    exact ⟨rfl, HO1.out.below (by simp) (Nat.le_refl _)⟩
  have hz1 : ((l.length : Int) == 0) = false := by rw [beq_eq_false_iff_ne]; omega
  by_cases hbig : 200 < l.length
  · clear hz
    go_enter Try.func4, Try.ntmps4
    go_wp2_with fail
    refine (awake_c w).mono ?_
    rintro e w1 ⟨rfl, ho1⟩
    have HO1 := Lib.hid ho1; clear ho1
    go_wp2
    go_ret
    exact ⟨rfl, HO1.out.below (by simp) (Nat.le_refl _)⟩
  obtain ⟨k, hk⟩ : ∃ k : Nat, n % 33 = (k : Int) := ⟨(n % 33).toNat, by omega⟩
  obtain ⟨j, hj⟩ : ∃ j : Nat, m % 56 + 1 = (j : Int) := ⟨(m % 56).toNat + 1, by omega⟩
  have hjw : IntKind.i64.wrap (m % 56 + 1) = (j : Int) := by rw [IntKind.wrap_i64]; omega
  have hkb : k ≤ 32 := by omega
  have hjb1 : 1 ≤ j ∧ j ≤ 56 := by omega
  have hlb := Bt.bitsOf_length l
  have HLB := Lib.hid hlb; clear hlb hz
  go_enter Try.func4, Try.ntmps4
  go_wp2_with fail
  refine (awake_c w).mono ?_
  rintro e w1 ⟨rfl, ho1⟩
  have HO1 := Lib.hid ho1
  have HV1 := Lib.hid (HV.out.only ho1 (by simp))
  clear ho1
  go_wp2_with fail
  refine (newforward_c w1 _ l HV1.out (by omega)).mono ?_
  rintro e w2 ⟨r, rfl, hr, ho2⟩
  have hB : w.heap.size ≤ r := by have := hr.1; have := HO1.out.size; omega
  have HO2 := Lib.hid (HO1.out.then ho2)
  have HR := Lib.hid hr
  have HV2 := Lib.hid (HV1.out.only ho2 (by simp))
  clear hr ho2 HV1 HO1
  generalize w1.heap.size = B at HR
  go_wp2_with fail
  refine (newforward_c w2 _ l HV2.out (by omega)).mono ?_
  rintro e w3 ⟨s, rfl, hs, ho3⟩
  have hBs : w.heap.size ≤ s := by have := hs.1; have := HO2.out.size; omega
  have hsC : w2.heap.size ≤ s := hs.1
  have HO3 := Lib.hid (HO2.out.then ho3)
  have HR3 := Lib.hid (HR.out.only ho3 (Nat.le_refl _))
  have HS3 := Lib.hid hs
  have HV3 := Lib.hid (HV2.out.only ho3 (by simp))
  have hC3 : w2.heap.size ≤ w3.heap.size := ho3.size
  clear hs ho3 HV2 HO2 HR
  generalize w2.heap.size = C at *
  obtain ⟨D, hD⟩ : ∃ D, w3.heap.size = D := ⟨_, rfl⟩
  have hD3 : D ≤ w3.heap.size := by omega
  rw [hD] at HS3
  go_wp2_with fail
  refine (fread_c w3 B C r 0 k l HR3.out hC3 (by omega) (by omega)).mono ?_
  rintro e w4 ⟨rfl, hr4, ho4⟩
  have hrC := HR3.out.2.1
  have HO4 := Lib.hid (only_own HO3.out ho4 hB)
  have HS4 := Lib.hid (HS3.out.only' ho4 hD3 (by simp; omega))
  have hD4 : D ≤ w4.heap.size := by have := ho4.size; omega
  clear hr4 ho4 HR3 HS3 HO3 HV3 hD3 hD hC3
  -- the loop, and what is behind it
  have hrest : ∀ (X Y : Nat) (w5 : World), Hid (Only [] w w5) → Hid (X = Y) → True := fun _ _ _ _ _ => trivial
  clear hrest
  by_cases hsh : 8 * l.length < k
  · have e1 : fread l 0 k = (0, 10, 0) := by unfold fread; rw [if_neg (by omega), if_pos (by omega)]
    rw [e1]
    clear e1
    go_wp2_with fail
    refine wp_loop_rounds 1 ?_
    rw [rounds_succ]
    have hk0 : 0 < k := by omega
    go_wp2_with fail
    have HOW := HO4
    by_cases hno : ∀ h : l ≠ [], (l.getLast h).toNat = 0
    · have HNO := Lib.hid hno; clear hno
      refine (newback_no w4 _ l (HV.out.only HOW.out (by simp)) HNO.out (by omega)).mono ?_
      rintro e w' ⟨rfl, rfl⟩
      go_wp2_with fail
      refine (newback_no w4 _ l (HV.out.only HOW.out (by simp)) HNO.out (by omega)).mono ?_
      rintro e w' ⟨rfl, rfl⟩
      go_wp2
      go_ret
      exact ⟨rfl, HOW.out.below (by simp) (Nat.le_refl _)⟩
    · obtain ⟨hne, hlast⟩ : ∃ h : l ≠ [], (l.getLast h).toNat ≠ 0 := by
        by_cases h : l = []
        · exact absurd (fun h' => absurd h h') hno
        · exact ⟨h, fun h' => hno fun _ => h'⟩
      have HLAST := Lib.hid hlast
      clear hno hlast
      refine (newback_yes w4 _ l (HV.out.only HOW.out (by simp)) hne HLAST.out (by omega)).mono ?_
      rintro e w6 ⟨r6, t, rfl, ht, hr6, ho6⟩
      have hB6 : w.heap.size ≤ r6 := by have := hr6.1; have := HOW.out.size; omega
      have HO6 := Lib.hid (HOW.out.then ho6)
      have HR6 := Lib.hid hr6
      have HT := Lib.hid ht
      clear hr6 ho6 ht
      generalize w4.heap.size = B6 at HR6
      go_wp2_with fail
      refine (newback_yes w6 _ l (HV.out.only HO6.out (by simp)) hne HLAST.out (by omega)).mono ?_
      rintro e w7 ⟨s7, t7, rfl, ht7, hs7, ho7⟩
      obtain rfl : t = t7 := HT.out.inj ht7
      have hB7 : w.heap.size ≤ s7 := by have := hs7.1; have := HO6.out.size; omega
      have hs7C : w6.heap.size ≤ s7 := hs7.1
      have HO7 := Lib.hid (HO6.out.then ho7)
      have HR7 := Lib.hid (HR6.out.only ho7 (Nat.le_refl _))
      have HS7 := Lib.hid hs7
      have hC7 : w6.heap.size ≤ w7.heap.size := ho7.size
      have htl := HT.out.lt
      rw [HLB.out] at htl
      clear hs7 ho7 ht7 HR6 HO6 HLAST
      generalize w6.heap.size = C6 at *
      obtain ⟨D7, hD7⟩ : ∃ D, w7.heap.size = D := ⟨_, rfl⟩
      rw [hD7] at HS7
      have hD7' : D7 ≤ w7.heap.size := by omega
      clear hD7
      obtain ⟨M, hM⟩ : ∃ M, (Bt.bitsOf l).take ((t : Nat) : Int).toNat = M := ⟨_, rfl⟩
      have hMl : M.length = t := by rw [← hM, Int.toNat_natCast, List.length_take, HLB.out]; omega
      have HM := Lib.hid hM; have HML := Lib.hid hMl
      have hlv := last_val M 0 j (by omega) (by omega)
      have HLV := Lib.hid hlv
      have hrC6 := HR7.out.2.1
      clear hM hMl hlv
      go_wp2_with fail
      refine (bread_c w7 B6 C6 r6 0 t (j : Int) l HR7.out hC7 (by simp; omega) (by omega) (by omega)).mono ?_
      rintro e w8 ⟨rfl, hr8, ho8⟩
      have HO8 := Lib.hid (only_own HO7.out ho8 hB6)
      have HR8 := Lib.hid hr8
      have HS8 := Lib.hid (HS7.out.only' ho8 hD7' (by simp; omega))
      have hD8 : D7 ≤ w8.heap.size := by have := ho8.size; omega
      have hC8 : C6 ≤ w8.heap.size := by have := ho8.size; omega
      have hgo : bgo t (j : Int) = (t : Int) - (j : Int) := by unfold bgo; rw [if_neg (by omega)]
      have HGO := Lib.hid hgo
      rw [HM.out, HLV.out]
      clear hr8 ho8 HR7 HS7 HO7 hgo hC7 hD7'
      obtain ⟨U, hU⟩ : ∃ U, bval M j = U := ⟨_, rfl⟩
      rw [hU]
      have HU := Lib.hid hU; clear hU
      go_wp2_with fail
      go_loopw [23, 24] (fun q i wr => ∃ c : Nat, c ≤ j ∧ i = .int .i64 c ∧ q = .int .u64 (bval M c : Nat) ∧ BW wr C6 D7 s7 ((t : Int) - (c : Int)) l ∧ BW wr B6 C6 r6 (bgo t j) l ∧ Only [] w wr ∧ D7 ≤ wr.heap.size ∧ C6 ≤ wr.heap.size) (fun _ i _ => j - (intOf i).toNat)
      case atStart => exact ⟨0, Nat.zero_le _, rfl, by simp [bval, Bt.num], by simpa using HS8.out, HR8.out, HO8.out, hD8, hC8⟩
      case round =>
        obtain ⟨c, hc, rfl, rfl, hbw, hbr, how, hDw, hCw⟩ := hrel
        have HBW := Lib.hid hbw; have HBR := Lib.hid hbr; have HOW8 := Lib.hid how
        clear hbw hbr how HS8 HR8 HO8 hD8 hC8
        by_cases hcj : c < j
        · have hbs := bval_succ M 0 c
          have hlt := bval_lt M c
          have hp : 2 ^ c ≤ 2 ^ 55 := Nat.pow_le_pow_right (by decide) (by omega)
          have htk : (Bt.bitsOf l).take ((t : Int) - (c : Int)).toNat = M.take (M.length - c) := by
            rw [← HM.out, Int.toNat_natCast, List.take_take, List.length_take, HLB.out]
            congr 1; omega
          have hz1 : (last (M.take (M.length - c)) 0 1).2.2 ≤ 1 := by
            have := last_val (M.take (M.length - c)) 0 1 (by decide) (by decide)
            have h2 := bval_lt (M.take (M.length - c)) 1
            rw [show ((1 : Nat) : Int) = 1 from rfl] at this
            omega
          have hbg : bgo ((t : Int) - (c : Int)) 1 = (t : Int) - ((c + 1 : Nat) : Int) := by unfold bgo; rw [if_neg (by omega)]; omega
          obtain ⟨Z, hZ⟩ : ∃ Z, (last (M.take (M.length - c)) 0 1).2.2 = Z := ⟨_, rfl⟩
          rw [hZ] at hbs hz1
          generalize bval M c = V at *
          have HBS := Lib.hid hbs; have HTK := Lib.hid htk; have HBG := Lib.hid hbg; have HZZ := Lib.hid hZ
          have hV : V < 36028797018963968 := by omega
          have hq1 : (V : Int) * 2 % 18446744073709551616 = (V : Int) * 2 := by omega
          have hq2 : ((V : Int) * 2 + (Z : Int)) % 18446744073709551616 = (V : Int) * 2 + (Z : Int) := by omega
          clear hbs htk hbg hZ hlt hp
          go_wp2_with fail
          refine (bread_c wr C6 D7 s7 0 ((t : Int) - (c : Int)) 1 l HBW.out hDw (by omega) (by omega) (by omega)).mono ?_
          rintro e w9 ⟨rfl, hr9, ho9⟩
          rw [HBG.out] at hr9
          rw [HTK.out, HZZ.out]
          have HR9 := Lib.hid hr9
          have HO9 := Lib.hid (only_own HOW8.out ho9 hB7)
          have HBR9 := Lib.hid (HBR.out.only' ho9 hCw (by simp; omega))
          have hD9 : D7 ≤ w9.heap.size := by have := ho9.size; omega
          have hC9 : C6 ≤ w9.heap.size := by have := ho9.size; omega
          clear hr9 ho9
          go_wp2
          go_roundw
          case rel => exact ⟨c + 1, by omega, by go_num, by rw [HBS.out]; simp, HR9.out, HBR9.out, HO9.out, hD9, hC9⟩
          case measure => simp [intOf]; omega
        · obtain rfl : c = j := by omega
          have hu := HU.out
          rw [hu]
          clear hu
          go_wp2_with fail
          refine (bleft_c wr B6 C6 r6 _ l HBR.out).mono ?_
          rintro e w' ⟨rfl, rfl⟩
          rw [HGO.out]
          go_wp2_with fail
          refine (bleft_c wr C6 D7 s7 _ l HBW.out).mono ?_
          rintro e w' ⟨rfl, rfl⟩
          go_wp2
          go_ret
          exact ⟨by simp, HOW8.out.below (by simp) (Nat.le_refl _)⟩
  · have e1 : fread l 0 k = (Bt.num ((Bt.bitsOf l).take k), 0, k) := by unfold fread; rw [if_neg (by omega), if_neg (by omega)]; simp
    rw [e1]
    clear e1
    go_wp2_with fail
    go_loopw [13, 14] (fun q i wr => ∃ c : Nat, c ≤ k ∧ i = .int .i64 c ∧ q = .int .u64 (Bt.num ((Bt.bitsOf l).take c) : Nat) ∧ FW wr C D s c l ∧ Only [] w wr ∧ D ≤ wr.heap.size) (fun _ i _ => k - (intOf i).toNat)
    case atStart => exact ⟨0, Nat.zero_le _, rfl, rfl, HS4.out, HO4.out, hD4⟩
    case round =>
      obtain ⟨c, hc, rfl, rfl, hfw, how, hDw⟩ := hrel
      have HFW := Lib.hid hfw; have HOW := Lib.hid how
      clear hfw how HS4 HO4 hD4
      by_cases hck : c < k
      · have hcl : c < (Bt.bitsOf l).length := by have := HLB.out; omega
        have hone := fread_one l c (by omega) hcl
        have hnt := Bt.num_take (Bt.bitsOf l) c hcl
        have hlt := Bt.num_lt ((Bt.bitsOf l).take c)
        have hle : 2 ^ ((Bt.bitsOf l).take c).length = 2 ^ c := by congr 1; rw [List.length_take]; omega
        rw [hle] at hlt
        obtain ⟨b, hb⟩ : ∃ b, (Bt.bitsOf l)[c] = b := ⟨_, rfl⟩
        rw [hb] at hone hnt
        have hB1 : b.toNat ≤ 1 := by cases b <;> simp
        generalize Bt.num ((Bt.bitsOf l).take c) = X at *
        have hor := or_bit X b.toNat c (by omega) hlt hB1
        have hor2 := hor
        rw [IntKind.wrap_u64] at hor2
        obtain ⟨Z, hZ⟩ : ∃ Z, X + 2 ^ c * b.toNat = Z := ⟨_, rfl⟩
        rw [hZ] at hor hor2 hnt
        have HONE := Lib.hid hone; have HNT := Lib.hid hnt; have HOR := Lib.hid hor; have HOR2 := Lib.hid hor2
        clear hone hnt hlt hle hb hZ hor hor2
        go_wp2_with fail
        refine (fread_c wr C D s c 1 l HFW.out hDw (by omega) (by omega)).mono ?_
        rintro e w5 ⟨rfl, hr5, ho5⟩
        rw [HONE.out] at hr5 ⊢
        have HR5 := Lib.hid hr5
        have HO5 := Lib.hid (only_own HOW.out ho5 hBs)
        have hD5 : D ≤ w5.heap.size := by have := ho5.size; omega
        clear hr5 ho5
        have hor := HOR.out; have hor2 := HOR2.out
        go_wp2
        go_roundw
        case rel => exact ⟨c + 1, by omega, by go_num, by rw [HNT.out], HR5.out, HO5.out, hD5⟩
        case measure => simp [intOf]; omega
      · obtain rfl : c = k := by omega
        go_wp2_with fail
        by_cases hno : ∀ h : l ≠ [], (l.getLast h).toNat = 0
        · have HNO := Lib.hid hno; clear hno
          refine (newback_no wr _ l (HV.out.only HOW.out (by simp)) HNO.out (by omega)).mono ?_
          rintro e w' ⟨rfl, rfl⟩
          go_wp2_with fail
          refine (newback_no wr _ l (HV.out.only HOW.out (by simp)) HNO.out (by omega)).mono ?_
          rintro e w' ⟨rfl, rfl⟩
          go_wp2
          go_ret
          exact ⟨rfl, HOW.out.below (by simp) (Nat.le_refl _)⟩
        · obtain ⟨hne, hlast⟩ : ∃ h : l ≠ [], (l.getLast h).toNat ≠ 0 := by
            by_cases h : l = []
            · exact absurd (fun h' => absurd h h') hno
            · exact ⟨h, fun h' => hno fun _ => h'⟩
          have HLAST := Lib.hid hlast
          clear hno hlast
          refine (newback_yes wr _ l (HV.out.only HOW.out (by simp)) hne HLAST.out (by omega)).mono ?_
          rintro e w6 ⟨r6, t, rfl, ht, hr6, ho6⟩
          have hB6 : w.heap.size ≤ r6 := by have := hr6.1; have := HOW.out.size; omega
          have HO6 := Lib.hid (HOW.out.then ho6)
          have HR6 := Lib.hid hr6
          have HT := Lib.hid ht
          clear hr6 ho6 ht
          generalize wr.heap.size = B6 at HR6
          go_wp2_with fail
          refine (newback_yes w6 _ l (HV.out.only HO6.out (by simp)) hne HLAST.out (by omega)).mono ?_
          rintro e w7 ⟨s7, t7, rfl, ht7, hs7, ho7⟩
          obtain rfl : t = t7 := HT.out.inj ht7
          have hB7 : w.heap.size ≤ s7 := by have := hs7.1; have := HO6.out.size; omega
          have hs7C : w6.heap.size ≤ s7 := hs7.1
          have HO7 := Lib.hid (HO6.out.then ho7)
          have HR7 := Lib.hid (HR6.out.only ho7 (Nat.le_refl _))
          have HS7 := Lib.hid hs7
          have hC7 : w6.heap.size ≤ w7.heap.size := ho7.size
          have htl := HT.out.lt
          rw [HLB.out] at htl
          clear hs7 ho7 ht7 HR6 HO6 HLAST
          generalize w6.heap.size = C6 at *
          obtain ⟨D7, hD7⟩ : ∃ D, w7.heap.size = D := ⟨_, rfl⟩
          rw [hD7] at HS7
          have hD7' : D7 ≤ w7.heap.size := by omega
          clear hD7
          obtain ⟨M, hM⟩ : ∃ M, (Bt.bitsOf l).take ((t : Nat) : Int).toNat = M := ⟨_, rfl⟩
          have hMl : M.length = t := by rw [← hM, Int.toNat_natCast, List.length_take, HLB.out]; omega
          have HM := Lib.hid hM; have HML := Lib.hid hMl
          have hlv := last_val M 0 j (by omega) (by omega)
          have HLV := Lib.hid hlv
          have hrC6 := HR7.out.2.1
          clear hM hMl hlv
          go_wp2_with fail
          refine (bread_c w7 B6 C6 r6 0 t (j : Int) l HR7.out hC7 (by simp; omega) (by omega) (by omega)).mono ?_
          rintro e w8 ⟨rfl, hr8, ho8⟩
          have HO8 := Lib.hid (only_own HO7.out ho8 hB6)
          have HR8 := Lib.hid hr8
          have HS8 := Lib.hid (HS7.out.only' ho8 hD7' (by simp; omega))
          have hD8 : D7 ≤ w8.heap.size := by have := ho8.size; omega
          have hC8 : C6 ≤ w8.heap.size := by have := ho8.size; omega
          have hgo : bgo t (j : Int) = (t : Int) - (j : Int) := by unfold bgo; rw [if_neg (by omega)]
          have HGO := Lib.hid hgo
          rw [HM.out, HLV.out]
          clear hr8 ho8 HR7 HS7 HO7 hgo hC7 hD7'
          obtain ⟨U, hU⟩ : ∃ U, bval M j = U := ⟨_, rfl⟩
          rw [hU]
          have HU := Lib.hid hU; clear hU
          go_wp2_with fail
          go_loopw [23, 24] (fun q i wr => ∃ c : Nat, c ≤ j ∧ i = .int .i64 c ∧ q = .int .u64 (bval M c : Nat) ∧ BW wr C6 D7 s7 ((t : Int) - (c : Int)) l ∧ BW wr B6 C6 r6 (bgo t j) l ∧ Only [] w wr ∧ D7 ≤ wr.heap.size ∧ C6 ≤ wr.heap.size) (fun _ i _ => j - (intOf i).toNat)
          case atStart => exact ⟨0, Nat.zero_le _, rfl, by simp [bval, Bt.num], by simpa using HS8.out, HR8.out, HO8.out, hD8, hC8⟩
          case round =>
            obtain ⟨c, hc, rfl, rfl, hbw, hbr, how, hDw, hCw⟩ := hrel
            have HBW := Lib.hid hbw; have HBR := Lib.hid hbr; have HOW8 := Lib.hid how
            clear hbw hbr how HS8 HR8 HO8 hD8 hC8
            by_cases hcj : c < j
            · have hbs := bval_succ M 0 c
              have hlt := bval_lt M c
              have hp : 2 ^ c ≤ 2 ^ 55 := Nat.pow_le_pow_right (by decide) (by omega)
              have htk : (Bt.bitsOf l).take ((t : Int) - (c : Int)).toNat = M.take (M.length - c) := by
                rw [← HM.out, Int.toNat_natCast, List.take_take, List.length_take, HLB.out]
                congr 1; omega
              have hz1 : (last (M.take (M.length - c)) 0 1).2.2 ≤ 1 := by
                have := last_val (M.take (M.length - c)) 0 1 (by decide) (by decide)
                have h2 := bval_lt (M.take (M.length - c)) 1
                rw [show ((1 : Nat) : Int) = 1 from rfl] at this
                omega
              have hbg : bgo ((t : Int) - (c : Int)) 1 = (t : Int) - ((c + 1 : Nat) : Int) := by unfold bgo; rw [if_neg (by omega)]; omega
              obtain ⟨Z, hZ⟩ : ∃ Z, (last (M.take (M.length - c)) 0 1).2.2 = Z := ⟨_, rfl⟩
              rw [hZ] at hbs hz1
              generalize bval M c = V at *
              have HBS := Lib.hid hbs; have HTK := Lib.hid htk; have HBG := Lib.hid hbg; have HZZ := Lib.hid hZ
              have hV : V < 36028797018963968 := by omega
              have hq1 : (V : Int) * 2 % 18446744073709551616 = (V : Int) * 2 := by omega
              have hq2 : ((V : Int) * 2 + (Z : Int)) % 18446744073709551616 = (V : Int) * 2 + (Z : Int) := by omega
              clear hbs htk hbg hZ hlt hp
              go_wp2_with fail
              refine (bread_c wr C6 D7 s7 0 ((t : Int) - (c : Int)) 1 l HBW.out hDw (by omega) (by omega) (by omega)).mono ?_
              rintro e w9 ⟨rfl, hr9, ho9⟩
              rw [HBG.out] at hr9
              rw [HTK.out, HZZ.out]
              have HR9 := Lib.hid hr9
              have HO9 := Lib.hid (only_own HOW8.out ho9 hB7)
              have HBR9 := Lib.hid (HBR.out.only' ho9 hCw (by simp; omega))
              have hD9 : D7 ≤ w9.heap.size := by have := ho9.size; omega
              have hC9 : C6 ≤ w9.heap.size := by have := ho9.size; omega
              clear hr9 ho9
              go_wp2
              go_roundw
              case rel => exact ⟨c + 1, by omega, by go_num, by rw [HBS.out]; simp, HR9.out, HBR9.out, HO9.out, hD9, hC9⟩
              case measure => simp [intOf]; omega
            · obtain rfl : c = j := by omega
              have hu := HU.out
              rw [hu]
              clear hu
              go_wp2_with fail
              refine (bleft_c wr B6 C6 r6 _ l HBR.out).mono ?_
              rintro e w' ⟨rfl, rfl⟩
              rw [HGO.out]
              go_wp2_with fail
              refine (bleft_c wr C6 D7 s7 _ l HBW.out).mono ?_
              rintro e w' ⟨rfl, rfl⟩
              go_wp2
              go_ret
              exact ⟨by simp, HOW8.out.below (by simp) (Nat.le_refl _)⟩
end Go.Proofs.Ytdpeajbjnennnaa.bit
