/-
  BitsBack, walked.
-/
import Derived.Test.YtdpeajbjnennnaaBitWrs
import Derived.Test.YtdpeajbjnennnaaBitBack
set_option linter.unusedVariables false
set_option linter.unusedSimpArgs false
namespace Go.Proofs.Ytdpeajbjnennnaa.bit
open Go Go.RowKit Go.Lm

/-- n&31. -/
def K31 (n : Int) : Nat := (BitVec.ofInt 64 n &&& BitVec.ofInt 64 31).toNat
theorem K31_le (n : Int) : K31 n ≤ 31 := by
  unfold K31
  rw [BitVec.toNat_and]
  exact Nat.le_trans Nat.and_le_right (by decide)
theorem K31_eq (n : Int) : bits .and .i64 n 31 = (K31 n : Int) := by
  have h := K31_le n
  show IntKind.i64.wrap ((K31 n : Nat) : Int) = _
  rw [IntKind.wrap_i64]
  omega
def pieceC (t : Nat × Int) : List Bool := Bt.low t.1 (K31 t.2 + 1)
theorem pieceC_len (t : Nat × Int) : (pieceC t).length = K31 t.2 + 1 := Bt.low_length _ _
def outQ (ts : List (Nat × Int)) (k : Nat) : List Bool := ((ts.take k).map pieceC).flatten
theorem outQ_succ (ts : List (Nat × Int)) (k : Nat) (h : k < ts.length) : outQ ts (k + 1) = outQ ts k ++ pieceC ts[k] := by
  unfold outQ
  rw [List.take_succ_eq_append_getElem h, List.map_append, List.flatten_append]
  simp only [List.map_cons, List.map_nil, List.flatten_cons, List.flatten_nil, List.append_nil]
/-- What is written up to k stands ahead of what is written up to n. -/
theorem outQ_pre (ts : List (Nat × Int)) (k : Nat) : ∀ n, k ≤ n → n ≤ ts.length → ∃ r, outQ ts n = outQ ts k ++ r := by
  intro n
  induction n with
  | zero => intro h _; exact ⟨[], by rw [show k = 0 by omega]; simp⟩
  | succ n ih =>
    intro h hn
    by_cases hk : k = n + 1
    · subst hk; exact ⟨[], by simp⟩
    · obtain ⟨r, hr⟩ := ih (by omega) (by omega)
      exact ⟨r ++ pieceC ts[n], by rw [outQ_succ ts n (by omega), hr, List.append_assoc]⟩
/-- Piece k, out of bits that begin with all. -/
theorem piece_at (ts : List (Nat × Int)) (k : Nat) (h : k < ts.length) (M Z : List Bool) (hM : M = outQ ts ts.length ++ Z) :
    (M.drop (outQ ts k).length).take (K31 ts[k].2 + 1) = pieceC ts[k] ∧ (outQ ts k).length + (K31 ts[k].2 + 1) = (outQ ts (k + 1)).length ∧ (outQ ts (k + 1)).length ≤ M.length := by
  obtain ⟨r, hr⟩ := outQ_pre ts (k + 1) ts.length (by omega) (Nat.le_refl _)
  have hs := outQ_succ ts k h
  have hl := pieceC_len ts[k]
  refine ⟨?_, by rw [hs, List.length_append, hl], by rw [hM, hr]; simp only [List.length_append]; omega⟩
  rw [hM, hr, hs, List.append_assoc, List.append_assoc, List.drop_left, ← hl, List.take_left' rfl]
theorem num_piece (t : Nat × Int) : Bt.num (pieceC t) = t.1 % 2 ^ (K31 t.2 + 1) := Bt.num_low _ _
/-- What a closed writer's bytes have as their highest bit. -/
theorem closed_top (L : List Bool) : Top (Bt.bitsOf (Bt.bytesOf (L ++ [true]))) L.length := by
  rw [Bt.bitsOf_bytesOf]
  refine ⟨by simp only [List.length_append, List.length_cons]; omega, ?_, fun j hj => ?_⟩
  · rw [List.getD_eq_getElem?_getD, List.getElem?_append_left (by simp), List.getElem?_append_right (Nat.le_refl _)]
    simp
  · rw [List.getD_eq_getElem?_getD]
    by_cases h : j < (L ++ [true]).length
    · simp only [List.length_append, List.length_cons, List.length_nil] at h; omega
    · rw [List.getElem?_append_right (by omega), List.getElem?_replicate]
      split <;> rfl
theorem closed_last (L : List Bool) (h : Bt.bytesOf (L ++ [true]) ≠ []) : ((Bt.bytesOf (L ++ [true])).getLast h).toNat ≠ 0 := by
  intro h0
  have hl := Bt.bytesOf_length (L ++ [true])
  have hb := Bt.bitsOf_get (Bt.bytesOf (L ++ [true])) L.length (by rw [hl]; simp; omega)
  have hq : L.length / 8 = (Bt.bytesOf (L ++ [true])).length - 1 := by rw [hl]; simp; omega
  rw [hq, ← List.getLast?_eq_getElem?, List.getLast?_eq_some_getLast h, Option.map_some, h0] at hb
  have := (closed_top L).on
  rw [List.getD_eq_getElem?_getD, hb] at this
  simp at this
theorem closed_ne (L : List Bool) : Bt.bytesOf (L ++ [true]) ≠ [] := by
  intro h
  have hl := Bt.bytesOf_length (L ++ [true])
  rw [h] at hl
  simp at hl
  omega
theorem mask64 (x k : Nat) (hx : x < 18446744073709551616) (hk : k ≤ 32) : bits .and .u64 (x : Int) ((2 : Int) ^ k - 1) = ((x % 2 ^ k : Nat) : Int) ∧ IntKind.u64.wrap ((2 : Int) ^ k) = (2 : Int) ^ k ∧ IntKind.u64.wrap ((2 : Int) ^ k - 1) = (2 : Int) ^ k - 1 := by
  have h1 : 2 ^ k ≤ 2 ^ 32 := Nat.pow_le_pow_right (by decide) hk
  have h0 : 0 < 2 ^ k := Nat.pow_pos (by decide)
  have e : (2 : Int) ^ k = ((2 ^ k : Nat) : Int) := by rw [Int.natCast_pow]; rfl
  have e2 : (2 : Int) ^ k - 1 = ((2 ^ k - 1 : Nat) : Int) := by rw [e]; omega
  refine ⟨?_, by rw [e, IntKind.wrap_u64]; omega, by rw [e2, IntKind.wrap_u64]; omega⟩
  rw [e2, bits_and_u64_nat _ _ hx (by omega), Nat.and_two_pow_sub_one_eq_mod]

set_option maxRecDepth 100000 in
set_option maxHeartbeats 8000000 in
theorem backs_c (w : World) (v : Value) (ts : List (Nat × Int)) (hv : PIECES w v ts) : Calls Try.prog 8 #[v] w fun e w' => e = .returned (.bool true) ∧ Below w.heap.size w w' := by
  obtain ⟨a, cap, rfl, h1, h2, hat⟩ := hv
  have HAT := Lib.hid hat; clear hat
  unfold maxLen at h2
  by_cases hbig : 60 < ts.length
  · go_enter Try.func8, Try.ntmps8
    go_wp2_with fail
    refine (awake_c w).mono ?_
    rintro e w1 ⟨rfl, ho1⟩
    have HO1 := Lib.hid ho1; clear ho1
    go_wp2
    go_ret
    exact ⟨rfl, HO1.out.below (by simp) (Nat.le_refl _)⟩
  go_enter Try.func8, Try.ntmps8
  go_wp2_with fail
  refine (awake_c w).mono ?_
  rintro e w1 ⟨rfl, ho1⟩
  have HO1 := Lib.hid ho1; clear ho1
  go_wp2_with fail
  refine (newwriter_c w1).mono ?_
  rintro e w2 ⟨rfl, hw2, ho2⟩
  have hD : w.heap.size ≤ w1.heap.size := HO1.out.size
  have HO2 := Lib.hid (HO1.out.then ho2)
  have HW2 := Lib.hid hw2
  clear ho2 hw2 HO1
  generalize w1.heap.size = D at *
  go_wp2_with fail
  go_loopw [5] (fun i wr => ∃ k : Nat, k ≤ ts.length ∧ i = .int .i64 k ∧ (outQ ts k).length ≤ 56 * k ∧ WB wr D D (outQ ts k) ∧ Only [] w wr) (fun i _ => ts.length - (intOf i).toNat)
  case atStart => exact ⟨0, Nat.zero_le _, rfl, Nat.le_refl _, HW2.out, HO2.out⟩
  case round =>
    obtain ⟨k, hk, rfl, hlen, hwb, hor⟩ := hrel
    have HWB := Lib.hid hwb; have HOR := Lib.hid hor
    clear hwb hor HW2 HO2
    by_cases hkl : k < ts.length
    · obtain ⟨b, off, rfl, hact0⟩ := HAT.out k hkl
      have hs := outQ_succ ts k hkl
      have hpl := pieceC_len ts[k]
      have hpc : pieceC ts[k] = Bt.low ts[k].1 (K31 ts[k].2 + 1) := rfl
      rw [hpc] at hs hpl
      clear hpc
      generalize ts[k] = t at *
      obtain ⟨x, n⟩ := t
      simp only at hs hpl hact0
      have h31 := K31_eq n
      have h31l := K31_le n
      generalize K31 n = q at *
      have HACT := Lib.hid hact0; have HS := Lib.hid hs
      have hx := hact0.hx
      have hlen2 : (outQ ts (k + 1)).length ≤ 56 * (k + 1) := by rw [hs, List.length_append]; omega
      obtain ⟨c0, c1, -, -, -⟩ := hact0.kept (fun j hj => HOR.out.block j hj (by simp))
      have HX := Lib.hid hx
      have hwq : IntKind.i64.wrap ((q : Int) + 1) = (q : Int) + 1 := by rw [IntKind.wrap_i64]; omega
      have HWQ := Lib.hid hwq
      clear hact0 hs hpl hx hwq
      go_wp2_with fail
      go_region_with (go_at_call 26; rw [HWQ.out]; refine (write_c _ D D (outQ ts k) (WX.only HWB.out (Only.drew (Only.refl [] wr))) x ((q : Int) + 1) HX.out (by omega)).mono ?_; rintro e w3 ⟨rfl, hw3, how3⟩)
      all_goals
        rw [if_pos (by omega), show ((q : Int) + 1).toNat = q + 1 by omega, ← HS.out] at hw3
        have HW3 := Lib.hid hw3
        have HO3 := Lib.hid (only_below (Only.drew HOR.out) how3 hD)
        clear hw3 how3 c0 c1
        go_wp2
        go_roundw
        case rel => exact ⟨k + 1, by omega, by go_num, hlen2, HW3.out, HO3.out⟩
        case measure => simp [intOf]; omega
    · obtain rfl : k = ts.length := by omega
      have hL : (outQ ts ts.length).length ≤ 10000 := by omega
      clear hlen
      have hpa := fun k h => piece_at ts k h _ _ (Bt.bitsOf_bytesOf (outQ ts ts.length))
      have hpb := fun k h => piece_at ts k h (outQ ts ts.length) [] (by simp)
      have hz0 : (outQ ts 0).length = 0 := rfl
      have HPA := Lib.hid hpa; have HPB := Lib.hid hpb; have HZ0 := Lib.hid hz0
      have hbl := Bt.bytesOf_length (outQ ts ts.length)
      have HBL := Lib.hid hbl
      have hct := closed_top (outQ ts ts.length)
      have hbl2 := Bt.bytesOf_length (outQ ts ts.length ++ [true])
      have HCT := Lib.hid hct; have HBL2 := Lib.hid hbl2
      clear hpa hpb hz0 hbl hct hbl2
      obtain ⟨L, hLe⟩ : ∃ L, outQ ts ts.length = L := ⟨_, rfl⟩
      rw [hLe] at HWB hL HPA HPB HBL HCT HBL2
      have HLE := Lib.hid hLe
      clear hLe
      go_wp2_with fail
      refine (out_c wr D D L HWB.out (by omega)).mono ?_
      rintro e w3 ⟨v3, rfl, hov3, ho3⟩
      have HB3 := Lib.hid (BS.of_vs hov3.vs)
      have HW3 := Lib.hid (WX.only HWB.out ho3)
      have HO3 := Lib.hid (HOR.out.then ho3)
      clear hov3 ho3 HWB HOR
      go_wp2_with fail
      refine (newforward_c w3 _ _ HB3.out (by have := HBL.out; omega)).mono ?_
      rintro e w4 ⟨r, rfl, hr, ho4⟩
      have hBr : w.heap.size ≤ r := by have := hr.1; have := HO3.out.size; omega
      have HR4 := Lib.hid hr
      have HW4 := Lib.hid (WX.only HW3.out ho4)
      have HO4 := Lib.hid (HO3.out.then ho4)
      have hC4 : w4.heap.size ≤ w4.heap.size := Nat.le_refl _
      clear hr ho4 HB3 HW3 HO3
      generalize w3.heap.size = B at *
      obtain ⟨C, hC⟩ : ∃ C, w4.heap.size = C := ⟨_, rfl⟩
      have hC4 : C ≤ w4.heap.size := by omega
      rw [hC] at HR4
      clear hC
      go_wp2_with fail
      refine (closed_c w4 D D L HW4.out (by omega)).mono ?_
      rintro e w5 ⟨v5, rfl, hov5, ho5⟩
      have HB5 := Lib.hid (BS.of_vs hov5.vs)
      have HR5 := Lib.hid (HR4.out.only ho5 hC4)
      have HO5 := Lib.hid (HO4.out.then ho5)
      have hC5 : C ≤ w5.heap.size := by have := ho5.size; omega
      clear hov5 ho5 HR4 HO4 HW4
      go_wp2_with fail
      refine (newback_yes w5 _ _ HB5.out (closed_ne L) (closed_last L (closed_ne L)) (by have := HBL2.out; simp at this; omega)).mono ?_
      rintro e w6 ⟨s, t, rfl, ht, hs, ho6⟩
      obtain rfl : t = L.length := ht.inj HCT.out
      have hBs : w.heap.size ≤ s := by have := hs.1; have := HO5.out.size; omega
      have hsC : C ≤ s := by have := hs.1; omega
      have HS6 := Lib.hid hs
      have HR6 := Lib.hid (HR5.out.only ho6 hC5)
      have HO6 := Lib.hid (HO5.out.then ho6)
      have hC6 : C ≤ w6.heap.size := by have := ho6.size; omega
      clear hs ho6 ht HB5 HR5 HO5 HCT
      generalize w5.heap.size = B5 at *
      obtain ⟨E, hE⟩ : ∃ E, w6.heap.size = E := ⟨_, rfl⟩
      have hE6 : E ≤ w6.heap.size := by omega
      rw [hE] at HS6
      clear hE
      have hrC := HR6.out.2.1
      go_wp2_with fail
      go_loopw [9] (fun i wr => ∃ k : Nat, k ≤ ts.length ∧ i = .int .i64 k ∧ FW wr B C r (outQ ts k).length (Bt.bytesOf L) ∧ BW wr B5 E s (L.length : Nat) (Bt.bytesOf (L ++ [true])) ∧ Only [] w wr ∧ C ≤ wr.heap.size ∧ E ≤ wr.heap.size) (fun i _ => ts.length - (intOf i).toNat)
      case atStart => exact ⟨0, Nat.zero_le _, rfl, by rw [HZ0.out]; exact HR6.out, HS6.out, HO6.out, hC6, hE6⟩
      case round =>
        obtain ⟨k, hk, rfl, hfw, hbw, how, hCw, hEw⟩ := hrel
        have HFW := Lib.hid hfw; have HBW := Lib.hid hbw; have HOW := Lib.hid how
        clear hfw hbw how HR6 HS6 HO6 hC6 hE6
        by_cases hkl : k < ts.length
        · obtain ⟨b, off, rfl, hact0⟩ := HAT.out k hkl
          obtain ⟨hp1, hp2, hp3⟩ := HPA.out k hkl
          have hnp := num_piece ts[k]
          rw [Bt.bitsOf_length] at hp3
          rw [← hp1] at hnp
          generalize ts[k] = t at *
          obtain ⟨x, n⟩ := t
          simp only at hp1 hp2 hact0 hnp
          have h31 := K31_eq n
          have h31l := K31_le n
          generalize K31 n = q at *
          obtain ⟨p, hp⟩ : ∃ p, (outQ ts k).length = p := ⟨_, rfl⟩
          obtain ⟨p', hp'⟩ : ∃ p', (outQ ts (k + 1)).length = p' := ⟨_, rfl⟩
          rw [hp] at hp2 hnp HFW
          rw [hp'] at hp2 hp3
          have hwq : IntKind.i64.wrap ((q : Int) + 1) = (q : Int) + 1 := by rw [IntKind.wrap_i64]; omega
          have hbb := HBL.out
          have hfr : fread (Bt.bytesOf L) p ((q : Int) + 1) = (x % 2 ^ (q + 1), 0, p') := by
            unfold fread
            rw [if_neg (by omega), if_neg (by omega), show ((q : Int) + 1).toNat = q + 1 by omega, hnp, hp2]
          obtain ⟨m1, m2, m3⟩ := mask64 x (q + 1) hact0.hx (by omega)
          obtain ⟨Y, hY⟩ : ∃ Y, x % 2 ^ (q + 1) = Y := ⟨_, rfl⟩
          rw [hY] at m1 hfr
          have HACT := Lib.hid hact0; have HP' := Lib.hid hp'; have HFR := Lib.hid hfr
          have hppb : p ≤ 8 * (Bt.bytesOf L).length := by omega
          have hbb3 : (Bt.bytesOf L).length ≤ 1000000 := by omega
          obtain ⟨c0, c1, -, -, -⟩ := hact0.kept (fun j hj => HOW.out.block j hj (by simp))
          have M1 := Lib.hid m1; have M2 := Lib.hid m2; have M3 := Lib.hid m3
          clear hact0 hp1 hp2 hp3 hnp hp hp' hfr hbb m1 m2 m3 hY
          go_wp2_with fail
          refine (fread_c wr B C r p ((q : Int) + 1) _ HFW.out hCw hppb hbb3).mono ?_
          rintro e w7 ⟨rfl, hr7, ho7⟩
          rw [HFR.out] at hr7 ⊢
          rw [← HP'.out] at hr7
          have HR7 := Lib.hid hr7
          have HS7 := Lib.hid (HBW.out.only' ho7 hEw (by simp; omega))
          have HO7 := Lib.hid (only_own HOW.out ho7 hBr)
          have hC7 : C ≤ w7.heap.size := by have := ho7.size; omega
          have hE7 : E ≤ w7.heap.size := by have := ho7.size; omega
          clear hr7 ho7 c0 c1
          obtain ⟨c0, c1, -, -, -⟩ := HACT.out.kept (fun j hj => HO7.out.block j hj (by simp))
          have m1 := M1.out; have m2 := M2.out; have m3 := M3.out
          go_wp2_with fail
          go_roundw
          case rel => exact ⟨k + 1, by omega, by go_num, HR7.out, HS7.out, HO7.out, hC7, hE7⟩
          case measure => simp [intOf]; omega
        · obtain rfl : k = ts.length := by omega
          clear HFW HPA HBL
          have hpc := fun k h => piece_at ts k h (Bt.bitsOf (Bt.bytesOf (L ++ [true]))) ([true] ++ List.replicate (8 * (((L ++ [true]).length + 7) / 8) - (L ++ [true]).length) false) (by rw [HLE.out, ← List.append_assoc]; exact Bt.bitsOf_bytesOf (L ++ [true]))
          have HPC := Lib.hid hpc
          clear hpc
          have hLe := HLE.out
          have hlt : (outQ ts ts.length).length = L.length := by rw [hLe]
          have HLT := Lib.hid hlt
          clear hlt hLe
          go_wp2_with fail
          go_loopw [13] (fun i wq => ∃ m : Nat, m ≤ ts.length ∧ i = .int .i64 ((m : Int) - 1) ∧ BW wq B5 E s ((outQ ts m).length : Nat) (Bt.bytesOf (L ++ [true])) ∧ Only [] w wq ∧ E ≤ wq.heap.size) (fun i _ => (intOf i + 1).toNat)
          case atStart => exact ⟨ts.length, Nat.le_refl _, rfl, by rw [HLT.out]; exact HBW.out, HOW.out, hEw⟩
          case round =>
            obtain ⟨m, hm, rfl, hbw, how, hEr⟩ := hrel
            have HBW2 := Lib.hid hbw; have HOW2 := Lib.hid how
            clear hbw how HBW HOW hEw hCw
            cases m with
            | zero =>
              go_wp2_with fail
              refine (bleft_c wr B5 E s _ _ HBW2.out).mono ?_
              rintro e w' ⟨rfl, rfl⟩
              rw [HZ0.out]
              go_wp2
              go_ret
              exact ⟨rfl, HOW2.out.below (by simp) (Nat.le_refl _)⟩
            | succ k =>
              have hkl : k < ts.length := by omega
              have hkk : ((k + 1 : Nat) : Int) - 1 = (k : Int) := by omega
              rw [hkk]
              obtain ⟨b, off, rfl, hact0⟩ := HAT.out k hkl
              obtain ⟨hp1, hp2, hp3⟩ := HPC.out k hkl
              have hnp := num_piece ts[k]
              rw [Bt.bitsOf_length] at hp3
              rw [← hp1] at hnp
              generalize ts[k] = t at *
              obtain ⟨x, n⟩ := t
              simp only at hp1 hp2 hact0 hnp
              have h31 := K31_eq n
              have h31l := K31_le n
              generalize K31 n = q at *
              obtain ⟨p, hp⟩ : ∃ p, (outQ ts k).length = p := ⟨_, rfl⟩
              obtain ⟨p', hp'⟩ : ∃ p', (outQ ts (k + 1)).length = p' := ⟨_, rfl⟩
              rw [hp] at hp2 hnp
              rw [hp'] at hp2 hp3 HBW2
              have hwq : IntKind.i64.wrap ((q : Int) + 1) = (q : Int) + 1 := by rw [IntKind.wrap_i64]; omega
              have hlb := Bt.bitsOf_length (Bt.bytesOf (L ++ [true]))
              have hla : (last ((Bt.bitsOf (Bt.bytesOf (L ++ [true]))).take ((p' : Nat) : Int).toNat) 0 ((q : Int) + 1)).2.2 = x % 2 ^ (q + 1) := by
                have hl2 : ((Bt.bitsOf (Bt.bytesOf (L ++ [true]))).take p').length = p' := by rw [List.length_take]; omega
                unfold last
                rw [if_neg (by omega)]
                simp only [Int.toNat_natCast, hl2, show ((q : Int) + 1).toNat = q + 1 by omega, show min (q + 1) p' = q + 1 by omega, Nat.sub_self, Nat.pow_zero, Nat.mul_one]
                rw [List.drop_take, show p' - (p' - (q + 1)) = q + 1 by omega, show p' - (q + 1) = p by omega, hnp]
              have hbg : bgo ((p' : Nat) : Int) ((q : Int) + 1) = (p : Int) := by unfold bgo; rw [if_neg (by omega)]; omega
              obtain ⟨m1, m2, m3⟩ := mask64 x (q + 1) hact0.hx (by omega)
              obtain ⟨Y, hY⟩ : ∃ Y, x % 2 ^ (q + 1) = Y := ⟨_, rfl⟩
              rw [hY] at m1 hla
              have HACT := Lib.hid hact0; have HP := Lib.hid hp; have HLA := Lib.hid hla; have HBG := Lib.hid hbg
              have hppb : p' ≤ 8 * (Bt.bytesOf (L ++ [true])).length := by omega
              have hbb3 : (Bt.bytesOf (L ++ [true])).length ≤ 1000000 := by have := HBL2.out; simp at this; omega
              obtain ⟨c0, c1, -, -, -⟩ := hact0.kept (fun j hj => HOW2.out.block j hj (by simp))
              have hbw : b < w.heap.size := hact0.lt
              have M1 := Lib.hid m1; have M2 := Lib.hid m2; have M3 := Lib.hid m3
              clear hact0 hp1 hp2 hp3 hnp hp hp' hla hbg hlb m1 m2 m3 hY hkk
              go_wp2_with fail
              have m1 := M1.out; have m2 := M2.out; have m3 := M3.out
              have hu1 : IntKind.u64.wrap ((q : Int) + 1) = (q : Int) + 1 := by rw [IntKind.wrap_u64]; omega
              have hu2 : ((q : Int) + 1).toNat = q + 1 := by omega
              have hu3 : min (q + 1) 64 = q + 1 := by omega
              go_region_with (go_at_call 13; (try rw [hwq]); refine (bread_c _ B5 E s 0 (p' : Nat) ((q : Int) + 1) _ (HBW2.out.only (Only.drew (Only.refl [] wr)) hEr) hEr (by simp; omega) (by omega) hbb3).mono ?_; rintro e w7 ⟨rfl, hr7, ho7⟩; rw [HLA.out]; have g0 := ho7.cell (p := ⟨b, off + k * 2, none⟩) (v := .int .u64 (x : Int)) (by go_simp) (by simp; omega))
              all_goals
                have hr7' := hr7
                rw [HBG.out, ← HP.out] at hr7'
                have HS7 := Lib.hid hr7'
                have HO7 := Lib.hid (only_own (Only.drew HOW2.out) ho7 hBs)
                have hE7 : E ≤ w7.heap.size := Nat.le_trans hEr ho7.size
                clear hr7 hr7' ho7 c0 c1 m1 m2 m3 g0 hu1 hu2 hu3
                go_wp2
                go_roundw
                case rel => exact ⟨k, by omega, by go_num, HS7.out, HO7.out, hE7⟩
                case measure => first | (simp [intOf]; done) | (simp [intOf]; omega)
end Go.Proofs.Ytdpeajbjnennnaa.bit
