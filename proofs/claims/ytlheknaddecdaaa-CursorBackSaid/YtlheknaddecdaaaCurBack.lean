/-
  CursorBack, walked.
-/
import Derived.Test.YtlheknaddecdaaaCurWrites
set_option linter.unusedVariables false
set_option linter.unusedSimpArgs false
namespace Go.Proofs.Ytlheknaddecdaaa.cur
open Go Go.RowKit Go.Lm

/-- n&7. -/
def K7 (n : Int) : Nat := (BitVec.ofInt 64 n &&& BitVec.ofInt 64 7).toNat
theorem K7_le (n : Int) : K7 n ≤ 7 := by
  unfold K7
  rw [BitVec.toNat_and]
  exact Nat.le_trans Nat.and_le_right (by decide)
theorem K7_eq (n : Int) : bits .and .i64 n 7 = (K7 n : Int) := by
  have h := K7_le n
  show IntKind.i64.wrap ((K7 n : Nat) : Int) = _
  rw [IntKind.wrap_i64]
  omega
def actC (t : ActL) : List UInt8 := Cur.put t.x (K7 t.n + 1) ++ t.b
def outC (ts : List ActL) (k : Nat) : List UInt8 := ((ts.take k).map actC).flatten
theorem outC_succ (ts : List ActL) (k : Nat) (h : k < ts.length) : outC ts (k + 1) = outC ts k ++ actC ts[k] := by
  unfold outC
  rw [List.take_succ_eq_append_getElem h, List.map_append, List.flatten_append]
  simp only [List.map_cons, List.map_nil, List.flatten_cons, List.flatten_nil, List.append_nil]
/-- What is left from act i on, of K. -/
def restC (ts : List ActL) (K i : Nat) : List UInt8 := (((ts.take K).drop i).map actC).flatten
theorem restC_zero (ts : List ActL) (K : Nat) : restC ts K 0 = outC ts K := rfl
theorem restC_end (ts : List ActL) (K : Nat) : restC ts K K = [] := by
  unfold restC
  rw [List.drop_eq_nil_of_le (by simp; omega)]
  rfl
theorem restC_step (ts : List ActL) (K i : Nat) (hi : i < K) (hk : K ≤ ts.length) : restC ts K i = Cur.put ts[i].x (K7 ts[i].n + 1) ++ (ts[i].b ++ restC ts K (i + 1)) := by
  unfold restC
  rw [List.drop_eq_getElem_cons (by simp; omega)]
  simp [actC]
theorem rnum_put (x k : Nat) (rest : List UInt8) (hk : k ≤ 7) : Cur.rnum (Cur.put x (k + 1) ++ rest) 0 ((k : Int) + 1) = (rest, 0, x % 256 ^ (k + 1)) := by
  have hl := Cur.put_length x (k + 1)
  have h1 : (decide (1 ≤ (k : Int) + 1) && decide ((k : Int) + 1 ≤ 8)) = true := by simp; omega
  have h2 : ¬ (((Cur.put x (k + 1) ++ rest).length : Int) < (k : Int) + 1) := by simp [hl]; omega
  have h3 : ((k : Int) + 1).toNat = k + 1 := by omega
  unfold Cur.rnum Cur.rtake
  rw [h1]
  simp only [if_neg h2, h3, ne_eq, not_true_eq_false, if_false]
  have e1 : (Cur.put x (k + 1) ++ rest).drop (k + 1) = rest := List.drop_left' hl
  have e2 : (Cur.put x (k + 1) ++ rest).take (k + 1) = Cur.put x (k + 1) := List.take_left' hl
  simp [e1, e2, Cur.le_put]
theorem rbytes_cat (b rest : List UInt8) : Cur.rbytes (b ++ rest) 0 (b.length : Int) = (rest, 0, b) := by
  simp [Cur.rbytes, Cur.rtake]
  omega

theorem shlr (x s t : Nat) (h : s + t = 64) : (x : Int) * 2 ^ s % 18446744073709551616 / 2 ^ s = ((x % 2 ^ t : Nat) : Int) := by
  have e : x * 2 ^ s % 18446744073709551616 / 2 ^ s = x % 2 ^ t := by
    rw [show 18446744073709551616 = 2 ^ t * 2 ^ s by rw [← Nat.pow_add, show t + s = 64 by omega], Nat.mul_mod_mul_right, Nat.mul_div_cancel _ (Nat.pow_pos (by decide))]
  rw [← e, Int.natCast_ediv, Int.natCast_emod, Int.natCast_mul, Int.natCast_pow]
  rfl

set_option maxRecDepth 100000 in
set_option maxHeartbeats 4000000 in
theorem back_c (w : World) (v : Value) (ts : List ActL) (hv : ACTS w v ts) : Calls Try.prog 5 #[v] w fun e w' => e = .returned (.bool true) ∧ Below w.heap.size w w' := by
  obtain ⟨a, cap, rfl, h1, h2, hat⟩ := hv
  have HAT := Lib.hid hat; clear hat
  unfold maxLen at h2
  go_enter Try.func5, Try.ntmps5
  go_wp2_with fail
  refine (awake_c w).mono ?_
  rintro e w1 ⟨rfl, ho1⟩
  have HO1 := Lib.hid ho1; clear ho1
  go_wp2_with fail
  refine (newwriter_c w1).mono ?_
  rintro e w2 ⟨rfl, hw2, ho2⟩
  have hD : w.heap.size ≤ w1.heap.size := HO1.out.size
  have HO2 := Lib.hid (HO1.out.then ho2)
  have HW2 := Lib.hid hw2
  clear ho2 hw2 HO1
  generalize w1.heap.size = D at *
  go_wp2_with fail
  go_loopw [5] (fun i wr => ∃ k : Nat, k ≤ ts.length ∧ k ≤ 40 ∧ i = .int .i64 k ∧ (outC ts k).length ≤ 208 * k ∧ WR wr D D (outC ts k) ∧ Only [] w wr) (fun i _ => ts.length - (intOf i).toNat)
  case atStart => exact ⟨0, Nat.zero_le _, Nat.zero_le _, rfl, Nat.le_refl _, HW2.out, HO2.out⟩
  case round =>
    obtain ⟨k, hk, hk40, rfl, hlen, hwr, hor⟩ := hrel
    have HWR := Lib.hid hwr; have HOR := Lib.hid hor
    clear hwr hor HW2 HO2
    by_cases hgo : k < ts.length ∧ k < 40
    · obtain ⟨hkl, hk4⟩ := hgo
      obtain ⟨b, off, rfl, hact0⟩ := HAT.out k hkl
      have hact := hact0.kept (fun j hj => HOR.out.block j hj (by simp))
      obtain ⟨c0, c1, c2, ⟨a3, cap3, c3, hb3⟩, n0, n1, hx⟩ := hact
      have HB3 := Lib.hid hb3
      have hs := outC_succ ts k hkl
      have hcap3 : ts[k].b.length ≤ cap3 ∧ cap3 ≤ 9223372036854775807 := by
        obtain ⟨_, _, he, h1, h2, _⟩ := hb3
        simp only [Value.slice.injEq] at he
        unfold maxLen at h2
        omega
      generalize ts[k] = t at *
      have h7 := K7_eq t.n
      have h7l := K7_le t.n
      unfold actC at hs
      generalize K7 t.n = q at *
      have hpl := Cur.put_length t.x (q + 1)
      have HS := Lib.hid hs; have HACT := Lib.hid hact0; have HPL := Lib.hid hpl; clear hs hb3 hact0 hpl c0
      by_cases hbig : 200 < t.b.length
      · go_wp2
        go_ret
        exact ⟨rfl, HOR.out.below (by simp) (Nat.le_refl _)⟩
      go_wp2_with fail
      have hwq : IntKind.i64.wrap ((q : Int) + 1) = (q : Int) + 1 := by rw [IntKind.wrap_i64]; omega
      have HWQ := Lib.hid hwq; clear hwq
      go_region_with (go_at_call 19; rw [HWQ.out]; refine (wnumber_c _ D D (outC ts k) (HWR.out.only (Only.drew (Only.refl [] wr))) t.x ((q : Int) + 1) hx (by omega)).mono ?_; rintro e w' ⟨rfl, hw', hb'⟩)
      all_goals
        have hw'' : WR w' D D (outC ts k ++ Cur.put t.x (q + 1)) := by
          rw [if_pos (by omega), show ((q : Int) + 1).toNat = q + 1 by omega] at hw'
          exact hw'
        have HW' := Lib.hid hw''
        have HO' : Hid (Only [] w w') := only_below (Only.drew HOR.out) hb' hD
        clear hw' hw'' hb' c1 c2 c3
        obtain ⟨c0, c1, c2, ⟨a4, cap4, c3, hb4⟩, _, _, _⟩ := HACT.out.kept (fun j hj => HO'.out.block j hj (by simp))
        have HB4 := Lib.hid hb4
        clear c0 c1 c2 hb4
        go_wp2_with fail
        refine (wbytes_c w' D D _ t.b HW'.out _ HB4.out (by simp [HPL.out]; omega)).mono ?_
        rintro e w'' ⟨rfl, hw', hb'⟩
        have HW'' := Lib.hid hw'
        have HO'' : Hid (Only [] w w'') := only_below HO'.out hb' hD
        clear hw' hb' c3
        go_wp2
        go_roundw
        case rel => exact ⟨k + 1, by omega, by omega, by go_num, by rw [HS.out]; simp [HPL.out]; omega, by rw [HS.out, ← List.append_assoc]; exact HW''.out, HO''.out⟩
        case measure => simp [intOf]; omega
    · have hL : (outC ts k).length ≤ 20000 := by omega
      have HSTEP := Lib.hid (fun i hi => restC_step ts k i hi hk)
      have HEND := Lib.hid (restC_end ts k)
      have HZERO := Lib.hid (restC_zero ts k)
      have HLEN := Lib.hid hlen
      clear hlen
      have hdec : (ts.length ≤ k ∧ k = ts.length) ∨ (k < ts.length ∧ 40 ≤ k ∧ k = 40) := by omega
      obtain ⟨K, hK⟩ : ∃ K, K = k := ⟨_, rfl⟩
      subst hK
      rcases hdec with ⟨hd1, hd3⟩ | ⟨hd1, hd2, hd3⟩
      all_goals
        clear hgo
        go_wp2_with fail
        refine (out_c wr D D (outC ts K) HWR.out (by omega)).mono ?_
        rintro e w3 ⟨v3, rfl, hov, ho3⟩
        have hbs := BS.of_vs hov.vs
        have HBS := Lib.hid hbs
        have HO3 := Lib.hid (HOR.out.then ho3)
        have hs3 := HO3.out.size
        clear hov ho3 hbs
        go_wp2_with fail
        refine (newreader_c w3 v3 _ HBS.out (by omega)).mono ?_
        rintro e w4 ⟨r, rfl, hr4, ho4⟩
        have HR4 := Lib.hid hr4
        have HO4 := Lib.hid (HO3.out.then ho4)
        have hrB : w.heap.size ≤ r := by have := hr4.1; omega
        clear hr4 ho4 HBS
        generalize w3.heap.size = B at *
        generalize w4.heap.size = C at *
        go_wp2_with fail
        go_loopw [7] (fun i wr => ∃ j : Nat, j ≤ K ∧ i = .int .i64 j ∧ RD wr B C r 0 (restC ts K j) ∧ Only [] w wr) (fun i _ => K - (intOf i).toNat)
        case atStart => exact ⟨0, Nat.zero_le _, rfl, by rw [HZERO.out]; exact HR4.out, HO4.out⟩
        case round =>
          obtain ⟨j, hj, rfl, hrd, hor2⟩ := hrel
          have HRD := Lib.hid hrd; have HO5 := Lib.hid hor2
          clear hrd hor2 HR4 HO4
          by_cases hjK : j < K
          · have hjl : j < ts.length := by omega
            obtain ⟨b, off, rfl, hact0⟩ := HAT.out j hjl
            have hst := HSTEP.out j hjK
            have hact := hact0.kept (fun i hi => HO5.out.block i hi (by simp))
            obtain ⟨c0, c1, c2, ⟨a3, cap3, c3, hb3⟩, n0, n1, hx⟩ := hact
            have HB3 := Lib.hid hb3
            have hcap3 : ts[j].b.length ≤ cap3 ∧ cap3 ≤ 9223372036854775807 := by
              obtain ⟨_, _, he, h1, h2, _⟩ := hb3
              simp only [Value.slice.injEq] at he
              unfold maxLen at h2
              omega
            generalize ts[j] = t at *
            have h7 := K7_eq t.n
            have h7l := K7_le t.n
            generalize K7 t.n = q at *
            have hrn := rnum_put t.x q (t.b ++ restC ts K (j + 1)) h7l
            rw [← hst] at hrn
            have hrb := rbytes_cat t.b (restC ts K (j + 1))
            have hval := shlr t.x (64 - 8 * (q + 1)) (8 * (q + 1)) (by omega)
            rw [← Cur.pow256] at hval
            obtain ⟨Y, hY⟩ : ∃ Y, t.x % 256 ^ (q + 1) = Y := ⟨_, rfl⟩
            rw [hY] at hrn hval
            have HACT := Lib.hid hact0; have HRB := Lib.hid hrb; have HX := Lib.hid hx
            clear hst hact0 hrb hb3 c0 c2
            have hqq : q = 0 ∨ q = 1 ∨ q = 2 ∨ q = 3 ∨ q = 4 ∨ q = 5 ∨ q = 6 ∨ q = 7 := by omega
            rcases hqq with rfl | rfl | rfl | rfl | rfl | rfl | rfl | rfl
            all_goals
              simp only [Int.cast_ofNat_Int, Int.natCast_zero, Int.natCast_one, Int.reduceAdd, Nat.reduceAdd, Nat.reduceMul, Nat.reduceSub, Int.reducePow, Nat.reducePow] at h7 hrn hval hY
              have HRN := Lib.hid hrn; have HVAL := Lib.hid hval; have HY := Lib.hid hY
              clear hrn hval hY h7l
              go_wp2_with fail
              refine (number_c _ B C r 0 _ _ HRD.out).mono ?_
              rintro e w5 ⟨rfl, hr5, ho5⟩
              rw [HRN.out] at hr5 ⊢
              have HR5 := Lib.hid hr5
              have HO6 := Lib.hid (only_own HO5.out ho5 hrB)
              clear hr5 ho5 c1 c3
              obtain ⟨_, _, _, ⟨a4, cap4, c3, hb4⟩, _, _, _⟩ := HACT.out.kept (fun i hi => HO6.out.block i hi (by simp))
              have hcap4 : t.b.length ≤ cap4 ∧ cap4 ≤ 9223372036854775807 := by
                obtain ⟨_, _, he, h1, h2, _⟩ := hb4
                simp only [Value.slice.injEq] at he
                unfold maxLen at h2
                omega
              clear hb4
              go_wp2_with fail
              refine (bytes_c _ B C r 0 _ _ HR5.out).mono ?_
              rintro e w6 ⟨v6, rfl, hr6, hb6, ho6⟩
              rw [HRB.out] at hr6 hb6
              have HR6 := Lib.hid hr6
              have HO7 := Lib.hid (only_own HO6.out ho6 hrB)
              have hstr1 := fun n => run_string_of_bytes (P := Try.prog) Try.underlying22 Try.underlying5 Try.underlying9 (hb6.1.only ((Only.refl [] w6).drewN n) (by simp))
              clear hr6 ho6 hb6 c3 hcap4
              obtain ⟨_, _, c2, ⟨a5, cap5, c3, hb5⟩, _, _, _⟩ := HACT.out.kept (fun i hi => HO7.out.block i hi (by simp))
              have hstr2 := fun n => run_string_of_bytes (P := Try.prog) Try.underlying22 Try.underlying5 Try.underlying9 (hb5.only ((Only.refl [] w6).drewN n) (by simp))
              have hval := HVAL.out
              have hx := HX.out
              clear hb5
              have hval2 := hval
              rw [← IntKind.wrap_u64] at hval2
              have hwi : ∀ m : Int, 0 ≤ m ∧ m ≤ 64 → IntKind.i64.wrap m = m := fun m hm => by rw [IntKind.wrap_i64]; omega
              have hwu : ∀ m : Int, 0 ≤ m ∧ m ≤ 64 → IntKind.u64.wrap m = m := fun m hm => by rw [IntKind.wrap_u64]; omega
              have hYb : Y < 18446744073709551616 := by have := HY.out; omega
              first | (have hxy : (t.x : Int) = (Y : Int) := (by have := HY.out; omega)) | skip
              go_wp2_with fail
              go_quiet (fail)
              clear hval hval2 hx hwi hwu hYb hstr1 hstr2 c2 c3 HVAL HY
              try clear hxy
              go_wp2
              go_roundw
              case rel => exact ⟨j + 1, by omega, by go_num, HR6.out.kept fun _ _ _ => rfl, HO7.out.drewN _⟩
              case measure => simp [intOf]; omega
          · obtain rfl : j = K := by omega
            go_wp2_with fail
            refine (end_c _ B C r 0 _ HRD.out).mono ?_
            rintro e w' ⟨rfl, rfl⟩
            rw [HEND.out]
            go_wp2
            go_ret
            exact ⟨by simp [Cur.rend], HO5.out.below (by simp) (Nat.le_refl _)⟩
end Go.Proofs.Ytlheknaddecdaaa.cur
