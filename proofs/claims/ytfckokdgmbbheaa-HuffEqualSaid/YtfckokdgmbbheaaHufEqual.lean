/-
  HuffEqual, walked.
-/
import Derived.Test.YtfckokdgmbbheaaHufOnes
set_option linter.unusedVariables false
set_option linter.unusedSimpArgs false
set_option maxRecDepth 20000
namespace Go.Proofs.Ytfckokdgmbbheaa.huf
open Go Go.RowKit Go.Lm Go.Proofs.Ytfckokdgmbbheaa Go.Proofs.Ytfckokdgmbbheaa.bit

set_option maxRecDepth 100000 in
set_option maxHeartbeats 4000000 in
theorem equal_c (w : World) (n0 : Nat) (hn0 : n0 < 256) (v : Value) (l : List UInt8) (hv : BS w v l) : Calls Try.prog 3 #[.int .u8 (n0 : Int), v] w fun e w' => e = .returned (.bool true) ∧ Below w.heap.size w w' := by
  have HV := Lib.hid hv
  obtain ⟨a, cap, rfl, k1, k2, -, -⟩ := hv
  unfold maxLen at k2
  obtain ⟨r, hr⟩ : ∃ r, n0 % 7 = r := ⟨_, rfl⟩
  have hrI : (n0 : Int) % 7 = (r : Int) := by omega
  have hr7 : r < 7 := by omega
  obtain ⟨k, hk⟩ : ∃ k, r + 1 = k := ⟨_, rfl⟩
  have hkI : (r : Int) + 1 = (k : Int) := by omega
  have hk1 : 1 ≤ k := by omega
  have hk7 : k ≤ 7 := by omega
  clear hr hk
  by_cases h1 : 500 < l.length
  · go_enter Try.func3, Try.ntmps3
    go_wp2_with fail
    refine (awake_c w).mono ?_
    rintro e w1 ⟨rfl, ho1⟩
    --@1
    go_wp2_with fail
    go_ret
    exact ⟨rfl, ho1.below (by simp) (Nat.le_refl _)⟩
  have h1I : ¬ (500 < (l.length : Int)) := by omega
  have HB := Lib.hid (show l.length ≤ 500 by omega)
  go_enter Try.func3, Try.ntmps3
  go_wp2_with fail
  refine (awake_c w).mono ?_
  rintro e w1 ⟨rfl, ho1⟩
  have HO1 := Lib.hid ho1
  clear ho1
  have hpow := pow_int k
  have hPa : 2 ^ 1 ≤ 2 ^ k := Nat.pow_le_pow_right (by decide) hk1
  have hPb : 2 ^ k ≤ 2 ^ 7 := Nat.pow_le_pow_right (by decide) hk7
  obtain ⟨N, hN⟩ : ∃ N, 2 ^ k = N := ⟨_, rfl⟩
  rw [hN] at hpow hPa hPb
  have hN1 : 2 ≤ N := by omega
  have hN2 : N ≤ 128 := by omega
  have HNP := Lib.hid hN
  have hw : wrap64 ((2 : Int) ^ k) = (N : Int) := by rw [hpow]; exact wrap64_of _ (by omega) (by omega)
  have hmk := make_ones w1 N (by omega)
  clear hpow hPa hPb hN
  --@2
  go_wp2_with fail
  --@3
  have hB := Blk.made w1 5 N
  have hO : Only [] w (w1.alloc (.cells (madeCells (Value.int .u8 0).cells N) 5)) := HO1.out.alloc _
  have hlt : w.heap.size ≤ w1.heap.size := HO1.out.size
  obtain ⟨B, hBB⟩ : ∃ B, B = w1.heap.size := ⟨_, rfl⟩
  rw [← hBB] at hlt hB ⊢
  clear hBB
  change Blk (w1.alloc (.cells (madeCells #[Value.int .u8 0] N) 5)) _ _ _ at hB
  change Only [] w (w1.alloc (.cells (madeCells #[Value.int .u8 0] N) 5)) at hO
  generalize World.alloc _ _ = w2 at hB hO ⊢
  have HB2 := Lib.hid hB; clear hB
  have HO := Lib.hid hO; clear hO
  clear HO1 hmk hw
  go_loopw [8] (fun i wr => ∃ j : Nat, ∃ L : List UInt8, j ≤ N ∧ i = .int .i64 j ∧ L.length = N ∧ L.take j = List.replicate j 1 ∧ Blk wr B 5 L ∧ Only [] w wr) (fun i _ => N - (intOf i).toNat)
  case atStart => exact ⟨0, _, Nat.zero_le _, rfl, by simp, rfl, HB2.out, HO.out⟩
  case round =>
    obtain ⟨j, L, hj, rfl, hL, hone, hb, ho⟩ := hrel
    by_cases hjN : j < N
    · have hc := hb.cell j (by omega)
      have hf := hb.free j
      have HB' := Lib.hid hb; clear hb
      have HO' := Lib.hid ho; clear ho
      have hone2 : (L.set j 1).take (j + 1) = List.replicate (j + 1) 1 := by
        rw [List.take_set, List.take_succ_eq_append_getElem (by omega), hone, List.set_append_right _ _ (by simp), List.length_replicate, Nat.sub_self, List.replicate_succ']
        rfl
      have HONE := Lib.hid hone2
      clear hone hone2
      --@4
      go_wp2_with fail
      have hb3 := HB'.out.set j 1
      have ho3 : Only [] w (wr.setCell ⟨B, j, none⟩ (u8v 1)) := HO'.out.setCell (.inr hlt) _
      rw [show u8v 1 = .int .u8 1 from rfl] at hb3 ho3
      clear hc hf
      generalize World.setCell _ _ _ = w3 at hb3 ho3 ⊢
      have HB3 := Lib.hid hb3; clear hb3
      have HO3 := Lib.hid ho3; clear ho3
      go_wp2_with fail
      go_roundw
      case rel => exact ⟨j + 1, L.set j 1, by omega, by go_num, by simpa using hL, HONE.out, HB3.out, HO3.out⟩
      case measure => simp [intOf]; omega
    · obtain rfl : j = N := by omega
      rw [List.take_of_length_le (by omega)] at hone
      subst hone
      have HB' := Lib.hid hb; have HO' := Lib.hid ho
      clear hb ho hL HB2 HO
      obtain ⟨M, hM⟩ : ∃ M : Nat, (j : Int) - 1 = (M : Int) := ⟨j - 1, by omega⟩
      have hM1 : M + 1 = j := by omega
      have hM2 : M ≤ 127 := by omega
      have HBL := Lib.hid HB'.out.lt
      --@5
      go_wp2_with fail
      go_loopw [9, 10] (fun y i wx => ∃ m : Nat, m ≤ l.length ∧ i = .int .i64 m ∧ OV wx (B + 1) 5 y ((mq M (l.take m)).map u8v) ∧ Blk wx B 5 (List.replicate j 1) ∧ B < wx.heap.size ∧ Only [] w wx) (fun _ i _ => l.length - (intOf i).toNat)
      case atStart => exact ⟨0, Nat.zero_le _, rfl, OV.nil _ _ _, HB'.out, HBL.out, HO'.out⟩
      case round =>
        obtain ⟨m, hm, rfl, hov, hb, hlt2, ho⟩ := hrel
        have HOV := Lib.hid hov; have HB3 := Lib.hid hb; have HO3 := Lib.hid ho; have HLT := Lib.hid hlt2
        clear hov hb ho hlt2 HB' HO' HBL
        by_cases hml : m < l.length
        · obtain ⟨a', cap', he, -, -, -, hc⟩ := HV.out.only HO3.out (by simp)
          injection he with e1 e2 e3
          subst e1
          obtain ⟨b, off, rfl, hcell⟩ := hc m hml
          have hsn := mq_snoc M l m hml
          obtain ⟨x, hx⟩ : ∃ x, l[m].toNat = x := ⟨_, rfl⟩
          have hx256 : x < 256 := by rw [← hx]; exact UInt8.toNat_lt _
          rw [hx] at hcell hsn
          have hand := Huf.and_u8_nat' x M hx256 (by omega)
          have hsM : x &&& M ≤ M := Nat.and_le_right
          obtain ⟨s, hs⟩ : ∃ s, x &&& M = s := ⟨_, rfl⟩
          rw [hs] at hand hsM hsn
          obtain ⟨i0, hi, hz0, hz1, hz2⟩ := info_parts bit.info_u8
          obtain ⟨v5, w5, hrun, hov5, hg5⟩ := run_append_one (P := Try.prog) (ty := 22) (T := 5) (fr := (0, 0)) (u := .int .u8 (s : Int)) Try.underlying22 hi hz0 hz1 hz2 rfl HOV.out rfl (by simp only [List.length_map, mq_length, List.length_take, maxLen]; have := HB.out; omega) (by simp only [List.length_map, mq_length, List.length_take]; have := HB.out; omega) HLT.out
          have ho5 : Only u9.ownBlock.toList wr w5 := ((Only.refl _ wr).alloc _).then (Only.of_grown hg5)
          have hmem : ∀ c ∈ u9.ownBlock.toList, B + 1 ≤ c := fun c hc => (HOV.out.lt (by simpa using hc)).1
          have hon5 := HO3.out.trans (S := []) ho5 (by simp) (fun c hc => .inr (by have := hmem c hc; omega))
          have hb5 := HB3.out.only ho5 (fun hm => by have := hmem B hm; omega)
          have hlt5 := Nat.lt_of_lt_of_le HLT.out ho5.size
          rw [← u8v_of s (by omega), show (mq M (l.take m)).map u8v ++ [u8v (UInt8.ofNat s)] = (mq M (l.take (m + 1))).map u8v by rw [hsn, List.map_append]; rfl] at hov5
          have HO5 := Lib.hid hon5; have HB5 := Lib.hid hb5; have HRUN := Lib.hid hrun; have HOV5 := Lib.hid hov5; have HLT5 := Lib.hid hlt5
          clear hi hz0 hz1 hz2 hrun hg5 ho5 hmem hon5 hb5 hov5 hlt5 hsn hs hx hc HOV
          --@6
          go_wp2_with (at_builtin; refine wpList_append_run rfl _ _ _ rfl rfl rfl HRUN.out ?_)
          --@7
          go_roundw
          case rel => exact ⟨m + 1, by omega, by go_num, HOV5.out, HB5.out, HLT5.out, HO5.out⟩
          case measure => simp [intOf]; omega
        · obtain rfl : m = l.length := by omega
          obtain ⟨q, hq⟩ : ∃ q, mq M l = q := ⟨_, rfl⟩
          have hql : q.length = l.length := by rw [← hq, mq_length]
          have hsm : ∀ s ∈ q, s.toNat < j := fun s hs => by have := mq_small M (by omega) l s (by rw [hq]; exact hs); omega
          obtain ⟨f1, f2, f3⟩ := ones_facts k j hk1 hk7 HNP.out q hsm (by have := HB.out; omega)
          have hov := HOV.out
          rw [List.take_length, hq] at hov
          obtain ⟨sa, sc, rfl, -, -⟩ := hov.slice
          rw [hql] at f2 f3
          obtain ⟨n, hn⟩ : ∃ n, l.length = n := ⟨_, rfl⟩
          have hon := HB3.out.bs j j (by simp) (Nat.le_refl _) (by unfold maxLen; omega)
          have hbq := BS.of_vs hov.vs
          rw [List.length_map, hql] at hbq ⊢
          have hnb : n ≤ 500 := by have := HB.out; omega
          rw [hn] at hql f2 f3 hbq ⊢
          obtain ⟨P, hP⟩ : ∃ P, k * n = P := ⟨_, rfl⟩
          have hPb : P ≤ 7 * 500 := by rw [← hP]; exact Nat.mul_le_mul hk7 hnb
          have hPI : (k : Int) * (n : Int) = (P : Int) := by rw [← Int.natCast_mul, hP]
          rw [hP] at f3
          obtain ⟨bl, hbl⟩ : ∃ bl, (P + 8) / 8 = bl := ⟨_, rfl⟩
          rw [hbl] at f3
          have hblI : ((P : Int) + 8) / 8 = (bl : Int) := by omega
          have hblb : bl ≤ 500 := by omega
          obtain ⟨Bb, hBb⟩ : ∃ Bb, sbyt (List.replicate j 1) k q = Bb := ⟨_, rfl⟩
          rw [hBb] at f1 f2 f3
          have hq1 : (henc (List.replicate j 1) q).1 = Bb := by rw [f1]
          have hq2 : (henc (List.replicate j 1) q).2 = 0 := by rw [f1]
          have HON := Lib.hid hon; have HBQ := Lib.hid hbq; have HF2 := Lib.hid f2; have HF3 := Lib.hid f3; have HQ1 := Lib.hid hq1; have HQ2 := Lib.hid hq2; have HQL := Lib.hid hql; have HSM := Lib.hid hsm
          clear hon hbq f1 f2 f3 hq1 hq2 hov HOV hq hsm hP hBb hbl hql
          --@8
          go_wp2_with fail
          refine (hencode_c wr _ _ (List.replicate j 1) q HON.out (by simp; omega) HBQ.out (by have := HQL.out; omega)).mono ?_
          rintro e w5 ⟨v5, rfl, hov5, ho5⟩
          rw [HQ1.out] at hov5
          rw [HQ2.out]
          have hb5 := BS.of_vs hov5.vs
          obtain ⟨ta, tc, rfl, -, -⟩ := hov5.slice
          rw [List.length_map, HF3.out] at hb5 ⊢
          have HB5 := Lib.hid hb5; have HO5 := Lib.hid (HO3.out.then ho5); have HON5 := Lib.hid (HON.out.only ho5 (by simp)); have HBQ5 := Lib.hid (HBQ.out.only ho5 (by simp))
          clear hov5 hb5 ho5 HON HBQ HB3 HO3
          --@9
          go_wp2_with fail
          refine (hdecode_c w5 _ _ (List.replicate j 1) Bb HON5.out (by simp; omega) HB5.out (by have := HF3.out; omega) (n : Int) (.inl (by omega))).mono ?_
          rintro e w6 ⟨v6, rfl, hov6, ho6⟩
          rw [HF2.out] at hov6 ⊢
          have hb6 := BS.of_vs hov6.vs
          obtain ⟨ua, uc, rfl, -, -⟩ := hov6.slice
          rw [List.length_map, HQL.out] at hb6 ⊢
          have HO6 := Lib.hid (HO5.out.then ho6)
          have s1 := run_string_of_bytes (P := Try.prog) Try.underlying22 Try.underlying5 Try.underlying9 hb6
          have s2 := run_string_of_bytes (P := Try.prog) Try.underlying22 Try.underlying5 Try.underlying9 (HBQ5.out.only ho6 (by simp))
          obtain ⟨R, hR⟩ : ∃ R : ByteArray, (⟨q.toArray⟩ : ByteArray) = R := ⟨_, rfl⟩
          rw [hR] at s1 s2
          clear hov6 ho6 hb6 hR HO5 HON5 HB5 HBQ5
          --@A
          go_wp2_with fail
          go_ret
          exact ⟨rfl, HO6.out.below (by simp) (Nat.le_refl _)⟩
end Go.Proofs.Ytfckokdgmbbheaa.huf
