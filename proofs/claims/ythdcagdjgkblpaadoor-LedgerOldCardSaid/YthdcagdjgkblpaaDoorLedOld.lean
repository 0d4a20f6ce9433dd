/-
  THE WALK of LedgerOld.
-/
import Derived.Test.YthdcagdjgkblpaaDoorLedGaps
set_option linter.unusedVariables false
set_option linter.unusedSimpArgs false
namespace Go.Lm.Led
theorem last_none : ∀ (R : List (Nat × Nat)), (∀ r ∈ R, r.1 = 1) → last R 2 = (0, false) := by
  suffices h : ∀ (R : List (Nat × Nat)) (s : Nat × Bool), (∀ r ∈ R, r.1 = 1) → R.foldl (lst 2) s = s by
    intro R hR; exact h R _ hR
  intro R
  induction R with
  | nil => intro s _; rfl
  | cons r R ih =>
    intro s h
    rw [List.foldl_cons]
    have h1 := h r (by simp)
    have e : lst 2 s r = s := by unfold lst; rw [if_neg (by omega)]
    rw [e]
    exact ih s (fun x hx => h x (by simp [hx]))
theorem last_there (R : List (Nat × Nat)) (h : ∀ r ∈ R, r.1 = 1) : (last R 1).2 = decide (0 < R.length) := by
  cases hl : R.length with
  | zero => rw [List.eq_nil_of_length_eq_zero hl]; rfl
  | succ n =>
    have h2 := last_take R 1 n (by omega)
    rw [List.take_of_length_le (by omega)] at h2
    rw [h2]
    unfold lst
    rw [if_pos (h _ (List.getElem_mem _))]
    simp
/-- Two rows' values. -/
def two (xs ys : List Nat) (j : Nat) : Nat := if j < xs.length then xs.getD j 0 else ys.getD (j - xs.length) 0
theorem rowK_nil (xs : List Nat) (k j : Nat) (h : j < k) : (rowK xs [] k)[j]? = some (1, xs.getD j 0) := by
  unfold rowK
  rw [List.getElem?_map, List.getElem?_range h]
  rfl
theorem two_at (xs ys : List Nat) (j : Nat) (h : j < xs.length + ys.length) : (rowK xs [] xs.length ++ rowK ys [] ys.length)[j]? = some (1, two xs ys j) := by
  unfold two
  by_cases hj : j < xs.length
  · rw [List.getElem?_append_left (by rw [rowK_length]; exact hj), rowK_nil _ _ _ hj, if_pos hj]
  · rw [List.getElem?_append_right (by rw [rowK_length]; omega), rowK_length, rowK_nil _ _ _ (by omega), if_neg hj]
end Go.Lm.Led
namespace Go.Proofs.YthdcagdjgkblpaaDoor.led
open Go Go.RowKit Go.Lm Go.Proofs.YthdcagdjgkblpaaDoor.cur Go.Proofs.YthdcagdjgkblpaaDoor.crc

theorem us_at {w : World} {a : Option Addr} {n cap : Nat} {xs : List Nat} (h : VS w (.slice a n cap) (xs.map u64v)) (k : Nat) (hk : k < xs.length) : ∃ b off, a = some ⟨b, off, none⟩ ∧ w.cell? ⟨b, off + k, none⟩ = some (.int .u64 ((xs.getD k 0 : Nat) : Int)) := by
  obtain ⟨b, off, e, hc⟩ := vs_at h k (by rw [List.length_map]; exact hk)
  refine ⟨b, off, e, ?_⟩
  rw [hc, List.getElem_map, List.getD_eq_getElem?_getD, List.getElem?_eq_getElem hk]
  rfl

set_option maxRecDepth 100000 in
set_option maxHeartbeats 4000000 in
theorem old_c (w : World) (hT : Tab w) (v u : Value) (xs ys : List Nat) (hv : VS w v (xs.map u64v)) (hu : VS w u (ys.map u64v)) (hx : ∀ x ∈ xs, x < 18446744073709551616) (hy : ∀ x ∈ ys, x < 18446744073709551616) :
    Calls Tryd.prog 8 #[v, u] w fun e w' => e = .returned (.bool true) ∧ Below w.heap.size w w' := by
  have HT := Lib.hid hT; have HV := Lib.hid hv; have HU := Lib.hid hu; have HX := Lib.hid hx; have HY := Lib.hid hy
  obtain ⟨a, cap, rfl, h1, h2, -, -⟩ := hv
  obtain ⟨a', cap', rfl, h3, h4, -, -⟩ := hu
  have htwo := Led.two_at xs ys
  have htw2 : ∀ j, j < xs.length → Led.two xs ys j = xs.getD j 0 := fun j h => if_pos h
  have htw3 : ∀ d, Led.two xs ys (xs.length + d) = ys.getD d 0 := fun d => by unfold Led.two; rw [if_neg (by omega), Nat.add_sub_cancel_left]
  have HTW2 := Lib.hid htw2; have HTW3 := Lib.hid htw3
  obtain ⟨N, hN⟩ : ∃ N, xs.length = N := ⟨_, rfl⟩
  obtain ⟨M, hM⟩ : ∃ M, ys.length = M := ⟨_, rfl⟩
  simp only [List.length_map, hN, hM] at h1 h2 h3 h4 HV HU htwo HTW2 HTW3 ⊢
  have HN := Lib.hid hN; have HM := Lib.hid hM
  unfold maxLen at h2 h4
  clear hT hx hy hN hM htw2 htw3
  by_cases hbig : 20 < N ∨ 20 < M
  · have hc : (20 : Int) < (N : Int) ∨ (¬ ((20 : Int) < (N : Int)) ∧ (20 : Int) < (M : Int)) := by omega
    clear hbig
    rcases hc with hbI | ⟨hbI, hbJ⟩
    all_goals
      go_enter Tryd.func8, Tryd.ntmps8
      go_wp2_with fail
      refine (awake_c w HT.out).mono ?_
      rintro e w1 ⟨rfl, ho1⟩
      have HO1 := Lib.hid ho1
      clear ho1
      go_wp2
      go_ret
      exact ⟨rfl, HO1.out.below (by simp) (Nat.le_refl _)⟩
  have hbI : ¬ ((20 : Int) < (N : Int)) := by omega
  have hbJ : ¬ ((20 : Int) < (M : Int)) := by omega
  obtain ⟨i0, hi, hz0, hz1, hz2⟩ := info_parts info_u8
  have HI := Lib.hid hi; have HZ0 := Lib.hid hz0; have HZ1 := Lib.hid hz1; have HZ2 := Lib.hid hz2
  clear hi hz0 hz1 hz2
  go_enter Tryd.func8, Tryd.ntmps8
  go_wp2_with fail
  refine (awake_c w HT.out).mono ?_
  rintro e w1 ⟨rfl, ho1⟩
  have HO1 := Lib.hid ho1
  have HV1 := Lib.hid (HV.out.only ho1 (by simp))
  have HU1 := Lib.hid (HU.out.only ho1 (by simp))
  clear ho1
  have HT1 := Lib.hid (HT.out.only HO1.out (by simp))
  go_wp2_with fail
  have hrow := row_c w1 (.slice a N cap) (.slice none 0 0) xs [] HV1.out (BS.nil w1) HX.out (by rw [HN.out]; omega) HT1.out
  rw [HN.out] at hrow
  refine hrow.mono ?_
  clear hrow
  rintro e w2 ⟨p, rfl, hov, ho2⟩
  have HO2 := Lib.hid (HO1.out.then ho2)
  have HU2 := Lib.hid (HU1.out.only ho2 (by simp))
  have HT2 := Lib.hid (HT.out.only HO2.out (by simp))
  have HOVA := Lib.hid hov
  clear ho2 hov
  go_wp2_with fail
  have hrow := row_c w2 (.slice a' M cap') (.slice none 0 0) ys [] HU2.out (BS.nil w2) HY.out (by rw [HM.out]; omega) HT2.out
  rw [HM.out] at hrow
  refine hrow.mono ?_
  clear hrow
  rintro e w3 ⟨p', rfl, hov, ho3⟩
  have HO3 := Lib.hid (HO2.out.then ho3)
  have hva := (HOVA.out.only ho3 (by simp)).vs
  have hvb := hov.vs
  have hRA := Led.rowK_length xs [] N
  have hRB := Led.rowK_length ys [] M
  have hokA := Led.rowK_ok xs [] N HX.out
  have hokB := Led.rowK_ok ys [] M HY.out
  generalize Led.rowK xs [] N = RA at *
  generalize Led.rowK ys [] M = RB at *
  have hpA := Led.puts_length RA
  have hpB := Led.puts_length RB
  rw [hRA] at hpA
  rw [hRB] at hpB
  obtain ⟨v4, w4, hrun4, hov4, hg4⟩ := run_append_vs (P := Tryd.prog) (ty := 22) Tryd.underlying22 HI.out HZ0.out HZ1.out HZ2.out rfl (OV.nil w3 w3.heap.size 5) hva (u8s_one _) (by simp [hpA]; unfold maxLen; omega) (by simp [hpA]; omega) (Nat.le_refl _)
  rw [List.nil_append] at hov4
  have ho4 : Only [] w3 w4 := by simpa [Value.ownBlock] using Only.of_grown hg4
  have hvb4 := hvb.only ho4 (by simp)
  obtain ⟨v5, w5, hrun5, hov5, hg5⟩ := run_append_vs (P := Tryd.prog) (ty := 22) Tryd.underlying22 HI.out HZ0.out HZ1.out HZ2.out rfl hov4 hvb4 (u8s_one _) (by simp [hpA, hpB]; unfold maxLen; omega) (by simp [hpA, hpB]; omega) ho4.size
  rw [← List.map_append, ← Led.puts_append] at hov5
  have ho5 : Only [] w3 w5 := ho4.trans (Only.of_grown hg5) (by simp) (fun i hi => .inr (by
    have : v4.ownBlock = some i := by
      cases hu : v4.ownBlock with
      | none => rw [hu] at hi; simp at hi
      | some g => rw [hu] at hi; simp at hi; rw [hi]
    exact (hov4.lt this).1))
  have hok : ∀ r ∈ RA ++ RB, Led.Ok r := fun r hr => (List.mem_append.1 hr).elim (hokA r) (hokB r)
  have hRl : (RA ++ RB).length = N + M := by rw [List.length_append, hRA, hRB]
  obtain ⟨R, hR⟩ : ∃ R, RA ++ RB = R := ⟨_, rfl⟩
  rw [hR] at hov5 hok hRl htwo
  have hk1 : ∀ r ∈ R, r.1 = 1 := by
    intro r hr
    obtain ⟨j, hj, rfl⟩ := List.getElem_of_mem hr
    have h := htwo j (by omega)
    rw [List.getElem?_eq_getElem hj] at h
    rw [Option.some.inj h]
  have HRUN4 := Lib.hid hrun4; have HRUN5 := Lib.hid hrun5
  have HO5 := Lib.hid (HO3.out.then ho5)
  have HB5 := Lib.hid (BS.of_vs hov5.vs)
  have HALL := Lib.hid (Led.all_puts_nil R hok)
  have HK1 := Lib.hid hk1; have HTWO := Lib.hid htwo; have HRL := Lib.hid hRl
  have HPL : Hid ((Led.puts R).length = 13 * (N + M)) := Lib.hid (by rw [Led.puts_length, hRl])
  have H64 : Hid (∀ r ∈ R, r.2 < 18446744073709551616) := Lib.hid (fun r hr => (hok r hr).2)
  obtain ⟨a5, cap5, rfl, h5, h6⟩ := hov5.slice
  simp only [List.length_map, HPL.out] at h5 h6 HB5 HRUN5 
  unfold maxLen at h6
  clear hov hva hvb ho3 hov4 ho4 hvb4 hrun4 hrun5 hov5 hg4 hg5 ho5 hok hk1 htwo hRl hokA hokB hpA hpB hRA hRB HOVA HO2 HU2 HT2 HO3
  --@1
  go_wp2_with (at_builtin; first | (refine wpList_append_run rfl _ _ _ rfl rfl rfl HRUN4.out ?_) | (refine wpList_append_run rfl _ _ _ rfl rfl rfl HRUN5.out ?_))
  --@2
  have hrd := read_c w5 (.slice a5 (13 * (N + M)) cap5) (Led.puts R) HB5.out (by rw [HPL.out]; omega) (HT.out.only HO5.out (by simp))
  rw [HALL.out, HRL.out] at hrd
  refine hrd.mono ?_
  clear hrd
  rintro e w6 ⟨⟨u6, rfl, hrow6⟩, ho6⟩
  have HO6 := Lib.hid (HO5.out.then ho6)
  have HR6 : Hid (RS w6 u6 R) := Lib.hid (RS.of_row (by rw [HRL.out]; exact hrow6))
  have HV6 := Lib.hid (HV.out.only HO6.out (by simp))
  have HU6 := Lib.hid (HU.out.only HO6.out (by simp))
  obtain ⟨a6, cap6, rfl, h7, h8⟩ := HR6.out.slice
  rw [HRL.out] at h7 HR6 ⊢
  unfold maxLen at h8
  clear hrow6 ho6 HB5 HRUN4 HRUN5 HO5 h5 h6 HV1 HU1 HT1 HO1
  obtain ⟨L, hL⟩ : ∃ L, N + M = L := ⟨_, rfl⟩
  have hLI : (N : Int) + (M : Int) = (L : Int) := by omega
  rw [hL] at h7 HR6 HTWO HRL ⊢
  --@3
  go_wp2_with fail
  --@4
  go_loopw [11, 12] (fun x i wr => ∃ (k m : Nat), k ≤ L ∧ i = .int .i64 (k : Nat) ∧ x = .int .u64 (m : Nat) ∧ (Led.last (R.take k) 1).1 = m ∧ m < 18446744073709551616 ∧ Only [] w wr ∧ Only [] w6 wr) (fun x i _ => L - (intOf i).toNat)
  case atStart => exact ⟨0, 0, Nat.zero_le _, rfl, rfl, rfl, by decide, HO6.out, Only.refl _ _⟩
  case round =>
    obtain ⟨k, m, hk, rfl, rfl, hm, hm64, ho, ho'⟩ := hrel
    have HO := Lib.hid ho; have HO' := Lib.hid ho'; have HMX := Lib.hid hm
    clear ho ho' hm
    by_cases hlt : k < L
    · have hkR : k < R.length := by rw [HRL.out]; exact hlt
      obtain ⟨b, off, rfl, c0, c1⟩ := (HR6.out.only HO'.out).at k hkR
      have hr := HTWO.out k hlt
      rw [List.getElem?_eq_getElem hkR] at hr
      have hr := Option.some.inj hr
      have hX64 := H64.out _ (List.getElem_mem hkR)
      have hls := Led.last_take R 1 k hkR
      rw [hr] at c0 c1 hX64 hls
      have hX64 : Led.two xs ys k < 18446744073709551616 := hX64
      have hls2 : (Led.last (R.take (k + 1)) 1).1 = max m (Led.two xs ys k) := by
        rw [hls]
        unfold Led.lst
        rw [if_pos rfl, HMX.out]
      have hmx : max m (Led.two xs ys k) < 18446744073709551616 := by omega
      by_cases hkN : k < N
      · obtain ⟨b', off', rfl, d0⟩ := us_at (HV6.out.only HO'.out (by simp)) k (by rw [HN.out]; exact hkN)
        rw [← HTW2.out k hkN] at d0
        obtain ⟨X, hX⟩ : ∃ X, Led.two xs ys k = X := ⟨_, rfl⟩
        rw [hX] at c0 c1 d0 hls2 hmx hX64
        have HLS := Lib.hid hls2
        have hkNI : (k : Int) < (N : Int) := by omega
        clear hr hls hls2 hX
        by_cases hXm : m < X
        · have hXmI : (m : Int) < (X : Int) := by omega
          have hxe : max m X = X := by omega
          rw [hxe] at HLS
          --@5
          go_wp2
          go_roundw
          case rel => exact ⟨k + 1, X, by omega, by go_num, rfl, HLS.out, hX64, HO.out, HO'.out⟩
          case measure => simp [intOf]; omega
        · have hXmI : ¬ ((m : Int) < (X : Int)) := by omega
          have hxe : max m X = m := by omega
          rw [hxe] at HLS
          go_wp2
          go_roundw
          case rel => exact ⟨k + 1, m, by omega, by go_num, rfl, HLS.out, hm64, HO.out, HO'.out⟩
          case measure => simp [intOf]; omega
      · obtain ⟨d, rfl⟩ : ∃ d, k = N + d := ⟨k - N, by omega⟩
        obtain ⟨b', off', rfl, d0⟩ := us_at (HU6.out.only HO'.out (by simp)) d (by rw [HM.out]; omega)
        rw [← HTW3.out d] at d0
        obtain ⟨X, hX⟩ : ∃ X, Led.two xs ys (N + d) = X := ⟨_, rfl⟩
        rw [hX] at c0 c1 d0 hls2 hmx hX64
        have HLS := Lib.hid hls2
        have hkNI : ¬ (((N + d : Nat) : Int) < (N : Int)) := by omega
        have hd1 : IntKind.i64.wrap (((N + d : Nat) : Int) - (N : Int)) = (d : Int) := by rw [IntKind.wrap_i64]; omega
        have hd2 : ((N : Int) + (d : Int) - (N : Int)) = (d : Int) := by omega
        have hd3 : IntKind.i64.wrap ((N : Int) + (d : Int) - (N : Int)) = (d : Int) := by rw [IntKind.wrap_i64]; omega
        have hd4 : d < M := by omega
        clear hls hls2 hX
        by_cases hXm : m < X
        · have hXmI : (m : Int) < (X : Int) := by omega
          have hxe : max m X = X := by omega
          rw [hxe] at HLS
          --@6
          go_wp2
          go_roundw
          case rel => exact ⟨N + d + 1, X, by omega, by go_num, rfl, HLS.out, hX64, HO.out, HO'.out⟩
          case measure => simp [intOf]; omega
        · have hXmI : ¬ ((m : Int) < (X : Int)) := by omega
          have hxe : max m X = m := by omega
          rw [hxe] at HLS
          go_wp2
          go_roundw
          case rel => exact ⟨N + d + 1, m, by omega, by go_num, rfl, HLS.out, hm64, HO.out, HO'.out⟩
          case measure => simp [intOf]; omega
    · obtain rfl : k = L := by omega
      have hm := HMX.out
      rw [List.take_of_length_le (by rw [HRL.out]; omega)] at hm
      have hth := Led.last_there R HK1.out
      rw [HRL.out] at hth
      obtain ⟨⟨m', b'⟩, hml⟩ : ∃ p, Led.last R 1 = p := ⟨_, rfl⟩
      rw [hml] at hm hth
      have hm : m' = m := hm
      subst hm
      have hth : b' = decide (0 < k) := hth
      have hthI : ((0 : Int) < (k : Int)) ↔ 0 < k := by omega
      have HML := Lib.hid hml
      clear hml
      --@7
      go_wp2_with fail
      have hl1 := last_c wr _ R (HR6.out.only HO'.out) 1 H64.out
      rw [HML.out] at hl1
      refine hl1.mono ?_
      clear hl1
      rintro e w7 ⟨rfl, ho7⟩
      have HO7 := Lib.hid (HO.out.then ho7)
      have HO7' := Lib.hid (HO'.out.then ho7)
      clear ho7
      --@8
      go_wp2_with fail
      have hl2 := last_c w7 _ R (HR6.out.only HO7'.out) 2 H64.out
      rw [Led.last_none R HK1.out] at hl2
      refine hl2.mono ?_
      clear hl2
      rintro e w8 ⟨rfl, ho8⟩
      have HO8 := Lib.hid (HO7.out.then ho8)
      clear ho8
      subst hth
      by_cases hk0 : 0 < k
      · have hkI : (0 : Int) < (k : Int) := by omega
        --@9
        go_wp2
        go_ret
        exact ⟨by simp [hk0], HO8.out.below (by simp) (Nat.le_refl _)⟩
      · have hkI : ¬ ((0 : Int) < (k : Int)) := by omega
        go_wp2
        go_ret
        exact ⟨by simp [hk0], HO8.out.below (by simp) (Nat.le_refl _)⟩
end Go.Proofs.YthdcagdjgkblpaaDoor.led
