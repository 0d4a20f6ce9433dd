/-
  FrameBlocks, walked.
-/
import Derived.Test.YtkblnlddamojoaaFrmWrites
set_option linter.unusedVariables false
set_option linter.unusedSimpArgs false
namespace Go.Proofs.Ytkblnlddamojoaa.frm
open Go Go.RowKit Go.Lm Go.Proofs.Ytkblnlddamojoaa.cur

theorem refput_d (w : World) (x : Nat) (hx : x < 18446744073709551616) : Calls Try.prog 16 #[.int .u64 x, .int .i64 3] w fun e w' => e = .returned (.string ⟨(Cur.put x 3).toArray⟩) ∧ Only [] w w' := by
  refine (refput_c w x 3 hx (by decide)).mono ?_
  rintro e w' ⟨s, rfl, hs, ho⟩
  obtain ⟨d⟩ := s
  rw [if_pos (by decide)] at hs
  have hs : d.toList = Cur.put x 3 := hs
  have : d = (Cur.put x 3).toArray := by rw [← hs]
  exact ⟨by rw [this], ho⟩

set_option maxHeartbeats 4000000 in
theorem blocks_no (w : World) (v : Value) (l : List UInt8) (hv : BS w v l) (last : Bool) (k s : Int) (hr : k < 0 ∨ 2 < k ∨ s < 0 ∨ 2097151 < s) : Calls Try.prog 5 #[v, .bool last, .int .i64 k, .int .i64 s] w fun e w' => e = .returned (.bool true) ∧ Below w.heap.size w w' := by
  have HV := Lib.hid hv
  obtain ⟨a, cap, rfl, hc1, hc2, -⟩ := hv
  unfold maxLen at hc2
  by_cases hbig : 50 < l.length
  · go_enter Try.func5, Try.ntmps5
    go_wp2_with fail
    refine (awake_c w).mono ?_
    rintro e w1 ⟨rfl, ho1⟩
    have HO1 := Lib.hid ho1; clear ho1
    go_wp2
    go_ret
    exact ⟨rfl, HO1.out.below (by simp) (Nat.le_refl _)⟩
  obtain ⟨⟨⟨B, K, S⟩, f⟩, hd⟩ : ∃ t, blk l = t := ⟨_, rfl⟩
  have HD := Lib.hid hd
  clear hd
  go_enter Try.func5, Try.ntmps5
  go_wp2_with fail
  refine (awake_c w).mono ?_
  rintro e w1 ⟨rfl, ho1⟩
  have HO1 := Lib.hid ho1
  have HV1 := Lib.hid (HV.out.only ho1 (by simp))
  clear ho1
  go_wp2_with fail
  have hrd := readblock_c w1 _ l HV1.out (by omega)
  rw [HD.out] at hrd
  refine hrd.mono ?_
  rintro e w2 ⟨rfl, ho2⟩
  have HO2 := Lib.hid (HO1.out.then ho2)
  have HV2 := Lib.hid (HV1.out.only ho2 (by simp))
  clear ho2 HO1 HV1 hrd
  dsimp only
  rw [show bkV B K S = .agg #[.bool B, .int .i64 (K : Int), .int .i64 (S : Int)] from rfl]
  go_upto_region 7 with fail
  have hal : Only [] w2 (w2.alloc (.cells #[.bool B, .int .i64 (K : Int), .int .i64 (S : Int)] 38 (0, 0))) := (Only.refl [] w2).alloc _
  have HH3 := Lib.hid (KC.new w2 38 B K S)
  have HO3 := Lib.hid (HO2.out.then hal)
  have HV3 := Lib.hid (HV2.out.only hal (by simp))
  clear hal HO2 HV2
  generalize World.alloc w2 _ = w3 at *
  generalize w2.heap.size = H at *
  have hstr := run_string_of_bytes (P := Try.prog) Try.underlying22 Try.underlying5 Try.underlying9 HV3.out
  --@1
  go_wp2_with fail
  have hrf := refreadblock_c w3 ⟨l.toArray⟩ l (by simp) (by omega)
  rw [HD.out] at hrf
  refine hrf.mono ?_
  rintro e w4 ⟨rfl, ho4⟩
  have HO4 := Lib.hid (HO3.out.then ho4)
  have HH4 := Lib.hid (HH3.out.only ho4 (by simp))
  clear ho4 HO3 HV3 hrf HH3 hstr
  dsimp only
  rw [show bkV B K S = .agg #[.bool B, .int .i64 (K : Int), .int .i64 (S : Int)] from rfl]
  go_upto_region 8 with fail
  have hal : Only [] w4 (w4.alloc (.cells #[.bool B, .int .i64 (K : Int), .int .i64 (S : Int)] 41 (0, 0))) := (Only.refl [] w4).alloc _
  have HK5 := Lib.hid (KC.new w4 41 B K S)
  have HO5 := Lib.hid (HO4.out.then hal)
  have HH5 := Lib.hid (HH4.out.only hal (by simp))
  clear hal HO4 HH4
  generalize World.alloc w4 _ = w5 at *
  generalize w4.heap.size = J at *
  --@2
  go_wp2_with fail
  refine (writeblock_no w5 last k s hr).mono ?_
  rintro e w6 ⟨rfl, ho6⟩
  have HO6 := Lib.hid (HO5.out.then ho6)
  have HH6 := Lib.hid (HH5.out.only ho6 (by simp))
  have HK6 := Lib.hid (HK5.out.only ho6 (by simp))
  clear ho6 HO5 HH5 HK5
  obtain ⟨h0, h1, h2⟩ := HH6.out.cells
  obtain ⟨k0, k1, k2⟩ := HK6.out.cells
  have hc : k < 0 ∨ (0 ≤ k ∧ 2 < k) ∨ (0 ≤ k ∧ k ≤ 2 ∧ s < 0) ∨ (0 ≤ k ∧ k ≤ 2 ∧ 0 ≤ s ∧ 2097151 < s) := by omega
  clear hr
  rcases hc with g1 | ⟨g1, g2⟩ | ⟨g1, g2, g3⟩ | ⟨g1, g2, g3, g4⟩
  all_goals
    go_wp2
    go_ret
    exact ⟨rfl, HO6.out.below (by simp) (Nat.le_refl _)⟩

set_option maxHeartbeats 4000000 in
theorem blocks_yes (w : World) (v : Value) (l : List UInt8) (hv : BS w v l) (last : Bool) (k s : Nat) (hk : k ≤ 2) (hs : s ≤ 2097151) : Calls Try.prog 5 #[v, .bool last, .int .i64 k, .int .i64 s] w fun e w' => e = .returned (.bool true) ∧ Below w.heap.size w w' := by
  have HV := Lib.hid hv
  obtain ⟨a, cap, rfl, hc1, hc2, -⟩ := hv
  unfold maxLen at hc2
  by_cases hbig : 50 < l.length
  · go_enter Try.func5, Try.ntmps5
    go_wp2_with fail
    refine (awake_c w).mono ?_
    rintro e w1 ⟨rfl, ho1⟩
    have HO1 := Lib.hid ho1; clear ho1
    go_wp2
    go_ret
    exact ⟨rfl, HO1.out.below (by simp) (Nat.le_refl _)⟩
  obtain ⟨⟨⟨B, K, S⟩, f⟩, hd⟩ : ∃ t, blk l = t := ⟨_, rfl⟩
  have HD := Lib.hid hd
  clear hd
  go_enter Try.func5, Try.ntmps5
  go_wp2_with fail
  refine (awake_c w).mono ?_
  rintro e w1 ⟨rfl, ho1⟩
  have HO1 := Lib.hid ho1
  have HV1 := Lib.hid (HV.out.only ho1 (by simp))
  clear ho1
  go_wp2_with fail
  have hrd := readblock_c w1 _ l HV1.out (by omega)
  rw [HD.out] at hrd
  refine hrd.mono ?_
  rintro e w2 ⟨rfl, ho2⟩
  have HO2 := Lib.hid (HO1.out.then ho2)
  have HV2 := Lib.hid (HV1.out.only ho2 (by simp))
  clear ho2 HO1 HV1 hrd
  dsimp only
  rw [show bkV B K S = .agg #[.bool B, .int .i64 (K : Int), .int .i64 (S : Int)] from rfl]
  go_upto_region 7 with fail
  have hal : Only [] w2 (w2.alloc (.cells #[.bool B, .int .i64 (K : Int), .int .i64 (S : Int)] 38 (0, 0))) := (Only.refl [] w2).alloc _
  have HH3 := Lib.hid (KC.new w2 38 B K S)
  have HO3 := Lib.hid (HO2.out.then hal)
  have HV3 := Lib.hid (HV2.out.only hal (by simp))
  clear hal HO2 HV2
  generalize World.alloc w2 _ = w3 at *
  generalize w2.heap.size = H at *
  have hstr := run_string_of_bytes (P := Try.prog) Try.underlying22 Try.underlying5 Try.underlying9 HV3.out
  --@1
  go_wp2_with fail
  have hrf := refreadblock_c w3 ⟨l.toArray⟩ l (by simp) (by omega)
  rw [HD.out] at hrf
  refine hrf.mono ?_
  rintro e w4 ⟨rfl, ho4⟩
  have HO4 := Lib.hid (HO3.out.then ho4)
  have HH4 := Lib.hid (HH3.out.only ho4 (by simp))
  clear ho4 HO3 HV3 hrf HH3 hstr
  dsimp only
  rw [show bkV B K S = .agg #[.bool B, .int .i64 (K : Int), .int .i64 (S : Int)] from rfl]
  go_upto_region 8 with fail
  have hal : Only [] w4 (w4.alloc (.cells #[.bool B, .int .i64 (K : Int), .int .i64 (S : Int)] 41 (0, 0))) := (Only.refl [] w4).alloc _
  have HK5 := Lib.hid (KC.new w4 41 B K S)
  have HO5 := Lib.hid (HO4.out.then hal)
  have HH5 := Lib.hid (HH4.out.only hal (by simp))
  clear hal HO4 HH4
  generalize World.alloc w4 _ = w5 at *
  generalize w4.heap.size = J at *
  --@2
  go_wp2_with fail
  refine (writeblock_yes w5 last k s hk hs).mono ?_
  rintro e w6 ⟨v6, rfl, hov6, ho6⟩
  have HO6 := Lib.hid (HO5.out.then ho6)
  have HH6 := Lib.hid (HH5.out.only ho6 (by simp))
  have HK6 := Lib.hid (HK5.out.only ho6 (by simp))
  obtain ⟨L, hL⟩ : ∃ L, Cur.put (blkN last k s) 3 = L := ⟨_, rfl⟩
  have hl3 : L.length = 3 := by rw [← hL, Cur.put_length]
  rw [hL] at hov6
  have HB6 := Lib.hid (BS.of_vs hov6.vs)
  have HL := Lib.hid hL
  obtain ⟨a6, cap6, rfl, hcap6, hmax6⟩ := hov6.slice
  rw [List.length_map, hl3] at hcap6 HB6 ⊢
  clear ho6 HO5 HH5 HK5 hL hov6
  obtain ⟨h0, h1, h2⟩ := HH6.out.cells
  obtain ⟨k0, k1, k2⟩ := HK6.out.cells
  have hkI : (k : Int) ≤ 2 := by omega
  have hsI : (s : Int) ≤ 2097151 := by omega
  have HKN := Lib.hid hk; have HSN := Lib.hid hs
  clear hk hs
  --@3
  go_wp2_with fail
  --@4
  have hrd := readblock_c w6 (.slice a6 3 cap6) L HB6.out (by omega)
  rw [← HL.out, blk_put last k s HKN.out HSN.out] at hrd
  refine hrd.mono ?_
  rintro e w7 ⟨rfl, ho7⟩
  have HO7 := Lib.hid (HO6.out.then ho7)
  have HB7 := Lib.hid (HB6.out.only ho7 (by simp))
  clear ho7 HO6 HB6 hrd h0 h1 h2 k0 k1 k2 HH6 HK6
  dsimp only
  rw [show bkV last k s = .agg #[.bool last, .int .i64 (k : Int), .int .i64 (s : Int)] from rfl]
  go_upto_region 14 with fail
  have hal : Only [] w7 (w7.alloc (.cells #[.bool last, .int .i64 (k : Int), .int .i64 (s : Int)] 38 (0, 0))) := (Only.refl [] w7).alloc _
  have HK8 := Lib.hid (KC.new w7 38 last k s)
  have HO8 := Lib.hid (HO7.out.then hal)
  have HB8 := Lib.hid (HB7.out.only hal (by simp))
  clear hal HO7 HB7
  generalize World.alloc w7 _ = w8 at *
  generalize w7.heap.size = M at *
  obtain ⟨k0, k1, k2⟩ := HK8.out.cells
  have l0 := fun x : Later [] w8 => Later.cell k0 (by simp) x
  have l1 := fun x : Later [] w8 => Later.cell k1 (by simp) x
  have l2 := fun x : Later [] w8 => Later.cell k2 (by simp) x
  have hstr : ∀ x : Later [] w8, (convert 22 9 (.slice a6 3 cap6)).run Try.prog x.at' = .ok (.string ⟨L.toArray⟩) x.at' := by
    intro x
    have := HB8.out.only x.only (by simp)
    exact run_string_of_bytes Try.underlying22 Try.underlying5 Try.underlying9 this
  clear k0 k1 k2
  have e0 : 8 * (s : Int) + 2 * (k : Int) = ((8 * s + 2 * k : Nat) : Int) := by omega
  have hn0 : 8 * s + 2 * k ≤ 16777212 := by have := HKN.out; have := HSN.out; omega
  have HLF : Hid (Cur.put (8 * s + 2 * k + if last then 1 else 0) 3 = L) := HL.out
  obtain ⟨N, hN⟩ : ∃ N, 8 * s + 2 * k = N := ⟨_, rfl⟩
  rw [hN] at e0 hn0 HLF
  have hNI : (N : Int) ≤ 16777212 := by omega
  clear hN
  cases last with
  | false =>
    have hP : Cur.put N 3 = L := HLF.out
    have HQ : Hid (∀ W : World, Calls Try.prog 16 #[.int .u64 (N : Int), .int .i64 3] W fun e w' => e = .returned (.string ⟨L.toArray⟩) ∧ Only [] W w') := fun W => by have hq := refput_d W N (by omega); rw [hP] at hq; exact hq
    clear hP
    have hw1 : IntKind.u64.wrap (N : Int) = (N : Int) := by rw [IntKind.wrap_u64]; omega
    --@5
    go_upto_region 17 with fail
    --@6
    refine wp_region_later [] (by kernel_rfl) (by kernel_rfl) ?_
    repeat (go_big_quiet_step (first
      | (go_at_call 16; exact Calls.later_nil (HQ.out _))))
    --@7
    refine wpQuiet_nil ?_
    rintro _ ⟨x, rfl⟩
    have hx := x.only
    have HO9 := Lib.hid (HO8.out.then hx)
    clear l0 l1 l2 hstr hx
    generalize x.at' = w9 at *
    go_wp2
    go_ret
    exact ⟨rfl, HO9.out.below (by simp) (Nat.le_refl _)⟩
  | true =>
    have hP : Cur.put (N + 1) 3 = L := HLF.out
    obtain ⟨N1, hN1⟩ : ∃ N1, N + 1 = N1 := ⟨_, rfl⟩
    rw [hN1] at hP
    have e1 : (N : Int) + 1 = (N1 : Int) := by omega
    have hn1 : N1 ≤ 16777213 := by omega
    have HQ : Hid (∀ W : World, Calls Try.prog 16 #[.int .u64 (N1 : Int), .int .i64 3] W fun e w' => e = .returned (.string ⟨L.toArray⟩) ∧ Only [] W w') := fun W => by have hq := refput_d W N1 (by omega); rw [hP] at hq; exact hq
    clear hP hN1
    have hw1 : IntKind.u64.wrap (N1 : Int) = (N1 : Int) := by rw [IntKind.wrap_u64]; omega
    go_upto_region 17 with fail
    refine wp_region_later [] (by kernel_rfl) (by kernel_rfl) ?_
    repeat (go_big_quiet_step (first
      | (go_at_call 16; exact Calls.later_nil (HQ.out _))))
    refine wpQuiet_nil ?_
    rintro _ ⟨x, rfl⟩
    have hx := x.only
    have HO9 := Lib.hid (HO8.out.then hx)
    clear l0 l1 l2 hstr hx
    generalize x.at' = w9 at *
    go_wp2
    go_ret
    exact ⟨rfl, HO9.out.below (by simp) (Nat.le_refl _)⟩

theorem blocks_c (w : World) (v : Value) (l : List UInt8) (hv : BS w v l) (last : Bool) (k s : Int) : Calls Try.prog 5 #[v, .bool last, .int .i64 k, .int .i64 s] w fun e w' => e = .returned (.bool true) ∧ Below w.heap.size w w' := by
  by_cases hr : k < 0 ∨ 2 < k ∨ s < 0 ∨ 2097151 < s
  · exact blocks_no w v l hv last k s hr
  · obtain ⟨k, rfl⟩ := Int.eq_ofNat_of_zero_le (show 0 ≤ k by omega)
    obtain ⟨s, rfl⟩ := Int.eq_ofNat_of_zero_le (show 0 ≤ s by omega)
    exact blocks_yes w v l hv last k s (by omega) (by omega)
end Go.Proofs.Ytkblnlddamojoaa.frm
