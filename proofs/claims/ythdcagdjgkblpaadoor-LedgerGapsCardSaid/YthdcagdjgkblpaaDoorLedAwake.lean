/-
  The laws' awake; LedgerPuts.
-/
import Derived.Test.YthdcagdjgkblpaaDoorLedRef
import Derived.Test.YthdcagdjgkblpaaDoorLedPlain2
set_option linter.unusedVariables false
set_option linter.unusedSimpArgs false
namespace Go.Proofs.YthdcagdjgkblpaaDoor.led
open Go Go.RowKit Go.Lm Go.Proofs.YthdcagdjgkblpaaDoor.cur Go.Proofs.YthdcagdjgkblpaaDoor.crc

theorem put_258 : ∃ t, Led.put 2 258 = 2 :: 2 :: t := ⟨_, rfl⟩
theorem all_258 : Led.all (Led.put 2 258) = [(2, 258)] := by
  have h := Led.all_puts [(2, 258)] [] (fun r hr => by obtain rfl := List.mem_singleton.1 hr; exact ⟨.inr rfl, by decide⟩)
  rw [List.append_nil, Led.all_short [] (by decide), List.append_nil] at h
  exact h
theorem all_nil : Led.all [] = [] := Led.all_short [] (by decide)

set_option maxRecDepth 100000 in
set_option maxHeartbeats 4000000 in
theorem awake_c (w : World) (hT : Tab w) : Calls Tryd.prog 9 #[] w fun e w' => e = .returned (.bool true) ∧ Only [] w w' := by
  have HT := Lib.hid hT
  clear hT
  go_enter Tryd.func9, Tryd.ntmps9
  go_wp2_with fail
  refine (put_yes w 2 258 (.inr rfl) (by decide) HT.out).mono ?_
  rintro e w1 ⟨u, rfl, hov, ho1⟩
  have HO1 := Lib.hid ho1
  have HB1 := Lib.hid (BS.of_vs hov.vs)
  obtain ⟨t, ht⟩ := put_258
  have htl : t.length = 11 := by have := congrArg List.length ht; rw [Led.put_length] at this; simp at this; omega
  have HA : Hid (Led.all (Led.put 2 258) = [(2, 258)]) := all_258
  rw [ht] at HB1 HA
  clear hov ho1 ht
  --@1
  go_wp2_with fail
  have hrd := read_c w1 u (2 :: 2 :: t) HB1.out (by simp; omega) (HT.out.only HO1.out (by simp))
  rw [HA.out] at hrd
  refine hrd.mono ?_
  rintro e w2 ⟨⟨v2, rfl, hrow⟩, ho2⟩
  have HO2 := Lib.hid (HO1.out.then ho2)
  have HB2 := Lib.hid (HB1.out.only ho2 (by simp))
  have HR2 := Lib.hid (RS.of_row (R := [(2, 258)]) hrow)
  clear hrow ho2 hrd HO1 HB1
  --@2
  go_wp2_with fail
  refine (last_c w2 v2 [(2, 258)] HR2.out 2 (by intro r hr; obtain rfl := List.mem_singleton.1 hr; decide)).mono ?_
  rintro e w3 ⟨rfl, ho3⟩
  rw [show Led.last [(2, 258)] 2 = (258, true) from by decide]
  have HO3 := Lib.hid (HO2.out.then ho3)
  have HB3 := Lib.hid (HB2.out.only ho3 (by simp))
  have HR3 := Lib.hid (HR2.out.only ho3)
  clear ho3 HO2 HB2 HR2
  --@3
  go_wp2_with fail
  have hrd := read_c w3 _ [] (BS.nil w3) (by decide) (HT.out.only HO3.out (by simp))
  rw [all_nil] at hrd
  refine hrd.mono ?_
  rintro e w4 ⟨⟨v4, rfl, hrow4⟩, ho4⟩
  have HO4 := Lib.hid (HO3.out.then ho4)
  have hB4 := HB3.out.only ho4 (by simp)
  have hR4 := HR3.out.only ho4
  obtain ⟨a4, cap4, rfl, -, -⟩ := (RS.of_row (R := []) hrow4).slice
  obtain ⟨a, cap, rfl, h1, h2, -, hc⟩ := hB4
  obtain ⟨b, off, rfl, hcell⟩ := hc 1 (by simp)
  have hcell : w4.cell? ⟨b, off + 1, none⟩ = some (.int .u8 2) := hcell
  obtain ⟨a5, cap5, rfl, h3, h4⟩ := hR4.slice
  obtain ⟨b5, off5, rfl, d0, d1⟩ := hR4.at 0 (by decide)
  have d1 : w4.cell? ⟨b5, off5 + 0 * 2 + 1, none⟩ = some (.int .u64 258) := d1
  rw [Nat.zero_mul, Nat.add_zero] at d1
  unfold maxLen at h2 h4
  simp only [List.length_cons, List.length_nil, htl] at h1 h3 ⊢
  clear hrow4 ho4 hrd HO3 HB3 HR3 hc hR4 d0
  --@4
  go_wp2
  --@5
  go_ret
  exact ⟨rfl, HO4.out⟩

set_option maxRecDepth 100000 in
set_option maxHeartbeats 4000000 in
theorem puts_c (w : World) (hT : Tab w) (k v : Nat) (hv : v < 18446744073709551616) : Calls Tryd.prog 4 #[.agg #[.int .u8 (k : Int), .int .u64 (v : Int)]] w fun e w' => e = .returned (.bool true) ∧ Below w.heap.size w w' := by
  have HT := Lib.hid hT; have HV := Lib.hid hv
  clear hT hv
  go_enter Tryd.func4, Tryd.ntmps4
  go_upto_region 1 with fail
  have hrec : P2 (w.alloc (.cells #[.int .u8 (k : Int), .int .u64 (v : Int)] 32 (0, 0))) w.heap.size 32 (.int .u8 (k : Int)) (.int .u64 (v : Int)) := P2.new w _ _ _
  have HO0 : Hid (Only [] w (w.alloc (.cells #[.int .u8 (k : Int), .int .u64 (v : Int)] 32 (0, 0)))) := (Only.refl [] w).alloc _
  generalize World.alloc w _ = w0 at *
  obtain ⟨q, hq⟩ : ∃ q, w.heap.size = q := ⟨_, rfl⟩
  rw [hq] at hrec ⊢
  have HREC := Lib.hid hrec
  clear hrec
  go_wp2_with fail
  refine (awake_c w0 (HT.out.only HO0.out (by simp))).mono ?_
  rintro e w1 ⟨rfl, ho1⟩
  have HO1 := Lib.hid (HO0.out.then ho1)
  have HREC1 := Lib.hid (HREC.out.only ho1 (by simp))
  clear ho1 HO0 HREC
  obtain ⟨c0, c1, cf⟩ := P2.cells HREC1.out
  by_cases hk : k = 1 ∨ k = 2
  · go_wp2_with fail
    refine (put_yes w1 k v hk HV.out (HT.out.only HO1.out (by simp))).mono ?_
    rintro e w2 ⟨u, rfl, hov, ho2⟩
    have HO2 := Lib.hid (HO1.out.then ho2)
    have HB2 := Lib.hid (BS.of_vs hov.vs)
    have hrec2 := HREC1.out.only ho2 (by simp)
    clear c0 c1 cf ho2 hov
    obtain ⟨c0, c1, cf⟩ := P2.cells hrec2
    clear hrec2
    --@6
    go_wp2_with fail
    refine (rput_yes w2 k v hk HV.out).mono ?_
    rintro e w3 ⟨rfl, ho3⟩
    have HO3 := Lib.hid (HO2.out.then ho3)
    have hstr := run_string_of_bytes (P := Tryd.prog) Tryd.underlying22 Tryd.underlying5 Tryd.underlying9 (HB2.out.only ho3 (by simp))
    obtain ⟨S, hS⟩ : ∃ S : ByteArray, (⟨(Led.put k v).toArray⟩ : ByteArray) = S := ⟨_, rfl⟩
    have hse : S.toList.isEmpty = false := by
      rw [ByteArray.toList_eq, List.isEmpty_eq_false_iff, ← hS]
      intro h
      have h2 : (Led.put k v) = [] := by simpa using h
      have := Led.put_length k v
      rw [h2] at this
      simp at this
    rw [hS] at hstr ⊢
    clear c0 c1 cf ho3 hS hk
    --@7
    go_wp2
    --@8
    go_ret
    exact ⟨rfl, HO3.out.below (by simp) (Nat.le_refl _)⟩
  · go_wp2_with fail
    refine (put_no w1 k v hk).mono ?_
    rintro e w2 ⟨rfl, ho2⟩
    have HO2 := Lib.hid (HO1.out.then ho2)
    have hrec2 := HREC1.out.only ho2 (by simp)
    clear c0 c1 cf ho2
    obtain ⟨c0, c1, cf⟩ := P2.cells hrec2
    clear hrec2
    go_wp2_with fail
    refine (rput_no w2 k v hk).mono ?_
    rintro e w3 ⟨rfl, ho3⟩
    have HO3 := Lib.hid (HO2.out.then ho3)
    have hstr := run_string_of_bytes (P := Tryd.prog) Tryd.underlying22 Tryd.underlying5 Tryd.underlying9 (BS.nil w3)
    clear c0 c1 cf ho3 hk
    --@9
    go_wp2
    go_ret
    exact ⟨rfl, HO3.out.below (by simp) (Nat.le_refl _)⟩
end Go.Proofs.YthdcagdjgkblpaaDoor.led
