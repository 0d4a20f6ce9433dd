/-
  THE WALKS of the law's package: awake, coded.
-/
import Derived.Test.YtfckokdgmbbheaaHufRefD4
import Derived.Test.YtfckokdgmbbheaaHufEnc4
set_option linter.unusedVariables false
set_option linter.unusedSimpArgs false
set_option maxRecDepth 20000
namespace Go.Proofs.Ytfckokdgmbbheaa.huf
open Go Go.RowKit Go.Lm Go.Proofs.Ytfckokdgmbbheaa Go.Proofs.Ytfckokdgmbbheaa.bit

theorem aw1 : hdec [1, 1] [13] 3 = ([1, 0, 1], 0) := by decide +kernel
theorem aw2 : (henc [2, 1, 1] [0, 1, 2, 0]).2 = 0 := by decide +kernel
theorem aw3 : hdec [2, 1, 1] (henc [2, 1, 1] [0, 1, 2, 0]).1 4 = ([0, 1, 2, 0], 0) := by decide +kernel
theorem aw4 : (henc4 [1, 1] [1, 0, 1, 0]).2 = 0 := by decide +kernel
theorem aw5 : hdec4 [1, 1] (henc4 [1, 1] [1, 0, 1, 0]).1 4 = ([1, 0, 1, 0], 0) := by decide +kernel
theorem aw6 : (henc [2, 1, 1] [0, 1, 2, 0]).1.length ≤ 100 := by decide +kernel
theorem aw7 : (henc4 [1, 1] [1, 0, 1, 0]).1.length ≤ 100 := by decide +kernel

theorem bs_two (w : World) (cs cs2 : Array Value) (n n2 : Nat) (l l2 : List UInt8) (hcs : cs = (l.map fun u => Value.int .u8 (u.toNat : Int)).toArray) (hn : n = l.length) (hm : l.length ≤ maxLen) (hcs2 : cs2 = (l2.map fun u => Value.int .u8 (u.toNat : Int)).toArray) (hn2 : n2 = l2.length) (hm2 : l2.length ≤ maxLen) :
    BS ((w.alloc (.cells cs 5)).alloc (.cells cs2 5)) (.slice (some ⟨w.heap.size, 0, none⟩) n n) l ∧ BS ((w.alloc (.cells cs 5)).alloc (.cells cs2 5)) (.slice (some ⟨w.heap.size + 1, 0, none⟩) n2 n2) l2 ∧ Only [] w ((w.alloc (.cells cs 5)).alloc (.cells cs2 5)) := by
  refine ⟨(BS.lit w cs 5 (0, 0) n l hcs hn hm).only ((Only.refl [] _).alloc _) (by simp), ?_, ((Only.refl [] w).alloc _).alloc _⟩
  have h := BS.lit (w.alloc (.cells cs 5)) cs2 5 (0, 0) n2 l2 hcs2 hn2 hm2
  rwa [World.size_alloc] at h

set_option maxHeartbeats 4000000 in
theorem awake_c (w : World) : Calls Try.prog 9 #[] w fun e w' => e = .returned (.bool true) ∧ Only [] w w' := by
  go_enter Try.func9, Try.ntmps9
  go_wp2_with fail
  obtain ⟨b1, b2, o1⟩ := bs_two w #[.int .u8 1, .int .u8 1] #[.int .u8 13] 2 1 [1, 1] [13] rfl rfl (by decide) rfl rfl (by decide)
  have hc := hdecode_c _ _ _ _ _ b1 (by decide) b2 (by decide) 3 (.inl (by decide))
  rw [aw1] at hc
  --@1
  refine hc.mono ?_
  rintro e w1 ⟨v1, rfl, hov1, ho⟩
  have hb1 := BS.of_vs hov1.vs
  obtain ⟨a1, c1, rfl, -, -⟩ := hov1.slice
  have HB1 : Hid (BS w1 (.slice a1 3 c1) [1, 0, 1]) := Lib.hid hb1
  have HO1 := Lib.hid (o1.then ho)
  clear hc b1 b2 o1 hov1 ho hb1
  rw [show (List.map u8v [1, 0, 1]).length = 3 from rfl]
  go_wp2_with fail
  --@2
  obtain ⟨b1, b2, o1⟩ := bs_two w1 #[.int .u8 2, .int .u8 1, .int .u8 1] #[.int .u8 0, .int .u8 1, .int .u8 2, .int .u8 0] 3 4 [2, 1, 1] [0, 1, 2, 0] rfl rfl (by decide) rfl rfl (by decide)
  have hc := hencode_c _ _ _ _ _ b1 (by decide) b2 (by decide)
  rw [aw2] at hc
  refine hc.mono ?_
  rintro e w2 ⟨v2, rfl, hov2, ho⟩
  have hb2 := BS.of_vs hov2.vs
  obtain ⟨a2, c2, rfl, -, -⟩ := hov2.slice
  obtain ⟨Q, hQ⟩ : ∃ Q, (henc [2, 1, 1] [0, 1, 2, 0]).1 = Q := ⟨_, rfl⟩
  have hq3 := aw3
  have hq6 := aw6
  rw [hQ] at hb2 hq3 hq6 ⊢
  have HB2 := Lib.hid hb2
  have HO2 := Lib.hid (HO1.out.then (o1.then ho))
  have HB12 := Lib.hid (HB1.out.only (o1.then ho) (by simp))
  have HQ3 := Lib.hid hq3
  clear hc b1 b2 o1 hov2 ho hb2 hQ hq3 HO1 HB1
  rw [List.length_map] at HB2 ⊢
  go_wp2_with fail
  --@3
  have bl := BS.lit w2 #[.int .u8 2, .int .u8 1, .int .u8 1] 5 (0, 0) 3 [2, 1, 1] rfl rfl (by decide)
  have o1 : Only [] w2 (w2.alloc (.cells #[.int .u8 2, .int .u8 1, .int .u8 1] 5)) := (Only.refl [] w2).alloc _
  have hc := hdecode_c _ _ _ _ _ bl (by decide) (HB2.out.only o1 (by simp)) (by omega) 4 (.inl (by decide))
  rw [HQ3.out] at hc
  refine hc.mono ?_
  rintro e w3 ⟨v3, rfl, hov3, ho⟩
  have hb3 := BS.of_vs hov3.vs
  obtain ⟨a3, c3, rfl, -, -⟩ := hov3.slice
  have HB3 : Hid (BS w3 (.slice a3 4 c3) [0, 1, 2, 0]) := Lib.hid hb3
  have HB13 := Lib.hid (HB12.out.only (o1.then ho) (by simp))
  have HO3 := Lib.hid (HO2.out.then (o1.then ho))
  clear hc bl o1 hov3 ho hb3 HB2 HB12 HO2 HQ3
  rw [show (List.map u8v [0, 1, 2, 0]).length = 4 from rfl]
  go_wp2_with fail
  --@4
  obtain ⟨b1, b2, o1⟩ := bs_two w3 #[.int .u8 1, .int .u8 1] #[.int .u8 1, .int .u8 0, .int .u8 1, .int .u8 0] 2 4 [1, 1] [1, 0, 1, 0] rfl rfl (by decide) rfl rfl (by decide)
  have hc := hencode4_c _ _ _ _ _ b1 (by decide) b2 (by decide)
  rw [aw4] at hc
  refine hc.mono ?_
  rintro e w4 ⟨v4, rfl, hov4, ho⟩
  have hb4 := BS.of_vs hov4.vs
  obtain ⟨a4, c4, rfl, -, -⟩ := hov4.slice
  obtain ⟨Y, hY⟩ : ∃ Y, (henc4 [1, 1] [1, 0, 1, 0]).1 = Y := ⟨_, rfl⟩
  have hq5 := aw5
  have hq7 := aw7
  rw [hY] at hb4 hq5 hq7 ⊢
  have HB4 := Lib.hid hb4
  have HO4 := Lib.hid (HO3.out.then (o1.then ho))
  have HB14 := Lib.hid (HB13.out.only (o1.then ho) (by simp))
  have HB34 := Lib.hid (HB3.out.only (o1.then ho) (by simp))
  have HQ5 := Lib.hid hq5
  clear hc b1 b2 o1 hov4 ho hb4 hY hq5 HO3 HB13 HB3
  rw [List.length_map] at HB4 ⊢
  go_wp2_with fail
  --@5
  have bl := BS.lit w4 #[.int .u8 1, .int .u8 1] 5 (0, 0) 2 [1, 1] rfl rfl (by decide)
  have o1 : Only [] w4 (w4.alloc (.cells #[.int .u8 1, .int .u8 1] 5)) := (Only.refl [] w4).alloc _
  have hc := hdecode4_c _ _ _ _ _ bl (by decide) (HB4.out.only o1 (by simp)) (by omega) 4 (.inl (by decide))
  rw [HQ5.out] at hc
  refine hc.mono ?_
  rintro e w5 ⟨v5, rfl, hov5, ho⟩
  have hb5 := BS.of_vs hov5.vs
  obtain ⟨a5, c5, rfl, -, -⟩ := hov5.slice
  have hb5 : BS w5 (.slice a5 4 c5) [1, 0, 1, 0] := hb5
  have hb15 := HB14.out.only (o1.then ho) (by simp)
  have hb35 := HB34.out.only (o1.then ho) (by simp)
  have HO5 := Lib.hid (HO4.out.then (o1.then ho))
  have s1 := run_string_of_bytes (P := Try.prog) Try.underlying22 Try.underlying5 Try.underlying9 hb15
  have s3 := run_string_of_bytes (P := Try.prog) Try.underlying22 Try.underlying5 Try.underlying9 hb35
  have s5 := run_string_of_bytes (P := Try.prog) Try.underlying22 Try.underlying5 Try.underlying9 hb5
  clear hc bl o1 hov5 ho hb5 hb15 hb35 HB4 HB14 HB34 HO4 HQ5
  rw [show (List.map u8v [1, 0, 1, 0]).length = 4 from rfl]
  --@6
  go_wp2_with fail
  --@7
  go_ret
  exact ⟨rfl, HO5.out⟩
end Go.Proofs.Ytfckokdgmbbheaa.huf
