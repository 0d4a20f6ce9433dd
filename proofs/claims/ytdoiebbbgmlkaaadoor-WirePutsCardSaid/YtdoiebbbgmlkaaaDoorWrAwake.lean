/-
  The laws' awake, walked.
-/
import Derived.Test.YtdoiebbbgmlkaaaDoorWrGet
import Derived.Test.YtdoiebbbgmlkaaaDoorWrBits
set_option linter.unusedVariables false
set_option linter.unusedSimpArgs false
namespace Go.Proofs.YtdoiebbbgmlkaaaDoor.wr
open Go Go.RowKit Go.Lm Go.Proofs.YtdoiebbbgmlkaaaDoor.cur Go.Proofs.YtdoiebbbgmlkaaaDoor.crc Go.Proofs.YtdoiebbbgmlkaaaDoor.bit

def m0 : Wr.Msg := ⟨4, 5, 0, 258, 0, 0, [7]⟩
theorem m0_ok : Wr.Ok m0 := ⟨by decide, by decide, by decide, by decide, by decide, by decide⟩
theorem m0_may : Wr.may m0 = true := by decide
theorem m0_get : Wr.get (Wr.dg m0) = (m0, 0) := Wr.get_dg m0 m0_ok m0_may
theorem m0_len : (Wr.dg m0).length = 36 := Wr.dg_length m0

set_option maxRecDepth 100000 in
set_option maxHeartbeats 4000000 in
theorem awake_c (w : World) (hT : Tab w) : Calls Tryd.prog 8 #[] w fun e w' => e = .returned (.bool true) ∧ Only [] w w' := by
  have HT := Lib.hid hT
  clear hT
  go_enter Tryd.func8, Tryd.ntmps8
  go_wp2_with fail
  have hv : BS (w.alloc (.cells #[.int .u8 7] 5 (0, 0))) (.slice (some ⟨w.heap.size, 0, none⟩) 1 1) m0.bytes := BS.lit w #[.int .u8 7] 5 (0, 0) 1 [7] rfl rfl (by simp [maxLen])
  have HO0 : Hid (Only [] w (w.alloc (.cells #[.int .u8 7] 5 (0, 0)))) := Lib.hid ((Only.refl [] w).alloc _)
  generalize World.alloc w _ = w0 at *
  generalize w.heap.size = q at *
  refine (put_yes w0 m0 _ hv m0_may m0_ok (HT.out.only HO0.out (by simp))).mono ?_
  rintro e w1 ⟨u, rfl, hov, ho1⟩
  have HO1 := Lib.hid (HO0.out.then ho1)
  have hb := BS.of_vs hov.vs
  obtain ⟨a1, cap1, rfl, k1, k2, -, -⟩ := id hb
  unfold maxLen at k2
  have HB1 := Lib.hid hb
  rw [m0_len] at k1 HB1 ⊢
  clear hov ho1 hv HO0 hb
  --@1
  go_wp2_with fail
  have hg := get_c w1 (.slice a1 36 cap1) (Wr.dg m0) HB1.out (by rw [m0_len]; decide) (HT.out.only HO1.out (by simp))
  rw [m0_get] at hg
  refine hg.mono ?_
  clear hg
  rintro e w2 ⟨⟨u2, rfl, hb2⟩, ho2⟩
  have HO2 := Lib.hid (HO1.out.then ho2)
  obtain ⟨a2, cap2, rfl, k3, k4, -, -⟩ := hb2
  unfold maxLen at k4
  have hl7 : m0.bytes.length = 1 := rfl
  simp only [hl7] at k3 ⊢
  clear ho2
  rw [show msgV m0 (.slice a2 1 cap2) = .agg #[.int .u8 4, .int .u64 5, .int .u64 0, .int .u32 258, .int .u32 0, .int .u32 0, .slice a2 1 cap2] from rfl]
  --@2
  go_upto_region 3 with fail
  have hm3 : MB (w2.alloc (.cells #[.int .u8 4, .int .u64 5, .int .u64 0, .int .u32 258, .int .u32 0, .int .u32 0, .slice a2 1 cap2] 26 (0, 0))) w2.heap.size 26 m0 (.slice a2 1 cap2) := MB.new w2 _ m0 _
  have HO3 : Hid (Only [] w (w2.alloc (.cells #[.int .u8 4, .int .u64 5, .int .u64 0, .int .u32 258, .int .u32 0, .int .u32 0, .slice a2 1 cap2] 26 (0, 0)))) := Lib.hid (HO2.out.alloc _)
  generalize World.alloc w2 _ = w3 at *
  generalize w2.heap.size = M at *
  have HM3 := Lib.hid hm3
  clear hm3
  --@3
  go_wp2_with fail
  have hvl : VS (w3.alloc (.cells #[.bool true, .bool false, .bool true] 4 (0, 0))) (.slice (some ⟨w3.heap.size, 0, none⟩) 3 3) (bl [true, false, true]) := VS.of_block (heap_alloc_new w3 _) 3 3 _ rfl rfl (Nat.le_refl _) (by unfold maxLen; omega)
  have HO4 : Hid (Only [] w (w3.alloc (.cells #[.bool true, .bool false, .bool true] 4 (0, 0)))) := Lib.hid (HO3.out.alloc _)
  have HM4 : Hid (MB (w3.alloc (.cells #[.bool true, .bool false, .bool true] 4 (0, 0))) M 26 m0 (.slice a2 1 cap2)) := Lib.hid (HM3.out.only ((Only.refl [] w3).alloc _) (by simp))
  generalize World.alloc w3 _ = w4 at *
  generalize w3.heap.size = q3 at *
  refine (bitmap_c w4 _ [true, false, true] hvl (by decide)).mono ?_
  rintro e w5 ⟨u5, rfl, hb5, ho5⟩
  rw [show Bt.bytesOf [true, false, true] = [5] from by decide] at hb5
  have HO5 := Lib.hid (HO4.out.then ho5)
  have HM5 := Lib.hid (HM4.out.only ho5 (by simp))
  obtain ⟨a5, cap5, rfl, k5, k6, -, -⟩ := id hb5
  unfold maxLen at k6
  have HB5 := Lib.hid hb5
  rw [show ([5] : List UInt8).length = 1 from rfl] at k5 HB5 ⊢
  clear ho5 hvl hb5
  --@4
  go_wp2_with fail
  refine (bits_c w5 _ [5] HB5.out (by decide) 3 (by decide)).mono ?_
  rintro e w6 ⟨u6, rfl, hv6, ho6⟩
  rw [show Bt.some [5] 3 = [true, false, true] from by decide] at hv6
  have HO6 := Lib.hid (HO5.out.then ho6)
  have hm6 := HM5.out.only ho6 (by simp)
  obtain ⟨b5, off5, rfl, c5⟩ := bs_cell (HB5.out.only ho6 (by simp)) 0 (by decide)
  obtain ⟨a6, cap6, rfl, k7, k8, -, -⟩ := id hv6
  unfold maxLen at k8
  have HV6 := Lib.hid hv6
  rw [show (bl [true, false, true]).length = 3 from rfl] at k7 HV6 ⊢
  obtain ⟨b6, off6, rfl, d1⟩ := vs_bit HV6.out 1 (by decide)
  obtain ⟨b7, off7, he, d2⟩ := vs_bit HV6.out 2 (by decide)
  obtain ⟨rfl, rfl⟩ : b6 = b7 ∧ off6 = off7 := by simpa using he
  have d1 : w6.cell? ⟨b6, off6 + 1, none⟩ = some (.bool false) := d1
  have d2 : w6.cell? ⟨b6, off6 + 2, none⟩ = some (.bool true) := d2
  have c5 : w6.cell? ⟨b5, off5, none⟩ = some (.int .u8 5) := c5
  obtain ⟨e0, e1, e2, e3, e4, e5, e6, ef⟩ := hm6.cells
  have e0 : w6.cell? ⟨M, 0, none⟩ = some (.int .u8 4) := e0
  have e3 : w6.cell? ⟨M, 3, none⟩ = some (.int .u32 258) := e3
  clear ho6 hv6 he hm6 e1 e2 e4 e5
  --@5
  go_wp2
  go_ret
  exact ⟨rfl, HO6.out⟩
end Go.Proofs.YtdoiebbbgmlkaaaDoor.wr
