/-
  The laws' awake.
-/
import Derived.Test.YtkblnlddamojoaaFrmWr
import Derived.Lib.SlBytesConst
set_option linter.unusedVariables false
set_option linter.unusedSimpArgs false
namespace Go.Proofs.Ytkblnlddamojoaa.frm
open Go Go.RowKit Go.Lm Go.Proofs.Ytkblnlddamojoaa.cur

theorem wr_5 : [40, 181, 47, 253] ++ Frm.wr 5 false = [40, 181, 47, 253, 32, 5] := by decide +kernel
theorem head_5 : Frm.head [32, 5] = (⟨5, 5, true, false⟩, 2, 0) := Frm.head_wr 5 (by decide) false []
theorem put_75 : Cur.put (blkN true 1 9) 3 = [75, 0, 0] := by decide +kernel
theorem blk_75 : blk [75, 0, 0] = ((true, 1, 9), 0) := by rw [← put_75]; exact blk_put true 1 9 (by decide) (by decide)

set_option maxHeartbeats 2000000 in
theorem awake_c (w : World) : Calls Try.prog 8 #[] w fun e w' => e = .returned (.bool true) ∧ Only [] w w' := by
  go_enter Try.func8, Try.ntmps8
  go_wp2_with fail
  refine (write_c w 5 (by decide) false).mono ?_
  rintro e w1 ⟨v, rfl, hov, ho1⟩
  rw [wr_5] at hov
  have hvs := hov.vs
  have HB := Lib.hid (BS.of_vs hvs)
  have HO1 := Lib.hid ho1
  obtain ⟨a, cap, rfl, hcap, hmax⟩ := hov.slice
  clear hov hvs ho1
  rw [show (List.map u8v [40, 181, 47, 253, 32, 5]).length = 6 from rfl] at hcap HB ⊢
  have hstr := run_string_of_bytes (P := Try.prog) Try.underlying22 Try.underlying5 Try.underlying9 HB.out
  have hsl : ∀ w, (Instr.slice 22 (.slice a 6 cap) (some (.int .i64 4)) none none).run Try.prog w = .ok (subv a cap 4 6) w := run_sub_l (P := Try.prog) (t := 22) Try.underlying22 size_u8 a 6 cap 4 (by decide)
  have hb : BS w1 (subv a cap 4 6) [32, 5] := HB.out.sub 4 6 (by decide) (by decide)
  obtain ⟨vs, hvs⟩ : ∃ vs, subv a cap 4 6 = vs := ⟨_, rfl⟩
  rw [hvs] at hsl hb
  --@1
  go_wp2_with fail
  --@2
  have hrd := read_c w1 vs [32, 5] hb (by simp)
  --@a
  rw [head_5] at hrd
  --@d
  refine hrd.mono ?_
  --@b
  rintro e w2 ⟨rfl, ho2⟩
  --@c
  rw [show hdV (⟨5, 5, true, false⟩ : Frm.Hd) = .agg #[.int .u64 5, .int .u64 5, .bool true, .bool false] from rfl]
  have HO2 := Lib.hid (HO1.out.then ho2)
  clear ho2 hstr hsl HO1
  --@3
  go_upto_region 5 with fail
  --@4
  have hal : Only [] w2 (w2.alloc (.cells #[.int .u64 5, .int .u64 5, .bool true, .bool false] 26 (0, 0))) := (Only.refl [] w2).alloc _
  have HH3 := Lib.hid (HC.new w2 26 5 5 true false)
  have HO3 := Lib.hid (HO2.out.then hal)
  clear hal HO2
  dsimp only [Int.ofNat_eq_natCast, Int.cast_ofNat_Int] at HH3
  generalize World.alloc w2 _ = w3 at *
  generalize w2.heap.size = H at *
  --@5
  go_wp2_with fail
  --@6
  refine (writeblock_yes w3 true 1 9 (by decide) (by decide)).mono ?_
  rintro e w4 ⟨v4, rfl, hov4, ho4⟩
  rw [put_75] at hov4
  have HB4 := Lib.hid (BS.of_vs hov4.vs)
  have HO4 := Lib.hid (HO3.out.then ho4)
  have HH4 := Lib.hid (HH3.out.only ho4 (by simp))
  clear hov4 ho4 HO3 HH3
  go_wp2_with fail
  refine (readblock_c w4 _ _ HB4.out (by decide)).mono ?_
  rintro e w5 ⟨rfl, ho5⟩
  rw [blk_75]
  rw [show bkV ((true, 1, 9), (0 : Int)).1.1 ((true, 1, 9), (0 : Int)).1.2.1 ((true, 1, 9), (0 : Int)).1.2.2 = .agg #[.bool true, .int .i64 1, .int .i64 9] from rfl]
  have HO5 := Lib.hid (HO4.out.then ho5)
  have HH5 := Lib.hid (HH4.out.only ho5 (by simp))
  have HB5 := Lib.hid (HB4.out.only ho5 (by simp))
  clear ho5 HO4 HH4 HB4
  go_upto_region 7 with fail
  have hal : Only [] w5 (w5.alloc (.cells #[.bool true, .int .i64 1, .int .i64 9] 38 (0, 0))) := (Only.refl [] w5).alloc _
  have HK6 := Lib.hid (KC.new w5 38 true 1 9)
  have HO6 := Lib.hid (HO5.out.then hal)
  have HH6 := Lib.hid (HH5.out.only hal (by simp))
  have HB6 := Lib.hid (HB5.out.only hal (by simp))
  clear hal HO5 HH5 HB5
  generalize World.alloc w5 _ = w6 at *
  generalize w5.heap.size = K at *
  obtain ⟨a4, cap4, rfl, g1, g2, g3, g4⟩ := HB6.out
  obtain ⟨b, off, rfl, hcell⟩ := g4 0 (by decide)
  have hcell : w6.cell? ⟨b, off, none⟩ = some (.int .u8 75) := hcell
  obtain ⟨h0, h1, h2, h3, hf⟩ := HH6.out.cells
  obtain ⟨k0, k1, k2⟩ := HK6.out.cells
  simp only [List.length_cons, List.length_nil] at g1 ⊢
  clear g2 g3 g4
  go_wp2
  go_ret
  exact ⟨rfl, HO6.out⟩
end Go.Proofs.Ytkblnlddamojoaa.frm
