/-
  FrameReads, walked.
-/
import Derived.Test.YtkblnlddamojoaaFrmAwake
set_option linter.unusedVariables false
set_option linter.unusedSimpArgs false
namespace Go.Proofs.Ytkblnlddamojoaa.frm
open Go Go.RowKit Go.Lm Go.Proofs.Ytkblnlddamojoaa.cur

set_option maxHeartbeats 2000000 in
theorem reads_c (w : World) (v : Value) (l : List UInt8) (hv : BS w v l) : Calls Try.prog 3 #[v] w fun e w' => e = .returned (.bool true) ∧ Below w.heap.size w w' := by
  have HV := Lib.hid hv
  obtain ⟨a, cap, rfl, hc1, hc2, -⟩ := hv
  unfold maxLen at hc2
  by_cases hbig : 200 < l.length
  · go_enter Try.func3, Try.ntmps3
    go_wp2_with fail
    refine (awake_c w).mono ?_
    rintro e w1 ⟨rfl, ho1⟩
    have HO1 := Lib.hid ho1; clear ho1
    go_wp2
    go_ret
    exact ⟨rfl, HO1.out.below (by simp) (Nat.le_refl _)⟩
  obtain ⟨⟨⟨W, S, K, M⟩, n, f⟩, hd⟩ : ∃ t, Frm.head l = t := ⟨_, rfl⟩
  have HD := Lib.hid hd
  clear hd
  go_enter Try.func3, Try.ntmps3
  go_wp2_with fail
  refine (awake_c w).mono ?_
  rintro e w1 ⟨rfl, ho1⟩
  have HO1 := Lib.hid ho1
  have HV1 := Lib.hid (HV.out.only ho1 (by simp))
  clear ho1
  go_wp2_with fail
  have hrd := read_c w1 _ l HV1.out (by omega)
  rw [HD.out] at hrd
  refine hrd.mono ?_
  rintro e w2 ⟨rfl, ho2⟩
  have HO2 := Lib.hid (HO1.out.then ho2)
  have HV2 := Lib.hid (HV1.out.only ho2 (by simp))
  clear ho2 HO1 HV1 hrd
  rw [show hdV (⟨W, S, K, M⟩ : Frm.Hd) = .agg #[.int .u64 (W : Int), .int .u64 (S : Int), .bool K, .bool M] from rfl]
  go_upto_region 7 with fail
  have hal : Only [] w2 (w2.alloc (.cells #[.int .u64 (W : Int), .int .u64 (S : Int), .bool K, .bool M] 26 (0, 0))) := (Only.refl [] w2).alloc _
  have HH3 := Lib.hid (HC.new w2 26 W S K M)
  have HO3 := Lib.hid (HO2.out.then hal)
  have HV3 := Lib.hid (HV2.out.only hal (by simp))
  clear hal HO2 HV2
  generalize World.alloc w2 _ = w3 at *
  generalize w2.heap.size = H at *
  have hstr := run_string_of_bytes (P := Try.prog) Try.underlying22 Try.underlying5 Try.underlying9 HV3.out
  go_wp2_with fail
  have hrf := refread_c w3 _ l (by first | exact List.toList_toArray | simp) (by omega)
  rw [HD.out] at hrf
  refine hrf.mono ?_
  rintro e w4 ⟨rfl, ho4⟩
  have HO4 := Lib.hid (HO3.out.then ho4)
  have HH4 := Lib.hid (HH3.out.only ho4 (by simp))
  clear ho4 HO3 HV3 hrf HH3 hstr
  rw [show hdV (⟨W, S, K, M⟩ : Frm.Hd) = .agg #[.int .u64 (W : Int), .int .u64 (S : Int), .bool K, .bool M] from rfl]
  go_upto_region 8 with fail
  have hal : Only [] w4 (w4.alloc (.cells #[.int .u64 (W : Int), .int .u64 (S : Int), .bool K, .bool M] 30 (0, 0))) := (Only.refl [] w4).alloc _
  have HK5 := Lib.hid (HC.new w4 30 W S K M)
  have HO5 := Lib.hid (HO4.out.then hal)
  have HH5 := Lib.hid (HH4.out.only hal (by simp))
  clear hal HO4 HH4
  generalize World.alloc w4 _ = w5 at *
  generalize w4.heap.size = J at *
  obtain ⟨h0, h1, h2, h3, hf⟩ := HH5.out.cells
  obtain ⟨k0, k1, k2, k3, kf⟩ := HK5.out.cells
  go_wp2
  go_ret
  exact ⟨rfl, HO5.out.below (by simp) (Nat.le_refl _)⟩
end Go.Proofs.Ytkblnlddamojoaa.frm
