/-
  FrameWindows, walked.
-/
import Derived.Test.YtkblnlddamojoaaFrmReads
set_option linter.unusedVariables false
set_option linter.unusedSimpArgs false
namespace Go.Proofs.Ytkblnlddamojoaa.frm
open Go Go.RowKit Go.Lm Go.Proofs.Ytkblnlddamojoaa.cur

theorem d_fact : ∀ d : Fin 256, bits .and .u8 (d.val : Int) 212 = ((d.val &&& 212 : Nat) : Int) ∧ bits .or .u8 ((d.val &&& 212 : Nat) : Int) 128 = (((d.val &&& 212) ||| 128 : Nat) : Int) ∧
    ((d.val &&& 212) ||| 128) < 256 ∧ ((d.val &&& 212) ||| 128) / 8 % 2 = 0 ∧ ((d.val &&& 212) ||| 128) / 32 % 2 = 0 ∧ ((d.val &&& 212) ||| 128) % 4 = 0 ∧ 2 ≤ ((d.val &&& 212) ||| 128) / 64 ∧
    ((d.val &&& 212) ||| 128) / 4 % 2 = d.val / 4 % 2 ∧ bits .and .u8 (d.val : Int) 4 = (if d.val / 4 % 2 = 1 then 4 else 0) := by decide +kernel

set_option maxRecDepth 100000 in
set_option maxHeartbeats 4000000 in
theorem windows_c (W : World) (w d size : Nat) (hw : w < 256) (hd : d < 256) (hs : size < 4294967296) : Calls Try.prog 6 #[.int .u8 (w : Int), .int .u8 (d : Int), .int .u32 (size : Int)] W fun e w' => e = .returned (.bool true) ∧ Below W.heap.size W w' := by
  obtain ⟨a1, a2, a3, a4, a5, a6, a7, a8, a9⟩ := d_fact ⟨d, hd⟩
  simp only [] at a1 a2 a3 a4 a5 a6 a7 a8 a9
  obtain ⟨A, hA⟩ : ∃ A, d &&& 212 = A := ⟨_, rfl⟩
  rw [hA] at a1 a2 a3 a4 a5 a6 a7 a8
  obtain ⟨D, hD⟩ : ∃ D, A ||| 128 = D := ⟨_, rfl⟩
  rw [hD] at a2 a3 a4 a5 a6 a7 a8
  obtain ⟨sb, hsb⟩ : ∃ sb : Bool, (D / 4 % 2 == 1) = sb := ⟨_, rfl⟩
  have hq : ((bits .and .u8 (d : Int) 4) == 4) = sb := by
    rw [a9, ← hsb, a8]
    split <;> simp_all
  clear hA hD a9
  obtain ⟨Dc, hDc⟩ : ∃ Dc : UInt8, Dc.toNat = D := ⟨UInt8.ofNat D, by simp; omega⟩
  obtain ⟨Wc, hWc⟩ : ∃ Wc : UInt8, Wc.toNat = w := ⟨UInt8.ofNat w, by simp; omega⟩
  obtain ⟨c0, hc0⟩ : ∃ c0 : UInt8, IntKind.u8.wrap (size : Int) = (c0.toNat : Int) := ⟨UInt8.ofNat size, by rw [IntKind.wrap_u8]; simp⟩
  obtain ⟨c1, hc1⟩ : ∃ c1 : UInt8, IntKind.u8.wrap ((size : Int) / 256) = (c1.toNat : Int) := ⟨UInt8.ofNat (size / 256), by rw [IntKind.wrap_u8]; simp⟩
  obtain ⟨c2, hc2⟩ : ∃ c2 : UInt8, IntKind.u8.wrap ((size : Int) / 65536) = (c2.toNat : Int) := ⟨UInt8.ofNat (size / 65536), by rw [IntKind.wrap_u8]; simp⟩
  obtain ⟨c3, hc3⟩ : ∃ c3 : UInt8, IntKind.u8.wrap ((size : Int) / 16777216) = (c3.toNat : Int) := ⟨UInt8.ofNat (size / 16777216), by rw [IntKind.wrap_u8]; simp⟩
  obtain ⟨WW, SS, n, hh, hge⟩ := Frm.head_ten Dc [c0, c1, c2, c3, 0, 0, 0, 0] Wc (by omega) (by omega) (by omega) (by omega) (by simp)
  rw [hDc, hsb] at hh
  obtain ⟨L, hL⟩ : ∃ L : List UInt8, [Dc, Wc, c0, c1, c2, c3, 0, 0, 0, 0] = L := ⟨_, rfl⟩
  rw [hL] at hh
  have hll : L.length = 10 := by rw [← hL]; rfl
  have HH := Lib.hid hh; have HL := Lib.hid hL
  have hgeI : (1024 : Int) ≤ (WW : Int) := by omega
  rw [← hDc] at a2
  rw [← hWc]
  clear a3 a4 a5 a6 a7 a8 hsb hh hge hL hs hw hd hDc hWc
  go_enter Try.func6, Try.ntmps6
  go_wp2_with fail
  refine (awake_c W).mono ?_
  rintro e w1 ⟨rfl, ho1⟩
  have HO1 := Lib.hid ho1
  clear ho1
  --@1
  go_upto_region 5 with fail
  --@2
  have hbs := BS.lit w1 #[.int .u8 (Dc.toNat : Int), .int .u8 (Wc.toNat : Int), .int .u8 (c0.toNat : Int), .int .u8 (c1.toNat : Int), .int .u8 (c2.toNat : Int), .int .u8 (c3.toNat : Int), .int .u8 0, .int .u8 0, .int .u8 0, .int .u8 0] 5 (0, 0) 10 L (by rw [← HL.out]; rfl) hll.symm (by rw [hll]; decide)
  have HO2 : Hid (Only [] W (w1.alloc _)) := HO1.out.alloc (.cells #[.int .u8 (Dc.toNat : Int), .int .u8 (Wc.toNat : Int), .int .u8 (c0.toNat : Int), .int .u8 (c1.toNat : Int), .int .u8 (c2.toNat : Int), .int .u8 (c3.toNat : Int), .int .u8 0, .int .u8 0, .int .u8 0, .int .u8 0] 5 (0, 0))
  have HB2 := Lib.hid hbs
  clear hbs hc0 hc1 hc2 hc3 a1 a2
  generalize World.alloc w1 _ = w2 at *
  generalize w1.heap.size = G at *
  go_wp2_with fail
  have hrd := read_c w2 _ L HB2.out (by omega)
  rw [HH.out] at hrd
  refine hrd.mono ?_
  rintro e w3 ⟨rfl, ho3⟩
  have HO3 := Lib.hid (HO2.out.then ho3)
  have HB3 := Lib.hid (HB2.out.only ho3 (by simp))
  clear ho3 HO2 HB2 hrd
  rw [show hdV (⟨WW, SS, true, sb⟩ : Frm.Hd) = .agg #[.int .u64 (WW : Int), .int .u64 (SS : Int), .bool true, .bool sb] from rfl]
  go_upto_region 6 with fail
  have hal : Only [] w3 (w3.alloc (.cells #[.int .u64 (WW : Int), .int .u64 (SS : Int), .bool true, .bool sb] 26 (0, 0))) := (Only.refl [] w3).alloc _
  have HH4 := Lib.hid (HC.new w3 26 WW SS true sb)
  have HO4 := Lib.hid (HO3.out.then hal)
  have HB4 := Lib.hid (HB3.out.only hal (by simp))
  clear hal HO3 HB3
  generalize World.alloc w3 _ = w4 at *
  generalize w3.heap.size = H at *
  have hstr := run_string_of_bytes (P := Try.prog) Try.underlying22 Try.underlying5 Try.underlying9 HB4.out
  --@3
  go_wp2_with fail
  have hrf := refread_c w4 ⟨L.toArray⟩ L (by simp) (by omega)
  rw [HH.out] at hrf
  refine hrf.mono ?_
  rintro e w5 ⟨rfl, ho5⟩
  have HO5 := Lib.hid (HO4.out.then ho5)
  have HH5 := Lib.hid (HH4.out.only ho5 (by simp))
  clear ho5 HO4 HB4 hrf HH4 hstr
  rw [show hdV (⟨WW, SS, true, sb⟩ : Frm.Hd) = .agg #[.int .u64 (WW : Int), .int .u64 (SS : Int), .bool true, .bool sb] from rfl]
  go_upto_region 7 with fail
  have hal : Only [] w5 (w5.alloc (.cells #[.int .u64 (WW : Int), .int .u64 (SS : Int), .bool true, .bool sb] 30 (0, 0))) := (Only.refl [] w5).alloc _
  have HK6 := Lib.hid (HC.new w5 30 WW SS true sb)
  have HO6 := Lib.hid (HO5.out.then hal)
  have HH6 := Lib.hid (HH5.out.only hal (by simp))
  clear hal HO5 HH5
  generalize World.alloc w5 _ = w6 at *
  generalize w5.heap.size = J at *
  obtain ⟨h0, h1, h2, h3, hf⟩ := HH6.out.cells
  obtain ⟨k0, k1, k2, k3, kf⟩ := HK6.out.cells
  --@4
  go_wp2
  go_ret
  exact ⟨rfl, HO6.out.below (by simp) (Nat.le_refl _)⟩
end Go.Proofs.Ytkblnlddamojoaa.frm
