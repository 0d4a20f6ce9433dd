/-
  FrameRefused, walked.
-/
import Derived.Test.YtkblnlddamojoaaFrmWindows
import Derived.Laws.OwnMore
import Derived.RangeFuncBox
set_option linter.unusedVariables false
set_option linter.unusedSimpArgs false
namespace Go.Proofs.Ytkblnlddamojoaa.frm
open Go Go.RowKit Go.Lm Go.Proofs.Ytkblnlddamojoaa.cur

theorem c_fact : ∀ d : Fin 256, bits .or .u8 (d.val : Int) 8 = ((d.val ||| 8 : Nat) : Int) ∧ bits .andNot .u8 (d.val : Int) 24 = ((d.val &&& 231 : Nat) : Int) ∧ bits .or .u8 ((d.val &&& 231 : Nat) : Int) 16 = ((d.val &&& 231) + 16 : Nat) ∧
    (d.val ||| 8) < 256 ∧ (d.val ||| 8) / 8 % 2 = 1 ∧ (d.val &&& 231) + 16 < 256 ∧ (d.val &&& 231) / 8 % 2 = 0 ∧ (d.val &&& 231) / 16 % 2 = 0 := by decide +kernel

/-- A store into one's own bytes. -/
theorem own_set {w : World} {B g n cap : Nat} {e : TypeId} {l : List UInt8} (h : OV w B e (.slice (some ⟨g, 0, none⟩) n cap) (l.map u8v)) (hn : l.length = n) (j : Nat) (u : UInt8) :
    OV (w.setCell ⟨g, j, none⟩ (u8v u)) B e (.slice (some ⟨g, 0, none⟩) n cap) ((l.set j u).map u8v) ∧ Only [g] w (w.setCell ⟨g, j, none⟩ (u8v u)) := by
  subst hn
  have h' : w.ownsRow B e 1 (.slice (some ⟨g, 0, none⟩) l.length cap) l.length (l.map u8v) := by
    have := h; unfold OV at this; rwa [List.length_map] at this
  obtain ⟨h1, h2⟩ := World.ownsRow.stored h' j (u8v u)
  refine ⟨?_, Only.of_grown h2⟩
  unfold OV
  rw [List.length_map, List.length_set, List.map_set]
  exact h1

set_option maxRecDepth 100000 in
set_option maxHeartbeats 8000000 in
theorem refused_c (w : World) (v : Value) (l : List UInt8) (hv : BS w v l) (q : Nat) (hq : q < 256) : Calls Try.prog 7 #[v, .int .u8 (q : Int)] w fun e w' => e = .returned (.bool true) ∧ Below w.heap.size w w' := by
  have HV := Lib.hid hv
  obtain ⟨a, cap, rfl, hc1, hc2, hc3, hc4⟩ := hv
  unfold maxLen at hc2
  by_cases hlo : l.length < 20
  · clear hc4
    go_enter Try.func7, Try.ntmps7
    go_wp2_with fail
    refine (awake_c w).mono ?_
    rintro e w1 ⟨rfl, ho1⟩
    have HO1 := Lib.hid ho1; clear ho1
    go_wp2
    go_ret
    exact ⟨rfl, HO1.out.below (by simp) (Nat.le_refl _)⟩
  by_cases hbig : 100 < l.length
  · clear hc4
    go_enter Try.func7, Try.ntmps7
    go_wp2_with fail
    refine (awake_c w).mono ?_
    rintro e w1 ⟨rfl, ho1⟩
    have HO1 := Lib.hid ho1; clear ho1
    go_wp2
    go_ret
    exact ⟨rfl, HO1.out.below (by simp) (Nat.le_refl _)⟩
  obtain ⟨c, q0, r, rfl⟩ : ∃ c q0 r, l = c :: q0 :: r := by
    cases l with
    | nil => simp at hlo
    | cons c l => cases l with
      | nil => simp at hlo
      | cons q0 r => exact ⟨c, q0, r, rfl⟩
  obtain ⟨b, off, rfl, hcell⟩ := hc4 0 (by simp)
  have hcell : w.cell? ⟨b, off, none⟩ = some (.int .u8 (c.toNat : Int)) := hcell
  have HC0 := Lib.hid hcell
  have hbl : b < w.heap.size := HV.out.lt (by simp) rfl
  clear hc3 hc4 hcell
  obtain ⟨n, hn⟩ : ∃ n, (c :: q0 :: r).length = n := ⟨_, rfl⟩
  have hnr : n = r.length + 2 := by rw [← hn]; simp
  have HN := Lib.hid hn
  rw [hn] at HV hc1 hlo hbig ⊢
  obtain ⟨a1, a2, a3, a4, a5, a6, a7, a8⟩ := c_fact ⟨c.toNat, c.toNat_lt⟩
  simp only [] at a1 a2 a3 a4 a5 a6 a7 a8
  obtain ⟨A1, hA1⟩ : ∃ A : UInt8, A.toNat = c.toNat ||| 8 := ⟨UInt8.ofNat (c.toNat ||| 8), by simp <;> omega⟩
  obtain ⟨A2, hA2⟩ : ∃ A : UInt8, A.toNat = c.toNat &&& 231 := ⟨UInt8.ofNat (c.toNat &&& 231), by simp <;> omega⟩
  obtain ⟨A3, hA3⟩ : ∃ A : UInt8, A.toNat = (c.toNat &&& 231) + 16 := ⟨UInt8.ofNat ((c.toNat &&& 231) + 16), by simp <;> omega⟩
  obtain ⟨qc, rfl⟩ : ∃ A : UInt8, q = A.toNat := ⟨UInt8.ofNat q, by simp <;> omega⟩
  rw [← hA1] at a1 a4 a5
  rw [← hA2] at a2 a3 a6 a7 a8
  rw [← hA2] at hA3
  rw [← hA3] at a3 a6
  have g1 := Frm.head_bit8 A1 (q0 :: r) a5
  have g3 := Frm.head_bit16 A2 A3 (q0 :: r) a7 a8 hA3
  obtain ⟨⟨⟨W2, S2, K2, M2⟩, n2, f2⟩, g2⟩ : ∃ t, Frm.head (A2 :: q0 :: r) = t := ⟨_, rfl⟩
  rw [g2] at g3
  obtain ⟨⟨⟨W4, S4, K4, M4⟩, n4, f4⟩, g4⟩ : ∃ t, Frm.head (33 :: qc :: r) = t := ⟨_, rfl⟩
  have g5 := Frm.head_dict qc r (by omega)
  rw [g4] at g5
  have g5 : f4 = 14 ↔ qc ≠ 0 := g5
  have hq1 : (f4 == 14) = ((qc.toNat : Int) != 0) := by
    rw [Bool.eq_iff_iff, beq_iff_eq, bne_iff_ne, g5]
    exact not_congr ⟨fun h => by rw [h]; rfl, fun h => UInt8.toNat_inj.1 (by simpa using h)⟩
  have G1 := Lib.hid g1; have G2 := Lib.hid g2; have G3 := Lib.hid g3; have G4 := Lib.hid g4
  obtain ⟨i0, hi, hz0, hz1, hz2⟩ := info_parts info_u8
  have HI := Lib.hid hi; have HZ0 := Lib.hid hz0; have HZ1 := Lib.hid hz1; have HZ2 := Lib.hid hz2
  clear hi hz0 hz1 hz2 g1 g2 g3 g4 g5 a4 a5 a6 a7 a8 hA1 hA2 hA3 hq
  have hlr : r.length ≤ 98 := by omega
  have hn20 : 20 ≤ n := by omega
  have hnI : (20 : Int) ≤ (n : Int) := by omega
  clear hnr
  go_enter Try.func7, Try.ntmps7
  go_wp2_with fail
  refine (awake_c w).mono ?_
  rintro e w1 ⟨rfl, ho1⟩
  have HO1 := Lib.hid ho1
  have HV1 := Lib.hid (HV.out.only ho1 (by simp))
  clear ho1
  --@1
  obtain ⟨v', w2, hrun, hov', hg⟩ := run_append_vs (P := Try.prog) (ty := 22) Try.underlying22 HI.out HZ0.out HZ1.out HZ2.out rfl (OV.nil w1 w1.heap.size 5) (VS.of_bs HV1.out) (u8s_one _) (by simp; unfold maxLen; omega) (by simp; omega) (Nat.le_refl _)
  rw [List.nil_append] at hov'
  have hov' := hov'.mono HO1.out.size
  have ho2 : Only [] w1 w2 := (Only.of_grown hg).mono (by simp [Value.ownBlock])
  have HO2 := Lib.hid (HO1.out.then ho2)
  obtain ⟨g, cp, rfl⟩ : ∃ g cp, v' = .slice (some ⟨g, 0, none⟩) n cp := by
    have h := hov'
    unfold OV at h
    rw [List.length_map, HN.out] at h
    obtain ⟨k, rfl⟩ : ∃ k, n = k + 1 := ⟨n - 1, by omega⟩
    exact ownsRow_succ h
  have hgw : w.heap.size ≤ g := (hov'.lt rfl).1
  have HRUN := Lib.hid hrun
  have HOV2 := Lib.hid hov'
  have hcap : n ≤ cp ∧ cp ≤ 9223372036854775807 := by
    obtain ⟨_, _, he, h1, h2⟩ := hov'.slice
    simp only [Value.slice.injEq] at he
    rw [List.length_map, HN.out] at h1
    unfold maxLen at h2
    omega
  have hcI := Lib.hid hcap
  have hbg : ¬ b = g := by omega
  have HGW := Lib.hid hgw
  clear hrun hov' hg ho2 hcap hgw hbl
  have hcell2 : w2.cell? ⟨b, off, none⟩ = some (.int .u8 (c.toNat : Int)) := HO2.out.cell HC0.out (by simp)
  have hfz : w2.frozen? ⟨g, 0, none⟩ = false := by
    have h := HOV2.out; unfold OV at h; rw [List.length_map, HN.out] at h; exact World.ownsRow.frozenAt h 0
  have hgc : w2.cell? ⟨g, 0, none⟩ = some (.int .u8 (c.toNat : Int)) := by
    have h := HOV2.out; unfold OV at h; rw [List.length_map, HN.out] at h; rw [World.ownsRow.cellAt h 0 (by omega)]; rfl
  --@2
  go_upto_region 9 with (at_builtin; refine wpList_append_run rfl _ _ _ rfl rfl rfl HRUN.out ?_)
  --@3
  obtain ⟨hs, hos⟩ := own_set HOV2.out HN.out 0 A1
  have HOV3 : Hid (OV (w2.setCell ⟨g, 0, none⟩ (.int .u8 (A1.toNat : Int))) w.heap.size 5 (.slice (some ⟨g, 0, none⟩) n cp) ((A1 :: q0 :: r : List UInt8).map u8v)) := hs
  have HO3 : Hid (Only [] w (w2.setCell ⟨g, 0, none⟩ (.int .u8 (A1.toNat : Int)))) := only_own HO2.out hos HGW.out
  clear hs hos hcell2 hgc hfz a1
  generalize World.setCell w2 _ _ = w3 at *
  have hb3 : BS w3 (.slice (some ⟨g, 0, none⟩) n cp) (A1 :: q0 :: r) := BS.of_vs HOV3.out.vs
  go_wp2_with fail
  have hrd := read_c w3 _ _ hb3 (by rw [List.length_cons, List.length_cons]; omega)
  rw [G1.out] at hrd
  refine hrd.mono ?_
  rintro e w4 ⟨rfl, ho4⟩
  have HO4 := Lib.hid (HO3.out.then ho4)
  have HOV4 := Lib.hid (HOV3.out.only ho4 (by simp))
  clear ho4 HO3 HOV3 hrd hb3 HOV2 HO2 HRUN
  --@4
  rw [show hdV (⟨0, 0, false, false⟩ : Frm.Hd) = .agg #[.int .u64 0, .int .u64 0, .bool false, .bool false] from rfl]
  go_upto_region 10 with fail
  have hal : Only [] w4 (w4.alloc (.cells #[.int .u64 0, .int .u64 0, .bool false, .bool false] 26 (0, 0))) := (Only.refl [] w4).alloc _
  have HO5 := Lib.hid (HO4.out.then hal)
  have HOV5 := Lib.hid (HOV4.out.only hal (by simp))
  clear hal HO4 HOV4
  generalize World.alloc w4 _ = w5 at *
  generalize w4.heap.size = T1 at *
  --@5
  have hcell5 : w5.cell? ⟨b, off, none⟩ = some (.int .u8 (c.toNat : Int)) := HO5.out.cell HC0.out (by simp)
  have hfz : w5.frozen? ⟨g, 0, none⟩ = false := by
    have h := HOV5.out; unfold OV at h; rw [List.length_map, show (A1 :: q0 :: r : List UInt8).length = n from HN.out] at h; exact World.ownsRow.frozenAt h 0
  have hgc : w5.cell? ⟨g, 0, none⟩ = some (u8v ((A1 :: q0 :: r : List UInt8).getD 0 0)) := by
    have h := HOV5.out; unfold OV at h; rw [List.length_map, show (A1 :: q0 :: r : List UInt8).length = n from HN.out] at h; rw [World.ownsRow.cellAt h 0 (by omega)]; rfl
  go_upto_region 11 with fail
  obtain ⟨hs, hos⟩ := own_set HOV5.out (show (A1 :: q0 :: r : List UInt8).length = n from HN.out) 0 A2
  have HOV6 : Hid (OV (w5.setCell ⟨g, 0, none⟩ (.int .u8 (A2.toNat : Int))) w.heap.size 5 (.slice (some ⟨g, 0, none⟩) n cp) ((A2 :: q0 :: r : List UInt8).map u8v)) := hs
  have HO6 : Hid (Only [] w (w5.setCell ⟨g, 0, none⟩ (.int .u8 (A2.toNat : Int)))) := only_own HO5.out hos HGW.out
  clear hs hos hcell5 hgc hfz
  generalize World.setCell w5 _ _ = w6 at *
  --@6
  have hb6 : BS w6 (.slice (some ⟨g, 0, none⟩) n cp) (A2 :: q0 :: r) := BS.of_vs HOV6.out.vs
  go_wp2_with fail
  have hrd := read_c w6 _ _ hb6 (by rw [List.length_cons, List.length_cons]; omega)
  rw [G2.out] at hrd
  refine hrd.mono ?_
  rintro e w7 ⟨rfl, ho7⟩
  have HO7 := Lib.hid (HO6.out.then ho7)
  have HOV7 := Lib.hid (HOV6.out.only ho7 (by simp))
  clear ho7 HO6 HOV6 hrd hb6
  rw [show hdV (⟨W2, S2, K2, M2⟩ : Frm.Hd) = .agg #[.int .u64 (W2 : Int), .int .u64 (S2 : Int), .bool K2, .bool M2] from rfl]
  go_upto_region 12 with fail
  have hal : Only [] w7 (w7.alloc (.cells #[.int .u64 (W2 : Int), .int .u64 (S2 : Int), .bool K2, .bool M2] 26 (0, 0))) := (Only.refl [] w7).alloc _
  have HO8 := Lib.hid (HO7.out.then hal)
  have HOV8 := Lib.hid (HOV7.out.only hal (by simp))
  have HH8 := Lib.hid (HC.new w7 26 W2 S2 K2 M2)
  have hT2 : g < w7.heap.size := by obtain h := HOV7.out.lt (c := g) rfl; omega
  clear hal HO7 HOV7
  generalize World.alloc w7 _ = w8 at *
  generalize w7.heap.size = T2 at *
  have HT2 := Lib.hid hT2; clear hT2
  --@7
  have hcell8 : w8.cell? ⟨b, off, none⟩ = some (.int .u8 (c.toNat : Int)) := HO8.out.cell HC0.out (by simp)
  have hfz : w8.frozen? ⟨g, 0, none⟩ = false := by
    have h := HOV8.out; unfold OV at h; rw [List.length_map, show (A2 :: q0 :: r : List UInt8).length = n from HN.out] at h; exact World.ownsRow.frozenAt h 0
  have hgc : w8.cell? ⟨g, 0, none⟩ = some (u8v ((A2 :: q0 :: r : List UInt8).getD 0 0)) := by
    have h := HOV8.out; unfold OV at h; rw [List.length_map, show (A2 :: q0 :: r : List UInt8).length = n from HN.out] at h; rw [World.ownsRow.cellAt h 0 (by omega)]; rfl
  go_upto_region 13 with fail
  obtain ⟨hs, hos⟩ := own_set HOV8.out (show (A2 :: q0 :: r : List UInt8).length = n from HN.out) 0 A3
  have HOV9 : Hid (OV (w8.setCell ⟨g, 0, none⟩ (.int .u8 (A3.toNat : Int))) w.heap.size 5 (.slice (some ⟨g, 0, none⟩) n cp) ((A3 :: q0 :: r : List UInt8).map u8v)) := hs
  have HO9 : Hid (Only [] w (w8.setCell ⟨g, 0, none⟩ (.int .u8 (A3.toNat : Int)))) := only_own HO8.out hos HGW.out
  have HH9 : Hid (HC (w8.setCell ⟨g, 0, none⟩ (.int .u8 (A3.toNat : Int))) T2 26 W2 S2 K2 M2) := HH8.out.only hos (by simp; have := HT2.out; omega)
  clear hs hos hcell8 hgc hfz
  generalize World.setCell w8 _ _ = w9 at *
  --@8
  have hb9 : BS w9 (.slice (some ⟨g, 0, none⟩) n cp) (A3 :: q0 :: r) := BS.of_vs HOV9.out.vs
  go_wp2_with fail
  have hrd := read_c w9 _ _ hb9 (by rw [List.length_cons, List.length_cons]; omega)
  rw [G3.out] at hrd
  refine hrd.mono ?_
  rintro e w10 ⟨rfl, ho10⟩
  have HO10 := Lib.hid (HO9.out.then ho10)
  have HOV10 := Lib.hid (HOV9.out.only ho10 (by simp))
  have HH10 := Lib.hid (HH9.out.only ho10 (by simp))
  clear ho10 HO9 HOV9 hrd hb9
  rw [show hdV (⟨W2, S2, K2, M2⟩ : Frm.Hd) = .agg #[.int .u64 (W2 : Int), .int .u64 (S2 : Int), .bool K2, .bool M2] from rfl]
  go_upto_region 14 with fail
  have hal : Only [] w10 (w10.alloc (.cells #[.int .u64 (W2 : Int), .int .u64 (S2 : Int), .bool K2, .bool M2] 26 (0, 0))) := (Only.refl [] w10).alloc _
  have HO11 := Lib.hid (HO10.out.then hal)
  have HOV11 := Lib.hid (HOV10.out.only hal (by simp))
  have HH11 := Lib.hid (HH10.out.only hal (by simp))
  have HK11 := Lib.hid (HC.new w10 26 W2 S2 K2 M2)
  have hT3 : g < w10.heap.size := by obtain h := HOV10.out.lt (c := g) rfl; omega
  clear hal HO10 HOV10
  generalize World.alloc w10 _ = w11 at *
  generalize w10.heap.size = T3 at *
  have HT3 := Lib.hid hT3; clear hT3
  --@9
  have hcell11 : w11.cell? ⟨b, off, none⟩ = some (.int .u8 (c.toNat : Int)) := HO11.out.cell HC0.out (by simp)
  have hfz : w11.frozen? ⟨g, 0, none⟩ = false := by
    have h := HOV11.out; unfold OV at h; rw [List.length_map, show (A3 :: q0 :: r : List UInt8).length = n from HN.out] at h; exact World.ownsRow.frozenAt h 0
  have hgc : w11.cell? ⟨g, 0, none⟩ = some (u8v ((A3 :: q0 :: r : List UInt8).getD 0 0)) := by
    have h := HOV11.out; unfold OV at h; rw [List.length_map, show (A3 :: q0 :: r : List UInt8).length = n from HN.out] at h; rw [World.ownsRow.cellAt h 0 (by omega)]; rfl
  go_upto_region 15 with fail
  obtain ⟨hs, hos⟩ := own_set HOV11.out (show (A3 :: q0 :: r : List UInt8).length = n from HN.out) 0 33
  have HOV12 : Hid (OV (w11.setCell ⟨g, 0, none⟩ (.int .u8 33)) w.heap.size 5 (.slice (some ⟨g, 0, none⟩) n cp) ((33 :: q0 :: r : List UInt8).map u8v)) := hs
  have HO12 : Hid (Only [] w (w11.setCell ⟨g, 0, none⟩ (.int .u8 33))) := only_own HO11.out hos HGW.out
  have HH12 : Hid (HC (w11.setCell ⟨g, 0, none⟩ (.int .u8 33)) T2 26 W2 S2 K2 M2) := HH11.out.only hos (by simp; have := HT2.out; omega)
  have HK12 : Hid (HC (w11.setCell ⟨g, 0, none⟩ (.int .u8 33)) T3 26 W2 S2 K2 M2) := HK11.out.only hos (by simp; have := HT3.out; omega)
  clear hs hos hcell11 hgc hfz
  generalize World.setCell w11 _ _ = w12 at *
  --@10
  have hcell12 : w12.cell? ⟨b, off, none⟩ = some (.int .u8 (c.toNat : Int)) := HO12.out.cell HC0.out (by simp)
  have hfz : w12.frozen? ⟨g, 1, none⟩ = false := by
    have h := HOV12.out; unfold OV at h; rw [List.length_map, show (33 :: q0 :: r : List UInt8).length = n from HN.out] at h; exact World.ownsRow.frozenAt h 1
  have hgc : w12.cell? ⟨g, 1, none⟩ = some (u8v ((33 :: q0 :: r : List UInt8).getD 1 0)) := by
    have h := HOV12.out; unfold OV at h; rw [List.length_map, show (33 :: q0 :: r : List UInt8).length = n from HN.out] at h; rw [World.ownsRow.cellAt h 1 (by omega)]; rfl
  go_upto_region 16 with fail
  obtain ⟨hs, hos⟩ := own_set HOV12.out (show (33 :: q0 :: r : List UInt8).length = n from HN.out) 1 qc
  have HOV13 : Hid (OV (w12.setCell ⟨g, 1, none⟩ (.int .u8 (qc.toNat : Int))) w.heap.size 5 (.slice (some ⟨g, 0, none⟩) n cp) ((33 :: qc :: r : List UInt8).map u8v)) := hs
  have HO13 : Hid (Only [] w (w12.setCell ⟨g, 1, none⟩ (.int .u8 (qc.toNat : Int)))) := only_own HO12.out hos HGW.out
  have HH13 : Hid (HC (w12.setCell ⟨g, 1, none⟩ (.int .u8 (qc.toNat : Int))) T2 26 W2 S2 K2 M2) := HH12.out.only hos (by simp; have := HT2.out; omega)
  have HK13 : Hid (HC (w12.setCell ⟨g, 1, none⟩ (.int .u8 (qc.toNat : Int))) T3 26 W2 S2 K2 M2) := HK12.out.only hos (by simp; have := HT3.out; omega)
  clear hs hos hcell12 hgc hfz
  generalize World.setCell w12 _ _ = w13 at *
  --@11
  have hb13 : BS w13 (.slice (some ⟨g, 0, none⟩) n cp) (33 :: qc :: r) := BS.of_vs HOV13.out.vs
  go_wp2_with fail
  have hrd := read_c w13 _ _ hb13 (by rw [List.length_cons, List.length_cons]; omega)
  rw [G4.out] at hrd
  refine hrd.mono ?_
  rintro e w14 ⟨rfl, ho14⟩
  have HO14 := Lib.hid (HO13.out.then ho14)
  have HOV14 := Lib.hid (HOV13.out.only ho14 (by simp))
  have HH14 := Lib.hid (HH13.out.only ho14 (by simp))
  have HK14 := Lib.hid (HK13.out.only ho14 (by simp))
  clear ho14 HO13 HOV13 hrd hb13
  rw [show hdV (⟨W4, S4, K4, M4⟩ : Frm.Hd) = .agg #[.int .u64 (W4 : Int), .int .u64 (S4 : Int), .bool K4, .bool M4] from rfl]
  go_upto_region 17 with fail
  have hal : Only [] w14 (w14.alloc (.cells #[.int .u64 (W4 : Int), .int .u64 (S4 : Int), .bool K4, .bool M4] 26 (0, 0))) := (Only.refl [] w14).alloc _
  have HO15 := Lib.hid (HO14.out.then hal)
  have HOV15 := Lib.hid (HOV14.out.only hal (by simp))
  have HH15 := Lib.hid (HH14.out.only hal (by simp))
  have HK15 := Lib.hid (HK14.out.only hal (by simp))
  clear hal HO14 HOV14
  generalize World.alloc w14 _ = w15 at *
  generalize w14.heap.size = T4 at *
  obtain ⟨h0, h1, h2, h3, hf⟩ := HH15.out.cells
  obtain ⟨k0, k1, k2, k3, kf⟩ := HK15.out.cells
  --@12
  go_wp2
  --@13
  go_ret
  exact ⟨rfl, HO15.out.below (by simp) (Nat.le_refl _)⟩
end Go.Proofs.Ytkblnlddamojoaa.frm
