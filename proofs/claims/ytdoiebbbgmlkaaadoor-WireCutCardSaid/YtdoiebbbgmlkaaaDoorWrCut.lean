/-
  THE WALKS of WireCut and WireFields.
-/
import Derived.Test.YtdoiebbbgmlkaaaDoorWrAwake
set_option linter.unusedVariables false
set_option linter.unusedSimpArgs false
namespace Go.Proofs.YtdoiebbbgmlkaaaDoor.wr
open Go Go.RowKit Go.Lm Go.Proofs.YtdoiebbbgmlkaaaDoor.cur Go.Proofs.YtdoiebbbgmlkaaaDoor.crc Go.Proofs.YtdoiebbbgmlkaaaDoor.bit

set_option maxRecDepth 100000 in
set_option maxHeartbeats 4000000 in
theorem cut_c (w : World) (hT : Tab w) (m : Wr.Msg) (v : Value) (hv : BS w v m.bytes) (hok : Wr.Ok m) (t : Nat) (ht : t < 65536) (u : Value) (more : List UInt8) (hu : BS w u more) :
    Calls Tryd.prog 6 #[msgV m v, .int .u16 (t : Int), u] w fun e w' => e = .returned (.bool true) ∧ Below w.heap.size w w' := by
  have HT := Lib.hid hT; have HV := Lib.hid hv; have HU := Lib.hid hu; have HOK := Lib.hid hok
  obtain ⟨a, cap, hve, h1, h2, -, -⟩ := hv
  obtain ⟨n, hn⟩ : ∃ n, m.bytes.length = n := ⟨_, rfl⟩
  rw [hn] at hve h1
  subst hve
  obtain ⟨a', cap', hue, h3, h4, -, -⟩ := hu
  obtain ⟨N, hN⟩ : ∃ N, more.length = N := ⟨_, rfl⟩
  rw [hN] at hue h3
  subst hue
  unfold maxLen at h2 h4
  have HN := Lib.hid hn; have HNN := Lib.hid hN
  clear hT hok hn hN
  unfold msgV
  go_enter Tryd.func6, Tryd.ntmps6
  go_upto_region 1 with fail
  have hB : MB (w.alloc (.cells #[.int .u8 (m.kind : Int), .int .u64 (m.key : Int), .int .u64 (m.epoch : Int), .int .u32 (m.index : Int), .int .u32 (m.a : Int), .int .u32 (m.b : Int), .slice a n cap] 26 (0, 0))) w.heap.size 26 m (.slice a n cap) := MB.new w _ _ _
  have HO0 : Hid (Only [] w (w.alloc (.cells #[.int .u8 (m.kind : Int), .int .u64 (m.key : Int), .int .u64 (m.epoch : Int), .int .u32 (m.index : Int), .int .u32 (m.a : Int), .int .u32 (m.b : Int), .slice a n cap] 26 (0, 0)))) := Lib.hid ((Only.refl [] w).alloc _)
  generalize World.alloc w _ = w0 at *
  obtain ⟨q, hq⟩ : ∃ q, w.heap.size = q := ⟨_, rfl⟩
  rw [hq] at hB ⊢
  have HB0 := Lib.hid hB
  have HQ := Lib.hid hq
  clear hB hq
  go_wp2_with fail
  refine (awake_c w0 (HT.out.only HO0.out (by simp))).mono ?_
  rintro e w1 ⟨rfl, ho1⟩
  have HO1 := Lib.hid (HO0.out.then ho1)
  have HB1 := Lib.hid (HB0.out.only ho1 (by simp))
  have HV1 := Lib.hid (HV.out.only HO1.out (by simp))
  have HU1 := Lib.hid (HU.out.only HO1.out (by simp))
  have HT1 := Lib.hid (HT.out.only HO1.out (by simp))
  clear ho1 HO0 HB0
  obtain ⟨c0, c1, c2, c3, c4, c5, c6, cf⟩ := MB.cells HB1.out
  by_cases hbig : 500 < n ∨ 50 < N ∨ N = 0
  · have hc : (500 : Int) < (n : Int) ∨ (¬ ((500 : Int) < (n : Int)) ∧ (50 : Int) < (N : Int)) ∨ (¬ ((500 : Int) < (n : Int)) ∧ ¬ ((50 : Int) < (N : Int)) ∧ ((N : Int) == 0) = true) := by
      simp only [beq_iff_eq]; omega
    clear hbig
    rcases hc with hb | ⟨hb, hc⟩ | ⟨hb, hc, hd⟩
    all_goals
      go_wp2
      go_ret
      exact ⟨rfl, HO1.out.below (by simp) (by rw [HQ.out]; exact Nat.le_refl _)⟩
  · have hb1 : ¬ ((500 : Int) < (n : Int)) := by omega
    have hb2 : ¬ ((50 : Int) < (N : Int)) := by omega
    have hb3 : ((N : Int) == 0) = false := by rw [beq_eq_false_iff_ne]; omega
    have hn500 : n ≤ 500 := by omega
    have hN50 : N ≤ 50 := by omega
    have hN0 : N ≠ 0 := by omega
    clear hbig
    cases hmay : Wr.may m with
    | false =>
      go_wp2_with fail
      refine (put_no w1 m (.slice a n cap) HV1.out hmay).mono ?_
      rintro e w2 ⟨rfl, ho2⟩
      have HO2 := Lib.hid (HO1.out.then ho2)
      clear ho2 c0 c1 c2 c3 c4 c5 c6 cf hmay
      go_wp2
      go_ret
      exact ⟨rfl, HO2.out.below (by simp) (by rw [HQ.out]; exact Nat.le_refl _)⟩
    | true =>
      have HMAY := Lib.hid hmay
      clear hmay
      --@1
      go_wp2_with fail
      refine (put_yes w1 m (.slice a n cap) HV1.out HMAY.out HOK.out HT1.out).mono ?_
      rintro e w2 ⟨p, rfl, hov, ho2⟩
      have HO2 := Lib.hid (HO1.out.then ho2)
      have hdl : (Wr.dg m).length = 35 + n := by rw [Wr.dg_length, HN.out]
      obtain ⟨k, hk⟩ : ∃ k, t % (35 + n) = k := ⟨_, rfl⟩
      have hkI : (t : Int) % (35 + (n : Int)) = (k : Int) := by rw [← hk]; rfl
      have hkT : (t : Int).tmod (35 + (n : Int)) = (k : Int) := by rw [Int.tmod_eq_emod_of_nonneg (by omega)]; exact hkI
      have hkl : k < 35 + n := by
        have := Nat.mod_lt t (show 0 < 35 + n by omega)
        rw [hk] at this
        exact this
      have hcut := Wr.get_cut m HOK.out HMAY.out k (by rw [HN.out]; exact hkl)
      have hmore := Wr.get_more m HOK.out HMAY.out more (by intro h; have := HNN.out; rw [h] at this; simp at this; omega)
      have hov0 := hov.mono HO1.out.size
      obtain ⟨a2, cap2, rfl, h5, h6⟩ := hov.slice
      have hb2' := BS.of_vs hov.vs
      simp only [List.length_map, hdl] at h5 h6 hov hov0 hb2' ⊢
      obtain ⟨D, hD⟩ : ∃ D, Wr.dg m = D := ⟨_, rfl⟩
      rw [hD] at hdl hcut hmore hov hov0 hb2'
      have HDL := Lib.hid hdl; have HCUT := Lib.hid hcut; have HMORE := Lib.hid hmore; have HOV2 := Lib.hid hov; have HB2 := Lib.hid hb2'
      have HU2 := Lib.hid (HU1.out.only ho2 (by simp))
      have HT2 := Lib.hid (HT.out.only HO2.out (by simp))
      unfold maxLen at h6
      have hs2 := ho2.size
      clear hov hov0 hb2' ho2 hdl hcut hmore hD hk c0 c1 c2 c3 c4 c5 c6 cf HB1 HV1 HU1 HT1
      have HKL := Lib.hid hkl
      --@2
      go_wp2_with fail
      --@3
      have hg := get_c w2 _ (D.take k) (bs_take HB2.out k (by rw [HDL.out]; omega)) (by rw [List.length_take, HDL.out]; omega) HT2.out
      rw [HCUT.out] at hg
      refine hg.mono ?_
      clear hg
      rintro e w3 ⟨⟨u3, rfl, hb3'⟩, ho3⟩
      have HO3 := Lib.hid (HO2.out.then ho3)
      have hs3 := Nat.le_trans hs2 ho3.size
      have hov3 := HOV2.out.only ho3 (by simp)
      have hu3 := HU2.out.only ho3 (by simp)
      obtain ⟨a3, cap3, rfl, -, -, -, -⟩ := hb3'
      rw [show (Wr.zero.bytes).length = 0 from rfl, show msgV (Wr.zero, (10 : Int)).1 (.slice a3 0 cap3) = .agg #[.int .u8 0, .int .u64 0, .int .u64 0, .int .u32 0, .int .u32 0, .int .u32 0, .slice a3 0 cap3] from rfl]
      have HOV3 := Lib.hid hov3; have HU3 := Lib.hid hu3
      clear ho3 hov3 hu3
      --@4
      go_upto_region 10 with fail
      have HO4 : Hid (Only [] w (w3.alloc (.cells #[.int .u8 0, .int .u64 0, .int .u64 0, .int .u32 0, .int .u32 0, .int .u32 0, .slice a3 0 cap3] 26 (0, 0)))) := Lib.hid (HO3.out.alloc _)
      have HOV4 : Hid (OV (w3.alloc (.cells #[.int .u8 0, .int .u64 0, .int .u64 0, .int .u32 0, .int .u32 0, .int .u32 0, .slice a3 0 cap3] 26 (0, 0))) w1.heap.size 5 (.slice a2 (35 + n) cap2) (D.map u8v)) := Lib.hid (HOV3.out.only ((Only.refl [] w3).alloc _) (by simp))
      have HU4 : Hid (BS (w3.alloc (.cells #[.int .u8 0, .int .u64 0, .int .u64 0, .int .u32 0, .int .u32 0, .int .u32 0, .slice a3 0 cap3] 26 (0, 0))) (.slice a' N cap') more) := Lib.hid (HU3.out.only ((Only.refl [] w3).alloc _) (by simp))
      have HS4 : Hid (w1.heap.size ≤ (w3.alloc (.cells #[.int .u8 0, .int .u64 0, .int .u64 0, .int .u32 0, .int .u32 0, .int .u32 0, .slice a3 0 cap3] 26 (0, 0))).heap.size) := Lib.hid (Nat.le_trans hs3 ((Only.refl [] w3).alloc _).size)
      generalize World.alloc w3 _ = w4 at *
      obtain ⟨i0, hi, hz0, hz1, hz2⟩ := info_parts cur.info_u8
      obtain ⟨v5, w5, hrun, hov5, hg5⟩ := run_append_vs (P := Tryd.prog) (ty := 24) Tryd.underlying24 hi hz0 hz1 hz2 rfl HOV4.out (VS.of_bs HU4.out) (cur.u8s_one _) (by simp [HDL.out, HNN.out]; unfold maxLen; omega) (by simp [HDL.out, HNN.out]; omega) HS4.out
      rw [← List.map_append] at hov5
      have ho5 : Only [] w w5 := HO4.out.trans (Only.of_grown hg5) (by simp) (fun i hi => .inr (by
        have hi2 : (Value.slice a2 (35 + n) cap2).ownBlock = some i := by
          cases hu : (Value.slice a2 (35 + n) cap2).ownBlock with
          | none => rw [hu] at hi; simp at hi
          | some g => rw [hu] at hi; simp at hi; rw [hi]
        have := (HOV4.out.lt hi2).1
        have := HO1.out.size
        omega))
      have HRUN := Lib.hid hrun; have HB5 := Lib.hid (BS.of_vs hov5.vs); have HO5 := Lib.hid ho5
      clear hi hz0 hz1 hz2 hrun hov5 hg5 ho5
      --@5
      go_wp2_with (at_builtin; refine wpList_append_run rfl _ _ _ rfl rfl rfl HRUN.out ?_)
      have hg := get_c w5 v5 (D ++ more) HB5.out (by rw [List.length_append, HDL.out, HNN.out]; omega) (HT.out.only HO5.out (by simp))
      rw [HMORE.out] at hg
      refine hg.mono ?_
      clear hg
      rintro e w6 ⟨⟨u6, rfl, hb6'⟩, ho6⟩
      have HO6 := Lib.hid (HO5.out.then ho6)
      obtain ⟨a6, cap6, rfl, -, -, -, -⟩ := hb6'
      rw [show (Wr.zero.bytes).length = 0 from rfl, show msgV (Wr.zero, (15 : Int)).1 (.slice a6 0 cap6) = .agg #[.int .u8 0, .int .u64 0, .int .u64 0, .int .u32 0, .int .u32 0, .int .u32 0, .slice a6 0 cap6] from rfl]
      clear ho6
      --@6
      go_wp2
      go_ret
      exact ⟨rfl, (HO6.out.alloc _).below (by simp) (by rw [HQ.out]; exact Nat.le_refl _)⟩
end Go.Proofs.YtdoiebbbgmlkaaaDoor.wr
