/-
  THE WALK of WirePuts.
-/
import Derived.Test.YtdoiebbbgmlkaaaDoorWrAwake
import Derived.Test.YtdoiebbbgmlkaaaDoorWrRefP
set_option linter.unusedVariables false
set_option linter.unusedSimpArgs false
namespace Go.Proofs.YtdoiebbbgmlkaaaDoor.wr
open Go Go.RowKit Go.Lm Go.Proofs.YtdoiebbbgmlkaaaDoor.cur Go.Proofs.YtdoiebbbgmlkaaaDoor.crc Go.Proofs.YtdoiebbbgmlkaaaDoor.bit

theorem mval_eq2 (m : Wr.Msg) (s t : ByteArray) (hs : s.data.toList = m.bytes) (ht : t.data.toList = m.bytes) : s = t := by
  apply ByteArray.ext
  apply Array.toList_inj.1
  rw [hs, ht]

set_option maxRecDepth 100000 in
set_option maxHeartbeats 8000000 in
theorem puts_c (w : World) (hT : Tab w) (m0' : Wr.Msg) (v : Value) (hv : BS w v m0'.bytes) (hok : Wr.Ok m0') (t : Nat) (ht : t < 65536) :
    Calls Tryd.prog 3 #[msgV m0' v, .int .u16 (t : Int)] w fun e w' => e = .returned (.bool true) ∧ Below w.heap.size w w' := by
  have HT := Lib.hid hT; have HV := Lib.hid hv
  obtain ⟨a0, cap0, hve, h1, h2, -, -⟩ := hv
  obtain ⟨n0, hn⟩ : ∃ n, m0'.bytes.length = n := ⟨_, rfl⟩
  rw [hn] at hve h1
  subst hve
  unfold maxLen at h2
  have HN0 := Lib.hid hn
  clear hT hn
  unfold msgV
  go_enter Tryd.func3, Tryd.ntmps3
  go_upto_region 1 with fail
  have hB : MB (w.alloc (.cells #[.int .u8 (m0'.kind : Int), .int .u64 (m0'.key : Int), .int .u64 (m0'.epoch : Int), .int .u32 (m0'.index : Int), .int .u32 (m0'.a : Int), .int .u32 (m0'.b : Int), .slice a0 n0 cap0] 26 (0, 0))) w.heap.size 26 m0' (.slice a0 n0 cap0) := MB.new w _ _ _
  have HO0 : Hid (Only [] w (w.alloc (.cells #[.int .u8 (m0'.kind : Int), .int .u64 (m0'.key : Int), .int .u64 (m0'.epoch : Int), .int .u32 (m0'.index : Int), .int .u32 (m0'.a : Int), .int .u32 (m0'.b : Int), .slice a0 n0 cap0] 26 (0, 0)))) := Lib.hid ((Only.refl [] w).alloc _)
  generalize World.alloc w _ = w0 at *
  obtain ⟨q, hq⟩ : ∃ q, w.heap.size = q := ⟨_, rfl⟩
  rw [hq] at hB ⊢
  have HB0 := Lib.hid hB
  have HQ := Lib.hid hq
  clear hB hq
  go_wp2_with fail
  refine (awake_c w0 (HT.out.only HO0.out (by simp))).mono ?_
  rintro e w1 ⟨rfl, ho1⟩
  have HO1 := Lib.hid (HO0.out.then ho1)
  have HB1 := Lib.hid (HB0.out.only ho1 (by simp))
  have HV1 := Lib.hid (HV.out.only HO1.out (by simp))
  clear ho1 HO0 HB0
  by_cases hbig : 500 < n0
  · have hb : (500 : Int) < (n0 : Int) := by omega
    obtain ⟨c0, c1, c2, c3, c4, c5, c6, cf⟩ := MB.cells HB1.out
    go_wp2
    go_ret
    exact ⟨rfl, HO1.out.below (by simp) (by rw [HQ.out]; exact Nat.le_refl _)⟩
  have hb1 : ¬ ((500 : Int) < (n0 : Int)) := by omega
  have hn500 : n0 ≤ 500 := by omega
  clear hbig
  by_cases hlong : 1400 < t
  · have hlI : (1400 : Int) < (t : Int) := by omega
    obtain ⟨n, hnr⟩ : ∃ n, t % 1600 = n := ⟨_, rfl⟩
    have hnI : (t : Int) % 1600 = (n : Int) := by omega
    have hnT : (t : Int).tmod 1600 = (n : Int) := by rw [Int.tmod_eq_emod_of_nonneg (by omega)]; exact hnI
    have hnb : n ≤ 1600 := by omega
    have hmk := fun w => make_bytes w n (by omega)
    obtain ⟨c0, c1, c2, c3, c4, c5, c6, cf⟩ := MB.cells HB1.out
    clear hnr hlong
    have hqlt : q < w1.heap.size := HB1.out.lt
    have hqn : ¬ q = w1.heap.size := by omega
    have hqn' : ¬ w1.heap.size = q := by omega
    go_upto_region 8 with fail
    have hset0 := HB1.out.set6 (List.replicate n 0) (.slice (some ⟨w1.heap.size, 0, none⟩) n n)
    have ho0 : Only [] w (w1.setCell ⟨q, 6, none⟩ (.slice (some ⟨w1.heap.size, 0, none⟩) n n)) := HO1.out.setCell (.inr (by have := HQ.out; show w.heap.size ≤ q; omega)) _
    have hsz : (w1.setCell ⟨q, 6, none⟩ (.slice (some ⟨w1.heap.size, 0, none⟩) n n)).heap.size = w1.heap.size := by simp
    have hset : MB ((w1.setCell ⟨q, 6, none⟩ (.slice (some ⟨w1.heap.size, 0, none⟩) n n)).alloc (.cells (madeCells (Value.int .u8 0).cells n) 5)) q 26 ⟨m0'.kind, m0'.key, m0'.epoch, m0'.index, m0'.a, m0'.b, List.replicate n 0⟩ (.slice (some ⟨w1.heap.size, 0, none⟩) n n) := hset0.only ((Only.refl [] _).alloc _) (by simp)
    have hblk2 := Blk.made (w1.setCell ⟨q, 6, none⟩ (.slice (some ⟨w1.heap.size, 0, none⟩) n n)) 5 n
    rw [hsz] at hblk2
    have HOX : Hid (Only [] w ((w1.setCell ⟨q, 6, none⟩ (.slice (some ⟨w1.heap.size, 0, none⟩) n n)).alloc (.cells (madeCells (Value.int .u8 0).cells n) 5))) := Lib.hid (ho0.alloc _)
    change MB ((w1.setCell ⟨q, 6, none⟩ (.slice (some ⟨w1.heap.size, 0, none⟩) n n)).alloc (.cells (madeCells #[Value.int .u8 0] n) 5)) _ _ _ _ at hset
    change Blk ((w1.setCell ⟨q, 6, none⟩ (.slice (some ⟨w1.heap.size, 0, none⟩) n n)).alloc (.cells (madeCells #[Value.int .u8 0] n) 5)) _ _ _ at hblk2
    change Hid (Only [] w ((w1.setCell ⟨q, 6, none⟩ (.slice (some ⟨w1.heap.size, 0, none⟩) n n)).alloc (.cells (madeCells #[Value.int .u8 0] n) 5))) at HOX
    clear hset0 ho0 hsz
    generalize World.alloc (World.setCell w1 _ _) _ = wx at *
    generalize w1.heap.size = G at *
    obtain ⟨m, hm⟩ : ∃ m : Wr.Msg, (⟨m0'.kind, m0'.key, m0'.epoch, m0'.index, m0'.a, m0'.b, List.replicate n 0⟩ : Wr.Msg) = m := ⟨_, rfl⟩
    rw [hm] at hset
    have HBX := Lib.hid hset
    have hmb : m.bytes = List.replicate n 0 := by rw [← hm]
    have HVX : Hid (BS wx (.slice (some ⟨G, 0, none⟩) n n) m.bytes) := Lib.hid (by rw [hmb]; exact hblk2.bs n n (by simp) (Nat.le_refl _) (by unfold maxLen; omega))
    have HN : Hid (m.bytes.length = n) := Lib.hid (by rw [hmb, List.length_replicate])
    have HOK : Hid (Wr.Ok m) := Lib.hid (by rw [← hm]; exact ⟨hok.kind, hok.key, hok.epoch, hok.index, hok.a, hok.b⟩)
    obtain ⟨a, ha⟩ : ∃ a, some (⟨G, 0, none⟩ : Addr) = a := ⟨_, rfl⟩
    obtain ⟨cap, hcap⟩ : ∃ cap, n = cap := ⟨_, rfl⟩
    have h1' : n ≤ cap := by omega
    have h2' : cap ≤ 2 ^ 63 - 1 := by omega
    have HBX : Hid (MB wx q 26 m (.slice a n cap)) := Lib.hid (by rw [← ha, ← hcap]; exact HBX.out)
    have HVX : Hid (BS wx (.slice a n cap) m.bytes) := Lib.hid (by rw [← ha, ← hcap]; exact HVX.out)
    clear hset hblk2 hm hmb hmk c0 c1 c2 c3 c4 c5 c6 cf ha hcap
    have HTX := Lib.hid (HT.out.only HOX.out (by simp))
    obtain ⟨c0, c1, c2, c3, c4, c5, c6, cf⟩ := MB.cells HBX.out
    obtain ⟨S, hS⟩ : ∃ S : ByteArray, (⟨m.bytes.toArray⟩ : ByteArray) = S := ⟨_, rfl⟩
    have hSl : S.data.toList = m.bytes := by rw [← hS]
    have HSL := Lib.hid hSl; have HSE := Lib.hid hS
    clear hS hSl
    cases hmay : Wr.may m with
    | false =>
      have HMAY := Lib.hid hmay
      clear hmay
      go_wp2_with fail
      refine (put_no wx m (.slice a n cap) HVX.out HMAY.out).mono ?_
      rintro e w3 ⟨rfl, ho3⟩
      have HO3 := Lib.hid (HOX.out.then ho3); have hm3 := HBX.out.only ho3 (by simp)
      have HV3 := Lib.hid (HVX.out.only ho3 (by simp))
      clear ho3 c0 c1 c2 c3 c4 c5 c6 cf
      obtain ⟨c0, c1, c2, c3, c4, c5, c6, cf⟩ := MB.cells hm3
      clear hm3
      go_wp2_with fail
      refine (model_c w3 m (.slice a n cap) HV3.out).mono ?_
      rintro e w4 ⟨rfl, ho4⟩
      rw [HSE.out]
      have HO4 := Lib.hid (HO3.out.then ho4)
      clear ho4 c0 c1 c2 c3 c4 c5 c6 cf
      go_wp2_with fail
      refine (rput_no w4 m S HSL.out HMAY.out).mono ?_
      rintro e w5 ⟨rfl, ho5⟩
      have HO5 := Lib.hid (HO4.out.then ho5)
      have hst := run_string_of_bytes (P := Tryd.prog) Tryd.underlying24 Tryd.underlying5 Tryd.underlying9 (BS.nil w5)
      clear ho5
      go_wp2
      go_ret
      exact ⟨rfl, HO5.out.below (by simp) (by rw [HQ.out]; exact Nat.le_refl _)⟩
    | true =>
      have HMAY := Lib.hid hmay
      have hb65 : n ≤ 1465 := by
        have h3 := hmay
        simp [Wr.may] at h3
        have := HN.out
        omega
      clear hmay
      go_wp2_with fail
      refine (put_yes wx m (.slice a n cap) HVX.out HMAY.out HOK.out HTX.out).mono ?_
      rintro e w3 ⟨p, rfl, hov, ho3⟩
      have HO3 := Lib.hid (HOX.out.then ho3); have hm3 := HBX.out.only ho3 (by simp)
      have HV3 := Lib.hid (HVX.out.only ho3 (by simp))
      have hbp := BS.of_vs hov.vs
      have hdl : (Wr.dg m).length = 35 + n := by rw [Wr.dg_length, HN.out]
      obtain ⟨a3, cap3, rfl, k1, k2⟩ := hov.slice
      simp only [List.length_map, hdl] at k1 k2 hbp ⊢
      unfold maxLen at k2
      obtain ⟨S2, hS2⟩ : ∃ S : ByteArray, (⟨(Wr.dg m).toArray⟩ : ByteArray) = S := ⟨_, rfl⟩
      have HS2 := Lib.hid hS2; have HBP3 := Lib.hid hbp; have HM3 := Lib.hid hm3; have HDL := Lib.hid hdl
      have HGET := Lib.hid (Wr.get_dg m HOK.out HMAY.out)
      clear ho3 hov hbp c0 c1 c2 c3 c4 c5 c6 cf hS2 hdl
      obtain ⟨c0, c1, c2, c3, c4, c5, c6, cf⟩ := MB.cells hm3
      clear hm3
      go_wp2_with fail
      refine (model_c w3 m (.slice a n cap) HV3.out).mono ?_
      rintro e w4 ⟨rfl, ho4⟩
      rw [HSE.out]
      have HO4 := Lib.hid (HO3.out.then ho4); have HM4 := Lib.hid (HM3.out.only ho4 (by simp)); have HBP4 := Lib.hid (HBP3.out.only ho4 (by simp)); have HV4 := Lib.hid (HV3.out.only ho4 (by simp))
      clear ho4 c0 c1 c2 c3 c4 c5 c6 cf HM3 HBP3 HV3 HO3
      go_wp2_with fail
      refine (rput_yes w4 m S HSL.out HMAY.out HOK.out).mono ?_
      rintro e w5 ⟨rfl, ho5⟩
      rw [HS2.out]
      have HO5 := Lib.hid (HO4.out.then ho5); have HM5 := Lib.hid (HM4.out.only ho5 (by simp)); have HBP5 := Lib.hid (HBP4.out.only ho5 (by simp)); have HV5 := Lib.hid (HV4.out.only ho5 (by simp))
      have hst := run_string_of_bytes (P := Tryd.prog) Tryd.underlying24 Tryd.underlying5 Tryd.underlying9 HBP5.out
      rw [HS2.out] at hst
      clear ho5 HM4 HBP4 HV4 HO4
      have HT5 := Lib.hid (HT.out.only HO5.out (by simp))
      go_wp2_with fail
      have hg := get_c w5 _ (Wr.dg m) HBP5.out (by rw [HDL.out]; omega) HT5.out
      rw [HGET.out] at hg
      refine hg.mono ?_
      clear hg hst
      rintro e w6 ⟨⟨u6, rfl, hbu⟩, ho6⟩
      have hbu : BS w6 u6 m.bytes := hbu
      have HO6 := Lib.hid (HO5.out.then ho6); have HM6 := Lib.hid (HM5.out.only ho6 (by simp)); have HV6 := Lib.hid (HV5.out.only ho6 (by simp))
      have HBU6 := Lib.hid hbu
      obtain ⟨a6, cap6, rfl, q1, q2, -, -⟩ := hbu
      rw [HN.out] at q1 HBU6 ⊢
      clear ho6 HM5 HBP5 HV5 HO5
      unfold msgV
      simp only []
      go_upto_region 15 with fail
      have hm7 : MB (w6.alloc (.cells #[.int .u8 (m.kind : Int), .int .u64 (m.key : Int), .int .u64 (m.epoch : Int), .int .u32 (m.index : Int), .int .u32 (m.a : Int), .int .u32 (m.b : Int), .slice a6 n cap6] 26 (0, 0))) w6.heap.size 26 m (.slice a6 n cap6) := MB.new w6 _ _ _
      have ha7 : Only [] w6 (w6.alloc (.cells #[.int .u8 (m.kind : Int), .int .u64 (m.key : Int), .int .u64 (m.epoch : Int), .int .u32 (m.index : Int), .int .u32 (m.a : Int), .int .u32 (m.b : Int), .slice a6 n cap6] 26 (0, 0))) := (Only.refl [] w6).alloc _
      generalize World.alloc w6 _ = w7 at *
      generalize w6.heap.size = D at *
      have HO7 := Lib.hid (HO6.out.then ha7); have HM7 := Lib.hid (HM6.out.only ha7 (by simp)); have HV7 := Lib.hid (HV6.out.only ha7 (by simp)); have HBU7 := Lib.hid (HBU6.out.only ha7 (by simp))
      obtain ⟨c0, c1, c2, c3, c4, c5, c6, cf⟩ := MB.cells HM7.out
      obtain ⟨d0, d1, d2, d3, d4, d5, d6, df⟩ := MB.cells hm7
      have x0 := fun x : Later [] w7 => Later.cell c0 (by simp) x
      have x1 := fun x : Later [] w7 => Later.cell c1 (by simp) x
      have x2 := fun x : Later [] w7 => Later.cell c2 (by simp) x
      have x3 := fun x : Later [] w7 => Later.cell c3 (by simp) x
      have x4 := fun x : Later [] w7 => Later.cell c4 (by simp) x
      have x5 := fun x : Later [] w7 => Later.cell c5 (by simp) x
      have x6 := fun x : Later [] w7 => Later.cell c6 (by simp) x
      have y0 := fun x : Later [] w7 => Later.cell d0 (by simp) x
      have y1 := fun x : Later [] w7 => Later.cell d1 (by simp) x
      have y2 := fun x : Later [] w7 => Later.cell d2 (by simp) x
      have y3 := fun x : Later [] w7 => Later.cell d3 (by simp) x
      have y4 := fun x : Later [] w7 => Later.cell d4 (by simp) x
      have y5 := fun x : Later [] w7 => Later.cell d5 (by simp) x
      have y6 := fun x : Later [] w7 => Later.cell d6 (by simp) x
      have hmod : ∀ (u : Value) (W : World), BS w7 u m.bytes → Only [] w7 W → Calls Tryd.prog 11 #[.agg #[.int .u8 (m.kind : Int), .int .u64 (m.key : Int), .int .u64 (m.epoch : Int), .int .u32 (m.index : Int), .int .u32 (m.a : Int), .int .u32 (m.b : Int), u]] W fun e w' => e = .returned (.agg #[.int .u8 (m.kind : Int), .int .u64 (m.key : Int), .int .u64 (m.epoch : Int), .int .u32 (m.index : Int), .int .u32 (m.a : Int), .int .u32 (m.b : Int), .string S]) ∧ Only [] W w' := by
        intro u W hu hW
        have h := model_c W m u (hu.only hW (by simp))
        rw [HSE.out] at h
        exact h
      have HMA := Lib.hid (fun W hW => hmod (.slice a n cap) W HV7.out hW)
      have HMB := Lib.hid (fun W hW => hmod (.slice a6 n cap6) W HBU7.out hW)
      have l15 : 35 + (n : Int) ≤ 1500 := by omega
      clear hmod c0 c1 c2 c3 c4 c5 c6 cf d0 d1 d2 d3 d4 d5 d6 df hm7 ha7
      refine wp_region_later [] (by kernel_rfl) (by kernel_rfl) ?_
      repeat (go_big_quiet_step (first
        | (go_at_call 11; with_reducible exact Calls.later_nil (HMA.out _ (Later.only _)))
        | (go_at_call 11; with_reducible exact Calls.later_nil (HMB.out _ (Later.only _)))))
      refine wpQuiet_nil ?_
      rintro _ ⟨x9, rfl⟩
      have HX9 := Lib.hid x9.only
      clear x0 x1 x2 x3 x4 x5 x6 y0 y1 y2 y3 y4 y5 y6
      generalize x9.at' = w9 at *
      have HO9 := Lib.hid (HO7.out.then HX9.out)
      go_wp2
      go_ret
      exact ⟨rfl, HO9.out.below (by simp) (by rw [HQ.out]; exact Nat.le_refl _)⟩
  · have hlI : ¬ ((1400 : Int) < (t : Int)) := by omega
    obtain ⟨m, hm⟩ : ∃ m, m0' = m := ⟨_, rfl⟩
    have HOK : Hid (Wr.Ok m) := Lib.hid (by rw [← hm]; exact hok)
    subst hm
    obtain ⟨wx, hwx⟩ : ∃ wx, wx = w1 := ⟨_, rfl⟩
    subst hwx
    have HOX := HO1
    obtain ⟨a, ha⟩ : ∃ a, a = a0 := ⟨_, rfl⟩
    obtain ⟨n, hne⟩ : ∃ n, n = n0 := ⟨_, rfl⟩
    obtain ⟨cap, hcap⟩ : ∃ cap, cap = cap0 := ⟨_, rfl⟩
    subst ha hne hcap
    have HN := HN0
    have HBX := HB1
    have HVX := HV1
    have h1' := h1
    have h2' := h2
    have hnb : n ≤ 1600 := by omega
    clear hlong
    have HTX := Lib.hid (HT.out.only HOX.out (by simp))
    obtain ⟨c0, c1, c2, c3, c4, c5, c6, cf⟩ := MB.cells HBX.out
    obtain ⟨S, hS⟩ : ∃ S : ByteArray, (⟨m0'.bytes.toArray⟩ : ByteArray) = S := ⟨_, rfl⟩
    have hSl : S.data.toList = m0'.bytes := by rw [← hS]
    have HSL := Lib.hid hSl; have HSE := Lib.hid hS
    clear hS hSl
    cases hmay : Wr.may m0' with
    | false =>
      have HMAY := Lib.hid hmay
      clear hmay
      go_wp2_with fail
      refine (put_no wx m0' (.slice a n cap) HVX.out HMAY.out).mono ?_
      rintro e w3 ⟨rfl, ho3⟩
      have HO3 := Lib.hid (HOX.out.then ho3); have hm3 := HBX.out.only ho3 (by simp)
      have HV3 := Lib.hid (HVX.out.only ho3 (by simp))
      clear ho3 c0 c1 c2 c3 c4 c5 c6 cf
      obtain ⟨c0, c1, c2, c3, c4, c5, c6, cf⟩ := MB.cells hm3
      clear hm3
      go_wp2_with fail
      refine (model_c w3 m0' (.slice a n cap) HV3.out).mono ?_
      rintro e w4 ⟨rfl, ho4⟩
      rw [HSE.out]
      have HO4 := Lib.hid (HO3.out.then ho4)
      clear ho4 c0 c1 c2 c3 c4 c5 c6 cf
      go_wp2_with fail
      refine (rput_no w4 m0' S HSL.out HMAY.out).mono ?_
      rintro e w5 ⟨rfl, ho5⟩
      have HO5 := Lib.hid (HO4.out.then ho5)
      have hst := run_string_of_bytes (P := Tryd.prog) Tryd.underlying24 Tryd.underlying5 Tryd.underlying9 (BS.nil w5)
      clear ho5
      go_wp2
      go_ret
      exact ⟨rfl, HO5.out.below (by simp) (by rw [HQ.out]; exact Nat.le_refl _)⟩
    | true =>
      have HMAY := Lib.hid hmay
      have hb65 : n ≤ 1465 := by
        have h3 := hmay
        simp [Wr.may] at h3
        have := HN.out
        omega
      clear hmay
      go_wp2_with fail
      refine (put_yes wx m0' (.slice a n cap) HVX.out HMAY.out HOK.out HTX.out).mono ?_
      rintro e w3 ⟨p, rfl, hov, ho3⟩
      have HO3 := Lib.hid (HOX.out.then ho3); have hm3 := HBX.out.only ho3 (by simp)
      have HV3 := Lib.hid (HVX.out.only ho3 (by simp))
      have hbp := BS.of_vs hov.vs
      have hdl : (Wr.dg m0').length = 35 + n := by rw [Wr.dg_length, HN.out]
      obtain ⟨a3, cap3, rfl, k1, k2⟩ := hov.slice
      simp only [List.length_map, hdl] at k1 k2 hbp ⊢
      unfold maxLen at k2
      obtain ⟨S2, hS2⟩ : ∃ S : ByteArray, (⟨(Wr.dg m0').toArray⟩ : ByteArray) = S := ⟨_, rfl⟩
      have HS2 := Lib.hid hS2; have HBP3 := Lib.hid hbp; have HM3 := Lib.hid hm3; have HDL := Lib.hid hdl
      have HGET := Lib.hid (Wr.get_dg m0' HOK.out HMAY.out)
      clear ho3 hov hbp c0 c1 c2 c3 c4 c5 c6 cf hS2 hdl
      obtain ⟨c0, c1, c2, c3, c4, c5, c6, cf⟩ := MB.cells hm3
      clear hm3
      go_wp2_with fail
      refine (model_c w3 m0' (.slice a n cap) HV3.out).mono ?_
      rintro e w4 ⟨rfl, ho4⟩
      rw [HSE.out]
      have HO4 := Lib.hid (HO3.out.then ho4); have HM4 := Lib.hid (HM3.out.only ho4 (by simp)); have HBP4 := Lib.hid (HBP3.out.only ho4 (by simp)); have HV4 := Lib.hid (HV3.out.only ho4 (by simp))
      clear ho4 c0 c1 c2 c3 c4 c5 c6 cf HM3 HBP3 HV3 HO3
      go_wp2_with fail
      refine (rput_yes w4 m0' S HSL.out HMAY.out HOK.out).mono ?_
      rintro e w5 ⟨rfl, ho5⟩
      rw [HS2.out]
      have HO5 := Lib.hid (HO4.out.then ho5); have HM5 := Lib.hid (HM4.out.only ho5 (by simp)); have HBP5 := Lib.hid (HBP4.out.only ho5 (by simp)); have HV5 := Lib.hid (HV4.out.only ho5 (by simp))
      have hst := run_string_of_bytes (P := Tryd.prog) Tryd.underlying24 Tryd.underlying5 Tryd.underlying9 HBP5.out
      rw [HS2.out] at hst
      clear ho5 HM4 HBP4 HV4 HO4
      have HT5 := Lib.hid (HT.out.only HO5.out (by simp))
      go_wp2_with fail
      have hg := get_c w5 _ (Wr.dg m0') HBP5.out (by rw [HDL.out]; omega) HT5.out
      rw [HGET.out] at hg
      refine hg.mono ?_
      clear hg hst
      rintro e w6 ⟨⟨u6, rfl, hbu⟩, ho6⟩
      have hbu : BS w6 u6 m0'.bytes := hbu
      have HO6 := Lib.hid (HO5.out.then ho6); have HM6 := Lib.hid (HM5.out.only ho6 (by simp)); have HV6 := Lib.hid (HV5.out.only ho6 (by simp))
      have HBU6 := Lib.hid hbu
      obtain ⟨a6, cap6, rfl, q1, q2, -, -⟩ := hbu
      rw [HN.out] at q1 HBU6 ⊢
      clear ho6 HM5 HBP5 HV5 HO5
      unfold msgV
      simp only []
      go_upto_region 15 with fail
      have hm7 : MB (w6.alloc (.cells #[.int .u8 (m0'.kind : Int), .int .u64 (m0'.key : Int), .int .u64 (m0'.epoch : Int), .int .u32 (m0'.index : Int), .int .u32 (m0'.a : Int), .int .u32 (m0'.b : Int), .slice a6 n cap6] 26 (0, 0))) w6.heap.size 26 m0' (.slice a6 n cap6) := MB.new w6 _ _ _
      have ha7 : Only [] w6 (w6.alloc (.cells #[.int .u8 (m0'.kind : Int), .int .u64 (m0'.key : Int), .int .u64 (m0'.epoch : Int), .int .u32 (m0'.index : Int), .int .u32 (m0'.a : Int), .int .u32 (m0'.b : Int), .slice a6 n cap6] 26 (0, 0))) := (Only.refl [] w6).alloc _
      generalize World.alloc w6 _ = w7 at *
      generalize w6.heap.size = D at *
      have HO7 := Lib.hid (HO6.out.then ha7); have HM7 := Lib.hid (HM6.out.only ha7 (by simp)); have HV7 := Lib.hid (HV6.out.only ha7 (by simp)); have HBU7 := Lib.hid (HBU6.out.only ha7 (by simp))
      obtain ⟨c0, c1, c2, c3, c4, c5, c6, cf⟩ := MB.cells HM7.out
      obtain ⟨d0, d1, d2, d3, d4, d5, d6, df⟩ := MB.cells hm7
      have x0 := fun x : Later [] w7 => Later.cell c0 (by simp) x
      have x1 := fun x : Later [] w7 => Later.cell c1 (by simp) x
      have x2 := fun x : Later [] w7 => Later.cell c2 (by simp) x
      have x3 := fun x : Later [] w7 => Later.cell c3 (by simp) x
      have x4 := fun x : Later [] w7 => Later.cell c4 (by simp) x
      have x5 := fun x : Later [] w7 => Later.cell c5 (by simp) x
      have x6 := fun x : Later [] w7 => Later.cell c6 (by simp) x
      have y0 := fun x : Later [] w7 => Later.cell d0 (by simp) x
      have y1 := fun x : Later [] w7 => Later.cell d1 (by simp) x
      have y2 := fun x : Later [] w7 => Later.cell d2 (by simp) x
      have y3 := fun x : Later [] w7 => Later.cell d3 (by simp) x
      have y4 := fun x : Later [] w7 => Later.cell d4 (by simp) x
      have y5 := fun x : Later [] w7 => Later.cell d5 (by simp) x
      have y6 := fun x : Later [] w7 => Later.cell d6 (by simp) x
      have hmod : ∀ (u : Value) (W : World), BS w7 u m0'.bytes → Only [] w7 W → Calls Tryd.prog 11 #[.agg #[.int .u8 (m0'.kind : Int), .int .u64 (m0'.key : Int), .int .u64 (m0'.epoch : Int), .int .u32 (m0'.index : Int), .int .u32 (m0'.a : Int), .int .u32 (m0'.b : Int), u]] W fun e w' => e = .returned (.agg #[.int .u8 (m0'.kind : Int), .int .u64 (m0'.key : Int), .int .u64 (m0'.epoch : Int), .int .u32 (m0'.index : Int), .int .u32 (m0'.a : Int), .int .u32 (m0'.b : Int), .string S]) ∧ Only [] W w' := by
        intro u W hu hW
        have h := model_c W m0' u (hu.only hW (by simp))
        rw [HSE.out] at h
        exact h
      have HMA := Lib.hid (fun W hW => hmod (.slice a n cap) W HV7.out hW)
      have HMB := Lib.hid (fun W hW => hmod (.slice a6 n cap6) W HBU7.out hW)
      have l15 : 35 + (n : Int) ≤ 1500 := by omega
      clear hmod c0 c1 c2 c3 c4 c5 c6 cf d0 d1 d2 d3 d4 d5 d6 df hm7 ha7
      refine wp_region_later [] (by kernel_rfl) (by kernel_rfl) ?_
      repeat (go_big_quiet_step (first
        | (go_at_call 11; with_reducible exact Calls.later_nil (HMA.out _ (Later.only _)))
        | (go_at_call 11; with_reducible exact Calls.later_nil (HMB.out _ (Later.only _)))))
      refine wpQuiet_nil ?_
      rintro _ ⟨x9, rfl⟩
      have HX9 := Lib.hid x9.only
      clear x0 x1 x2 x3 x4 x5 x6 y0 y1 y2 y3 y4 y5 y6
      generalize x9.at' = w9 at *
      have HO9 := Lib.hid (HO7.out.then HX9.out)
      go_wp2
      go_ret
      exact ⟨rfl, HO9.out.below (by simp) (by rw [HQ.out]; exact Nat.le_refl _)⟩
end Go.Proofs.YtdoiebbbgmlkaaaDoor.wr
