/-
  HuffJumps, walked.
-/
import Derived.Test.YtfckokdgmbbheaaHufJumpP
import Derived.Deep.QuietTactic
import Derived.BigQuiet
set_option linter.unusedVariables false
set_option linter.unusedSimpArgs false
set_option maxRecDepth 20000
namespace Go.Proofs.Ytfckokdgmbbheaa.huf
open Go Go.RowKit Go.Lm Go.Proofs.Ytfckokdgmbbheaa Go.Proofs.Ytfckokdgmbbheaa.bit

set_option maxRecDepth 100000 in
set_option maxHeartbeats 8000000 in
theorem jumps_c (w : World) (v u : Value) (l q : List UInt8) (hv : BS w v l) (hu : BS w u q) : Calls Try.prog 4 #[v, u] w fun e w' => e = .returned (.bool true) ∧ Below w.heap.size w w' := by
  have HV := Lib.hid hv; have HU := Lib.hid hu
  obtain ⟨a, cap, rfl, k1, k2, -, -⟩ := hv
  obtain ⟨a2, cap2, rfl, k3, k4, -, -⟩ := hu
  unfold maxLen at k2 k4
  by_cases h1 : 300 < l.length
  · go_enter Try.func4, Try.ntmps4
    go_wp2_with fail
    refine (awake_c w).mono ?_
    rintro e w1 ⟨rfl, ho1⟩
    go_wp2_with fail
    go_ret
    exact ⟨rfl, ho1.below (by simp) (Nat.le_refl _)⟩
  by_cases h2 : 500 < q.length
  · go_enter Try.func4, Try.ntmps4
    go_wp2_with fail
    refine (awake_c w).mono ?_
    rintro e w1 ⟨rfl, ho1⟩
    go_wp2_with fail
    go_ret
    exact ⟨rfl, ho1.below (by simp) (Nat.le_refl _)⟩
  have h1I : ¬ (300 < (l.length : Int)) := by omega
  have h2I : ¬ (500 < (q.length : Int)) := by omega
  have HB := Lib.hid (show l.length ≤ 300 ∧ q.length ≤ 500 by omega)
  go_enter Try.func4, Try.ntmps4
  go_wp2_with fail
  refine (awake_c w).mono ?_
  rintro e w1 ⟨rfl, ho1⟩
  have HO1 := Lib.hid ho1
  clear ho1
  go_wp2_with fail
  refine (hencode4_c w1 _ _ l q (HV.out.only HO1.out (by simp)) (by have := HB.out; omega) (HU.out.only HO1.out (by simp)) (by have := HB.out; omega)).mono ?_
  rintro e w2 ⟨v2, rfl, hov2, ho2⟩
  obtain ⟨X, hX⟩ : ∃ X, henc4 l q = X := ⟨_, rfl⟩
  have hxl := henc4_len l q (by have := HB.out; omega)
  rw [hX] at hov2 hxl ⊢
  have HX := Lib.hid hX; have HXL := Lib.hid hxl
  have HB2 := Lib.hid (BS.of_vs hov2.vs)
  have HO2 := Lib.hid (HO1.out.then ho2)
  obtain ⟨sa, sc, rfl, hsc, hsm⟩ := hov2.slice
  rw [List.length_map] at HB2 hsc ⊢
  unfold maxLen at hsm
  clear hov2 ho2 hX HO1 hxl
  by_cases hbad : Huf.dep (Huf.ns l) = 0 ∨ q.length < 3 * qk q.length ∨ ¬ ∀ s ∈ q, Huf.Okay (Huf.ns l) s.toNat
  · have hx := HX.out
    rw [henc4_no hbad] at hx
    subst hx
    clear HXL
    --@1
    go_wp2_with fail
    go_ret
    exact ⟨rfl, HO2.out.below (by simp) (Nat.le_refl _)⟩
  · have hd0 : Huf.dep (Huf.ns l) ≠ 0 := fun e => hbad (.inl e)
    have hok : ∀ s ∈ q, Huf.Okay (Huf.ns l) s.toNat := Classical.not_not.1 (fun e => hbad (.inr (.inr e)))
    have hkq : 3 * qk q.length ≤ q.length := Nat.le_of_not_lt fun e => hbad (.inr (.inl e))
    have hx := HX.out
    rw [henc4_yes hd0 hkq hok] at hx
    have hxe : hd4 (Huf.ns l) (Huf.dep (Huf.ns l)) q 3 ++ bd4 (Huf.ns l) (Huf.dep (Huf.ns l)) q 4 = X.1 := by rw [← hx]
    have hx2 : X.2 = 0 := by rw [← hx]
    rw [hx2]
    obtain ⟨B, hB⟩ : ∃ B, X.1 = B := ⟨_, rfl⟩
    rw [hB] at hxe HB2 hsc ⊢
    have hbl : B.length ≤ 1010 := by have := HXL.out; rw [hB] at this; have := HB.out; omega
    have hr := fun i hi => jump_round hd0 hkq hok (by have := HB.out; omega) hxe i hi
    have hh := jump_heads hkq (by have := HB.out; omega) hxe
    have hjT : jo l q 4 = B.length := by unfold jo; rw [← hxe, List.length_append, hd4_length]
    have hj0 : jo l q 0 = 6 := rfl
    have hcu : ∀ i, i < 4 → cut q.length (i + 1) - cut q.length i = (if i < 3 then qk q.length else q.length - 3 * qk q.length) := fun i hi => by
      have h3 := (cut_next hkq hi).2.2
      unfold pn at h3
      split at h3 <;> split <;> omega
    have hct : ∀ i, i ≤ 3 → cut q.length i = i * qk q.length := fun i hi => by unfold cut; rw [if_pos hi]
    have hc4 := cut_four q.length
    obtain ⟨T, hT⟩ : ∃ T, B.length = T := ⟨_, rfl⟩
    obtain ⟨n, hn⟩ : ∃ n, q.length = n := ⟨_, rfl⟩
    obtain ⟨k, hk⟩ : ∃ k, qk q.length = k := ⟨_, rfl⟩
    have hnb : n ≤ 500 := by have := HB.out; omega
    have hkI : ((n : Int) + 3) / 4 = (k : Int) := by unfold qk at hk; omega
    rw [hk] at hkq
    simp only [hk] at hcu hct
    rw [hn] at hkq ⊢
    simp only [hn] at hr hcu hct hc4
    rw [hT] at hbl hsc hjT ⊢
    simp only [hT] at hr
    have hT6 : 6 ≤ T := by rw [← hjT]; unfold jo; omega
    obtain ⟨m3, hm3⟩ : ∃ m3, n - 3 * k = m3 := ⟨_, rfl⟩
    have hm3I : (n : Int) - 3 * (k : Int) = (m3 : Int) := by omega
    have hcell := fun W (ho : Only [] w2 W) => BS.cells (HB2.out.only ho (by simp)) (by omega)
    obtain ⟨bb, off, rfl, -⟩ := hcell w2 (Only.refl _ _)
    have HCELL : Hid (∀ W, Only [] w2 W → ∀ j, j < T → W.cell? ⟨bb, off + j, none⟩ = some (.int .u8 ((B.getD j 0).toNat : Int))) := Lib.hid fun W ho j hj => by
      obtain ⟨b', off', e, hc⟩ := hcell W ho
      injection e with e
      injection e with e1 e2
      subst e1; subst e2
      exact hc j (by omega)
    have HR := Lib.hid hr; have HH := Lib.hid hh; have HJT := Lib.hid hjT; have HJ0 := Lib.hid hj0; have HCU := Lib.hid hcu; have HCT := Lib.hid hct; have HC4 := Lib.hid hc4; have HT := Lib.hid hT; have HN := Lib.hid hn; have HM3 := Lib.hid hm3; have HSC := Lib.hid hsc; have HKQ := Lib.hid hkq
    have hkb : k ≤ 200 := by omega
    have hm3b : m3 ≤ 500 := by omega
    clear hr hh hjT hj0 hcu hct hc4 hT hn hk hm3 hcell hx hxe hx2 hB HX HXL hok hbad hd0 hsc hkq hsm
    --@2
    go_wp2_with fail
    --@3
    rw [hkI]
    go_loopw [9, 10] (fun at' i wr => ∃ j o : Nat, j ≤ 4 ∧ i = .int .i64 (j : Int) ∧ at' = .int .i64 (o : Int) ∧ jo l q j = o ∧ Only [] w2 wr) (fun _ i _ => 4 - (intOf i).toNat)
    case atStart => exact ⟨0, 6, by omega, rfl, rfl, HJ0.out, Only.refl _ _⟩
    case round =>
      obtain ⟨j, o, hj, rfl, rfl, hjo, how⟩ := hrel
      have hj5 : j = 0 ∨ j = 1 ∨ j = 2 ∨ j = 3 ∨ j = 4 := by omega
      have HJO := Lib.hid hjo; have HOW := Lib.hid how
      clear hjo how
      rcases hj5 with rfl | rfl | rfl | rfl | rfl
      · have hr := HR.out 0 (by omega)
        rw [HCU.out 0 (by omega)] at hr
        simp only [HJO.out] at hr
        obtain ⟨s, hs⟩ : ∃ s, js l q 0 = s := ⟨_, rfl⟩
        obtain ⟨o2, ho2⟩ : ∃ o2, jo l q (0 + 1) = o2 := ⟨_, rfl⟩
        rw [hs, ho2] at hr
        obtain ⟨r1, r2, r3, r4, r5⟩ := hr
        obtain ⟨pr, hpr⟩ : ∃ pr, prt q 0 = pr := ⟨_, rfl⟩
        rw [hpr] at r4 r5
        rw [if_pos (by decide)] at r4
        rw [HCT.out (0 + 1) (by omega), HCT.out 0 (by omega)] at r5
        obtain ⟨c, hc⟩ : ∃ c, 0 * k = c := ⟨_, rfl⟩
        obtain ⟨c2, hc2⟩ : ∃ c2, (0 + 1) * k = c2 := ⟨_, rfl⟩
        rw [hc, hc2] at r5
        have hoI : (o : Int) + (s : Int) = (o2 : Int) := by omega
        rw [← r2] at r4
        have hp : BS w2 (subv (some ⟨bb, off, none⟩) sc o o2) ((B.take o2).drop o) := HB2.out.sub o o2 (by omega) (by have := HT.out; omega)
        obtain ⟨piece, hpe⟩ : ∃ piece, (B.take o2).drop o = piece := ⟨_, rfl⟩
        rw [hpe] at r4 hp
        have hpl : piece.length ≤ 1010 := by rw [← hpe]; simp; have := HT.out; omega
        have hcn : c ≤ c2 ∧ c2 ≤ n ∧ c + k = c2 := by have := HKQ.out; have := HM3.out; omega
        have hq2 : BS w2 (subv a2 cap2 c c2) ((q.take c2).drop c) := (HU.out.only HO2.out (by simp)).sub c c2 hcn.1 (by have := HN.out; omega)
        rw [← r5] at hq2
        have hs1 := fun W => run_sub_lh (P := Try.prog) (t := 22) Try.underlying22 bit.size_u8 (some ⟨bb, off, none⟩) T sc o o2 (by omega) (by have := HSC.out; omega) W
        have hs2 := fun W => run_sub_lh (P := Try.prog) (t := 22) Try.underlying22 bit.size_u8 a2 n cap2 c c2 hcn.1 (by have := hcn.2.1; have := HN.out; omega) W
        have HP := Lib.hid hp; have HQ2 := Lib.hid hq2; have HR4 := Lib.hid r4; have HPL := Lib.hid hpl; have HS2 := Lib.hid hs2
        have hc0 : c = 0 := by omega
        subst hc0
        have hk2 : k = c2 := by omega
        subst hk2
        have hcI : (0 : Int) + (k : Int) = (k : Int) := by omega
        have HCI := Lib.hid hcI
        have hc2b : k ≤ 500 := by omega
        have hoT : o2 ≤ T := by omega
        have hsT : s ≤ T := by omega
        have hoTT : o ≤ T := by omega
        have hn1 : ¬ ((s : Int) < 1) := by omega
        have hn2 : ¬ ((T : Int) - (o : Int) < (s : Int)) := by omega
        have HSJ := Lib.hid hs; have HR2 := Lib.hid r2; have HO2J := Lib.hid ho2
        clear hp hq2 r4 r5 hpl hc2 hpe hpr hs hc hs2 hcI r1 r2 r3 hcn ho2
        have c0 := HCELL.out _ HOW.out 0 (by omega)
        have c1 := HCELL.out _ HOW.out 1 (by omega)
        have hhh := HH.out.1
        obtain ⟨x, hx⟩ : ∃ x, (B.getD 0 0).toNat = x := ⟨_, rfl⟩
        obtain ⟨y, hy⟩ : ∃ y, (B.getD 1 0).toNat = y := ⟨_, rfl⟩
        have hx256 : x < 256 := by rw [← hx]; exact UInt8.toNat_lt _
        have hy256 : y < 256 := by rw [← hy]; exact UInt8.toNat_lt _
        rw [hx, hy, HSJ.out] at hhh
        have hxs : x + 256 * y = s := by omega
        rw [hx] at c0
        rw [hy] at c1
        have w1' : IntKind.i64.wrap (x : Int) = (x : Int) := by rw [IntKind.wrap_i64]; omega
        have w2' : IntKind.i64.wrap (y : Int) = (y : Int) := by rw [IntKind.wrap_i64]; omega
        have w3' : IntKind.i64.wrap (256 * (y : Int)) = 256 * (y : Int) := by rw [IntKind.wrap_i64]; omega
        have w4' : IntKind.i64.wrap ((x : Int) + 256 * (y : Int)) = (s : Int) := by rw [IntKind.wrap_i64]; omega
        have hT6I : (1 : Int) < (T : Int) := by omega
        clear hhh hx hy hxs
        try rw [Nat.add_zero] at c0
        rw [show ((0 : Nat) : Int) = 0 from rfl]
        --@a0
        go_wp2_with fail
        --@b0
        go_quiet (fail)
        --@c0
        go_wp2_with fail
        --@d0
        refine (hdecode_c _ _ _ l piece ((HV.out.only HO2.out (by simp)).only (by first | exact HOW.out | exact HOW.out.drewN _ | exact HOW.out.drew) (by simp)) (by have := HB.out; omega) (HP.out.only (by first | exact HOW.out | exact HOW.out.drewN _ | exact HOW.out.drew) (by simp)) (by have := HPL.out; omega) (k : Int) (.inl (by omega))).mono ?_
        rintro e w6 ⟨v6, rfl, hov6, ho6⟩
        rw [HR4.out] at hov6 ⊢
        have hb6 := BS.of_vs hov6.vs
        obtain ⟨ta, tc, rfl, -, -⟩ := hov6.slice
        have HOW6 : Hid (Only [] w2 w6) := Lib.hid (Only.then (by first | exact HOW.out | exact HOW.out.drewN _ | exact HOW.out.drew) ho6)
        have hstr : ∀ x : Later [] w6, (convert 22 9 (.slice ta (List.map u8v (pr, (0 : Int)).1).length tc)).run Try.prog x.at' = .ok (.string ⟨pr.toArray⟩) x.at' := fun x =>
          run_string_of_bytes Try.underlying22 Try.underlying5 Try.underlying9 (hb6.only x.only (by simp))
        have hstr2 : ∀ x : Later [] w6, (convert 22 9 (subv a2 cap2 0 k)).run Try.prog x.at' = .ok (.string ⟨pr.toArray⟩) x.at' := fun x =>
          run_string_of_bytes Try.underlying22 Try.underlying5 Try.underlying9 ((HQ2.out.only HOW6.out (by simp)).only x.only (by simp))
        have hs2 := HS2.out
        have hcI := HCI.out
        obtain ⟨R, hR⟩ : ∃ R : ByteArray, (⟨pr.toArray⟩ : ByteArray) = R := ⟨_, rfl⟩
        simp only [hR] at hstr hstr2
        obtain ⟨pl, hpl⟩ : ∃ pl, (List.map u8v (pr, (0 : Int)).1).length = pl := ⟨_, rfl⟩
        simp only [hpl] at hstr ⊢
        have heR : decide (R = R) = true := by simp
        have hkw : IntKind.i64.wrap (k : Int) = (k : Int) := by rw [IntKind.wrap_i64]; omega
        simp only [show ((0 : Nat) : Int) = 0 from rfl] at hs2
        clear hov6 ho6 hb6 hR hpl hs1
        --@e0
        go_upto_region 24 with fail
        --@f0
        refine wp_region_later [] (by kernel_rfl) (by kernel_rfl) ?_
        repeat (go_big_quiet_step (fail))
        --@g0
        refine wpQuiet_nil ?_
        rintro _ ⟨x9, rfl⟩
        have hx9 := x9.only
        have HO9 : Hid (Only [] w2 x9.at') := Lib.hid (HOW6.out.then hx9)
        clear hx9 hstr hstr2 hs2
        generalize x9.at' = w9 at HO9 ⊢
        --@h0
        go_wp2_with fail
        go_roundw
        case rel => exact ⟨0 + 1, o2, by omega, by rfl, by go_num, HO2J.out, HO9.out⟩
        case measure => simp [intOf]
      · have hr := HR.out 1 (by omega)
        rw [HCU.out 1 (by omega)] at hr
        simp only [HJO.out] at hr
        obtain ⟨s, hs⟩ : ∃ s, js l q 1 = s := ⟨_, rfl⟩
        obtain ⟨o2, ho2⟩ : ∃ o2, jo l q (1 + 1) = o2 := ⟨_, rfl⟩
        rw [hs, ho2] at hr
        obtain ⟨r1, r2, r3, r4, r5⟩ := hr
        obtain ⟨pr, hpr⟩ : ∃ pr, prt q 1 = pr := ⟨_, rfl⟩
        rw [hpr] at r4 r5
        rw [if_pos (by decide)] at r4
        rw [HCT.out (1 + 1) (by omega), HCT.out 1 (by omega)] at r5
        obtain ⟨c, hc⟩ : ∃ c, 1 * k = c := ⟨_, rfl⟩
        obtain ⟨c2, hc2⟩ : ∃ c2, (1 + 1) * k = c2 := ⟨_, rfl⟩
        rw [hc, hc2] at r5
        have hoI : (o : Int) + (s : Int) = (o2 : Int) := by omega
        rw [← r2] at r4
        have hp : BS w2 (subv (some ⟨bb, off, none⟩) sc o o2) ((B.take o2).drop o) := HB2.out.sub o o2 (by omega) (by have := HT.out; omega)
        obtain ⟨piece, hpe⟩ : ∃ piece, (B.take o2).drop o = piece := ⟨_, rfl⟩
        rw [hpe] at r4 hp
        have hpl : piece.length ≤ 1010 := by rw [← hpe]; simp; have := HT.out; omega
        have hcn : c ≤ c2 ∧ c2 ≤ n ∧ c + k = c2 := by have := HKQ.out; have := HM3.out; omega
        have hq2 : BS w2 (subv a2 cap2 c c2) ((q.take c2).drop c) := (HU.out.only HO2.out (by simp)).sub c c2 hcn.1 (by have := HN.out; omega)
        rw [← r5] at hq2
        have hs1 := fun W => run_sub_lh (P := Try.prog) (t := 22) Try.underlying22 bit.size_u8 (some ⟨bb, off, none⟩) T sc o o2 (by omega) (by have := HSC.out; omega) W
        have hs2 := fun W => run_sub_lh (P := Try.prog) (t := 22) Try.underlying22 bit.size_u8 a2 n cap2 c c2 hcn.1 (by have := hcn.2.1; have := HN.out; omega) W
        have HP := Lib.hid hp; have HQ2 := Lib.hid hq2; have HR4 := Lib.hid r4; have HPL := Lib.hid hpl; have HS2 := Lib.hid hs2
        have hck : k = c := by omega
        subst hck
        have hcI : (k : Int) + (k : Int) = (c2 : Int) := by omega
        have HCI := Lib.hid hcI
        have hc2b : c2 ≤ 500 := by omega
        have hoT : o2 ≤ T := by omega
        have hsT : s ≤ T := by omega
        have hoTT : o ≤ T := by omega
        have hn1 : ¬ ((s : Int) < 1) := by omega
        have hn2 : ¬ ((T : Int) - (o : Int) < (s : Int)) := by omega
        have HSJ := Lib.hid hs; have HR2 := Lib.hid r2; have HO2J := Lib.hid ho2
        clear hp hq2 r4 r5 hpl hc2 hpe hpr hs hc hs2 hcI r1 r2 r3 hcn ho2
        have c0 := HCELL.out _ HOW.out 2 (by omega)
        have c1 := HCELL.out _ HOW.out 3 (by omega)
        have hhh := HH.out.2.1
        obtain ⟨x, hx⟩ : ∃ x, (B.getD 2 0).toNat = x := ⟨_, rfl⟩
        obtain ⟨y, hy⟩ : ∃ y, (B.getD 3 0).toNat = y := ⟨_, rfl⟩
        have hx256 : x < 256 := by rw [← hx]; exact UInt8.toNat_lt _
        have hy256 : y < 256 := by rw [← hy]; exact UInt8.toNat_lt _
        rw [hx, hy, HSJ.out] at hhh
        have hxs : x + 256 * y = s := by omega
        rw [hx] at c0
        rw [hy] at c1
        have w1' : IntKind.i64.wrap (x : Int) = (x : Int) := by rw [IntKind.wrap_i64]; omega
        have w2' : IntKind.i64.wrap (y : Int) = (y : Int) := by rw [IntKind.wrap_i64]; omega
        have w3' : IntKind.i64.wrap (256 * (y : Int)) = 256 * (y : Int) := by rw [IntKind.wrap_i64]; omega
        have w4' : IntKind.i64.wrap ((x : Int) + 256 * (y : Int)) = (s : Int) := by rw [IntKind.wrap_i64]; omega
        have hT6I : (3 : Int) < (T : Int) := by omega
        clear hhh hx hy hxs
        try rw [Nat.add_zero] at c0
        rw [show ((1 : Nat) : Int) = 1 from rfl]
        --@a1
        go_wp2_with fail
        --@b1
        go_quiet (fail)
        --@c1
        go_wp2_with fail
        --@d1
        refine (hdecode_c _ _ _ l piece ((HV.out.only HO2.out (by simp)).only (by first | exact HOW.out | exact HOW.out.drewN _ | exact HOW.out.drew) (by simp)) (by have := HB.out; omega) (HP.out.only (by first | exact HOW.out | exact HOW.out.drewN _ | exact HOW.out.drew) (by simp)) (by have := HPL.out; omega) (k : Int) (.inl (by omega))).mono ?_
        rintro e w6 ⟨v6, rfl, hov6, ho6⟩
        rw [HR4.out] at hov6 ⊢
        have hb6 := BS.of_vs hov6.vs
        obtain ⟨ta, tc, rfl, -, -⟩ := hov6.slice
        have HOW6 : Hid (Only [] w2 w6) := Lib.hid (Only.then (by first | exact HOW.out | exact HOW.out.drewN _ | exact HOW.out.drew) ho6)
        have hstr : ∀ x : Later [] w6, (convert 22 9 (.slice ta (List.map u8v (pr, (0 : Int)).1).length tc)).run Try.prog x.at' = .ok (.string ⟨pr.toArray⟩) x.at' := fun x =>
          run_string_of_bytes Try.underlying22 Try.underlying5 Try.underlying9 (hb6.only x.only (by simp))
        have hstr2 : ∀ x : Later [] w6, (convert 22 9 (subv a2 cap2 k c2)).run Try.prog x.at' = .ok (.string ⟨pr.toArray⟩) x.at' := fun x =>
          run_string_of_bytes Try.underlying22 Try.underlying5 Try.underlying9 ((HQ2.out.only HOW6.out (by simp)).only x.only (by simp))
        have hs2 := HS2.out
        have hcI := HCI.out
        obtain ⟨R, hR⟩ : ∃ R : ByteArray, (⟨pr.toArray⟩ : ByteArray) = R := ⟨_, rfl⟩
        simp only [hR] at hstr hstr2
        obtain ⟨pl, hpl⟩ : ∃ pl, (List.map u8v (pr, (0 : Int)).1).length = pl := ⟨_, rfl⟩
        simp only [hpl] at hstr ⊢
        have heR : decide (R = R) = true := by simp
        have hckw : IntKind.i64.wrap (k : Int) = (k : Int) := by rw [IntKind.wrap_i64]; omega
        have hc2w : IntKind.i64.wrap ((k : Int) + (k : Int)) = (c2 : Int) := by rw [IntKind.wrap_i64]; omega
        clear hov6 ho6 hb6 hR hpl hs1
        --@e1
        go_upto_region 24 with fail
        --@f1
        refine wp_region_later [] (by kernel_rfl) (by kernel_rfl) ?_
        repeat (go_big_quiet_step (fail))
        --@g1
        refine wpQuiet_nil ?_
        rintro _ ⟨x9, rfl⟩
        have hx9 := x9.only
        have HO9 : Hid (Only [] w2 x9.at') := Lib.hid (HOW6.out.then hx9)
        clear hx9 hstr hstr2 hs2
        generalize x9.at' = w9 at HO9 ⊢
        --@h1
        go_wp2_with fail
        go_roundw
        case rel => exact ⟨1 + 1, o2, by omega, by rfl, by go_num, HO2J.out, HO9.out⟩
        case measure => simp [intOf]
      · have hr := HR.out 2 (by omega)
        rw [HCU.out 2 (by omega)] at hr
        simp only [HJO.out] at hr
        obtain ⟨s, hs⟩ : ∃ s, js l q 2 = s := ⟨_, rfl⟩
        obtain ⟨o2, ho2⟩ : ∃ o2, jo l q (2 + 1) = o2 := ⟨_, rfl⟩
        rw [hs, ho2] at hr
        obtain ⟨r1, r2, r3, r4, r5⟩ := hr
        obtain ⟨pr, hpr⟩ : ∃ pr, prt q 2 = pr := ⟨_, rfl⟩
        rw [hpr] at r4 r5
        rw [if_pos (by decide)] at r4
        rw [HCT.out (2 + 1) (by omega), HCT.out 2 (by omega)] at r5
        obtain ⟨c, hc⟩ : ∃ c, 2 * k = c := ⟨_, rfl⟩
        obtain ⟨c2, hc2⟩ : ∃ c2, (2 + 1) * k = c2 := ⟨_, rfl⟩
        rw [hc, hc2] at r5
        have hoI : (o : Int) + (s : Int) = (o2 : Int) := by omega
        rw [← r2] at r4
        have hp : BS w2 (subv (some ⟨bb, off, none⟩) sc o o2) ((B.take o2).drop o) := HB2.out.sub o o2 (by omega) (by have := HT.out; omega)
        obtain ⟨piece, hpe⟩ : ∃ piece, (B.take o2).drop o = piece := ⟨_, rfl⟩
        rw [hpe] at r4 hp
        have hpl : piece.length ≤ 1010 := by rw [← hpe]; simp; have := HT.out; omega
        have hcn : c ≤ c2 ∧ c2 ≤ n ∧ c + k = c2 := by have := HKQ.out; have := HM3.out; omega
        have hq2 : BS w2 (subv a2 cap2 c c2) ((q.take c2).drop c) := (HU.out.only HO2.out (by simp)).sub c c2 hcn.1 (by have := HN.out; omega)
        rw [← r5] at hq2
        have hs1 := fun W => run_sub_lh (P := Try.prog) (t := 22) Try.underlying22 bit.size_u8 (some ⟨bb, off, none⟩) T sc o o2 (by omega) (by have := HSC.out; omega) W
        have hs2 := fun W => run_sub_lh (P := Try.prog) (t := 22) Try.underlying22 bit.size_u8 a2 n cap2 c c2 hcn.1 (by have := hcn.2.1; have := HN.out; omega) W
        have HP := Lib.hid hp; have HQ2 := Lib.hid hq2; have HR4 := Lib.hid r4; have HPL := Lib.hid hpl; have HS2 := Lib.hid hs2
        have hcm : (2 : Int) * (k : Int) = (c : Int) := by omega
        have HCM := Lib.hid hcm
        clear hcm
        have hcI : (c : Int) + (k : Int) = (c2 : Int) := by omega
        have HCI := Lib.hid hcI
        have hc2b : c2 ≤ 500 := by omega
        have hoT : o2 ≤ T := by omega
        have hsT : s ≤ T := by omega
        have hoTT : o ≤ T := by omega
        have hn1 : ¬ ((s : Int) < 1) := by omega
        have hn2 : ¬ ((T : Int) - (o : Int) < (s : Int)) := by omega
        have HSJ := Lib.hid hs; have HR2 := Lib.hid r2; have HO2J := Lib.hid ho2
        clear hp hq2 r4 r5 hpl hc2 hpe hpr hs hc hs2 hcI r1 r2 r3 hcn ho2
        have c0 := HCELL.out _ HOW.out 4 (by omega)
        have c1 := HCELL.out _ HOW.out 5 (by omega)
        have hhh := HH.out.2.2
        obtain ⟨x, hx⟩ : ∃ x, (B.getD 4 0).toNat = x := ⟨_, rfl⟩
        obtain ⟨y, hy⟩ : ∃ y, (B.getD 5 0).toNat = y := ⟨_, rfl⟩
        have hx256 : x < 256 := by rw [← hx]; exact UInt8.toNat_lt _
        have hy256 : y < 256 := by rw [← hy]; exact UInt8.toNat_lt _
        rw [hx, hy, HSJ.out] at hhh
        have hxs : x + 256 * y = s := by omega
        rw [hx] at c0
        rw [hy] at c1
        have w1' : IntKind.i64.wrap (x : Int) = (x : Int) := by rw [IntKind.wrap_i64]; omega
        have w2' : IntKind.i64.wrap (y : Int) = (y : Int) := by rw [IntKind.wrap_i64]; omega
        have w3' : IntKind.i64.wrap (256 * (y : Int)) = 256 * (y : Int) := by rw [IntKind.wrap_i64]; omega
        have w4' : IntKind.i64.wrap ((x : Int) + 256 * (y : Int)) = (s : Int) := by rw [IntKind.wrap_i64]; omega
        have hT6I : (5 : Int) < (T : Int) := by omega
        clear hhh hx hy hxs
        try rw [Nat.add_zero] at c0
        rw [show ((2 : Nat) : Int) = 2 from rfl]
        --@a2
        go_wp2_with fail
        --@b2
        go_quiet (fail)
        --@c2
        go_wp2_with fail
        --@d2
        refine (hdecode_c _ _ _ l piece ((HV.out.only HO2.out (by simp)).only (by first | exact HOW.out | exact HOW.out.drewN _ | exact HOW.out.drew) (by simp)) (by have := HB.out; omega) (HP.out.only (by first | exact HOW.out | exact HOW.out.drewN _ | exact HOW.out.drew) (by simp)) (by have := HPL.out; omega) (k : Int) (.inl (by omega))).mono ?_
        rintro e w6 ⟨v6, rfl, hov6, ho6⟩
        rw [HR4.out] at hov6 ⊢
        have hb6 := BS.of_vs hov6.vs
        obtain ⟨ta, tc, rfl, -, -⟩ := hov6.slice
        have HOW6 : Hid (Only [] w2 w6) := Lib.hid (Only.then (by first | exact HOW.out | exact HOW.out.drewN _ | exact HOW.out.drew) ho6)
        have hstr : ∀ x : Later [] w6, (convert 22 9 (.slice ta (List.map u8v (pr, (0 : Int)).1).length tc)).run Try.prog x.at' = .ok (.string ⟨pr.toArray⟩) x.at' := fun x =>
          run_string_of_bytes Try.underlying22 Try.underlying5 Try.underlying9 (hb6.only x.only (by simp))
        have hstr2 : ∀ x : Later [] w6, (convert 22 9 (subv a2 cap2 c c2)).run Try.prog x.at' = .ok (.string ⟨pr.toArray⟩) x.at' := fun x =>
          run_string_of_bytes Try.underlying22 Try.underlying5 Try.underlying9 ((HQ2.out.only HOW6.out (by simp)).only x.only (by simp))
        have hs2 := HS2.out
        have hcI := HCI.out
        obtain ⟨R, hR⟩ : ∃ R : ByteArray, (⟨pr.toArray⟩ : ByteArray) = R := ⟨_, rfl⟩
        simp only [hR] at hstr hstr2
        obtain ⟨pl, hpl⟩ : ∃ pl, (List.map u8v (pr, (0 : Int)).1).length = pl := ⟨_, rfl⟩
        simp only [hpl] at hstr ⊢
        have heR : decide (R = R) = true := by simp
        have hcm := HCM.out
        have hckw : IntKind.i64.wrap (2 * (k : Int)) = (c : Int) := by rw [IntKind.wrap_i64]; omega
        have hc2w : IntKind.i64.wrap ((c : Int) + (k : Int)) = (c2 : Int) := by rw [IntKind.wrap_i64]; omega
        clear hov6 ho6 hb6 hR hpl hs1
        --@e2
        go_upto_region 24 with fail
        --@f2
        refine wp_region_later [] (by kernel_rfl) (by kernel_rfl) ?_
        repeat (go_big_quiet_step (fail))
        --@g2
        refine wpQuiet_nil ?_
        rintro _ ⟨x9, rfl⟩
        have hx9 := x9.only
        have HO9 : Hid (Only [] w2 x9.at') := Lib.hid (HOW6.out.then hx9)
        clear hx9 hstr hstr2 hs2
        generalize x9.at' = w9 at HO9 ⊢
        --@h2
        go_wp2_with fail
        go_roundw
        case rel => exact ⟨2 + 1, o2, by omega, by rfl, by go_num, HO2J.out, HO9.out⟩
        case measure => simp [intOf]
      · have hr := HR.out 3 (by omega)
        rw [HCU.out 3 (by omega)] at hr
        simp only [HJO.out] at hr
        obtain ⟨s, hs⟩ : ∃ s, js l q 3 = s := ⟨_, rfl⟩
        obtain ⟨o2, ho2⟩ : ∃ o2, jo l q (3 + 1) = o2 := ⟨_, rfl⟩
        rw [hs, ho2] at hr
        obtain ⟨r1, r2, r3, r4, r5⟩ := hr
        obtain ⟨pr, hpr⟩ : ∃ pr, prt q 3 = pr := ⟨_, rfl⟩
        rw [hpr] at r4 r5
        rw [if_neg (by decide), HM3.out] at r4
        rw [HC4.out, HCT.out 3 (by omega)] at r5
        obtain ⟨c, hc⟩ : ∃ c, 3 * k = c := ⟨_, rfl⟩
        obtain ⟨c2, hc2⟩ : ∃ c2, n = c2 := ⟨_, rfl⟩
        rw [hc, hc2] at r5
        have hoI : (o : Int) + (s : Int) = (o2 : Int) := by omega
        rw [← r2] at r4
        have hp : BS w2 (subv (some ⟨bb, off, none⟩) sc o o2) ((B.take o2).drop o) := HB2.out.sub o o2 (by omega) (by have := HT.out; omega)
        obtain ⟨piece, hpe⟩ : ∃ piece, (B.take o2).drop o = piece := ⟨_, rfl⟩
        rw [hpe] at r4 hp
        have hpl : piece.length ≤ 1010 := by rw [← hpe]; simp; have := HT.out; omega
        have hcn : c ≤ c2 ∧ c2 ≤ n ∧ c + m3 = c2 := by have := HKQ.out; have := HM3.out; omega
        have hq2 : BS w2 (subv a2 cap2 c c2) ((q.take c2).drop c) := (HU.out.only HO2.out (by simp)).sub c c2 hcn.1 (by have := HN.out; omega)
        rw [← r5] at hq2
        have hs1 := fun W => run_sub_lh (P := Try.prog) (t := 22) Try.underlying22 bit.size_u8 (some ⟨bb, off, none⟩) T sc o o2 (by omega) (by have := HSC.out; omega) W
        have hs2 := fun W => run_sub_lh (P := Try.prog) (t := 22) Try.underlying22 bit.size_u8 a2 n cap2 c c2 hcn.1 (by have := hcn.2.1; have := HN.out; omega) W
        have HP := Lib.hid hp; have HQ2 := Lib.hid hq2; have HR4 := Lib.hid r4; have HPL := Lib.hid hpl; have HS2 := Lib.hid hs2
        have hcm : (3 : Int) * (k : Int) = (c : Int) := by omega
        have HCM := Lib.hid hcm
        clear hcm
        have hcI : (c : Int) + (m3 : Int) = (c2 : Int) := by omega
        have HCI := Lib.hid hcI
        have hc2b : c2 ≤ 500 := by omega
        have hoT : o2 ≤ T := by omega
        have hsT : s ≤ T := by omega
        have hoTT : o ≤ T := by omega
        have hn1 : ¬ ((s : Int) < 1) := by omega
        have hn2 : ¬ ((T : Int) - (o : Int) < (s : Int)) := by omega
        have HSJ := Lib.hid hs; have HR2 := Lib.hid r2; have HO2J := Lib.hid ho2
        clear hp hq2 r4 r5 hpl hc2 hpe hpr hs hc hs2 hcI r1 r2 r3 hcn ho2
        rw [show ((3 : Nat) : Int) = 3 from rfl]
        have hse : (T : Int) - (o : Int) = (s : Int) := by have h1 : jo l q (3 + 1) = T := HJT.out; have h2 := HO2J.out; have := HR2.out; omega
        --@a3
        go_wp2_with fail
        --@d3
        refine (hdecode_c _ _ _ l piece ((HV.out.only HO2.out (by simp)).only (by first | exact HOW.out | exact HOW.out.drewN _ | exact HOW.out.drew) (by simp)) (by have := HB.out; omega) (HP.out.only (by first | exact HOW.out | exact HOW.out.drewN _ | exact HOW.out.drew) (by simp)) (by have := HPL.out; omega) (m3 : Int) (.inl (by omega))).mono ?_
        rintro e w6 ⟨v6, rfl, hov6, ho6⟩
        rw [HR4.out] at hov6 ⊢
        have hb6 := BS.of_vs hov6.vs
        obtain ⟨ta, tc, rfl, -, -⟩ := hov6.slice
        have HOW6 : Hid (Only [] w2 w6) := Lib.hid (Only.then (by first | exact HOW.out | exact HOW.out.drewN _ | exact HOW.out.drew) ho6)
        have hstr : ∀ x : Later [] w6, (convert 22 9 (.slice ta (List.map u8v (pr, (0 : Int)).1).length tc)).run Try.prog x.at' = .ok (.string ⟨pr.toArray⟩) x.at' := fun x =>
          run_string_of_bytes Try.underlying22 Try.underlying5 Try.underlying9 (hb6.only x.only (by simp))
        have hstr2 : ∀ x : Later [] w6, (convert 22 9 (subv a2 cap2 c c2)).run Try.prog x.at' = .ok (.string ⟨pr.toArray⟩) x.at' := fun x =>
          run_string_of_bytes Try.underlying22 Try.underlying5 Try.underlying9 ((HQ2.out.only HOW6.out (by simp)).only x.only (by simp))
        have hs2 := HS2.out
        have hcI := HCI.out
        obtain ⟨R, hR⟩ : ∃ R : ByteArray, (⟨pr.toArray⟩ : ByteArray) = R := ⟨_, rfl⟩
        simp only [hR] at hstr hstr2
        obtain ⟨pl, hpl⟩ : ∃ pl, (List.map u8v (pr, (0 : Int)).1).length = pl := ⟨_, rfl⟩
        simp only [hpl] at hstr ⊢
        have heR : decide (R = R) = true := by simp
        have hcm := HCM.out
        have hckw : IntKind.i64.wrap (3 * (k : Int)) = (c : Int) := by rw [IntKind.wrap_i64]; omega
        have hc2w : IntKind.i64.wrap ((c : Int) + (m3 : Int)) = (c2 : Int) := by rw [IntKind.wrap_i64]; omega
        clear hov6 ho6 hb6 hR hpl hs1
        --@e3
        go_upto_region 24 with fail
        --@f3
        refine wp_region_later [] (by kernel_rfl) (by kernel_rfl) ?_
        repeat (go_big_quiet_step (fail))
        --@g3
        refine wpQuiet_nil ?_
        rintro _ ⟨x9, rfl⟩
        have hx9 := x9.only
        have HO9 : Hid (Only [] w2 x9.at') := Lib.hid (HOW6.out.then hx9)
        clear hx9 hstr hstr2 hs2
        generalize x9.at' = w9 at HO9 ⊢
        --@h3
        go_wp2_with fail
        go_roundw
        case rel => exact ⟨3 + 1, o2, by omega, by rfl, by go_num, HO2J.out, HO9.out⟩
        case measure => simp [intOf]
      · have hoT : o = T := by rw [← HJO.out]; exact HJT.out
        subst hoT
        --@9
        go_wp2_with fail
        go_ret
        exact ⟨rfl, (HO2.out.then HOW.out).below (by simp) (Nat.le_refl _)⟩
end Go.Proofs.Ytfckokdgmbbheaa.huf
