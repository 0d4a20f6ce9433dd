/-
  FrameWrites, walked.
-/
import Derived.Test.YtkblnlddamojoaaFrmReads
set_option linter.unusedVariables false
set_option linter.unusedSimpArgs false
namespace Go.Proofs.Ytkblnlddamojoaa.frm
open Go Go.RowKit Go.Lm Go.Proofs.Ytkblnlddamojoaa.cur

theorem refwrite_d (w : World) (size : Nat) (hs : size < 18446744073709551616) (sum : Bool) (L : List UInt8) (hL : [40, 181, 47, 253] ++ Frm.wr size sum = L) : Calls Try.prog 12 #[.int .u64 size, .bool sum] w fun e w' => e = .returned (.string ⟨L.toArray⟩) ∧ Only [] w w' := by
  refine (refwrite_c w size hs sum).mono ?_
  rintro e w' ⟨s, rfl, hs, ho⟩
  obtain ⟨d⟩ := s
  rw [hL] at hs
  have : d = L.toArray := by rw [← hs]
  exact ⟨by rw [this], ho⟩

set_option maxHeartbeats 2000000 in
theorem writes_c (w : World) (size : Nat) (hs : size < 18446744073709551616) (sum : Bool) (v : Value) (m : List UInt8) (hv : BS w v m) : Calls Try.prog 4 #[.int .u64 size, .bool sum, v] w fun e w' => e = .returned (.bool true) ∧ Below w.heap.size w w' := by
  have HV := Lib.hid hv
  obtain ⟨a, cap, rfl, hc1, hc2, -⟩ := hv
  unfold maxLen at hc2
  have HS := Lib.hid hs
  clear hs
  by_cases hbig : 50 < m.length
  · go_enter Try.func4, Try.ntmps4
    go_wp2_with fail
    refine (awake_c w).mono ?_
    rintro e w1 ⟨rfl, ho1⟩
    have HO1 := Lib.hid ho1; clear ho1
    go_wp2
    go_ret
    exact ⟨rfl, HO1.out.below (by simp) (Nat.le_refl _)⟩
  obtain ⟨L, hL⟩ : ∃ L, [40, 181, 47, 253] ++ Frm.wr size sum = L := ⟨_, rfl⟩
  have hlen : L.length = 4 + (Frm.wr size sum).length := by rw [← hL]; simp; omega
  have hlen13 := Frm.wr_length size sum
  have hhead := Frm.head_wr size HS.out sum m
  have hdrop : ((L ++ m).take (L ++ m).length).drop 4 = Frm.wr size sum ++ m := by rw [List.take_length, ← hL]; simp
  obtain ⟨i0, hi, hz0, hz1, hz2⟩ := info_parts info_u8
  have HI := Lib.hid hi; have HZ0 := Lib.hid hz0; have HZ1 := Lib.hid hz1; have HZ2 := Lib.hid hz2
  have HL := Lib.hid hL; have HHEAD := Lib.hid hhead; have HDROP := Lib.hid hdrop
  clear hi hz0 hz1 hz2 hL hhead hdrop
  obtain ⟨Wr, hWr⟩ : ∃ Wr, Frm.wr size sum = Wr := ⟨_, rfl⟩
  rw [hWr] at HHEAD HDROP hlen hlen13
  have hln : IntKind.i64.wrap ((L.length : Int) - 4) = (Wr.length : Int) := by rw [IntKind.wrap_i64]; omega
  have hln2 : (L.length : Int) - 4 = (Wr.length : Int) := by omega
  have hl4 : 4 ≤ L.length := by omega
  have hl13 : L.length ≤ 13 := by omega
  clear hlen
  go_enter Try.func4, Try.ntmps4
  go_wp2_with fail
  refine (awake_c w).mono ?_
  rintro e w1 ⟨rfl, ho1⟩
  have HO1 := Lib.hid ho1
  have HV1 := Lib.hid (HV.out.only ho1 (by simp))
  clear ho1
  go_wp2_with fail
  refine (write_c w1 size HS.out sum).mono ?_
  rintro e w2 ⟨v2, rfl, hov, ho2⟩
  rw [HL.out] at hov
  have HV2 := Lib.hid (HV1.out.only ho2 (by simp))
  have HO2 := Lib.hid (HO1.out.then ho2)
  have HOV2 := Lib.hid (hov.mono HO1.out.size)
  have hbs := BS.of_vs hov.vs
  clear HV1 ho2 HO1 hov
  obtain ⟨a2, cap2, rfl, hcap2, hmax2⟩ := HOV2.out.slice
  rw [List.length_map] at hcap2 HOV2 hbs ⊢
  have hstr : ∀ x : Later [] w2, (convert 22 9 (.slice a2 L.length cap2)).run Try.prog x.at' = .ok (.string ⟨L.toArray⟩) x.at' := fun x =>
    run_string_of_bytes Try.underlying22 Try.underlying5 Try.underlying9 (hbs.only x.only (by simp))
  clear hbs
  go_upto_region 7 with fail
  --@1
  refine wp_region_later [] (by kernel_rfl) (by kernel_rfl) ?_
  repeat (go_big_quiet_step (first
    | (go_at_call 12; exact Calls.later_nil (refwrite_d _ size HS.out sum L HL.out))))
  --@q
  refine wpQuiet_nil ?_
  rintro _ ⟨x, rfl⟩
  have hx := x.only
  have HO3 := Lib.hid (HO2.out.then hx)
  have HV3 := Lib.hid (HV2.out.only hx (by simp))
  have HOV3 := Lib.hid (HOV2.out.only hx (by simp))
  clear hx HO2 HV2 HOV2 hstr
  generalize x.at' = w3 at *
  --@2
  obtain ⟨v', w4, hrun, hov', hg⟩ := run_append_vs (P := Try.prog) (ty := 22) Try.underlying22 HI.out HZ0.out HZ1.out HZ2.out rfl HOV3.out (VS.of_bs HV3.out) (u8s_one m) (by simp; unfold maxLen; omega) (by simp; omega) HO3.out.size
  rw [← List.map_append] at hov'
  have ho4 := Only.of_grown hg
  have hO4 : Only [] w w4 := HO3.out.trans ho4 (by simp) (fun k hk => .inr (HOV3.out.lt (c := k) (by simpa using hk)).1)
  have HO4 := Lib.hid hO4
  obtain ⟨a4, cap4, rfl, hcap4, hmax4⟩ := hov'.slice
  have hbs := BS.of_vs hov'.vs
  rw [List.length_map] at hcap4 hbs hrun
  have HRUN := Lib.hid hrun
  have hb := hbs.sub 4 (L ++ m).length (by rw [List.length_append]; omega) (Nat.le_refl _)
  rw [HDROP.out] at hb
  have hsl : ∀ w, (Instr.slice 22 (.slice a4 (L ++ m).length cap4) (some (.int .i64 4)) none none).run Try.prog w = .ok (subv a4 cap4 4 (L ++ m).length) w := run_sub_l (P := Try.prog) (t := 22) Try.underlying22 size_u8 a4 (L ++ m).length cap4 4 (by rw [List.length_append]; omega)
  obtain ⟨vs, hvs⟩ : ∃ vs, subv a4 cap4 4 (L ++ m).length = vs := ⟨_, rfl⟩
  rw [hvs] at hsl hb
  have hrd := read_c w4 vs (Wr ++ m) hb (by rw [List.length_append]; omega)
  rw [HHEAD.out] at hrd
  have HRD := Lib.hid hrd
  obtain ⟨N, hN⟩ : ∃ N, (L ++ m).length = N := ⟨_, rfl⟩
  rw [hN] at hsl HRUN
  clear hov' hg ho4 hO4 hbs hrun hb hvs hrd hcap4 hmax4
  --@3
  go_wp2_with (at_builtin; refine wpList_append_run rfl _ _ _ rfl rfl rfl HRUN.out ?_)
  --@4
  refine HRD.out.mono ?_
  rintro e w5 ⟨rfl, ho5⟩
  have HO5 := Lib.hid (HO4.out.then ho5)
  clear ho5 HO4 HRD HRUN
  rw [show hdV (⟨size, size, true, sum⟩ : Frm.Hd) = .agg #[.int .u64 (size : Int), .int .u64 (size : Int), .bool true, .bool sum] from rfl]
  go_upto_region 10 with fail
  have hal : Only [] w5 (w5.alloc (.cells #[.int .u64 (size : Int), .int .u64 (size : Int), .bool true, .bool sum] 26 (0, 0))) := (Only.refl [] w5).alloc _
  have HH6 := Lib.hid (HC.new w5 26 size size true sum)
  have HO6 := Lib.hid (HO5.out.then hal)
  clear hal HO5
  generalize World.alloc w5 _ = w6 at *
  generalize w5.heap.size = H at *
  obtain ⟨h0, h1, h2, h3, hf⟩ := HH6.out.cells
  --@5
  go_wp2
  go_ret
  exact ⟨rfl, HO6.out.below (by simp) (Nat.le_refl _)⟩
end Go.Proofs.Ytkblnlddamojoaa.frm
