/-
  BitsNone, walked.
-/
import Derived.Test.YtdpeajbjnennnaaBitClosed
import Derived.Test.YtdpeajbjnennnaaGen5
set_option linter.unusedVariables false
set_option linter.unusedSimpArgs false
namespace Go.Proofs.Ytdpeajbjnennnaa.bit
open Go Go.RowKit Go.Lm

set_option maxHeartbeats 2000000 in
theorem none_c (w : World) (v : Value) (l : List UInt8) (hv : BS w v l) (n : Int) : Calls Try.prog 9 #[v, .int .i64 n] w fun e w' => e = .returned (.bool true) ∧ Below w.heap.size w w' := by
  obtain ⟨a0, cap0, rfl, h3, h4, _⟩ := id hv
  have HV := Lib.hid hv; clear hv
  unfold maxLen at h4
  obtain ⟨i0, hi, hz0, hz1, hz2⟩ := info_parts info_u8
  have HI := Lib.hid hi; have HZ0 := Lib.hid hz0; have HZ1 := Lib.hid hz1; have HZ2 := Lib.hid hz2
  clear hi hz0 hz1 hz2
  by_cases hbig : 300 < l.length
  · go_enter Try.func9, Try.ntmps9
    go_wp2_with fail
    refine (awake_c w).mono ?_
    rintro e w1 ⟨rfl, ho1⟩
    have HO1 := Lib.hid ho1; clear ho1
    go_wp2
    go_ret
    exact ⟨rfl, HO1.out.below (by simp) (Nat.le_refl _)⟩
  go_enter Try.func9, Try.ntmps9
  go_wp2_with fail
  refine (awake_c w).mono ?_
  rintro e w1 ⟨rfl, ho1⟩
  have HO1 := Lib.hid ho1
  have HV1 := Lib.hid (HV.out.only ho1 (by simp))
  clear ho1
  go_wp2_with fail
  refine (fread_nil n w1).mono ?_
  rintro e w' ⟨rfl, rfl⟩
  go_wp2_with fail
  refine (fback_nil n w1).mono ?_
  rintro e w' ⟨rfl, rfl⟩
  go_wp2_with fail
  refine (write_nil 1 1 w1).mono ?_
  rintro e w' ⟨rfl, rfl⟩
  obtain ⟨v2, w2, hrun2, hov2, hg2⟩ := run_append_vs (P := Try.prog) (ty := 22) Try.underlying22 HI.out HZ0.out HZ1.out HZ2.out rfl (OV.nil w1 w1.heap.size 5) (VS.of_bs HV1.out) (u8s_one l) (by simp [maxLen]; omega) (by simp; omega) (Nat.le_refl _)
  rw [List.nil_append] at hov2
  have ho2 : Only [] w1 w2 := Only.of_grown hg2
  obtain ⟨a2, n2, c2, rfl⟩ : ∃ a n c, v2 = .slice a n c := by obtain ⟨a, c, h, _⟩ := hov2.slice; exact ⟨a, _, c, h⟩
  obtain ⟨v3, w3, hrun3, hov3, hg3⟩ := run_append_one (P := Try.prog) (ty := 22) (T := 5) (fr := (0, 0)) (u := .int .u8 0) Try.underlying22 HI.out HZ0.out HZ1.out HZ2.out rfl hov2 rfl (by simp [maxLen]; omega) (by simp; omega) ho2.size
  have ho3 : Only [] w1 w3 := (ho2.alloc (.cells #[.int .u8 0] 5)).trans (Only.of_grown hg3) (by simp) (by
    intro c hc
    have := hov2.lt (c := c) (by simpa [eq_comm] using hc)
    exact .inr this.1)
  have hbs3 : BS w3 v3 (l ++ [0]) := BS.of_vs (by have := hov3.vs; rw [show l.map u8v ++ [Value.int .u8 0] = (l ++ [0]).map u8v by rw [List.map_append]; rfl] at this; exact this)
  have HRUN2 := Lib.hid hrun2; have HRUN3 := Lib.hid hrun3; have HO3 := Lib.hid (HO1.out.then ho3); have HBS3 := Lib.hid hbs3
  clear hrun2 hrun3 hov2 hov3 hg2 hg3 ho2 ho3 hbs3
  obtain ⟨a3, n3, c3, rfl⟩ : ∃ a n c, v3 = .slice a n c := by obtain ⟨a, c, h, _⟩ := HBS3.out; exact ⟨a, _, c, h⟩
  go_wp2_with (at_builtin; first | (refine wpList_append_run rfl _ _ _ rfl rfl rfl HRUN2.out ?_) | (refine wpList_append_run rfl _ _ _ rfl rfl rfl HRUN3.out ?_))
  refine (newback_no w3 _ (l ++ [0]) HBS3.out (fun h => by simp) (by simp; omega)).mono ?_
  rintro e w' ⟨rfl, rfl⟩
  go_wp2_with (first
    | (go_at_call 23; refine (fused_nil _).mono ?_; rintro e w' ⟨rfl, rfl⟩)
    | (go_at_call 13; refine (bread_nil n _).mono ?_; rintro e w' ⟨rfl, rfl⟩)
    | (go_at_call 15; refine (bleft_nil _).mono ?_; rintro e w' ⟨rfl, rfl⟩)
    | (go_at_call 29; refine (out_nil _).mono ?_; rintro e w' ⟨rfl, rfl⟩)
    | (go_at_call 28; refine (closed_nil _).mono ?_; rintro e w' ⟨rfl, rfl⟩))
  go_ret
  exact ⟨rfl, HO3.out.below (by simp) (Nat.le_refl _)⟩
end Go.Proofs.Ytdpeajbjnennnaa.bit
