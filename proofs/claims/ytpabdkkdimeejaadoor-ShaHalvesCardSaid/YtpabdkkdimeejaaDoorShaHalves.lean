/-
  The law ShaHalves, walked: for every a, b and n. No condition.
-/
import Derived.Test.YtpabdkkdimeejaaDoorShaEq
set_option linter.unusedVariables false
set_option linter.unusedSimpArgs false
namespace Go.Proofs.YtpabdkkdimeejaaDoor.sha
open Go Go.RowKit Go.Lm

/-- So many times. -/
def rep (l : List UInt8) : Nat → List UInt8
  | 0 => []
  | n + 1 => rep l n ++ l
theorem rep_length (l : List UInt8) : ∀ n, (rep l n).length = n * l.length
  | 0 => by simp [rep]
  | n + 1 => by rw [rep, List.length_append, rep_length l n, Nat.succ_mul]
theorem info_u8s : (Tryd.prog.info? 5).map (fun i => (i.zero, i.size, i.bytes)) = some (some (.int .u8 0), 1, 1) := by kernel_rfl

set_option maxHeartbeats 2000000 in
theorem halves_c (w : World) (hT : Tab w) (v : Value) (l : List UInt8) (hv : BS w v l) (v2 : Value) (l2 : List UInt8) (hv2 : BS w v2 l2) (n : Int) (hn0 : 0 ≤ n) (hn1 : n < 256) :
    Calls Tryd.prog 6 #[v, v2, .int .u8 n] w fun e w' => e = .returned (.bool true) ∧ Below w.heap.size w w' := by
  obtain ⟨i0, hi, hz0, hz1, hz2⟩ := info_parts info_u8s
  have HI := Lib.hid hi; have HZ0 := Lib.hid hz0; have HZ1 := Lib.hid hz1; have HZ2 := Lib.hid hz2
  clear hi hz0 hz1 hz2
  have HT := Lib.hid hT; clear hT
  have HV := Lib.hid hv; have HV2 := Lib.hid hv2
  obtain ⟨a, cap, rfl, h1, h2, h3, h4⟩ := hv
  obtain ⟨a', cap', rfl, h1', h2', h3', h4'⟩ := hv2
  unfold maxLen at h2 h2'
  clear h3 h4 h3' h4'
  by_cases hg1 : 500 < l.length
  · go_enter Tryd.func6, Tryd.ntmps6
    go_wp2_with fail
    refine (awake_c w HT.out).mono ?_
    rintro e w1 ⟨rfl, ho1⟩
    have HO1 := Lib.hid ho1; clear ho1
    go_wp2
    go_ret
    exact ⟨rfl, HO1.out.below (by simp) (Nat.le_refl _)⟩
  by_cases hg2 : 500 < l2.length
  · go_enter Tryd.func6, Tryd.ntmps6
    go_wp2_with fail
    refine (awake_c w HT.out).mono ?_
    rintro e w1 ⟨rfl, ho1⟩
    have HO1 := Lib.hid ho1; clear ho1
    go_wp2
    go_ret
    exact ⟨rfl, HO1.out.below (by simp) (Nat.le_refl _)⟩
  go_enter Tryd.func6, Tryd.ntmps6
  go_wp2_with fail
  refine (awake_c w HT.out).mono ?_
  rintro e w1 ⟨rfl, ho1⟩
  have HO1 := Lib.hid ho1; clear ho1
  go_wp2_with fail
  refine (new_c w1).mono ?_
  rintro e w2 ⟨rfl, hb2, ho2⟩
  have hlt : w.heap.size ≤ w1.heap.size := HO1.out.size
  have hB0 : w1.heap.size ≠ 0 := by have := tab_zero HT.out; omega
  obtain ⟨B, hBB⟩ : ∃ B, w1.heap.size = B := ⟨_, rfl⟩
  rw [hBB] at hb2 hlt hB0 ⊢
  have HB2 := Lib.hid hb2; have HO2 := Lib.hid (HO1.out.then ho2)
  clear hb2 ho2 hBB
  go_wp2_with fail
  refine (new_c w2).mono ?_
  rintro e w3 ⟨rfl, hb3, ho3⟩
  have hBG : B < w2.heap.size := HB2.out.lt
  obtain ⟨G, hGG⟩ : ∃ G, w2.heap.size = G := ⟨_, rfl⟩
  rw [hGG] at hb3 hBG ⊢
  have HG3 := Lib.hid hb3; have HB3 := Lib.hid (HB2.out.only ho3 (by simp)); have HO3 := Lib.hid (HO2.out.then ho3)
  clear hb3 ho3 hGG HB2 HO2 HO1
  obtain ⟨m, hm⟩ : ∃ m : Nat, (m : Int) = n % 5 := ⟨(n % 5).toNat, by omega⟩
  have hm4 : m < 5 := by omega
  have e1 : n % 5 = (m : Int) := hm.symm
  clear hm
  go_upto_region 9 with fail
  go_loopw [10] (fun i wr => ∃ k : Nat, k ≤ m ∧ i = .int .i64 k ∧ HB wr B (rep (l ++ l2) k) ∧ HB wr G (rep (l ++ l2) k) ∧ Only [] w wr) (fun i _ => m - (intOf i).toNat)
  case atStart => exact ⟨0, by omega, rfl, HB3.out, HG3.out, HO3.out⟩
  case round =>
    obtain ⟨k, hk, rfl, hbr, hgr, hor⟩ := hrel
    have HBR := Lib.hid hbr; have HGR := Lib.hid hgr; have HOR := Lib.hid hor
    clear hbr hgr hor HB3 HG3 HO3
    have hrl := rep_length (l ++ l2) k
    have hrl2 : (rep (l ++ l2) k).length ≤ 5000 := by
      rw [hrl, List.length_append]
      exact Nat.le_trans (Nat.mul_le_mul (show k ≤ 5 by omega) (show l.length + l2.length ≤ 1000 by omega)) (by omega)
    have HRL := Lib.hid hrl2; clear hrl hrl2
    by_cases hkm : k < m
    · have hxl : (l.length : Int) ≤ 500 := by omega
      go_wp2_with fail
      refine (write_c B wr _ HBR.out (HT.out.only HOR.out (by simp)) hB0 _ l (HV.out.only HOR.out (by simp)) (HV.out.ne hlt) (by have := HRL.out; omega)).mono ?_
      rintro e w4 ⟨rfl, hb4, ho4⟩
      have HB4 := Lib.hid hb4; have HG4 := Lib.hid (HGR.out.only ho4 (by simp; omega)); have HO4 := Lib.hid (only_own HOR.out ho4 hlt)
      clear hb4 ho4 HBR HGR HOR
      go_wp2_with fail
      refine (write_c B w4 _ HB4.out (HT.out.only HO4.out (by simp)) hB0 _ l2 (HV2.out.only HO4.out (by simp)) (HV2.out.ne hlt) (by have := HRL.out; simp; omega)).mono ?_
      rintro e w5 ⟨rfl, hb5, ho5⟩
      rw [List.append_assoc] at hb5
      have HB5 := Lib.hid hb5; have HG5 := Lib.hid (HG4.out.only ho5 (by simp; omega)); have HO5 := Lib.hid (only_own HO4.out ho5 hlt)
      clear hb5 ho5 HB4 HG4 HO4
      have hvs5 : VS w5 (.slice a l.length cap) (l.map u8v) := VS.of_bs (HV.out.only HO5.out (by simp))
      obtain ⟨c1, w6, hrun1, hov1, hg1'⟩ := run_append_vs (P := Tryd.prog) (ty := 26) Tryd.underlying26 HI.out HZ0.out HZ1.out HZ2.out rfl (OV.nil w5 w5.heap.size 5) hvs5 (by intro u hu; simp only [List.mem_map] at hu; obtain ⟨_, _, rfl⟩ := hu; rfl) (by unfold maxLen; simp; omega) (by simp; omega) (Nat.le_refl _)
      have ho6 : Only [] w5 w6 := Only.of_grown hg1'
      rw [List.nil_append] at hov1
      have HB6 := Lib.hid (HB5.out.only ho6 (by simp)); have HG6 := Lib.hid (HG5.out.only ho6 (by simp)); have HO6 := Lib.hid (HO5.out.then ho6)
      have HG5L : Hid (G < w5.heap.size) := HG5.out.lt
      have HOV1 := Lib.hid hov1; have HRUN1 := Lib.hid hrun1; have HLE6 : Hid (w5.heap.size ≤ w6.heap.size) := ho6.size
      clear hvs5 hrun1 hov1 hg1' ho6 HB5 HG5
      go_upto_region 15 with ((at_builtin; refine wpList_append_run rfl _ _ _ rfl rfl rfl HRUN1.out ?_))
      have hvs6 : VS w6 (.slice a' l2.length cap') (l2.map u8v) := VS.of_bs (HV2.out.only HO6.out (by simp))
      obtain ⟨c2, w7, hrun2, hov2, hg2'⟩ := run_append_vs (P := Tryd.prog) (ty := 26) Tryd.underlying26 HI.out HZ0.out HZ1.out HZ2.out rfl HOV1.out hvs6 (by intro u hu; simp only [List.mem_map] at hu; obtain ⟨_, _, rfl⟩ := hu; rfl) (by unfold maxLen; simp; omega) (by simp; omega) HLE6.out
      have ho7 := Only.of_grown hg2'
      have hblk : ∀ q, c1.ownBlock = some q → G < q := fun q hq => by have := (HOV1.out.lt hq).1; have := HG5L.out; omega
      have HB7 := Lib.hid (HB6.out.only ho7 (by intro hm; have := hblk B (by simpa using hm); omega)); have HG7 := Lib.hid (HG6.out.only ho7 (by intro hm; have := hblk G (by simpa using hm); omega))
      have HO7 : Hid (Only [] w w7) := HO6.out.trans ho7 (by simp) (fun q hq => .inr (by have := hblk q (by simpa using hq); omega))
      rw [← List.map_append] at hov2
      have HOV2 := Lib.hid hov2; have HRUN2 := Lib.hid hrun2
      clear hvs6 hrun2 hov2 hg2' ho7 hblk HB6 HG6
      go_wp2_with ((at_builtin; refine wpList_append_run rfl _ _ _ rfl rfl rfl HRUN2.out ?_))
      refine (write_c G w7 _ HG7.out (HT.out.only HO7.out (by simp)) (by omega) _ (l ++ l2) (BS.of_vs HOV2.out.vs) (fun q hq _ => by have := (HOV2.out.lt hq).1; have := HG5L.out; omega) (by have := HRL.out; simp; omega)).mono ?_
      rintro e w8 ⟨rfl, hb8, ho8⟩
      have HG8 := Lib.hid hb8; have HB8 := Lib.hid (HB7.out.only ho8 (by simp; omega)); have HO8 := Lib.hid (only_own HO7.out ho8 (by omega))
      clear hb8 ho8
      go_wp2_with fail
      go_roundw
      case rel => exact ⟨k + 1, by omega, by go_num, HB8.out, HG8.out, HO8.out⟩
      case measure => simp [intOf]; omega
    · obtain ⟨L, hL⟩ : ∃ L, rep (l ++ l2) k = L := ⟨_, rfl⟩
      rw [hL] at HBR HGR HRL
      have heq := eql_same L
      have hgd := fun x y w => guard_dv .eql (Sha.sum L) (Sha.sum L) x y w
      have HEQ := Lib.hid heq; have HGD := Lib.hid hgd
      clear heq hgd hL
      go_wp2_with fail
      refine (sum_d B _ L HBR.out (HT.out.only HOR.out (by simp)) (by have := HRL.out; omega)).mono ?_
      rintro e w5 ⟨rfl, ho5⟩
      have HB5 := Lib.hid (HBR.out.only ho5 (by simp)); have HG5 := Lib.hid (HGR.out.only ho5 (by simp)); have HO5 := Lib.hid (HOR.out.then ho5); clear ho5
      go_wp2_with fail
      refine (sum_d G _ L HG5.out (HT.out.only HO5.out (by simp)) (by have := HRL.out; omega)).mono ?_
      rintro e w6 ⟨rfl, ho6⟩
      have HB6 := Lib.hid (HB5.out.only ho6 (by simp)); have HO6 := Lib.hid (HO5.out.then ho6); clear ho6
      have heq := HEQ.out; have hgd := HGD.out
      go_wp2_with fail
      clear heq hgd
      refine (sum_d B _ L HB6.out (HT.out.only HO6.out (by simp)) (by have := HRL.out; omega)).mono ?_
      rintro e w7 ⟨rfl, ho7⟩
      have HB7 := Lib.hid (HB6.out.only ho7 (by simp)); have HO7 := Lib.hid (HO6.out.then ho7); clear ho7
      go_wp2_with fail
      refine (sum_d B _ L HB7.out (HT.out.only HO7.out (by simp)) (by have := HRL.out; omega)).mono ?_
      rintro e w8 ⟨rfl, ho8⟩
      have HO8 := Lib.hid (HO7.out.then ho8); clear ho8
      have heq := HEQ.out; have hgd := HGD.out
      go_wp2
      go_ret
      exact ⟨by simp, HO8.out.below (by simp) (Nat.le_refl _)⟩
end Go.Proofs.YtpabdkkdimeejaaDoor.sha
