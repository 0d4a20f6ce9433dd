/-
  The law ShaPieces, walked: for every b and cuts. No condition.
-/
import Derived.Test.YtpabdkkdimeejaaDoorShaEq
import Derived.Deep.QuietTactic
import Derived.BigQuiet
set_option linter.unusedVariables false
set_option linter.unusedSimpArgs false
namespace Go.Proofs.YtpabdkkdimeejaaDoor.sha
open Go Go.RowKit Go.Lm

/-- A slice of 16-bit numbers. -/
def NS (w : World) (a : Option Addr) (l : List Nat) : Prop := ∀ k (h : k < l.length), ∃ b off, a = some ⟨b, off, none⟩ ∧ w.cell? ⟨b, off + k, none⟩ = some (.int .u16 (l[k] : Nat))

theorem ns_of_ints {w : World} {a : Option Addr} {zs : List Int} (h : ∀ k (h : k < zs.length), ∃ b off, a = some ⟨b, off, none⟩ ∧ w.cell? ⟨b, off + k, none⟩ = some (.int .u16 zs[k])) (hw : ∀ z ∈ zs, (Lit.int .u16 z).wf = true) : NS w a (zs.map Int.toNat) := by
  intro k hk
  simp only [List.length_map] at hk
  obtain ⟨b, off, ha, hc⟩ := h k hk
  refine ⟨b, off, ha, ?_⟩
  rw [hc]
  have := wf_u16 (hw zs[k] (by simp))
  simp only [List.getElem_map]
  congr 2
  omega
theorem toNat_lt16 {zs : List Int} (hw : ∀ z ∈ zs, (Lit.int .u16 z).wf = true) : ∀ x ∈ zs.map Int.toNat, x < 65536 := by
  intro x hx
  obtain ⟨z, hz, rfl⟩ := List.mem_map.1 hx
  have := wf_u16 (hw z hz)
  omega

set_option maxHeartbeats 400000 in
theorem pieces_c (w : World) (hT : Tab w) (v : Value) (l : List UInt8) (hv : BS w v l) (a : Option Addr) (cuts : List Nat) (cap : Nat) (hcu : NS w a cuts) (hc16 : ∀ x ∈ cuts, x < 65536) (hcm : cuts.length ≤ maxLen) :
    Calls Tryd.prog 5 #[v, .slice a cuts.length cap] w fun e w' => e = .returned (.bool true) ∧ Below w.heap.size w w' := by
  have HT := Lib.hid hT; clear hT
  have HV := Lib.hid hv; clear hv
  have HC := Lib.hid hcu; clear hcu
  have HC16 := Lib.hid hc16; clear hc16
  unfold maxLen at hcm
  obtain ⟨b, bcap, rfl, hb1, hb2, hb3, hb4⟩ := HV.out
  unfold maxLen at hb2
  have HB3 := Lib.hid hb3; clear hb3
  have HB4 := Lib.hid hb4; clear hb4
  by_cases hg1 : 1000 < l.length
  · go_enter Tryd.func5, Tryd.ntmps5
    go_wp2_with fail
    refine (awake_c w HT.out).mono ?_
    rintro e w1 ⟨rfl, ho1⟩
    have HO1 := Lib.hid ho1; clear ho1
    go_wp2
    go_ret
    exact ⟨rfl, HO1.out.below (by simp) (Nat.le_refl _)⟩
  by_cases hg2 : 30 < cuts.length
  · go_enter Tryd.func5, Tryd.ntmps5
    go_wp2_with fail
    refine (awake_c w HT.out).mono ?_
    rintro e w1 ⟨rfl, ho1⟩
    have HO1 := Lib.hid ho1; clear ho1
    go_wp2
    go_ret
    exact ⟨rfl, HO1.out.below (by simp) (Nat.le_refl _)⟩
  go_enter Tryd.func5, Tryd.ntmps5
  go_wp2_with fail
  refine (awake_c w HT.out).mono ?_
  rintro e w1 ⟨rfl, ho1⟩
  have HO1 := Lib.hid ho1; clear ho1
  go_wp2_with fail
  refine (new_c w1).mono ?_
  rintro e w2 ⟨rfl, hb2, ho2⟩
  have ho2 := HO1.out.then ho2
  have hlt : w.heap.size ≤ w1.heap.size := HO1.out.size
  have hB0 : w1.heap.size ≠ 0 := by have := tab_zero HT.out; omega
  generalize w1.heap.size = B at hb2 hlt hB0 ⊢
  have HB2 := Lib.hid hb2; clear hb2
  have HO2 := Lib.hid ho2; clear ho2 HO1
  go_wp2_with fail
  go_loopw [7, 8] (fun at_ i wr => ∃ k p : Nat, k ≤ cuts.length ∧ p ≤ l.length ∧ i = .int .i64 k ∧ at_ = .int .i64 p ∧ HB wr B (l.take p) ∧ Only [] w wr) (fun _ i _ => cuts.length - (intOf i).toNat)
  case atStart => exact ⟨0, 0, Nat.zero_le _, Nat.zero_le _, rfl, rfl, HB2.out, HO2.out⟩
  case round =>
    obtain ⟨k, p, hk, hp, rfl, rfl, hbr, hor⟩ := hrel
    have HBR := Lib.hid hbr; clear hbr
    have HOR := Lib.hid hor; clear hor
    clear HB2 HO2
    by_cases hkc : k < cuts.length
    · have hn' := HC.out k hkc
      obtain ⟨c, off, rfl, hcell⟩ := hn'
      have hcell := HOR.out.cell hcell (by simp)
      have h16 := HC16.out cuts[k] (by simp)
      generalize cuts[k] = x at hcell h16
      obtain ⟨m, hm⟩ : ∃ m : Nat, (m : Int) = (x : Int) % ((l.length : Int) - (p : Int) + 1) := ⟨((x : Int) % ((l.length : Int) - (p : Int) + 1)).toNat, by have := Int.emod_nonneg (x : Int) (show (l.length : Int) - (p : Int) + 1 ≠ 0 by omega); omega⟩
      have hm4 : p + m ≤ l.length := by have := Int.emod_lt_of_pos (x : Int) (show 0 < (l.length : Int) - (p : Int) + 1 by omega); omega
      have e1 : (x : Int) % ((l.length : Int) - (p : Int) + 1) = (m : Int) := hm.symm
      clear hm
      have hs1 := run_sub_lh (P := Tryd.prog) Tryd.underlying26 (by kernel_rfl : (Tryd.prog.info? 5).map (·.size) = some 1) b l.length bcap p (p + m) (by omega) (by omega)
      rw [show ((p + m : Nat) : Int) = (p : Int) + m by omega] at hs1
      go_wp2_with fail
      rw [e1]
      refine (write_c B wr _ HBR.out (HT.out.only HOR.out (by simp)) hB0 _ ((l.take (p + m)).drop p) ((HV.out.only HOR.out (by simp)).sub p (p + m) (by omega) hm4)
        (HV.out.sub_ne hlt) (by simp; omega)).mono ?_
      rintro e w3 ⟨rfl, hb3, ho3⟩
      rw [take_drop_cat l (by omega)] at hb3
      have ho3 := HOR.out.trans ho3 (S := []) (by simp) (by simp; omega)
      have HB3' := Lib.hid hb3; clear hb3
      have HO3 := Lib.hid ho3; clear ho3 HBR HOR
      have hs2 := run_sub_h (P := Tryd.prog) Tryd.underlying26 (by kernel_rfl : (Tryd.prog.info? 5).map (·.size) = some 1) b l.length bcap (p + m) (by omega)
      rw [show ((p + m : Nat) : Int) = (p : Int) + m by omega] at hs2
      clear hs1 e1 hcell h16
      go_wp2_with fail
      have hof := fun x : Later [] w3 => of_c x.at' (subv b bcap 0 (p + m)) (l.take (p + m)) (by
        have := ((HV.out.only HO3.out (by simp)).only x.only (by simp)).sub 0 (p + m) (by omega) hm4
        simpa using this) (by simp; omega) ((HT.out.only HO3.out (by simp)).only x.only (by simp))
      have HOF := Lib.hid hof; clear hof
      have heq := neq_same (l.take (p + m))
      have hgd := fun x y w => guard_dv .neq (Sha.sum (l.take (p + m))) (Sha.sum (l.take (p + m))) x y w
      refine wp_region_later [] (by kernel_rfl) (by kernel_rfl) ?_
      repeat (go_big_quiet_step (first
        | (go_at_call 10; exact Calls.later_nil (sum_d B _ _ (HB3'.out.only (Later.only _) (by simp)) ((HT.out.only HO3.out (by simp)).only (Later.only _) (by simp)) (by simp; omega)))
        | (go_at_call 12; exact Calls.later_nil (HOF.out _))))
      refine wpQuiet_nil ?_
      rintro _ ⟨x, rfl⟩
      have hox := x.only
      have hbx := HB3'.out.only hox (by simp)
      generalize x.at' = w4 at hox hbx ⊢
      have HOX : Hid (Only [] w w4) := HO3.out.then hox
      have HBX := Lib.hid hbx; clear hbx hox HB3' HO3 heq hgd
      go_wp2
      go_roundw
      case rel => exact ⟨k + 1, p + m, by omega, hm4, by go_num, by go_num, HBX.out, HOX.out⟩
      case measure => simp [intOf]; omega
    · have hs3 := run_sub_l (P := Tryd.prog) Tryd.underlying26 (by kernel_rfl : (Tryd.prog.info? 5).map (·.size) = some 1) b l.length bcap p hp
      go_wp2_with fail
      refine (write_c B wr _ HBR.out (HT.out.only HOR.out (by simp)) hB0 _ ((l.take l.length).drop p) ((HV.out.only HOR.out (by simp)).sub p l.length hp (Nat.le_refl _)) (HV.out.sub_ne hlt) (by simp; omega)).mono ?_
      rintro e w3 ⟨rfl, hb3, ho3⟩
      rw [take_drop_cat l hp, List.take_length] at hb3
      have ho3 := HOR.out.trans ho3 (S := []) (by simp) (by simp; omega)
      have HB3' := Lib.hid hb3; clear hb3
      have HO3 := Lib.hid ho3; clear ho3 HBR HOR hs3
      have hlm : l.length ≤ 100000000 := by omega
      have HLM := Lib.hid hlm; clear hlm
      go_wp2_with fail
      refine (write_none w3 _).mono ?_
      rintro e w4 ⟨rfl, rfl⟩
      go_wp2_with fail
      refine (sum_d B _ l HB3'.out (HT.out.only HO3.out (by simp)) HLM.out).mono ?_
      rintro e w5 ⟨rfl, ho5⟩
      have HB5 := Lib.hid (HB3'.out.only ho5 (by simp)); have HO5 := Lib.hid (HO3.out.then ho5); clear ho5
      go_wp2_with fail
      refine (of_c _ _ l (HV.out.only HO5.out (by simp)) HLM.out (HT.out.only HO5.out (by simp))).mono ?_
      rintro e w6 ⟨rfl, ho6⟩
      have HB6 := Lib.hid (HB5.out.only ho6 (by simp)); have HO6 := Lib.hid (HO5.out.then ho6); clear ho6
      have heq := eql_same l
      have hgd := fun x y w => guard_dv .eql (Sha.sum l) (Sha.sum l) x y w
      have HEQ := Lib.hid heq; have HGD := Lib.hid hgd
      go_wp2_with fail
      clear heq hgd
      refine (sum_d B _ l HB6.out (HT.out.only HO6.out (by simp)) HLM.out).mono ?_
      rintro e w7 ⟨rfl, ho7⟩
      have HB7 := Lib.hid (HB6.out.only ho7 (by simp)); have HO7 := Lib.hid (HO6.out.then ho7); clear ho7
      go_wp2_with fail
      refine (sum_d B _ l HB7.out (HT.out.only HO7.out (by simp)) HLM.out).mono ?_
      rintro e w8 ⟨rfl, ho8⟩
      have HO8 := Lib.hid (HO7.out.then ho8); clear ho8
      have heq := HEQ.out; have hgd := HGD.out
      go_wp2_with fail
      clear heq hgd
      refine (sum_none _ (HT.out.only HO8.out (by simp))).mono ?_
      rintro e w9 ⟨rfl, ho9⟩
      have HO9 := Lib.hid (HO8.out.then ho9); clear ho9
      go_wp2_with fail
      refine (of_c _ _ [] (BS.nil _) (by simp) (HT.out.only HO9.out (by simp))).mono ?_
      rintro e w10 ⟨rfl, ho10⟩
      have HO10 := Lib.hid (HO9.out.then ho10); clear ho10
      have heq := eql_same []
      have hgd := fun x y w => guard_dv .eql (Sha.sum []) (Sha.sum []) x y w
      go_wp2
      go_ret
      exact ⟨by simp, HO10.out.below (by simp) (Nat.le_refl _)⟩
end Go.Proofs.YtpabdkkdimeejaaDoor.sha
