/-
  The law ShaSums, walked. No condition.
-/
import Derived.Test.YtpabdkkdimeejaaDoorShaEq
import Derived.Test.YtpabdkkdimeejaaDoorShaRefOf
import Derived.Deep.QuietTactic
import Derived.BigQuiet
set_option linter.unusedVariables false
set_option linter.unusedSimpArgs false
namespace Go.Proofs.YtpabdkkdimeejaaDoor.sha
open Go Go.RowKit Go.Lm

theorem flatten_take {α : Type} (ls : List (List α)) (k : Nat) (h : k < ls.length) : (ls.take (k + 1)).flatten = (ls.take k).flatten ++ ls[k] := by
  rw [List.take_succ_eq_append_getElem h, List.flatten_append]; simp

set_option maxHeartbeats 1000000 in
theorem sums_c (w : World) (hT : Tab w) (v : Value) (ls : List (List UInt8)) (hv : BSS w v ls) :
    Calls Tryd.prog 3 #[v] w fun e w' => e = .returned (.bool true) ∧ Below w.heap.size w w' := by
  have HT := Lib.hid hT; clear hT
  obtain ⟨a, cap, rfl, hc1, hc2, hcl⟩ := hv
  have HC := Lib.hid hcl; clear hcl
  unfold maxLen at hc2
  by_cases hg1 : 20 < ls.length
  · go_enter Tryd.func3, Tryd.ntmps3
    go_wp2_with fail
    refine (awake_c w HT.out).mono ?_
    rintro e w1 ⟨rfl, ho1⟩
    have HO1 := Lib.hid ho1; clear ho1
    go_wp2
    go_ret
    exact ⟨rfl, HO1.out.below (by simp) (Nat.le_refl _)⟩
  go_enter Tryd.func3, Tryd.ntmps3
  go_wp2_with fail
  refine (awake_c w HT.out).mono ?_
  rintro e w1 ⟨rfl, ho1⟩
  have HO1 := Lib.hid ho1; clear ho1
  go_wp2_with fail
  refine (new_c w1).mono ?_
  rintro e w2 ⟨rfl, hb2, ho2⟩
  have ho2 := HO1.out.then ho2
  have hlt : w.heap.size ≤ w1.heap.size := HO1.out.size
  have hB0 : w1.heap.size ≠ 0 := by have := tab_zero HT.out; omega
  generalize w1.heap.size = B at hb2 hlt hB0 ⊢
  have HB2 := Lib.hid hb2; clear hb2
  have HO2 := Lib.hid ho2; clear ho2 HO1
  go_wp2_with fail
  go_loopw [5, 6] (fun all i wr => ∃ k : Nat, ∃ s : ByteArray, k ≤ ls.length ∧ i = .int .i64 k ∧ all = .string s ∧ s.data.toList = (ls.take k).flatten ∧ s.size ≤ 500 * k ∧ HB wr B s.data.toList ∧ Only [] w wr) (fun _ i _ => ls.length - (intOf i).toNat)
  case atStart => exact ⟨0, _, Nat.zero_le _, rfl, rfl, rfl, Nat.le_refl _, HB2.out, HO2.out⟩
  case round =>
    obtain ⟨k, s, hk, rfl, rfl, hs1, hs2, hbr, hor⟩ := hrel
    have HBR := Lib.hid hbr; clear hbr
    have HOR := Lib.hid hor; clear hor
    have HS1 := Lib.hid hs1; clear hs1
    clear HB2 HO2
    have hsl := len_data s
    by_cases hkc : k < ls.length
    · have hft := flatten_take ls k hkc
      have HFT := Lib.hid hft; clear hft
      obtain ⟨c, off, u, rfl, hcw, hbs⟩ := HC.out k hkc
      have hclt : c < w.heap.size := World.block_lt_of_cell? w _ hcw
      have hcell := HOR.out.cell hcw (by simp)
      have HCW := Lib.hid hcw; clear hcw
      have hbs0 := hbs
      generalize ls[k] = l at hbs hbs0 HFT
      obtain ⟨a', cap', rfl, h1, h2, h3, h4⟩ := hbs
      unfold maxLen at h2
      have HBS := Lib.hid hbs0; clear hbs0 h3 h4
      by_cases hbig : 500 < l.length
      · clear hsl
        go_wp2
        go_ret
        exact ⟨rfl, HOR.out.below (by simp) (Nat.le_refl _)⟩
      · have HSL := Lib.hid hsl; clear hsl
        go_wp2_with fail
        refine (write_c B wr _ HBR.out (HT.out.only HOR.out (by simp)) hB0 _ l (HBS.out.only HOR.out (by simp)) (HBS.out.ne hlt) (by have := HSL.out; omega)).mono ?_
        rintro e w3 ⟨rfl, hb3, ho3⟩
        have ho3 := HOR.out.trans ho3 (S := []) (by simp) (by simp; omega)
        have hc3 := ho3.cell HCW.out (by simp)
        have hstr := run_string_of_bytes (P := Tryd.prog) Tryd.underlying26 Tryd.underlying5 Tryd.underlying9 (HBS.out.only ho3 (by simp))
        have HB3 := Lib.hid hb3; clear hb3
        have HO3 := Lib.hid ho3; clear ho3 HBR HOR hcell
        have hsz : (s ++ (⟨l.toArray⟩ : ByteArray)).size ≤ 500 * (k + 1) := by rw [ByteArray.size_append]; show s.size + l.toArray.size ≤ _; simp; omega
        have hdl : (s ++ (⟨l.toArray⟩ : ByteArray)).data.toList = s.data.toList ++ l := by simp
        have HSZ := Lib.hid hsz; clear hsz
        have HDL := Lib.hid hdl; clear hdl
        go_wp2_with fail
        rw [← HDL.out] at HB3
        generalize s ++ (⟨l.toArray⟩ : ByteArray) = s' at HSZ HDL HB3 ⊢
        refine (sum_d B w3 _ HB3.out (HT.out.only HO3.out (by simp)) (by rw [len_data]; have := HSZ.out; omega)).mono ?_
        rintro e w4 ⟨rfl, ho4⟩
        have HB4 := Lib.hid (HB3.out.only ho4 (by simp)); have HO4 := Lib.hid (HO3.out.then ho4)
        clear ho4
        go_wp2_with fail
        refine (ref_c s' _ (by have := HSZ.out; omega)).mono ?_
        rintro e w5 ⟨rfl, ho5⟩
        have HB5 := Lib.hid (HB4.out.only ho5 (by simp)); have HO5 := Lib.hid (HO4.out.then ho5)
        have heq := neq_same s'.data.toList
        have hgd := fun x y w => guard_dv .neq (Sha.sum s'.data.toList) (Sha.sum s'.data.toList) x y w
        clear hc3 hstr ho5
        go_wp2
        go_roundw
        case rel => exact ⟨k + 1, s', by omega, by go_num, rfl, by rw [HDL.out, HFT.out, HS1.out], by have := HSZ.out; omega, HB5.out, HO5.out⟩
        case measure => simp [intOf]; omega
    · have HSL := Lib.hid hsl; clear hsl
      have heq := eql_same s.data.toList
      have hgd := fun x y w => guard_dv .eql (Sha.sum s.data.toList) (Sha.sum s.data.toList) x y w
      have HEQ := Lib.hid heq; have HGD := Lib.hid hgd
      clear heq hgd
      go_wp2_with fail
      refine (sum_d B wr _ HBR.out (HT.out.only HOR.out (by simp)) (by have := HSL.out; omega)).mono ?_
      rintro e w4 ⟨rfl, ho4⟩
      have HO4 := Lib.hid (HOR.out.then ho4)
      clear ho4
      go_wp2_with fail
      refine (ref_c s _ (by omega)).mono ?_
      rintro e w4' ⟨rfl, ho4'⟩
      have HO4' := Lib.hid (HO4.out.then ho4')
      clear ho4'
      have heq := HEQ.out; have hgd := HGD.out
      obtain ⟨v', w5, hrun, hbs5, ho5, hob5⟩ := run_new_bytes (P := Tryd.prog) w4' s Tryd.underlying9 Tryd.underlying26 Tryd.underlying5 (by unfold maxLen; omega)
      have HRUN := hrun
      clear hrun
      have HB5 := Lib.hid hbs5; clear hbs5
      have HO5 := Lib.hid (HO4'.out.then ho5); clear ho5
      go_wp2_with fail
      clear heq hgd
      refine (of_c w5 v' s.data.toList HB5.out (by rw [len_data]; omega) (HT.out.only HO5.out (by simp))).mono ?_
      rintro e w6 ⟨rfl, ho6⟩
      have HO6 := Lib.hid (HO5.out.then ho6); clear ho6
      go_wp2_with fail
      refine (ref_c s _ (by omega)).mono ?_
      rintro e w7 ⟨rfl, ho7⟩
      have HO7 := Lib.hid (HO6.out.then ho7); clear ho7
      have heq := HEQ.out; have hgd := HGD.out
      go_wp2
      go_ret
      exact ⟨by simp, HO7.out.below (by simp) (Nat.le_refl _)⟩
end Go.Proofs.YtpabdkkdimeejaaDoor.sha
