/-
  THE WALKS of slices.Index and slices.Contains of bools; what one that is none answers.
-/
import Derived.Test.YtidkadlmnidmoaaArqAsk
set_option linter.unusedVariables false
set_option linter.unusedSimpArgs false
namespace Go.Lm.Arq
/-- Where the first one is, or none. -/
def idx (L : List Bool) (b : Bool) : Int := if L.contains b then (L.findIdx (· == b) : Int) else -1
end Go.Lm.Arq
namespace Go.Proofs.Ytidkadlmnidmoaa.arq
open Go Go.RowKit Go.Lm

set_option maxHeartbeats 2000000 in
theorem index_c (w : World) (v : Value) (h : List Bool) (b : Bool) (hv : VS w v (bl h)) (hl : h.length ≤ 1000000) : Calls Try.prog 34 #[v, .bool b] w fun e w' => (∃ k : Int, e = .returned (.int .i64 k) ∧ (0 ≤ k ↔ b ∈ h) ∧ -1 ≤ k ∧ k ≤ 1000000) ∧ Only [] w w' := by
  have HV := Lib.hid hv
  obtain ⟨a, cap, hve, h1, h2, -, -⟩ := hv
  obtain ⟨n, hn⟩ : ∃ n, h.length = n := ⟨_, rfl⟩
  rw [show (bl h).length = n by simp [bl, hn]] at hve h1
  subst hve
  unfold maxLen at h2
  rw [hn] at hl
  have HN := Lib.hid hn
  clear hn
  go_enter Try.func34, Try.ntmps34
  go_wp2_with fail
  go_loopw [8] (fun i wr => ∃ k : Nat, k ≤ n ∧ i = .int .i64 (k : Nat) ∧ (b ∉ h.take k) ∧ Only [] w wr) (fun i _ => n - (intOf i).toNat)
  case atStart => exact ⟨0, Nat.zero_le _, rfl, by simp, Only.refl _ _⟩
  case round =>
    obtain ⟨k, hk, rfl, hno, ho⟩ := hrel
    have HNO := Lib.hid hno; have HO := Lib.hid ho
    clear hno ho
    by_cases hlt : k < n
    · have hltI : (k : Int) < (n : Int) := by omega
      have hkl : k < h.length := by rw [HN.out]; exact hlt
      obtain ⟨bb, off, rfl, hc⟩ := vs_bit (HV.out.only HO.out (by simp)) k hkl
      have hts : h.take (k + 1) = h.take k ++ [h[k]] := List.take_succ_eq_append_getElem hkl
      have hmem : h[k] ∈ h := List.getElem_mem hkl
      obtain ⟨x, hx⟩ : ∃ x, h[k] = x := ⟨_, rfl⟩
      rw [hx] at hc hts hmem
      by_cases hbx : b = x
      · subst hbx
        have HM := Lib.hid hmem
        clear hts hmem hx hkl
        go_wp2
        go_ret
        exact ⟨⟨(k : Int), rfl, ⟨fun _ => HM.out, fun _ => by omega⟩, by omega, by omega⟩, HO.out⟩
      · have hno2 : b ∉ h.take (k + 1) := by rw [hts, List.mem_append]; simp [hbx]; exact HNO.out
        have HNO2 := Lib.hid hno2
        have hbe : (b == x) = false := by rw [beq_eq_false_iff_ne]; exact hbx
        clear hts hmem hx hkl hno2
        go_wp2
        go_roundw
        case rel => exact ⟨k + 1, by omega, by go_num, HNO2.out, HO.out⟩
        case measure => simp [intOf]; omega
    · obtain rfl : k = n := by omega
      have hno := HNO.out
      rw [List.take_of_length_le (by rw [HN.out]; omega)] at hno
      have HNO2 := Lib.hid hno
      clear hno
      go_wp2
      go_ret
      exact ⟨⟨-1, rfl, ⟨fun h => by omega, fun h => absurd h HNO2.out⟩, by omega, by omega⟩, HO.out⟩

theorem contains_c (w : World) (v : Value) (h : List Bool) (b : Bool) (hv : VS w v (bl h)) (hl : h.length ≤ 1000000) : Calls Try.prog 25 #[v, .bool b] w fun e w' => e = .returned (.bool (decide (b ∈ h))) ∧ Only [] w w' := by
  have HV := Lib.hid hv
  clear hv
  go_enter Try.func25, Try.ntmps25
  go_wp2_with fail
  refine (index_c w v h b HV.out hl).mono ?_
  rintro e w' ⟨⟨k, rfl, hk, hk1, hk2⟩, ho⟩
  have HO := Lib.hid ho
  have hd : decide (0 ≤ k) = decide (b ∈ h) := by rw [Bool.eq_iff_iff, decide_eq_true_iff, decide_eq_true_iff]; exact hk
  have HD := Lib.hid hd
  clear ho hd hk
  go_wp2
  go_ret
  exact ⟨by rw [← HD.out]; rfl, HO.out⟩

theorem count_nil (w : World) : Calls Try.prog 13 #[.pointer none] w fun e w' => e = .returned (.int .i64 0) ∧ w = w' := by
  go_enter Try.func13, Try.ntmps13
  go_wp2
  go_ret
  exact ⟨rfl, rfl⟩
theorem have_nil (w : World) : Calls Try.prog 14 #[.pointer none] w fun e w' => e = .returned (.slice none 0 0) ∧ w = w' := by
  go_enter Try.func14, Try.ntmps14
  go_wp2
  go_ret
  exact ⟨rfl, rfl⟩
theorem whole_nil (w : World) : Calls Try.prog 12 #[.pointer none] w fun e w' => e = .returned (.tuple #[.slice none 0 0, .bool false]) ∧ w = w' := by
  go_enter Try.func12, Try.ntmps12
  go_wp2
  go_ret2
  exact ⟨rfl, rfl⟩
theorem add_nil (w : World) (i : Int) (v : Value) : Calls Try.prog 11 #[.pointer none, .int .i64 i, v] w fun e w' => e = .returned (.tuple #[.bool false, .int .i64 1]) ∧ w = w' := by
  go_enter Try.func11, Try.ntmps11
  go_wp2
  go_ret2
  exact ⟨rfl, rfl⟩
end Go.Proofs.Ytidkadlmnidmoaa.arq
