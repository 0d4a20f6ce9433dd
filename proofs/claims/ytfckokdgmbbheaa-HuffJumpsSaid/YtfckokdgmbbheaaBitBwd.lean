/-
  BitsBackward, walked.
-/
import Derived.Test.YtfckokdgmbbheaaBitFwd
set_option linter.unusedVariables false
set_option linter.unusedSimpArgs false
namespace Go.Proofs.Ytfckokdgmbbheaa.bit
open Go Go.RowKit Go.Lm

theorem refnew_no (w : World) (s : ByteArray) (hz : ∀ h : s.data.toList ≠ [], (s.data.toList.getLast h).toNat = 0) (hs : s.size ≤ 1000000) : Calls Try.prog 47 #[.string s] w fun e w' =>
    e = .returned (.tuple #[.agg #[.slice none 0 0, .int .i64 0], .int .i64 11]) ∧ Only [] w w' := by
  have hls : s.data.toList.length = s.size := len_data s
  by_cases h0 : s.size = 0
  · have hemp : s.data.toList.isEmpty = true := by rw [List.isEmpty_iff, ← List.length_eq_zero_iff, hls]; exact h0
    have hse : s = ⟨#[]⟩ := by
      have : s.data.toList = [] := by rw [← List.length_eq_zero_iff, hls]; exact h0
      cases s with | mk d => simp at this; simp [this]
    subst hse
    clear hz hls hemp h0
    go_enter Try.func47, Try.ntmps47
    go_wp2
    (try simp only [Exit.inBlock, Exit.then])
    refine bodyPost_ret (v := .tuple #[.agg #[.slice none 0 0, .int .i64 0], .int .i64 11]) (by rw [results_cell_tmp rfl]; go_simp) rfl ⟨rfl, (Only.refl [] w).alloc _⟩
  · have hne : s.data.toList ≠ [] := by intro h; rw [← List.length_eq_zero_iff, hls] at h; exact h0 h
    have hl := hz hne
    rw [List.getLast_eq_getElem hne] at hl
    obtain ⟨m, hm⟩ : ∃ m, s.size = m + 1 := ⟨s.size - 1, by omega⟩
    have hml : m < s.size := by omega
    have hidx : s[m] = s.data.toList[s.data.toList.length - 1]'(by omega) := by
      rw [show s[m] = s.data[m] from rfl, ← Array.getElem_toList]
      congr 1; omega
    rw [← hidx] at hl
    have hsm : IntKind.i64.wrap ((s.size : Int) - 1) = (m : Int) := by rw [IntKind.wrap_i64]; omega
    have hsm2 : (s.size : Int) - 1 = (m : Int) := by omega
    have hu : (s[m].toNat : Int) = 0 := by omega
    have hse : s.toList.isEmpty = false := by rw [ByteArray.toList_eq, List.isEmpty_eq_false_iff]; exact hne
    clear hz hl hidx hls hm hne
    go_enter Try.func47, Try.ntmps47
    go_wp2
    (try simp only [Exit.inBlock, Exit.then])
    refine bodyPost_ret (v := .tuple #[.agg #[.slice none 0 0, .int .i64 0], .int .i64 11]) (by rw [results_cell_tmp rfl]; go_simp) rfl ⟨rfl, (Only.refl [] w).alloc _⟩

set_option maxHeartbeats 1000000 in
theorem refnew_yes (w : World) (s : ByteArray) (hne : s.data.toList ≠ []) (hz : (s.data.toList.getLast hne).toNat ≠ 0) (t : Nat) (ht : Top (Bt.bitsOf s.data.toList) t) (hs : s.size ≤ 1000000) : Calls Try.prog 47 #[.string s] w fun e w' =>
    ∃ a c, e = .returned (.tuple #[.agg #[.slice a t c, .int .i64 0], .int .i64 0]) ∧ VS w' (.slice a t c) (bl ((Bt.bitsOf s.data.toList).take t)) ∧ Only [] w w' ∧ ∀ g, (Value.slice a t c).ownBlock = some g → w.heap.size ≤ g ∧ g < w'.heap.size := by
  have hls : s.data.toList.length = s.size := len_data s
  have hlb := Bt.bitsOf_length s.data.toList
  rw [hls] at hlb
  rw [List.getLast_eq_getElem hne] at hz
  have hs0 : 0 < s.size := by rw [← hls]; exact List.length_pos_iff.2 hne
  obtain ⟨m, hm⟩ : ∃ m, s.size = m + 1 := ⟨s.size - 1, by omega⟩
  have hml : m < s.size := by omega
  have hidx : s[m] = s.data.toList[s.data.toList.length - 1]'(by omega) := by
    rw [show s[m] = s.data[m] from rfl, ← Array.getElem_toList]
    congr 1; omega
  rw [← hidx] at hz
  have hsm : IntKind.i64.wrap ((s.size : Int) - 1) = (m : Int) := by rw [IntKind.wrap_i64]; omega
  have hsm2 : (s.size : Int) - 1 = (m : Int) := by omega
  have hu : ((s[m].toNat : Int) == 0) = false := by rw [beq_eq_false_iff_ne]; omega
  have hse : s.toList.isEmpty = false := by rw [ByteArray.toList_eq, List.isEmpty_eq_false_iff]; exact hne
  have hbc := fun v => refbits_c v s hs
  have HBC := Lib.hid hbc
  have HT := Lib.hid ht
  have htl := ht.lt
  rw [hlb] at htl
  have HLB := Lib.hid hlb
  clear hz hidx hls hm hne hbc ht hlb
  go_enter Try.func47, Try.ntmps47
  go_wp2_with fail
  refine (HBC.out _).mono ?_
  rintro e w1 ⟨v1, rfl, hov, ho1⟩
  obtain ⟨a, cap, hv, h1, h2⟩ := hov.slice
  rw [bl_length, HLB.out] at hv h1
  subst hv
  have hq := P2.only (P2.new w 91 (.slice none 0 0) (.int .i64 0)) ho1 (by simp)
  have HQ := Lib.hid hq
  have HO := Lib.hid (((Only.refl [] w).alloc (.cells #[.slice none 0 0, .int .i64 0] 91 (0, 0))).then ho1)
  have HOV := Lib.hid hov
  obtain ⟨q0, q1, qf⟩ := hq.cells
  unfold maxLen at h2
  have hsz1 : IntKind.i64.wrap (8 * (s.size : Int) - 1) = 8 * (s.size : Int) - 1 := by rw [IntKind.wrap_i64]; omega
  clear hq ho1 hov hsm hsm2 hu hse HBC
  go_wp2_with fail
  go_loop [5] (fun n => ∃ j : Nat, t ≤ j ∧ j < 8 * s.size ∧ n = .int .i64 j) (fun n => (intOf n).toNat)
  case atStart => exact ⟨8 * s.size - 1, by omega, by omega, by congr 1; omega⟩
  case round =>
    obtain ⟨j, hj1, hj2, rfl⟩ := hrel
    obtain ⟨b, off, rfl, hcell⟩ := VS.bool_at HOV.out.vs j (by rw [HLB.out]; exact hj2)
    have hjl : j < (Bt.bitsOf s.data.toList).length := by rw [HLB.out]; exact hj2
    have hget : (Bt.bitsOf s.data.toList)[j] = (Bt.bitsOf s.data.toList).getD j false := by simp [List.getD_eq_getElem?_getD, hjl]
    rw [hget] at hcell
    by_cases hjt : j = t
    · subst hjt
      rw [HT.out.on] at hcell
      have hs2 := fun w => run_sub_h (P := Try.prog) (t := 89) Try.underlying89 size_bool (some ⟨b, off, none⟩) (8 * s.size) cap j (by omega) w
      have hv2 := HOV.out.vs.sub 0 j (by omega) (by rw [bl_length, HLB.out]; omega)
      have ec2 : ((bl (Bt.bitsOf s.data.toList)).take j).drop 0 = bl ((Bt.bitsOf s.data.toList).take j) := by
        unfold bl
        rw [← List.map_take, List.drop_zero]
      rw [ec2] at hv2
      obtain ⟨A2, c2, hV2⟩ : ∃ A c, subv (some ⟨b, off, none⟩) cap 0 j = .slice A j c := ⟨_, _, rfl⟩
      have hbk : Hid (∀ g, (Value.slice A2 j c2).ownBlock = some g → w.heap.size + 1 ≤ g ∧ g < w1.heap.size) := fun g hg => by
        rw [← hV2, subv_block] at hg
        have := HOV.out.lt (c := g) (by rw [ownBlock_slice]; exact hg)
        simp at this
        omega
      rw [hV2] at hs2 hv2
      have HV2 := Lib.hid hv2
      have hfin := HQ.out.set (.slice A2 j c2) (.int .i64 0)
      clear hget hjl ec2 hv2 hV2 hj1
      go_wp2
      (try simp only [Exit.inBlock, Exit.then])
      refine bodyPost_ret (v := .tuple #[.agg #[.slice A2 j c2, .int .i64 0], .int .i64 0]) (by rw [results_cell_tmp rfl]; go_simp) rfl ⟨A2, c2, rfl, ?_, ?_, ?_⟩
      · refine HV2.out.only (S := [w.heap.size]) ((only_set w1 w.heap.size _ _)) (fun c hc _ => ?_)
        have := hbk.out c hc
        simp; omega
      · exact (HO.out.setCell (.inr (Nat.le_refl _)) _).setCell (.inr (Nat.le_refl _)) _
      · intro g hg
        have := hbk.out g hg
        simp; omega
    · rw [HT.out.off j (by omega)] at hcell
      obtain ⟨i, rfl⟩ : ∃ i, j = i + 1 := ⟨j - 1, by omega⟩
      clear hget hjl
      go_wp2
      go_round
      case rel => exact ⟨i, by omega, by omega, by first | rfl | (congr 1; omega)⟩
      case measure => simp [intOf]
theorem last_bgo (M : List Bool) (t n : Int) (h : t.toNat ≤ M.length) : (last (M.take t.toNat) (-t).toNat n).1 = M.take (bgo t n).toNat ∧ (last (M.take t.toNat) (-t).toNat n).2.1 = (-(bgo t n)).toNat := by
  unfold last bgo
  by_cases hc : n < 1 ∨ 56 < n
  · rw [if_pos hc, if_pos hc]; exact ⟨rfl, rfl⟩
  · rw [if_neg hc, if_neg hc]
    have hl : (M.take t.toNat).length = t.toNat := by rw [List.length_take]; omega
    simp only [hl]
    refine ⟨?_, by omega⟩
    rw [List.take_take]
    congr 1; omega
theorem bgo_lo (t n : Int) : t - 56 ≤ bgo t n ∧ bgo t n ≤ t := by unfold bgo; split <;> omega

end Go.Proofs.Ytfckokdgmbbheaa.bit
