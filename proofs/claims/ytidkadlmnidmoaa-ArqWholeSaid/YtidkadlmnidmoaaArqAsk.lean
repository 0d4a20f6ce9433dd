/-
  THE WALK of Asked.
-/
import Derived.Test.YtidkadlmnidmoaaArqClk
set_option linter.unusedVariables false
set_option linter.unusedSimpArgs false
namespace Go.Lm.Arq
/-- The lowest ones that lack, at most so many, of the first k. -/
def asked (h : List Bool) (most : Int) (k : Nat) : List Nat := ((List.range k).filter fun i => !h.getD i false).take most.toNat
theorem asked_on (h : List Bool) (most : Int) (k : Nat) (hk : k < h.length) (hb : h[k] = true) : asked h most (k + 1) = asked h most k := by
  unfold asked
  rw [List.range_succ, List.filter_append]
  have e : h.getD k false = true := by rw [List.getD_eq_getElem?_getD, List.getElem?_eq_getElem hk]; exact hb
  rw [List.filter_cons]
  simp only [e, Bool.not_true, List.filter_nil, if_false]
  simp
theorem asked_off (h : List Bool) (most : Int) (k : Nat) (hk : k < h.length) (hb : h[k] = false) (hl : ((asked h most k).length : Int) < most) : asked h most (k + 1) = asked h most k ++ [k] := by
  unfold asked at hl ⊢
  have e : h.getD k false = false := by rw [List.getD_eq_getElem?_getD, List.getElem?_eq_getElem hk]; exact hb
  rw [List.length_take] at hl
  have hlt : ((List.range k).filter fun i => !h.getD i false).length < most.toNat := by omega
  rw [List.range_succ, List.filter_append, List.filter_cons]
  simp only [e, Bool.not_false, List.filter_nil, if_true]
  rw [List.take_of_length_le (by rw [List.length_append, List.length_singleton]; omega), List.take_of_length_le (by omega)]
theorem asked_full (h : List Bool) (most : Int) (k : Nat) (hl : ¬ ((asked h most k).length : Int) < most) : asked h most (k + 1) = asked h most k := by
  unfold asked at hl ⊢
  rw [List.length_take] at hl
  have hge : most.toNat ≤ ((List.range k).filter fun i => !h.getD i false).length := by omega
  rw [List.range_succ, List.filter_append, List.take_append_of_le_length hge]
theorem asked_length (h : List Bool) (most : Int) (k : Nat) : (asked h most k).length ≤ k := by
  unfold asked
  rw [List.length_take]
  have := List.length_filter_le (fun i => !h.getD i false) (List.range k)
  rw [List.length_range] at this
  omega
end Go.Lm.Arq
namespace Go.Proofs.Ytidkadlmnidmoaa.arq
open Go Go.RowKit Go.Lm

def bl (l : List Bool) : List Value := l.map Value.bool
def il (l : List Nat) : List Value := l.map fun (n : Nat) => Value.int .i64 (n : Int)
theorem vs_bit {w : World} {a : Option Addr} {n cap : Nat} {l : List Bool} (h : VS w (.slice a n cap) (bl l)) (k : Nat) (hk : k < l.length) : ∃ b off, a = some ⟨b, off, none⟩ ∧ w.cell? ⟨b, off + k, none⟩ = some (.bool l[k]) := by
  obtain ⟨a', cap', he, _, _, _, hc⟩ := h
  simp only [Value.slice.injEq] at he
  obtain ⟨rfl, rfl, rfl⟩ := he
  obtain ⟨b, off, rfl, hcell⟩ := hc k (by simpa [bl] using hk)
  refine ⟨b, off, rfl, ?_⟩
  rw [hcell]
  simp [bl]
theorem info_int : (Try.prog.info? 3).map (fun i => (i.zero, i.size, i.bytes)) = some (some (.int .i64 0), 1, 8) := by kernel_rfl

set_option maxHeartbeats 2000000 in
theorem asked_c (w : World) (v : Value) (h : List Bool) (most : Int) (hv : VS w v (bl h)) (hl : h.length ≤ 1000000) : Calls Try.prog 10 #[v, .int .i64 most] w fun e w' => ∃ u, e = .returned u ∧ OV w' w.heap.size 3 u (il (Arq.asked h most h.length)) ∧ Only [] w w' := by
  have HV := Lib.hid hv
  obtain ⟨a, cap, hve, h1, h2, -, -⟩ := hv
  obtain ⟨n, hn⟩ : ∃ n, h.length = n := ⟨_, rfl⟩
  rw [show (bl h).length = n by simp [bl, hn]] at hve h1
  subst hve
  unfold maxLen at h2
  rw [hn] at hl ⊢
  have HN := Lib.hid hn
  obtain ⟨i0, hi, hz0, hz1, hz2⟩ := info_parts info_int
  have HI := Lib.hid hi; have HZ0 := Lib.hid hz0; have HZ1 := Lib.hid hz1; have HZ2 := Lib.hid hz2
  clear hi hz0 hz1 hz2 hn
  obtain ⟨B, hB⟩ : ∃ B, w.heap.size = B := ⟨_, rfl⟩
  rw [hB]
  have HB := Lib.hid hB
  clear hB
  go_enter Try.func10, Try.ntmps10
  go_wp2_with fail
  go_loopw [5, 10] (fun x i wr => ∃ k : Nat, k ≤ n ∧ i = .int .i64 (k : Nat) ∧ OV wr B 3 x (il (Arq.asked h most k)) ∧ Only [] w wr) (fun x i _ => n - (intOf i).toNat)
  case atStart => exact ⟨0, Nat.zero_le _, rfl, by have h0 : Arq.asked h most 0 = [] := by simp [Arq.asked]
                                                   rw [h0]; exact OV.nil _ _ _, Only.refl _ _⟩
  case round =>
    obtain ⟨k, hk, rfl, hov, ho⟩ := hrel
    have HOV := Lib.hid hov; have HO := Lib.hid ho
    clear ho
    by_cases hlt : k < n
    · have hltI : (k : Int) < (n : Int) := by omega
      have hkl : k < h.length := by rw [HN.out]; exact hlt
      obtain ⟨b, off, rfl, hc⟩ := vs_bit (HV.out.only HO.out (by simp)) k hkl
      obtain ⟨ax, cx, rfl, q1, q2⟩ := hov.slice
      obtain ⟨L, hL⟩ : ∃ L, (Arq.asked h most k).length = L := ⟨_, rfl⟩
      have hLk : L ≤ k := by rw [← hL]; exact Arq.asked_length h most k
      have hiL : (il (Arq.asked h most k)).length = L := by simp [il, hL]
      simp only [hiL] at q1 q2 HOV ⊢
      have HIL := Lib.hid hiL
      unfold maxLen at q2
      cases hx : h[k] with
      | true =>
        have hs := Arq.asked_on h most k hkl hx
        rw [hx] at hc
        have HS := Lib.hid hs
        clear hs hx hkl hL hov hiL
        go_wp2
        go_roundw
        case rel => exact ⟨k + 1, by omega, by go_num, by rw [HS.out]; exact HOV.out, HO.out⟩
        case measure => simp [intOf]; omega
      | false =>
        rw [hx] at hc
        by_cases hm : (L : Int) < most
        · have hs := Arq.asked_off h most k hkl hx (by rw [hL]; exact hm)
          have HS := Lib.hid hs
          obtain ⟨v', w2, hrun, hov', hg⟩ := run_append_one (P := Try.prog) (ty := 24) (T := 3) (fr := (0, 0)) (u := .int .i64 (k : Int)) Try.underlying24 HI.out HZ0.out HZ1.out HZ2.out rfl HOV.out rfl (by rw [HIL.out]; unfold maxLen; omega) (by rw [HIL.out]; omega) (by have := HO.out.size; have := HB.out; omega)
          have hov2 : OV w2 B 3 v' (il (Arq.asked h most (k + 1))) := by rw [HS.out]; unfold il; rw [List.map_append]; exact hov'
          have HOV2 := Lib.hid hov2; have HRUN := Lib.hid hrun
          have HO2 : Hid (Only [] w w2) := Lib.hid ((HO.out.alloc (.cells #[.int .i64 (k : Int)] 3 (0, 0))).trans (Only.of_grown hg) (by simp) (fun i hi => .inr (by
            have hi2 : (Value.slice ax L cx).ownBlock = some i := by
              cases hu : (Value.slice ax L cx).ownBlock with
              | none => rw [hu] at hi; simp at hi
              | some g => rw [hu] at hi; simp at hi; rw [hi]
            have := (HOV.out.lt hi2).1
            have := HB.out
            omega)))
          clear hs hx hkl hL hov hiL hov' hov2 hrun hg
          go_wp2_with (at_builtin; refine wpList_append_run rfl _ _ _ rfl rfl rfl HRUN.out ?_)
          go_roundw
          case rel => exact ⟨k + 1, by omega, by go_num, HOV2.out, HO2.out⟩
          case measure => simp [intOf]; omega
        · have hs := Arq.asked_full h most k (by rw [hL]; exact hm)
          have HS := Lib.hid hs
          have hmd : decide ((L : Int) < most) = false := decide_eq_false hm
          clear hs hx hkl hL hov hiL
          go_wp2
          go_roundw
          case rel => exact ⟨k + 1, by omega, by go_num, by rw [HS.out]; exact HOV.out, HO.out⟩
          case measure => simp [intOf]; omega
    · obtain rfl : k = n := by omega
      clear hov
      go_wp2
      go_ret
      exact ⟨_, rfl, HOV.out, HO.out⟩
end Go.Proofs.Ytidkadlmnidmoaa.arq
