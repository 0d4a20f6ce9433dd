/-
  ArqAsked, walked.
-/
import Derived.Test.YtidkadlmnidmoaaArqAwake
import Derived.Deep.Grids
set_option linter.unusedVariables false
set_option linter.unusedSimpArgs false
namespace Go.Lm.Arq
theorem asked_next (h : List Bool) (most : Int) (k : Nat) : asked h most (k + 1) = asked h most k ∨ asked h most (k + 1) = asked h most k ++ [k] := by
  unfold asked
  rw [List.range_succ, List.filter_append]
  cases hx : (fun i => !h.getD i false) k with
  | true =>
    have e : List.filter (fun i => !h.getD i false) [k] = [k] := by simp only [List.filter_cons, hx, if_true, List.filter_nil]
    rw [e]
    by_cases hl : ((List.range k).filter fun i => !h.getD i false).length < most.toNat
    · right
      rw [List.take_of_length_le (by rw [List.length_append, List.length_singleton]; omega), List.take_of_length_le (by omega)]
    · left
      rw [List.take_append_of_le_length (by omega)]
  | false =>
    left
    have e : List.filter (fun i => !h.getD i false) [k] = [] := by
      rw [List.filter_cons, if_neg (by rw [show (!h.getD k false) = false from hx]; exact Bool.false_ne_true)]
      rfl
    rw [e, List.append_nil]
theorem asked_prefix (h : List Bool) (most : Int) (k n : Nat) (hk : k ≤ n) : asked h most k <+: asked h most n := by
  induction n with
  | zero => obtain rfl : k = 0 := by omega
            exact List.prefix_refl _
  | succ n ih =>
    by_cases hkn : k = n + 1
    · subst hkn; exact List.prefix_refl _
    · refine (ih (by omega)).trans ?_
      rcases asked_next h most n with e | e
      · rw [e]; exact List.prefix_refl _
      · rw [e]; exact List.prefix_append _ _
theorem asked_at (h : List Bool) (most : Int) (k n : Nat) (hk : k < n) (e : asked h most (k + 1) = asked h most k ++ [k]) : (asked h most n)[(asked h most k).length]? = some k := by
  have hp := asked_prefix h most (k + 1) n hk
  rw [e] at hp
  obtain ⟨t, ht⟩ := hp
  rw [← ht, List.append_assoc, List.getElem?_append_right (Nat.le_refl _), Nat.sub_self]
  rfl
end Go.Lm.Arq
namespace Go.Proofs.Ytidkadlmnidmoaa.arq
open Go Go.RowKit Go.Lm

theorem vs_il {w : World} {a : Option Addr} {n cap : Nat} {l : List Nat} (h : VS w (.slice a n cap) (il l)) (k x : Nat) (hk : l[k]? = some x) : ∃ b off, a = some ⟨b, off, none⟩ ∧ w.cell? ⟨b, off + k, none⟩ = some (.int .i64 (x : Int)) := by
  obtain ⟨a', cap', he, _, _, _, hc⟩ := h
  simp only [Value.slice.injEq] at he
  obtain ⟨rfl, rfl, rfl⟩ := he
  obtain ⟨hkl, hx⟩ := List.getElem?_eq_some_iff.1 hk
  obtain ⟨b, off, rfl, hcell⟩ := hc k (by simpa [il] using hkl)
  refine ⟨b, off, rfl, ?_⟩
  rw [hcell]
  simp [il, hx]

section
open Go.ChangeShapes Go.WideShapes
variable {H : Type} {enc : TypeId × Value → H}
theorem bools_opened {W : World} {v : Value} {d : DataW H} {ps : List MemPlace} {base : Nat} (hv : Value.okWide Try.prog W .any base 22 v)
    (h : DataW.Trod enc Try.prog W 0 (fun _ => true) true 22 v d ps) : ∃ L : List Bool, VS W v (bl L) := by
  obtain ⟨a0, len0, cap0, rfl⟩ := okWide_slice Try.underlying22 hv
  obtain ⟨fuel, hf⟩ := h
  rcases Go.Deep.open_bools Try.underlying22 Try.underlying4 (by kernel_rfl) hf with ⟨hcs, _⟩ | ⟨a, len, cap, B, hcs, _, hl, hm, _, hcell⟩
  · have hcs : Value.slice a0 len0 cap0 = .slice none 0 0 := by simpa [Value.cells] using hcs
    rw [hcs]
    exact ⟨[], VS.nil W⟩
  · have hcs : Value.slice a0 len0 cap0 = .slice (some a) len cap := by simpa [Value.cells] using hcs
    rw [hcs]
    have hlen : (bl ((List.range len).map B)).length = len := by simp [bl]
    refine ⟨(List.range len).map B, some a, cap, by rw [hlen], by rw [hlen]; exact hl, hm, fun h => by simp at h, fun k hk => ?_⟩
    rw [hlen] at hk
    have h0 := hcell 0 (by omega)
    have hk' := hcell k (by omega)
    have ha : a = ⟨a.block, a.off, none⟩ := addr_of_cell (by simpa [Addr.add] using h0)
    refine ⟨a.block, a.off, by rw [← ha], ?_⟩
    rw [ha, add_none] at hk'
    rw [hk']
    simp [bl]
end

set_option maxRecDepth 100000 in
set_option maxHeartbeats 4000000 in
theorem askedlaw_c (w : World) (v : Value) (h : List Bool) (hv : VS w v (bl h)) (most : Int) : Calls Try.prog 3 #[v, .int .i64 most] w fun e w' => e = .returned (.bool true) ∧ Below w.heap.size w w' := by
  have HV := Lib.hid hv
  obtain ⟨a, cap, hve, h1, h2, -, -⟩ := hv
  obtain ⟨n, hn⟩ : ∃ n, h.length = n := ⟨_, rfl⟩
  rw [show (bl h).length = n by simp [bl, hn]] at hve h1
  subst hve
  unfold maxLen at h2
  have HN := Lib.hid hn
  clear hn
  go_enter Try.func3, Try.ntmps3
  go_wp2_with fail
  refine (awake_c w).mono ?_
  rintro e w1 ⟨rfl, ho1⟩
  have HO1 := Lib.hid ho1
  have HV1 := Lib.hid (HV.out.only ho1 (by simp))
  clear ho1
  by_cases h300 : n ≤ 300
  · have hI : ¬ ((300 : Int) < (n : Int)) := by omega
    go_wp2_with fail
    refine (asked_c w1 _ h most HV1.out (by rw [HN.out]; omega)).mono ?_
    rintro e w2 ⟨u, rfl, hou, ho2⟩
    rw [HN.out] at hou
    have HO2 := Lib.hid (HO1.out.then ho2)
    have HV2 := Lib.hid (HV1.out.only ho2 (by simp))
    have hus := hou.vs
    obtain ⟨au, cu, hue, k1, k2, -, -⟩ := id hus
    obtain ⟨L, hL⟩ : ∃ L, (Arq.asked h most n).length = L := ⟨_, rfl⟩
    rw [show (il (Arq.asked h most n)).length = L by simp [il, hL]] at hue k1
    subst hue
    have HU := Lib.hid hus
    have HL := Lib.hid hL
    have hLn : L ≤ n := by rw [← hL]; exact Arq.asked_length h most n
    unfold maxLen at k2
    clear ho2 hou hus hL HO1 HV1 HV
    go_wp2_with fail
    --@1
    go_loopw [7, 8] (fun kk i wr => ∃ k : Nat, k ≤ n ∧ i = .int .i64 (k : Nat) ∧ kk = .int .i64 ((Arq.asked h most k).length : Nat) ∧ wr = w2) (fun _ i _ => n - (intOf i).toNat)
    case atStart => exact ⟨0, Nat.zero_le _, rfl, by simp [Arq.asked], rfl⟩
    case round =>
      obtain ⟨k, hk, rfl, rfl, rfl⟩ := hrel
      by_cases hlt : k < n
      · have hltI : (k : Int) < (n : Int) := by omega
        have hkl : k < h.length := by rw [HN.out]; exact hlt
        obtain ⟨b, off, rfl, hc⟩ := vs_bit HV2.out k hkl
        obtain ⟨q, hq⟩ : ∃ q, (Arq.asked h most k).length = q := ⟨_, rfl⟩
        rw [hq]
        have hqk : q ≤ k := by rw [← hq]; exact Arq.asked_length h most k
        cases hx : h[k] with
        | true =>
          have HS := Lib.hid (Arq.asked_on h most k hkl hx)
          rw [hx] at hc
          have HQ := Lib.hid hq
          clear hx hkl hq
          go_wp2
          go_roundw
          case rel => exact ⟨k + 1, by omega, by go_num, by rw [HS.out, HQ.out], trivial⟩
          case measure => simp [intOf]; omega
        | false =>
          rw [hx] at hc
          by_cases hm : (q : Int) < most
          · have hs := Arq.asked_off h most k hkl hx (by rw [hq]; exact hm)
            have HS := Lib.hid hs
            have hat := Arq.asked_at h most k n hlt hs
            rw [hq] at hat
            have hqL : q < L := by
              have := (List.getElem?_eq_some_iff.1 hat).1
              have := HL.out
              omega
            obtain ⟨b2, off2, rfl, hc2⟩ := vs_il HU.out q k hat
            have HQ := Lib.hid hq
            have hmI : ¬ most ≤ (q : Int) := by omega
            have hqI : (q : Int) < (L : Int) := by omega
            have hmd : decide (most ≤ (q : Int)) = false := decide_eq_false hmI
            clear hs hx hkl hq hat
            --@2
            go_wp2
            go_roundw
            case rel => exact ⟨k + 1, by omega, by go_num, by rw [HS.out, List.length_append, HQ.out]; simp, trivial⟩
            case measure => simp [intOf]; omega
          · have hs := Arq.asked_full h most k (by rw [hq]; exact hm)
            have HS := Lib.hid hs
            have HQ := Lib.hid hq
            have hmI : most ≤ (q : Int) := by omega
            have hmd : decide (most ≤ (q : Int)) = true := decide_eq_true hmI
            clear hs hx hkl hq hm
            --@3
            go_wp2
            go_roundw
            case rel => exact ⟨k + 1, by omega, by go_num, by rw [HS.out, HQ.out], trivial⟩
            case measure => simp [intOf]; omega
      · obtain rfl : k = n := by omega
        rw [HL.out]
        go_wp2_with fail
        refine (add_nil wr 0 (.slice none 0 0)).mono ?_
        rintro e w' ⟨rfl, rfl⟩
        go_wp2_with fail
        refine (whole_nil wr).mono ?_
        rintro e w' ⟨rfl, rfl⟩
        go_wp2_with fail
        refine (count_nil wr).mono ?_
        rintro e w' ⟨rfl, rfl⟩
        go_wp2_with fail
        refine (have_nil wr).mono ?_
        rintro e w' ⟨rfl, rfl⟩
        go_wp2
        go_ret
        exact ⟨rfl, HO2.out.below (by simp) (Nat.le_refl _)⟩
  · have hI : (300 : Int) < (n : Int) := by omega
    go_wp2
    go_ret
    exact ⟨rfl, HO1.out.below (by simp) (Nat.le_refl _)⟩
end Go.Proofs.Ytidkadlmnidmoaa.arq
