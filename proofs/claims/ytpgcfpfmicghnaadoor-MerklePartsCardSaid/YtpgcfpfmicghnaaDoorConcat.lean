/-
  THE WALKS of slices.Grow (of none) and slices.Concat of bytes.
-/
import Derived.Test.YtpgcfpfmicghnaaDoorRows
import Derived.Test.YtpgcfpfmicghnaaDoorGen5
import Derived.WalkSpells
import Derived.PlainAid
import Derived.Laws.OwnMore
import Derived.Handy
import Derived.OwnWalk
import Derived.Lib.AppendZerosOnto
set_option linter.unusedVariables false
set_option linter.unusedSimpArgs false
namespace Go.Proofs.YtpgcfpfmicghnaaDoor.cat
open Go Go.RowKit Go.Lm

theorem info_u8 : (Tryd.prog.info? 5).map (fun i => (i.zero, i.size, i.bytes)) = some (some (.int .u8 0), 1, 1) := by kernel_rfl
theorem u8s_one (l : List UInt8) : ∀ u ∈ l.map u8v, u.oneCell' = true := by
  intro u hu
  obtain ⟨x, _, rfl⟩ := List.mem_map.1 hu
  rfl
theorem size_u8 : (Tryd.prog.info? 5).map (·.size) = some 1 := by kernel_rfl

set_option maxHeartbeats 1000000 in
theorem grow_c (w : World) (n : Nat) (hn : n ≤ 1000000000) : Calls Tryd.prog 55 #[.slice none 0 0, .int .i64 (n : Int)] w fun e w' => ∃ v, e = .returned v ∧ OV w' w.heap.size 5 v [] ∧ Only [] w w' := by
  by_cases h0 : n = 0
  · subst h0
    go_enter Tryd.func55, Tryd.ntmps55
    go_wp2
    go_ret
    exact ⟨_, rfl, OV.nil _ _ _, Only.refl _ _⟩
  · have hpos : (0 : Int) < (n : Int) := by omega
    obtain ⟨i0, hi, hz0, hz1, hz2⟩ := info_parts info_u8
    have hrun : ∀ ty, (Builtin.append_ #[23, 3] ty #[.slice none 0 0, .int .i64 (n : Int)]).run Tryd.prog w = .ok (.slice (some ⟨w.heap.size, 0, none⟩) (0 + n) (grownCap w (0 + n) 0 5)) (w.drew.alloc (.cells ((#[] : Array Value) ++ Builtin.zeroCells (Value.int .u8 0).cells n ++ Builtin.zeroCells (Value.int .u8 0).cells (grownCap w (0 + n) 0 5 - (0 + n))) 5)) := fun ty =>
      Lib.run_append_grow_zeros w 23 3 ty 5 i0 (.int .u8 0) .i64 .i64 Tryd.underlying23 Tryd.underlying3 hi hz0 none 0 0 [] (by rw [hz1]; exact run_firstCells_none w.drew 1 0 0 0) n (by omega) (by rw [hz1]; decide) (by omega) (by omega) (by rw [hz2]; omega)
        (by rw [hz2]; exact growslice_fits (by omega) (by omega))
    have hG := grownCap_ge w (0 + n) 0 5
    have hG2 := grownCap_le_maxLen w (0 + n) 0 5 (by unfold maxLen; omega)
    rw [Nat.zero_add] at hrun hG hG2
    obtain ⟨G, hGe⟩ : ∃ G, grownCap w n 0 5 = G := ⟨_, rfl⟩
    rw [hGe] at hrun hG hG2
    obtain ⟨cs, hcs⟩ : ∃ cs, (#[] : Array Value) ++ Builtin.zeroCells (Value.int .u8 0).cells n ++ Builtin.zeroCells (Value.int .u8 0).cells (G - n) = cs := ⟨_, rfl⟩
    have hsz : cs.size = G := by
      rw [← hcs]
      simp [size_zeroCells, Value.cells]
      omega
    rw [hcs] at hrun
    have HRUN := Lib.hid hrun; have HG := Lib.hid hG; have HG2 := Lib.hid hG2; have HSZ := Lib.hid hsz
    have hG63 : G ≤ 9223372036854775807 := by unfold maxLen at hG2; omega
    clear hrun hG hG2 hsz hcs hGe hi hz0 hz1 hz2 h0
    go_enter Tryd.func55, Tryd.ntmps55
    go_wp2_with (at_builtin; refine Lib.wpList_append_run _ rfl _ _ _ _ rfl _ _ rfl rfl _ _ (HRUN.out _) ?_)
    --@1
    go_ret
    refine ⟨_, rfl, ⟨rfl, .inr ⟨w.heap.size, G, cs, rfl, Nat.le_refl _, heap_alloc_new _ _, Nat.zero_le _, HG2.out, by rw [HSZ.out, Nat.mul_one], by simp⟩⟩, (Only.refl [] w).drew.alloc _⟩

theorem flat_take (ls : List (List UInt8)) (k : Nat) (hk : k < ls.length) : (ls.take (k + 1)).flatten = (ls.take k).flatten ++ ls[k] := by
  rw [List.take_succ_eq_append_getElem hk, List.flatten_append]
  simp
theorem flat_le (ls : List (List UInt8)) (k : Nat) : (ls.take k).flatten.length ≤ ls.flatten.length := by
  conv => rhs; rw [← List.take_append_drop k ls]
  rw [List.flatten_append, List.length_append]
  omega
theorem BSS.only {S : List Nat} {w w' : World} {v : Value} {ls : List (List UInt8)} (h : BSS w v ls) (ho : Only S w w') (hS : ∀ c ∈ S, w.heap.size ≤ c) : BSS w' v ls := by
  obtain ⟨a, cap, rfl, h1, h2, h3⟩ := h
  refine ⟨a, cap, rfl, h1, h2, fun k hk => ?_⟩
  obtain ⟨b, off, u, ha, hc, hb⟩ := h3 k hk
  refine ⟨b, off, u, ha, ho.cell hc (fun hm => ?_), hb.only ho (fun c hc' hne hm => ?_)⟩
  · have h4 := World.block_lt_of_cell? w _ hc
    have := hS _ hm
    simp only at h4 this
    omega
  · have := hb.lt hne hc'
    have := hS _ hm
    omega

set_option maxHeartbeats 4000000 in
theorem concat_c (w : World) (v : Value) (ls : List (List UInt8)) (hv : BSS w v ls) (hm : ls.flatten.length ≤ 100000000) : Calls Tryd.prog 50 #[v] w fun e w' => ∃ u, e = .returned u ∧ OV w' w.heap.size 5 u (ls.flatten.map u8v) ∧ Only [] w w' := by
  have HV := Lib.hid hv
  obtain ⟨a, cap, rfl, h1, h2, -⟩ := hv
  obtain ⟨n, hn⟩ : ∃ n, ls.length = n := ⟨_, rfl⟩
  rw [hn] at h1 HV ⊢
  have HN := Lib.hid hn
  have HM := Lib.hid hm
  unfold maxLen at h2
  obtain ⟨i0, hi, hz0, hz1, hz2⟩ := info_parts info_u8
  have HI := Lib.hid hi; have HZ0 := Lib.hid hz0; have HZ1 := Lib.hid hz1; have HZ2 := Lib.hid hz2
  obtain ⟨B, hB⟩ : ∃ B, w.heap.size = B := ⟨_, rfl⟩
  rw [hB]
  have HB := Lib.hid hB
  clear hi hz0 hz1 hz2 hn hm hB
  go_enter Tryd.func50, Tryd.ntmps50
  go_wp2_with fail
  --@1
  go_loopw [3, 11] (fun sz i wr => ∃ k : Nat, k ≤ n ∧ i = .int .i64 (k : Nat) ∧ sz = .int .i64 ((ls.take k).flatten.length : Nat) ∧ wr = w) (fun _ i _ => n - (intOf i).toNat)
  case atStart => exact ⟨0, Nat.zero_le _, rfl, by simp, rfl⟩
  case round =>
    obtain ⟨k, hk, rfl, rfl, rfl⟩ := hrel
    by_cases hlt : k < n
    · have hltI : (k : Int) < (n : Int) := by omega
      have hkl : k < ls.length := by rw [HN.out]; exact hlt
      have hft := flat_take ls k hkl
      have hle := flat_le ls (k + 1)
      obtain ⟨a', cap', he, _, _, hc⟩ := HV.out
      simp only [Value.slice.injEq] at he
      obtain ⟨rfl, -, rfl⟩ := he
      obtain ⟨b, off, u, rfl, hcell, hbs⟩ := hc k hkl
      obtain ⟨ua, ucap, rfl, hul, hum, -, -⟩ := hbs
      unfold maxLen at hum
      obtain ⟨L, hL⟩ : ∃ L, ls[k].length = L := ⟨_, rfl⟩
      obtain ⟨S, hS⟩ : ∃ S, (ls.take k).flatten.length = S := ⟨_, rfl⟩
      rw [hft, List.length_append, hL, hS] at hle
      have hSL : S + L ≤ 100000000 := by have := HM.out; omega
      have HS : Hid ((ls.take (k + 1)).flatten.length = S + L) := Lib.hid (by rw [hft, List.length_append, hL, hS])
      rw [hL] at hcell hul
      rw [hS]
      clear hft hle hc hL hS hkl
      --@2
      go_wp2
      go_roundw
      case rel => exact ⟨k + 1, by omega, by go_num, by rw [HS.out]; go_num, trivial⟩
      case measure => simp [intOf]; omega
    · obtain rfl : k = n := by omega
      obtain ⟨T, hT⟩ : ∃ T, (ls.take k).flatten.length = T := ⟨_, rfl⟩
      have hT9 : T ≤ 1000000000 := by
        have := flat_le ls k
        have := HM.out
        omega
      rw [hT]
      clear hT
      go_wp2_with fail
      refine (grow_c wr T hT9).mono ?_
      rintro e w2 ⟨u, rfl, hov, ho⟩
      rw [HB.out] at hov
      have HO2 := Lib.hid ho
      have HOV2 := Lib.hid hov
      obtain ⟨ua, uc, rfl, q1, q2⟩ := hov.slice
      clear ho hov
      obtain ⟨w0, hw0⟩ : ∃ w0, w0 = wr := ⟨_, rfl⟩
      subst hw0
      go_wp2_with fail
      --@3
      go_loopw [6, 27] (fun x i wr => ∃ j : Nat, j ≤ k ∧ i = .int .i64 (j : Nat) ∧ OV wr B 5 x ((ls.take j).flatten.map u8v) ∧ Only [] w0 wr) (fun _ i _ => k - (intOf i).toNat)
      case atStart => exact ⟨0, Nat.zero_le _, rfl, by simpa using HOV2.out, HO2.out⟩
      case round =>
        clear HOV2 HO2 q1 q2
        obtain ⟨j, hj, rfl, hov, ho⟩ := hrel
        have HOV := Lib.hid hov; have HO := Lib.hid ho
        obtain ⟨xa, xc, rfl, q1, q2⟩ := hov.slice
        obtain ⟨S, hS⟩ : ∃ S, ((ls.take j).flatten.map u8v).length = S := ⟨_, rfl⟩
        rw [hS] at HOV q1 ⊢
        unfold maxLen at q2
        clear hov ho
        by_cases hlt : j < k
        · have hltI : (j : Int) < (k : Int) := by omega
          have hkl : j < ls.length := by rw [HN.out]; exact hlt
          have hft := flat_take ls j hkl
          have hle := flat_le ls (j + 1)
          rw [hft, List.length_append] at hle
          obtain ⟨a', cap', he, _, _, hc⟩ := BSS.only HV.out HO.out (by simp)
          simp only [Value.slice.injEq] at he
          obtain ⟨rfl, -, rfl⟩ := he
          obtain ⟨b, off, u, rfl, hcell, hbs⟩ := hc j hkl
          have hS' : (ls.take j).flatten.length = S := by rw [← hS, List.length_map]
          obtain ⟨v', w2, hrun, hov', hg⟩ := run_append_vs (P := Tryd.prog) (ty := 23) Tryd.underlying23 HI.out HZ0.out HZ1.out HZ2.out rfl HOV.out (VS.of_bs hbs) (u8s_one _) (by rw [List.length_map, List.length_map]; have := HM.out; unfold maxLen; omega) (by rw [List.length_map, List.length_map]; have := HM.out; omega) (by have := HO.out.size; have := HB.out; omega)
          have HOV2 : Hid (OV w2 B 5 v' ((ls.take (j + 1)).flatten.map u8v)) := Lib.hid (by rw [hft, List.map_append]; exact hov')
          have HO2 : Hid (Only [] w0 w2) := Lib.hid (HO.out.trans (Only.of_grown hg) (by simp) (fun i hi => .inr (by
            have hi2 : (Value.slice xa S xc).ownBlock = some i := by
              cases hu : (Value.slice xa S xc).ownBlock with
              | none => rw [hu] at hi; simp at hi
              | some g => rw [hu] at hi; simp at hi; rw [hi]
            have := (HOV.out.lt hi2).1
            have := HB.out
            omega)))
          have HRUN := Lib.hid hrun
          obtain ⟨ua, ucap, rfl, hul, hum, -, -⟩ := hbs
          obtain ⟨m, hm⟩ : ∃ m, ls[j].length = m := ⟨_, rfl⟩
          rw [hm] at hcell HRUN
          clear hft hle hc hS hS' hkl hrun hov' hg hul hum hm
          --@4
          go_wp2_with (at_builtin; refine wpList_append_run rfl _ _ _ rfl rfl rfl HRUN.out ?_)
          go_roundw
          --@6
          case rel => exact ⟨j + 1, by omega, by go_num, HOV2.out, HO2.out⟩
          case measure => simp [intOf]; omega
        · obtain rfl : j = k := by omega
          have hall : (ls.take j).flatten = ls.flatten := by rw [List.take_of_length_le (by rw [HN.out]; omega)]
          rw [hall] at HOV
          clear hall hS
          --@5
          go_wp2
          go_ret
          exact ⟨_, rfl, HOV.out, HO.out⟩
end Go.Proofs.YtpgcfpfmicghnaaDoor.cat
