/-
  THE WALKS of package codes.
-/
import Derived.Test.YtkokenhgggodjaaDoorRows
import Derived.Test.YtkokenhgggodjaaDoorGen3
import Derived.Test.YtkokenhgggodjaaDoorCodesPlain
import Derived.WalkSpells
import Derived.PlainAid
set_option linter.unusedVariables false
namespace Go.Proofs.YtkokenhgggodjaaDoor.codes
open Go Go.RowKit Go.Lm

/-- The two tables. -/
structure Tabs (w : World) : Prop where
  l : ∃ t fr, w.heap[0]? = some (.cells (i64s Codes.lits).toArray t fr)
  m : ∃ t fr, w.heap[1]? = some (.cells (i64s Codes.mats).toArray t fr)
theorem Tabs.only {S : List Nat} {w w' : World} (h : Tabs w) (ho : Only S w w') (h0 : 0 ∉ S) (h1 : 1 ∉ S) : Tabs w' := by
  obtain ⟨t, fr, hl⟩ := h.l
  obtain ⟨t', fr', hm⟩ := h.m
  exact ⟨⟨t, fr, ho.heap hl h0⟩, ⟨t', fr', ho.heap hm h1⟩⟩

/-- row: kind 0. -/
theorem row_0 (w : World) (hT : Tabs w) : Calls Tryd.prog 14 #[.int .i64 0] w fun e w' => ∃ v, e = .returned (.tuple #[.int .i64 16, .int .u32 0, v]) ∧ VS w' v (i64s Codes.lits) ∧ Only [] w w' := by
  obtain ⟨t, fr, hg⟩ := hT.l
  clear hT
  have hone := i64s_one Codes.lits
  have hsz : (i64s Codes.lits).toArray.size = 20 := by decide
  obtain ⟨cs, hcs⟩ : ∃ cs, cs = (i64s Codes.lits).toArray := ⟨_, rfl⟩
  rw [← hcs] at hg hone hsz
  have HG := Lib.hid hg; clear hg
  have HCS := Lib.hid hcs; clear hcs
  have H1 := Lib.hid hone; clear hone
  have HSZ := Lib.hid hsz; clear hsz
  have hi : (Tryd.prog.info? 43).map (·.size) = some cs.size := by rw [HSZ.out]; kernel_rfl
  have HI := Lib.hid hi; clear hi
  go_enter Tryd.func14, Tryd.ntmps14
  go_wp2_with (first
    | (refine wpList_load_row rfl 43 _ rfl 0 rfl _ cs _ _ HG.out Tryd.underlying43 rfl HI.out ?_)
    | (refine wpList_store_row rfl 43 _ _ rfl w.heap.size cs rfl rfl 43 _ (heap_alloc_new w _) HI.out HSZ.out.symm H1.out ?_))
  have hb : ∀ z : Array Value, ((w.alloc (.cells z 43)).setRow w.heap.size cs).heap[w.heap.size]? = some (.cells cs 43 (0, 0)) := fun z => setRow_heap _ _ z cs _ _ (heap_alloc_new w _)
  have ho : ∀ z : Array Value, Only [] w ((w.alloc (.cells z 43)).setRow w.heap.size cs) := fun z => ((Only.refl [] w).alloc _).setRow (.inr (Nat.le_refl _)) cs
  try simp only [Act.put]
  generalize hz : World.setRow (World.alloc _ _) _ _ = w2
  have hb2 : w2.heap[w.heap.size]? = some (.cells cs 43 (0, 0)) := by rw [← hz]; exact hb _
  have ho2 : Only [] w w2 := by rw [← hz]; exact ho _
  clear hz hb ho
  have HB2 := Lib.hid hb2; clear hb2
  have HO2 := Lib.hid ho2; clear ho2
  go_quiet (fail)
  go_wp2
  go_ret3
  exact ⟨_, rfl, VS.of_block (w := w2.drewN nq) HB2.out 20 20 _ rfl (by rw [HCS.out]; rfl) (Nat.le_refl _) (by unfold maxLen; omega), HO2.out.drewN _⟩

/-- row: kind 2. -/
theorem row_2 (w : World) (hT : Tabs w) : Calls Tryd.prog 14 #[.int .i64 2] w fun e w' => ∃ v, e = .returned (.tuple #[.int .i64 32, .int .u32 3, v]) ∧ VS w' v (i64s Codes.mats) ∧ Only [] w w' := by
  obtain ⟨t, fr, hg⟩ := hT.m
  clear hT
  have hone := i64s_one Codes.mats
  have hsz : (i64s Codes.mats).toArray.size = 21 := by decide
  obtain ⟨cs, hcs⟩ : ∃ cs, cs = (i64s Codes.mats).toArray := ⟨_, rfl⟩
  rw [← hcs] at hg hone hsz
  have HG := Lib.hid hg; clear hg
  have HCS := Lib.hid hcs; clear hcs
  have H1 := Lib.hid hone; clear hone
  have HSZ := Lib.hid hsz; clear hsz
  have hi : (Tryd.prog.info? 44).map (·.size) = some cs.size := by rw [HSZ.out]; kernel_rfl
  have HI := Lib.hid hi; clear hi
  go_enter Tryd.func14, Tryd.ntmps14
  go_wp2_with (first
    | (refine wpList_load_row rfl 44 _ rfl 1 rfl _ cs _ _ HG.out Tryd.underlying44 rfl HI.out ?_)
    | (refine wpList_store_row rfl 44 _ _ rfl w.heap.size cs rfl rfl 44 _ (heap_alloc_new w _) HI.out HSZ.out.symm H1.out ?_))
  have hb : ∀ z : Array Value, ((w.alloc (.cells z 44)).setRow w.heap.size cs).heap[w.heap.size]? = some (.cells cs 44 (0, 0)) := fun z => setRow_heap _ _ z cs _ _ (heap_alloc_new w _)
  have ho : ∀ z : Array Value, Only [] w ((w.alloc (.cells z 44)).setRow w.heap.size cs) := fun z => ((Only.refl [] w).alloc _).setRow (.inr (Nat.le_refl _)) cs
  try simp only [Act.put]
  generalize hz : World.setRow (World.alloc _ _) _ _ = w2
  have hb2 : w2.heap[w.heap.size]? = some (.cells cs 44 (0, 0)) := by rw [← hz]; exact hb _
  have ho2 : Only [] w w2 := by rw [← hz]; exact ho _
  clear hz hb ho
  have HB2 := Lib.hid hb2; clear hb2
  have HO2 := Lib.hid ho2; clear ho2
  go_quiet (fail)
  go_wp2
  go_ret3
  exact ⟨_, rfl, VS.of_block (w := w2.drewN nq) HB2.out 21 21 _ rfl (by rw [HCS.out]; rfl) (Nat.le_refl _) (by unfold maxLen; omega), HO2.out.drewN _⟩

theorem row_no (k : Int) (h0 : k ≠ 0) (h2 : k ≠ 2) (w : World) : Calls Tryd.prog 14 #[.int .i64 k] w fun e w' => e = .returned (.tuple #[.int .i64 0, .int .u32 0, .slice none 0 0]) ∧ w = w' := by
  have e0 : (k == 0) = false := beq_eq_false_iff_ne.2 h0
  have e2 : (k == 2) = false := beq_eq_false_iff_ne.2 h2
  clear h0 h2
  go_enter Tryd.func14, Tryd.ntmps14
  go_wp2
  go_ret3
  exact ⟨rfl, rfl⟩

/-- row: kinds that have a table. -/
theorem row_c (k : Int) (h : k = 0 ∨ k = 2) (w : World) (hT : Tabs w) : Calls Tryd.prog 14 #[.int .i64 k] w fun e w' => ∃ v, e = .returned (.tuple #[.int .i64 (Codes.plain k), .int .u32 (Codes.first k), v]) ∧ VS w' v (i64s (Codes.more k)) ∧ Only [] w w' := by
  rcases h with rfl | rfl
  · exact row_0 w hT
  · exact row_2 w hT

set_option maxHeartbeats 400000 in
theorem last_c (k : Int) (w : World) (hT : Tabs w) : Calls Tryd.prog 10 #[.int .i64 k] w fun e w' => e = .returned (.int .i64 (Codes.last k)) ∧ Only [] w w' := by
  have HT := Lib.hid hT; clear hT
  by_cases h1 : k = 1
  · subst h1
    go_enter Tryd.func10, Tryd.ntmps10
    go_wp2
    go_ret
    exact ⟨rfl, Only.refl _ _⟩
  by_cases h : k = 0 ∨ k = 2
  · have hl := Codes.len_more k h
    have e1 : (k == 1) = false := beq_eq_false_iff_ne.2 h1
    have HK := Lib.hid h; clear h h1
    go_enter Tryd.func10, Tryd.ntmps10
    go_wp2_with fail
    refine (row_c k HK.out w HT.out).mono ?_
    rintro e w1 ⟨v, rfl, hv, ho⟩
    obtain ⟨a, cap, rfl, _⟩ := hv
    have HO := Lib.hid ho; clear ho
    simp only [i64s, List.length_map]
    go_wp2
    go_ret
    refine ⟨?_, HO.out⟩
    have : Codes.last k = Codes.plain k + (Codes.more k).length - 1 := if_neg (by simpa using e1)
    rw [this]; rfl
  · have h0 : k ≠ 0 := fun e => h (.inl e)
    have h2 : k ≠ 2 := fun e => h (.inr e)
    have el : Codes.last k = -1 := by simp [Codes.last, Codes.plain, Codes.more, h0, h1, h2]
    have e1 : (k == 1) = false := beq_eq_false_iff_ne.2 h1
    have H0 := Lib.hid h0; have H2 := Lib.hid h2; have HE := Lib.hid el
    clear h h1 h0 h2 el
    go_enter Tryd.func10, Tryd.ntmps10
    go_wp2_with fail
    refine (row_no k H0.out H2.out w).mono ?_
    rintro e w1 ⟨rfl, rfl⟩
    go_wp2
    go_ret
    rw [HE.out]
    exact ⟨rfl, Only.refl _ _⟩

/-- What Code and the reference's give back. -/
def trip (p : Int × Int × Int) : Value := .tuple #[.int .u32 p.1, .int .i64 p.2.1, .int .i64 p.2.2]
/-- What Of and the reference's give back. -/
def tripO (p : Int × Int × Int) : Value := .tuple #[.int .i64 p.1, .int .u32 p.2.1, .int .i64 p.2.2]

theorem code_kind {k : Int} (h : k = 0 ∨ k = 1 ∨ k = 2) (c : Int) : Codes.code k c = if c < 0 ∨ Codes.last k < c then (0, 0, 17) else ((Codes.begins k).getD c.toNat 0, (Codes.adds k).getD c.toNat 0, 0) := by
  have hb : Codes.begins k ≠ [] := by rcases h with rfl | rfl | rfl <;> decide
  unfold Codes.code
  rw [if_neg hb, Codes.last_eq]
  by_cases h : c < 0 ∨ ((Codes.begins k).length : Int) ≤ c
  · rw [if_pos h, if_pos (by omega)]
  · rw [if_neg h, if_neg (by omega)]

set_option maxHeartbeats 1000000 in
theorem code_c (k c : Int) (hc0 : -9223372036854775808 ≤ c) (hc1 : c ≤ 9223372036854775807) (w : World) (hT : Tabs w) : Calls Tryd.prog 8 #[.int .i64 k, .int .i64 c] w fun e w' => e = .returned (trip (Codes.code k c)) ∧ Only [] w w' := by
  have HT := Lib.hid hT; clear hT
  by_cases h : k = 0 ∨ k = 1 ∨ k = 2
  · have hck := code_kind h c
    have hll : 31 ≤ Codes.last k ∧ Codes.last k ≤ 52 := by rcases h with rfl | rfl | rfl <;> decide
    by_cases hout : c < 0 ∨ Codes.last k < c
    · rw [if_pos hout] at hck
      have HCK := Lib.hid hck; clear hck h
      rcases hout with ho | ho
      · go_enter Tryd.func8, Tryd.ntmps8
        go_wp2_with fail
        refine (last_c k w HT.out).mono ?_
        rintro e w1 ⟨rfl, ho1⟩
        have HO1 := Lib.hid ho1; clear ho1
        go_wp2
        go_ret3
        rw [HCK.out]
        exact ⟨rfl, HO1.out⟩
      · have hc : ¬ c < 0 := by omega
        go_enter Tryd.func8, Tryd.ntmps8
        go_wp2_with fail
        refine (last_c k w HT.out).mono ?_
        rintro e w1 ⟨rfl, ho1⟩
        have HO1 := Lib.hid ho1; clear ho1
        go_wp2
        go_ret3
        rw [HCK.out]
        exact ⟨rfl, HO1.out⟩
    · rw [if_neg hout] at hck
      have hlo : 0 ≤ c := by omega
      have hhi : c ≤ Codes.last k := by omega
      obtain ⟨j, rfl⟩ := Int.eq_ofNat_of_zero_le hlo
      rw [Int.toNat_natCast] at hck
      have HCK := Lib.hid hck; clear hck hout hlo
      by_cases h1 : k = 1
      · subst h1
        have hj : j ≤ 31 := by have : Codes.last 1 = 31 := rfl
                               omega
        have hb : ∀ j, j ≤ 31 → (Codes.begins 1).getD j 0 = 2 ^ j ∧ (Codes.adds 1).getD j 0 = (j : Int) := by decide
        have hb := hb j hj
        have HB := Lib.hid hb; clear hb
        go_enter Tryd.func8, Tryd.ntmps8
        go_wp2_with fail
        refine (last_c 1 w HT.out).mono ?_
        rintro e w1 ⟨rfl, ho1⟩
        have HO1 := Lib.hid ho1; clear ho1
        go_wp2
        go_ret3
        rw [HCK.out, HB.out.1, HB.out.2]
        have hpw : ∀ j, j ≤ 31 → (2 : Int) ^ j % 4294967296 = 2 ^ j := by decide
        exact ⟨by simp [trip, hpw j hj], HO1.out⟩
      · have hk : k = 0 ∨ k = 2 := by omega
        have hlm := Codes.len_more k hk
        have e1 : (k == 1) = false := beq_eq_false_iff_ne.2 h1
        have hlast : Codes.last k = Codes.plain k + (Codes.more k).length - 1 := if_neg h1
        by_cases hp : (j : Int) < Codes.plain k
        · have hbp := Codes.begin_plain k hk j hp
          have HBP := Lib.hid hbp; clear hbp
          have HK := Lib.hid hk; clear hk h h1
          have HLAST := Lib.hid hlast; clear hlast
          go_enter Tryd.func8, Tryd.ntmps8
          go_wp2_with fail
          refine (last_c k w HT.out).mono ?_
          rintro e w1 ⟨rfl, ho1⟩
          have HO1 := Lib.hid ho1; clear ho1
          go_wp2_with fail
          refine (row_c k HK.out w1 (HT.out.only HO1.out (by simp) (by simp))).mono ?_
          rintro e w2 ⟨v, rfl, hv, ho2⟩
          have HO2 := Lib.hid (HO1.out.then ho2); clear ho2 HO1 hv
          go_wp2
          go_ret3
          rw [HCK.out, HBP.out.1, HBP.out.2]
          exact ⟨rfl, HO2.out⟩
        · obtain ⟨pl, hpl⟩ := Int.eq_ofNat_of_zero_le hlm.2.2.2.1
          obtain ⟨m, rfl⟩ : ∃ m, j = pl + m := ⟨j - pl, by omega⟩
          have hmm : m < (Codes.more k).length := by omega
          have ham := Codes.add_more k hk m hmm
          have hbm := Codes.begin_more k hk
          rw [hpl, Int.toNat_natCast] at ham hbm
          have HAM := Lib.hid ham; have HBM := Lib.hid hbm
          clear ham hbm
          have HK := Lib.hid hk; clear hk h h1
          have HLAST := Lib.hid hlast; clear hlast
          have HPL := Lib.hid hpl; clear hpl
          go_enter Tryd.func8, Tryd.ntmps8
          go_wp2_with fail
          refine (last_c k w HT.out).mono ?_
          rintro e w1 ⟨rfl, ho1⟩
          have HO1 := Lib.hid ho1; clear ho1
          go_wp2_with fail
          refine (row_c k HK.out w1 (HT.out.only HO1.out (by simp) (by simp))).mono ?_
          rintro e w2 ⟨v, rfl, hv, ho2⟩
          have HO2 := Lib.hid (HO1.out.then ho2); clear ho2 HO1
          rw [HPL.out]
          have HV := Lib.hid hv
          obtain ⟨a, cap, rfl, hv1, hv2, _, _⟩ := hv
          simp only [i64s, List.length_map] at hv1 HV ⊢
          unfold maxLen at hv2
          have hat := fun (j : Nat) (hj : j < (Codes.more k).length) => HV.out.i64_at j hj
          have HAT := Lib.hid hat; clear hat
          have hst : ∀ j, j < m → (Codes.begins k).getD (pl + (j + 1)) 0 = (Codes.begins k).getD (pl + j) 0 + 2 ^ ((Codes.more k).getD j 0).toNat := by
            intro j hj
            have h1 := Codes.chain k (by rcases HK.out with h | h <;> simp [h]) (pl + j) (by have := hlm.1; have := HPL.out; omega)
            have h2 := Codes.add_more k HK.out j (by omega)
            rw [HPL.out, Int.toNat_natCast] at h2
            rw [h2] at h1
            exact h1
          have HST := Lib.hid hst; clear hst
          have hbd : ∀ j, j ≤ m → 0 ≤ (Codes.begins k).getD (pl + j) 0 ∧ (Codes.begins k).getD (pl + j) 0 + 2 ^ ((Codes.more k).getD j 0).toNat ≤ 4294967296 := by
            intro j hj
            have h1 := Codes.bounds k (by rcases HK.out with h | h <;> simp [h]) (pl + j) (by have := hlm.1; have := HPL.out; omega)
            have h2 := Codes.add_more k HK.out j (by omega)
            rw [HPL.out, Int.toNat_natCast] at h2
            rw [h2] at h1
            exact ⟨h1.2.2.1, h1.2.2.2⟩
          have HBD := Lib.hid hbd; clear hbd
          go_wp2_with fail
          go_loop [9, 55] (fun at_ i => ∃ j : Nat, j ≤ m ∧ i = .int .i64 j ∧ at_ = .int .u32 ((Codes.begins k).getD (pl + j) 0)) (fun _ i => m - (intOf i).toNat)
          case atStart => exact ⟨0, Nat.zero_le _, rfl, by rw [Nat.add_zero, HBM.out]⟩
          case round =>
            obtain ⟨j, hj, rfl, rfl⟩ := hrel
            have hb := HBD.out j hj
            generalize hX : (Codes.begins k).getD (pl + j) 0 = X at hb ⊢
            have HX := Lib.hid hX; clear hX
            by_cases hjm : j < m
            · obtain ⟨b, off, rfl, hcell⟩ := HAT.out j (by omega)
              have hn := Codes.more_bounds k HK.out j (by omega)
              have hs := HST.out j hjm
              have HS := Lib.hid hs; clear hs
              obtain ⟨n, hn2⟩ := Int.eq_ofNat_of_zero_le (show 0 ≤ (Codes.more k).getD j 0 by omega)
              rw [hn2] at hn hcell hb HS
              rw [Int.toNat_natCast] at hb HS
              clear hn2
              go_wp2_with fail
              go_round
              case rel =>
                refine ⟨j + 1, by omega, by go_num, ?_⟩
                have h1 := HBD.out (j + 1) (by omega)
                rw [HS.out, HX.out] at h1
                rw [HS.out, HX.out]
                have p1 := Int.pow_pos (m := n) (show (0 : Int) < 2 by decide)
                have p2 := Int.pow_pos (m := ((Codes.more k).getD (j + 1) 0).toNat) (show (0 : Int) < 2 by decide)
                congr 1
                omega
              case measure => simp [intOf]; omega
            · obtain rfl : j = m := by omega
              obtain ⟨b, off, rfl, hcell⟩ := HAT.out j hmm
              have hia : (0 : Int) ≤ (pl : Int) + j - pl ∧ (pl : Int) + j - pl < (Codes.more k).length := by omega
              have hib : ((pl : Int) + j - pl).toNat = j := by omega
              go_wp2_with fail
              go_quiet (fail)
              go_wp2
              go_ret3
              refine ⟨?_, HO2.out.drewN _⟩
              rw [HCK.out, HAM.out, HX.out]
              simp [trip, hmm]
  · have h0 : k ≠ 0 := fun e => h (.inl e)
    have h1 : k ≠ 1 := fun e => h (.inr (.inl e))
    have h2 : k ≠ 2 := fun e => h (.inr (.inr e))
    have el : Codes.last k = -1 := by simp [Codes.last, Codes.plain, Codes.more, h0, h1, h2]
    have ec : Codes.code k c = (0, 0, 1) := by simp [Codes.code, Codes.begins, h0, h1, h2]
    have EC := Lib.hid ec; have EL := Lib.hid el
    clear h h0 h1 h2 el ec
    go_enter Tryd.func8, Tryd.ntmps8
    go_wp2_with fail
    refine (last_c k w HT.out).mono ?_
    rintro e w1 ⟨rfl, ho1⟩
    have HO1 := Lib.hid ho1; clear ho1
    rw [EL.out]
    go_wp2
    go_ret3
    rw [EC.out]
    exact ⟨rfl, HO1.out⟩
end Go.Proofs.YtkokenhgggodjaaDoor.codes
