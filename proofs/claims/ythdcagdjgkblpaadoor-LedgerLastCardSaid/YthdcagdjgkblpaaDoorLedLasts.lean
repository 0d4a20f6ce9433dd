/-
  THE WALK of LedgerLast.
-/
import Derived.Test.YthdcagdjgkblpaaDoorLedRow
import Derived.Deep.AppendLies
import Derived.Deep.RegionLaw
set_option linter.unusedVariables false
set_option linter.unusedSimpArgs false
namespace Go.Lm.Led
/-- Records of values and kinds. -/
def zip (xs : List Nat) (ks : List UInt8) (k : Nat) : List (Nat × Nat) := (List.range k).map fun i => ((ks.getD i 0).toNat, xs.getD i 0)
theorem zip_succ (xs : List Nat) (ks : List UInt8) (k : Nat) : zip xs ks (k + 1) = zip xs ks k ++ [((ks.getD k 0).toNat, xs.getD k 0)] := by unfold zip; rw [List.range_succ, List.map_append]; rfl
theorem zip_length (xs : List Nat) (ks : List UInt8) (k : Nat) : (zip xs ks k).length = k := by simp [zip]
def has (R : List (Nat × Nat)) (kind : Nat) : Bool := R.any fun r => r.1 == kind
theorem has_snoc (R : List (Nat × Nat)) (r : Nat × Nat) (kind : Nat) : has (R ++ [r]) kind = (has R kind || r.1 == kind) := by simp [has]
theorem last_snoc (R : List (Nat × Nat)) (r : Nat × Nat) (kind : Nat) : last (R ++ [r]) kind = lst kind (last R kind) r := by unfold last; rw [List.foldl_append]; rfl
/-- What the greatest one is, told of lists that grow at their ends. -/
theorem last_spec (kind : Nat) : ∀ (R S : List (Nat × Nat)), S = R.reverse → (last S kind).2 = has S kind ∧ (has S kind = false → (last S kind).1 = 0) ∧ (∀ r ∈ S, r.1 = kind → r.2 ≤ (last S kind).1) ∧ (has S kind = true → ∃ r ∈ S, r.1 = kind ∧ r.2 = (last S kind).1) := by
  intro R
  induction R with
  | nil =>
    rintro S rfl
    exact ⟨rfl, fun _ => rfl, fun r hr => by simp at hr, fun h => by simp [has] at h⟩
  | cons r R0 ih =>
    rintro S rfl
    obtain ⟨h1, h2, h3, h4⟩ := ih R0.reverse rfl
    rw [List.reverse_cons]
    generalize R0.reverse = R at *
    rw [has_snoc, last_snoc]
    unfold lst
    by_cases hk : r.1 = kind
    · rw [if_pos hk]
      refine ⟨by simp [hk], fun h => by simp [hk] at h, fun q hq hqk => ?_, fun _ => ?_⟩
      · rcases List.mem_append.1 hq with h | h
        · exact Nat.le_trans (h3 q h hqk) (Nat.le_max_left _ _)
        · obtain rfl := List.mem_singleton.1 h; exact Nat.le_max_right _ _
      · by_cases hm : (last R kind).1 ≤ r.2
        · exact ⟨r, by simp, hk, by simp only []; omega⟩
        · cases hh : has R kind with
          | false => have := h2 hh; omega
          | true =>
            obtain ⟨q, hq, e1, e2⟩ := h4 hh
            exact ⟨q, by simp [hq], e1, by simp only []; omega⟩
    · rw [if_neg hk]
      have hb : (r.1 == kind) = false := by rw [beq_eq_false_iff_ne]; exact hk
      rw [hb, Bool.or_false]
      refine ⟨h1, h2, fun q hq hqk => ?_, fun h => ?_⟩
      · rcases List.mem_append.1 hq with h | h
        · exact h3 q h hqk
        · obtain rfl := List.mem_singleton.1 h; exact absurd hqk hk
      · obtain ⟨q, hq, e⟩ := h4 h
        exact ⟨q, by simp [hq], e⟩
end Go.Lm.Led
namespace Go.Proofs.YthdcagdjgkblpaaDoor.led
open Go Go.RowKit Go.Lm Go.Proofs.YthdcagdjgkblpaaDoor.cur Go.Proofs.YthdcagdjgkblpaaDoor.crc

set_option maxRecDepth 100000 in
set_option maxHeartbeats 4000000 in
theorem lasts_c (w : World) (hT : Tab w) (v u : Value) (xs : List Nat) (ks : List UInt8) (hv : VS w v (xs.map u64v)) (hu : BS w u ks) (hx : ∀ x ∈ xs, x < 18446744073709551616) (kind : Nat) (hkind : kind < 256) :
    Calls Tryd.prog 6 #[v, u, .int .u8 (kind : Int)] w fun e w' => e = .returned (.bool true) ∧ Below w.heap.size w w' := by
  have HT := Lib.hid hT; have HV := Lib.hid hv; have HU := Lib.hid hu; have HX := Lib.hid hx
  obtain ⟨a, cap, rfl, h1, h2, -, -⟩ := hv
  obtain ⟨a', cap', rfl, h3, h4, -, -⟩ := hu
  obtain ⟨N, hN⟩ : ∃ N, xs.length = N := ⟨_, rfl⟩
  obtain ⟨M, hM⟩ : ∃ M, ks.length = M := ⟨_, rfl⟩
  simp only [List.length_map, hN, hM] at h1 h2 h3 HV HU ⊢
  have HN := Lib.hid hN; have HM := Lib.hid hM
  unfold maxLen at h2 h4
  clear hT hx hN hM
  by_cases hbig : 30 < N
  · have hbI : (30 : Int) < (N : Int) := by omega
    go_enter Tryd.func6, Tryd.ntmps6
    go_wp2_with fail
    refine (awake_c w HT.out).mono ?_
    rintro e w1 ⟨rfl, ho1⟩
    have HO1 := Lib.hid ho1
    clear ho1
    go_wp2
    go_ret
    exact ⟨rfl, HO1.out.below (by simp) (Nat.le_refl _)⟩
  · go_enter Tryd.func6, Tryd.ntmps6
    go_wp2_with fail
    refine (awake_c w HT.out).mono ?_
    rintro e w1 ⟨rfl, ho1⟩
    have HO1 := Lib.hid ho1
    have HV1 := Lib.hid (HV.out.only ho1 (by simp))
    have HU1 := Lib.hid (HU.out.only ho1 (by simp))
    clear ho1
    obtain ⟨⟨zi, hi, hii⟩⟩ : Nonempty { zi // Tryd.prog.info? 32 = some zi ∧ (zi.zero, zi.size, zi.bytes) = (some (.agg #[.int .u8 0, .int .u64 0]), 2, 16) } := by
      have h := info_rec
      rw [Option.map_eq_some_iff] at h
      obtain ⟨zi, h1, h2⟩ := h
      exact ⟨⟨zi, h1, h2⟩⟩
    simp only [Prod.mk.injEq] at hii
    have HI := Lib.hid hi; have HII := Lib.hid hii
    clear hi hii
    --@1
    go_wp2_with fail
    --@2
    go_loopw [8, 9, 10] (fun x b i wr => ∃ k : Nat, k ≤ N ∧ k ≤ M ∧ i = .int .i64 (k : Nat) ∧ b = .bool (Led.has (Led.zip xs ks k) kind) ∧ wr.ownsRow w1.heap.size 32 2 x k (cellsR (Led.zip xs ks k)) ∧ Only [] w wr ∧ Only [] w1 wr) (fun x b i _ => N - (intOf i).toNat)
    case atStart => exact ⟨0, Nat.zero_le _, Nat.zero_le _, rfl, rfl, World.ownsRow_nil _ _ _ _, HO1.out, Only.refl _ _⟩
    case round =>
      obtain ⟨k, hk, hkM, rfl, rfl, hrow, ho, ho'⟩ := hrel
      have HO := Lib.hid ho; have HO' := Lib.hid ho'; have HRow := Lib.hid hrow
      clear ho ho' hrow
      by_cases hlt : k < N ∧ k < M
      · obtain ⟨hN', hM'⟩ := hlt
        obtain ⟨b, off, rfl, d0⟩ := vs_at (HV1.out.only HO'.out (by simp)) k (by rw [List.length_map, HN.out]; omega)
        have e2 : (xs.map u64v)[k]'(by rw [List.length_map, HN.out]; omega) = .int .u64 ((xs.getD k 0 : Nat) : Int) := by
          rw [List.getElem_map, List.getD_eq_getElem?_getD, List.getElem?_eq_getElem (by rw [HN.out]; omega)]
          rfl
        rw [e2] at d0
        obtain ⟨b', off', rfl, d1⟩ := bs_at (HU1.out.only HO'.out (by simp)) k (by rw [HM.out]; omega)
        have e3 : (((ks[k]'(by rw [HM.out]; omega)).toNat : Nat) : Int) = (((ks.getD k 0).toNat : Nat) : Int) := by
          rw [List.getD_eq_getElem?_getD, List.getElem?_eq_getElem (by rw [HM.out]; omega)]
          rfl
        rw [e3] at d1
        have hz := Led.zip_succ xs ks k
        obtain ⟨X, hX⟩ : ∃ X, xs.getD k 0 = X := ⟨_, rfl⟩
        obtain ⟨K, hK⟩ : ∃ K, (ks.getD k 0).toNat = K := ⟨_, rfl⟩
        rw [hX] at d0 hz
        rw [hK] at d1 hz
        have hKe : (((ks[k]'(by rw [HM.out]; omega)).toNat : Nat) : Int) = (K : Int) := by rw [e3, hK]
        have HK := Lib.hid hKe
        clear hKe
        have HZ := Lib.hid hz
        have hhas : Led.has (Led.zip xs ks (k + 1)) kind = (Led.has (Led.zip xs ks k) kind || K == kind) := by rw [HZ.out, Led.has_snoc]
        have HHas := Lib.hid hhas
        have hlI : (k : Int) < (N : Int) := by omega
        have hlJ : (k : Int) < (M : Int) := by omega
        clear e2 e3 hX hK hz hhas
        --@3
        go_upto_region 11 with fail
        obtain ⟨AL, hAL⟩ : ∃ AL, wr.alloc (.cells #[.int .u8 (K : Int), .int .u64 (X : Int)] 32 (0, 0)) = AL := ⟨_, rfl⟩
        have HA1 : Hid (AL.ownsRow w1.heap.size 32 2 u8 k (cellsR (Led.zip xs ks k))) := by rw [← hAL]; exact row_only HRow.out ((Only.refl [] wr).alloc _)
        have HA2 : Hid (AL.heap[wr.heap.size]? = some (.cells #[.int .u8 (K : Int), .int .u64 (X : Int)] 32 (0, 0))) := by rw [← hAL]; exact heap_alloc_new wr _
        have HA3 : Hid (Only [] w1 AL) := by rw [← hAL]; exact HO'.out.alloc _
        have HA4 : Hid (w1.heap.size ≤ AL.heap.size) := HA3.out.size
        subst hAL
        have HUB : Hid (∀ i, u8.ownBlock = some i → w1.heap.size ≤ i) := fun i hi => (World.ownsRow.lt HRow.out i hi).1
        go_region_law (refine step_append_lies _ rfl _ _ _ rfl w1.heap.size 32 zi _ 2 16 Tryd.underlying24 HI.out HII.out.1 HII.out.2.1 HII.out.2.2 rfl (by decide) _ k (cellsR (Led.zip xs ks k)) rfl HA1.out ⟨wr.heap.size, 0, none⟩ 1 1 [.int .u8 (K : Int), .int .u64 (X : Int)] rfl rfl (World.news_of_block HA2.out) (by intro q hq; simp at hq; rcases hq with rfl | rfl <;> rfl) (by decide) (by unfold maxLen; omega) (by omega) HA4.out _ rfl ?_; intro g cap2 w3 hown hgrow hat hlt; have HROWN := Lib.hid hown; have HGROW := Lib.hid hgrow; clear hown hgrow hat hlt)
        --@31
        all_goals
          have hrow5 : w3.ownsRow w1.heap.size 32 2 (.slice (some ⟨g, 0, none⟩) (k + 1) cap2) (k + 1) (cellsR (Led.zip xs ks (k + 1))) := by rw [HZ.out, cellsR_snoc]; exact HROWN.out
          have HROW5 := Lib.hid hrow5
          have hg0 := Only.of_grown HGROW.out
          have hg1 : ∀ i ∈ u8.ownBlock.toList, i ∈ ([] : List Nat) ∨ w1.heap.size ≤ i := fun i hi => .inr (HUB.out i (by
            cases hu : u8.ownBlock with
            | none => rw [hu] at hi; simp at hi
            | some g => rw [hu] at hi; simp at hi; rw [hi]))
          have ho3' : Only [] w1 w3 := by first | exact HA3.out.drew.trans hg0 (by simp) hg1 | exact HA3.out.trans hg0 (by simp) hg1
          clear hg0 hg1
          have HO3' := Lib.hid ho3'
          have HO3 := Lib.hid (HO1.out.then ho3')
          obtain ⟨b2, off2, he2, d2⟩ := bs_at (HU1.out.only ho3' (by simp)) k (by rw [HM.out]; omega)
          obtain ⟨rfl, rfl⟩ : b' = b2 ∧ off' = off2 := by simpa using he2
          rw [HK.out] at d2
          clear hrow5 d1 d0 ho3' he2
          --@4
          go_wp2_with fail
        all_goals
          refine ⟨⟨k + 1, by omega, by omega, by go_num, ?_, HROW5.out, HO3.out, HO3'.out⟩, by simp [intOf]; omega⟩
          rw [HHas.out]
          congr 1
          first | (simp [*]; done) | (rw [Bool.eq_iff_iff]; simp [*]; omega)
      · have hno : ¬ ((k : Int) < (N : Int) ∧ (k : Int) < (M : Int)) := by omega
        have hst : k = N ∨ k = M := by omega
        have hR := Led.last_spec kind (Led.zip xs ks k).reverse (Led.zip xs ks k) (by rw [List.reverse_reverse])
        have hzl := Led.zip_length xs ks k
        have hz64 : ∀ r ∈ Led.zip xs ks k, r.2 < 18446744073709551616 := by
          intro r hr
          unfold Led.zip at hr
          obtain ⟨i, hi, rfl⟩ := List.mem_map.1 hr
          have hi := List.mem_range.1 hi
          show xs.getD i 0 < _
          have hil : i < xs.length := by rw [HN.out]; omega
          rw [List.getD_eq_getElem?_getD, List.getElem?_eq_getElem hil]; exact HX.out _ (List.getElem_mem hil)
        have HR3 : Hid (RS wr u8 (Led.zip xs ks k)) := RS.of_row (by rw [hzl]; exact HRow.out)
        generalize Led.zip xs ks k = R at *
        obtain ⟨b0, hb0⟩ : ∃ b0, Led.has R kind = b0 := ⟨_, rfl⟩
        rw [hb0] at hR ⊢
        obtain ⟨⟨m, b1⟩, hm⟩ : ∃ p, Led.last R kind = p := ⟨_, rfl⟩
        rw [hm] at hR
        obtain ⟨rfl, hs2, hs3, hs4⟩ := hR
        have hms : ∀ r ∈ R, r.1 = kind → r.2 ≤ m := hs3
        have hm0 : b1 = false → m = 0 := hs2
        have hm1 : b1 = true → ∃ r ∈ R, r.1 = kind ∧ r.2 = m := hs4
        have HMS := Lib.hid hms; have HM0 := Lib.hid hm0; have HM1 := Lib.hid hm1; have HB0 := Lib.hid hb0; have HLM := Lib.hid hm; have H64 := Lib.hid hz64; have HZL := Lib.hid hzl
        clear hs2 hs3 hs4 hms hm0 hm1 hb0 hm hz64 hzl HRow
        have hfnd : ∀ j (h : j < R.length), (!b1 || (R.take (j + 1)).any fun r => r.1 == kind && r.2 == m) = ((!b1 || (R.take j).any fun r => r.1 == kind && r.2 == m) || (R[j].1 == kind && R[j].2 == m)) := by
          intro j h
          rw [List.take_succ_eq_append_getElem h, List.any_append]
          simp [Bool.or_assoc]
        have hend : (!b1 || (R.take R.length).any fun r => r.1 == kind && r.2 == m) = true := by
          rw [List.take_length]
          cases hb : b1 with
          | false => rfl
          | true =>
            obtain ⟨r, hr, e1, e2⟩ := HM1.out hb
            rw [Bool.not_true, Bool.false_or, List.any_eq_true]
            exact ⟨r, hr, by simp [e1, e2]⟩
        have hbeg : ((!b1) && (m == 0)) = (!b1) := by
          cases hb : b1 with
          | false => rw [HM0.out hb]; rfl
          | true => rfl
        have HF := Lib.hid hfnd; have HE := Lib.hid hend
        have hm0' : b1 = false → ((m : Int) == 0) = true := fun h => by rw [HM0.out h]; rfl
        clear hfnd hend hbeg
        obtain ⟨a8, cap8, rfl, h7, h8⟩ := HR3.out.slice
        unfold maxLen at h8
        have HST := Lib.hid hst
        rw [HZL.out] at HR3 h7 ⊢
        --@5
        have hw : ∀ (Q : Prop), (k = N → Q) → (k = M → Q) → Q := fun Q h1 h2 => HST.out.elim h1 h2
        obtain ⟨bb, hbb⟩ : ∃ bb, b1 = bb := ⟨_, rfl⟩
        have HBB := Lib.hid hbb
        rw [hbb] at HF HE
        clear hbb
        cases b1
        all_goals
          try (have hmz : ((m : Int) == 0) = true := hm0' rfl)
          clear hm0' hst hw
          have hst2 : (¬ ((k : Int) < (N : Int))) ∨ ((k : Int) < (N : Int) ∧ ¬ ((k : Int) < (M : Int))) := by have := HST.out; omega
          rcases hst2 with hst2 | ⟨hst2, hst3⟩
        all_goals
          go_wp2_with fail
          have hlast := last_c wr _ R HR3.out kind H64.out
          rw [HLM.out] at hlast
          refine hlast.mono ?_
          clear hlast
          rintro e w4 ⟨rfl, ho4⟩
          have HO4 := Lib.hid (HO.out.then ho4)
          have HR4 := Lib.hid (HR3.out.only ho4)
          clear ho4
          go_wp2_with fail
          --@6
          go_loopw [13, 14] (fun f i wr => ∃ (j : Nat) (fb : Bool), j ≤ k ∧ i = .int .i64 (j : Nat) ∧ f = .bool fb ∧ fb = (!bb || (R.take j).any fun r => r.1 == kind && r.2 == m) ∧ Only [] w wr ∧ Only [] w4 wr) (fun f i _ => k - (intOf i).toNat)
          case atStart =>
            refine ⟨0, _, Nat.zero_le _, rfl, rfl, ?_, HO4.out, Only.refl _ _⟩
            rw [← HBB.out]
            rfl
          case round =>
            obtain ⟨j, fb, hj, rfl, rfl, hfb, ho, ho'⟩ := hrel
            have HFB := Lib.hid hfb; have HO := Lib.hid ho; have HO' := Lib.hid ho'
            clear hfb ho ho'
            by_cases hlt : j < k
            · have hjR : j < R.length := by rw [HZL.out]; exact hlt
              obtain ⟨b2, off2, he, c0, c1⟩ := (HR4.out.only HO'.out).at j hjR
              have hf := HF.out j hjR
              rw [← HFB.out] at hf
              have hmx : R[j].1 = kind → R[j].2 ≤ m := HMS.out R[j] (List.getElem_mem hjR)
              obtain ⟨⟨K, V⟩, hr⟩ : ∃ r, R[j] = r := ⟨_, rfl⟩
              rw [hr] at c0 c1 hf hmx
              have hmx : K = kind → V ≤ m := hmx
              have HF2 : Hid ((!bb || (R.take (j + 1)).any fun r => r.1 == kind && r.2 == m) = (fb || (K == kind && V == m))) := hf
              clear hf hr hjR
              subst he
              by_cases hK : K = kind
              · have hV := hmx hK
                have hKI : ((K : Int) == (kind : Int)) = true := by rw [beq_iff_eq]; omega
                clear hmx
                by_cases hVm : V = m
                · have hres : (fb || (K == kind && V == m)) = true := by simp [hK, hVm]
                  have HRES := Lib.hid hres
                  have hVI : ((V : Int) == (m : Int)) = true := by rw [beq_iff_eq]; omega
                  clear hres
                  cases fb
                  all_goals
                    go_wp2
                    go_roundw
                    case rel => exact ⟨j + 1, true, by omega, by go_num, rfl, by rw [HF2.out, HRES.out], HO.out, HO'.out⟩
                    case measure => simp [intOf]; omega
                · have hres : (fb || (K == kind && V == m)) = fb := by simp [hVm]
                  have HRES := Lib.hid hres
                  have hVI : ((V : Int) == (m : Int)) = false := by rw [beq_eq_false_iff_ne]; omega
                  clear hres
                  cases fb
                  all_goals
                    go_wp2
                    go_roundw
                    case rel => exact ⟨j + 1, _, by omega, by go_num, rfl, by rw [HF2.out, HRES.out], HO.out, HO'.out⟩
                    case measure => simp [intOf]; omega
              · have hres : (fb || (K == kind && V == m)) = fb := by simp [hK]
                have HRES := Lib.hid hres
                have hKI : ((K : Int) == (kind : Int)) = false := by rw [beq_eq_false_iff_ne]; omega
                clear hres hmx
                go_wp2
                go_roundw
                case rel => exact ⟨j + 1, _, by omega, by go_num, rfl, by rw [HF2.out, HRES.out], HO.out, HO'.out⟩
                case measure => simp [intOf]; omega
            · obtain rfl : j = k := by omega
              have hend : fb = true := by
                rw [HFB.out, ← HZL.out]
                exact HE.out
              subst hend
              go_wp2
              go_ret
              exact ⟨rfl, HO.out.below (by simp) (Nat.le_refl _)⟩
end Go.Proofs.YthdcagdjgkblpaaDoor.led
