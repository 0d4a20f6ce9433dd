/-
  MerklePins, walked.
-/
import Derived.Test.YtpgcfpfmicghnaaDoorMrkAwake
import Derived.Test.YtpgcfpfmicghnaaDoorMrkRCheck
import Derived.Test.YtpgcfpfmicghnaaDoorMrkTwo
import Derived.Test.YtpgcfpfmicghnaaDoorMrkSame
import Derived.Test.YtpgcfpfmicghnaaDoorMrkModel
set_option linter.unusedVariables false
set_option linter.unusedSimpArgs false
namespace Go.Proofs.YtpgcfpfmicghnaaDoor.mrk
open Go Go.RowKit Go.Lm Go.ChangeShapes Go.WideShapes Go.Proofs.YtpgcfpfmicghnaaDoor.sha

theorem wpList_load_rowG {P : Program} {ops : Array Oper} {rest : List Oper} {o : Oper} {a : Act} {w : World} {Q : Exit → Act → World → Prop} (hw : Region.wanted o (yielded ops a.tmps) = true) (ty : TypeId) (x : Operand) (ho : o.op = .load ty x)
    (g : Nat) (hx : a.eval x = .pointer (some ⟨g, 0, none⟩)) (t : TypeId) (cs : Array Value) (fr : Nat × Nat) (d : TypeDesc) (hg : w.heap[g]? = some (.cells cs t fr))
    (hu : P.underlying ty = some d) (hd : (match d with | .struct _ | .array _ _ => true | _ => false) = true) (hi : (P.info? ty).map (·.size) = some cs.size)
    (h : wpList P ops Q rest (a.put o.dst (.agg cs)) w) : wpList P ops Q (o :: rest) a w :=
  wpList_step fun K hK => by rw [if_pos hw]; exact wp_load_row ty x ho g hx t cs fr d hg hu hd hi (hK _ _ h)
theorem chk_zero {s p : Nat} {ds : List (List UInt8)} {d : List UInt8} (h : chk s p ds d = 0) : (cnt s (p : Nat)).1 = ds.length ∧ idD s p ds = d := by
  unfold chk at h
  split at h
  · rename_i h1; exact absurd h h1
  · split at h
    · simp at h
    · rename_i h2
      split at h
      · simp at h
      · rename_i h3; exact ⟨Classical.not_not.1 h2, Classical.not_not.1 h3⟩

theorem check_dd (w : World) (s p : Nat) (v : Value) (ds : List (List UInt8)) (d : List UInt8) (D : Array Value) (hD : dv d = .agg D) (hv : DS w v ds) (hd : d.length = 32) (hs : s < 18446744073709551616) (hp : p < 4294967296) (hn : ds.length ≤ 100000) (hT : Tab w) (hZ : Tz w) :
    Calls Tryd.prog 22 #[.agg #[.int .u64 (s : Nat), .int .u32 (p : Nat), v], .agg D] w fun e w' => e = .returned (.int .i64 (chk s p ds d : Nat)) ∧ Only [] w w' := by
  rw [← hD]
  exact check_c w s p v ds d hv hd hs hp hn hT hZ

set_option maxRecDepth 100000 in
set_option maxHeartbeats 8000000 in
theorem pins_c (w : World) (hT : Tab w) (hZ : Tz w) (s p s2 p2 : Nat) (u v : Value) (ds es : List (List UInt8)) (l : List UInt8) (ob : Bool) (hu : DS w u ds) (hs : s < 18446744073709551616) (hp : p < 4294967296)
    (hv : DS w v es) (hs2 : s2 < 18446744073709551616) (hp2 : p2 < 4294967296) (hl : l.length = 32) :
    Calls Tryd.prog 7 #[.agg #[.int .u64 (s : Nat), .int .u32 (p : Nat), u], .agg #[.int .u64 (s2 : Nat), .int .u32 (p2 : Nat), v], dv l, .bool ob] w fun e w' => e = .returned (.bool true) ∧ Below w.heap.size w w' := by
  have HT := Lib.hid hT; have HTZ := Lib.hid hZ; have HV := Lib.hid hu; have HU := Lib.hid hv; have HS := Lib.hid hs; have HP := Lib.hid hp; have HS2 := Lib.hid hs2; have HP2 := Lib.hid hp2
  obtain ⟨A, hA, hAs, hAi, -⟩ := store_facts l hl
  have HR1 := Lib.hid (root_length ds hu.d32); have HR2 := Lib.hid (root_length es hv.d32)
  obtain ⟨K1, hK1⟩ := store_facts (rootD ds) HR1.out
  obtain ⟨K2, hK2⟩ := store_facts (rootD es) HR2.out
  have HK1 := Lib.hid hK1; have HK2 := Lib.hid hK2
  obtain ⟨a, cap, rfl, k1, k2, -⟩ := hu
  obtain ⟨b, cbp, rfl, j1, j2, -⟩ := hv
  unfold maxLen at k2 j2
  obtain ⟨n, hn⟩ : ∃ n, ds.length = n := ⟨_, rfl⟩
  obtain ⟨n2, hn2⟩ : ∃ n, es.length = n := ⟨_, rfl⟩
  rw [hn] at k1 HV ⊢
  rw [hn2] at j1 HU ⊢
  have HN1 := Lib.hid hn; have HN2 := Lib.hid hn2; have HLL := Lib.hid hl
  rw [hA]
  have HAV := Lib.hid hA; have HAI := Lib.hid hAi; have HAS := Lib.hid hAs
  clear hT hZ hs hp hs2 hp2 hl hA hAs hAi hn hn2 hK1 hK2
  go_enter Tryd.func7, Tryd.ntmps7
  go_upto_region 1 with fail
  generalize hg : World.alloc _ _ = w1
  have h3 := three w (.cells #[.int .u64 (s : Nat), .int .u32 (p : Nat), .slice a n cap] 35 (0, 0)) (.cells #[.int .u64 (s2 : Nat), .int .u32 (p2 : Nat), .slice b n2 cbp] 35 (0, 0)) (.cells A 25 (0, 0))
  have he : w1 = ((w.alloc (.cells #[.int .u64 (s : Nat), .int .u32 (p : Nat), .slice a n cap] 35 (0, 0))).alloc (.cells #[.int .u64 (s2 : Nat), .int .u32 (p2 : Nat), .slice b n2 cbp] 35 (0, 0))).alloc (.cells A 25 (0, 0)) := hg.symm.trans rfl
  rw [← he] at h3
  have HO1 : Hid (Only [] w w1) := Lib.hid (by rw [he]; exact (((Only.refl [] w).alloc _).alloc _).alloc _)
  have HM0 : Hid (M3 w1 w.heap.size 35 s p (.slice a n cap)) := Lib.hid h3.1
  have HN0 : Hid (M3 w1 (w.heap.size + 1) 35 s2 p2 (.slice b n2 cbp)) := Lib.hid h3.2.1
  have HD0 : Hid (w1.heap[w.heap.size + 2]? = some (.cells A 25 (0, 0))) := Lib.hid h3.2.2
  clear hg he h3
  obtain ⟨q, hq⟩ : ∃ q, w.heap.size = q := ⟨_, rfl⟩
  rw [hq] at HM0 HN0 HD0 ⊢
  have HWQ := Lib.hid hq
  clear hq
  go_wp2_with fail
  refine (awake_c w1 (HT.out.only HO1.out (by simp)) (HTZ.out.only HO1.out (by simp))).mono ?_
  rintro e wl ⟨rfl, ho2⟩
  have HO2 := Lib.hid (HO1.out.then ho2); have HM2 := Lib.hid (HM0.out.only ho2 (by simp)); have HNN2 := Lib.hid (HN0.out.only ho2 (by simp)); have HD2 := Lib.hid (ho2.heap HD0.out (by simp))
  clear ho2 HO1 HM0 HN0 HD0
  obtain ⟨c0, c1, c2, cf⟩ := HM2.out.cells
  obtain ⟨e0, e1, e2, ef⟩ := HNN2.out.cells
  by_cases h1 : 100 < n
  · have h1I : (100 : Int) < (n : Int) := by omega
    go_wp2_with fail
    go_ret
    exact ⟨rfl, HO2.out.below (by simp) (Nat.le_refl _)⟩
  have h1I : ¬ (100 : Int) < (n : Int) := by omega
  by_cases h4 : 100 < n2
  · have h4I : (100 : Int) < (n2 : Int) := by omega
    go_wp2_with fail
    go_ret
    exact ⟨rfl, HO2.out.below (by simp) (Nat.le_refl _)⟩
  have h4I : ¬ (100 : Int) < (n2 : Int) := by omega
  cases ob with
  | false =>
    have HD32 := HLL; have HDV := HAV; have HDI := HAI
    go_upto_region 8 with fail
    clear c0 c1 c2 cf e0 e1 e2 ef
    generalize hAD : A = D at *
    generalize hld : l = d at *
    --@1
    go_wp2_with (first | (refine wpList_load_rowG (by rfl) 35 _ rfl q rfl _ _ _ _ HM2.out Tryd.underlying35 rfl (by kernel_rfl) ?_) | (refine wpList_load_rowG (by rfl) 35 _ rfl (q + 1) rfl _ _ _ _ HNN2.out Tryd.underlying35 rfl (by kernel_rfl) ?_) | (refine wpList_load_rowG (by rfl) 25 _ rfl (q + 2) rfl _ _ _ _ HD2.out Tryd.underlying25 rfl HDI.out ?_))
    --@A
    refine (check_dd wl s p _ ds d D HDV.out (HV.out.only HO2.out (by simp)) HD32.out HS.out HP.out (by rw [HN1.out]; omega) (HT.out.only HO2.out (by simp)) (HTZ.out.only HO2.out (by simp))).mono ?_
    rintro e w3 ⟨rfl, ho3⟩
    have HO3 := Lib.hid (HO2.out.then ho3); have HM3 := Lib.hid (HM2.out.only ho3 (by simp)); have HNN3 := Lib.hid (HNN2.out.only ho3 (by simp)); have HD3 := Lib.hid (ho3.heap HD2.out (by simp))
    clear ho3 HO2 HM2 HNN2 HD2
    obtain ⟨C1, hC1⟩ : ∃ C, chk s p ds d = C := ⟨_, rfl⟩
    rw [hC1]
    by_cases hc1 : C1 = 0
    · subst hc1
      have HC1 := Lib.hid (chk_zero hC1)
      clear hC1
      rw [show ((0 : Nat) : Int) = 0 from rfl]
      go_wp2_with (first | (refine wpList_load_rowG (by rfl) 35 _ rfl q rfl _ _ _ _ HM3.out Tryd.underlying35 rfl (by kernel_rfl) ?_) | (refine wpList_load_rowG (by rfl) 35 _ rfl (q + 1) rfl _ _ _ _ HNN3.out Tryd.underlying35 rfl (by kernel_rfl) ?_) | (refine wpList_load_rowG (by rfl) 25 _ rfl (q + 2) rfl _ _ _ _ HD3.out Tryd.underlying25 rfl HDI.out ?_))
      --@B
      refine (check_dd w3 s2 p2 _ es d D HDV.out (HU.out.only HO3.out (by simp)) HD32.out HS2.out HP2.out (by rw [HN2.out]; omega) (HT.out.only HO3.out (by simp)) (HTZ.out.only HO3.out (by simp))).mono ?_
      rintro e w4 ⟨rfl, ho4⟩
      have HO4 := Lib.hid (HO3.out.then ho4); have HM4 := Lib.hid (HM3.out.only ho4 (by simp)); have HNN4 := Lib.hid (HNN3.out.only ho4 (by simp))
      clear ho4 HO3 HM3 HNN3 HD3
      obtain ⟨C2, hC2⟩ : ∃ C, chk s2 p2 es d = C := ⟨_, rfl⟩
      rw [hC2]
      by_cases hc2 : C2 = 0
      · subst hc2
        have HC2 := Lib.hid (chk_zero hC2)
        clear hC2
        rw [show ((0 : Nat) : Int) = 0 from rfl]
        by_cases h1 : s = s2
        · subst h1
          by_cases h2 : p = p2
          · subst h2
            obtain ⟨c0, c1, c2, cf⟩ := HM4.out.cells
            obtain ⟨e0, e1, e2, ef⟩ := HNN4.out.cells
            go_wp2_with fail
            --@C
            refine (same_c w4 _ _ ds es (HV.out.only HO4.out (by simp)) (HU.out.only HO4.out (by simp)) (by rw [HN1.out]; omega) (by rw [HN2.out]; omega)).mono ?_
            rintro e w5 ⟨rfl, ho5⟩
            have HO5 := Lib.hid (HO4.out.then ho5); have HM5 := Lib.hid (HM4.out.only ho5 (by simp)); have HNN5 := Lib.hid (HNN4.out.only ho5 (by simp))
            clear ho5 HO4 HM4 HNN4 c0 c1 c2 cf e0 e1 e2 ef
            by_cases h3 : ds = es
            · rw [decide_eq_true h3]
              go_wp2_with fail
              go_ret
              exact ⟨rfl, HO5.out.below (by simp) (Nat.le_refl _)⟩
            · rw [decide_eq_false h3]
              have HNE := Lib.hid h3
              clear h3
              obtain ⟨c0, c1, c2, cf⟩ := HM5.out.cells
              obtain ⟨e0, e1, e2, ef⟩ := HNN5.out.cells
              go_wp2_with fail
              refine (rroot_c w5 _ ds (HV.out.only HO5.out (by simp)) (by rw [HN1.out]; omega)).mono ?_
              rintro e wa ⟨rfl, hoa⟩
              rw [HK1.out.1]
              have HOa := Lib.hid (HO5.out.then hoa); have HMa := Lib.hid (HM5.out.only hoa (by simp)); have HNa := Lib.hid (HNN5.out.only hoa (by simp))
              clear hoa HO5 HM5 HNN5 c0 c1 c2 cf e0 e1 e2 ef
              go_upto_region 13 with (refine wpList_store_row rfl 25 _ _ rfl wa.heap.size K1 rfl rfl _ _ (heap_alloc_new wa _) HK1.out.2.2.1 (by rw [HK1.out.2.1]; simp) HK1.out.2.2.2 ?_)
              generalize hg : World.setRow _ _ _ = wb
              have heb : wb = (wa.alloc (.cells (List.replicate 32 (Value.int .u8 0)).toArray 25 (0, 0))).setRow wa.heap.size K1 := hg.symm.trans rfl
              have HKb : Hid (wb.heap[wa.heap.size]? = some (.cells K1 25 (0, 0))) := Lib.hid (by rw [heb]; exact setRow_heap _ _ _ K1 _ _ (heap_alloc_new wa _))
              have hob : Only [] wa wb := by rw [heb]; exact ((Only.refl [] wa).alloc _).setRow (.inr (Nat.le_refl _)) K1
              have HOb := Lib.hid (HOa.out.then hob); have HMb := Lib.hid (HMa.out.only hob (by simp)); have HNb := Lib.hid (HNa.out.only hob (by simp))
              clear hg heb hob HOa HMa HNa
              obtain ⟨r1, hr1⟩ : ∃ r, wa.heap.size = r := ⟨_, rfl⟩
              rw [hr1] at HKb ⊢
              clear hr1
              obtain ⟨e0, e1, e2, ef⟩ := HNb.out.cells
              go_wp2_with fail
              refine (rroot_c wb _ es (HU.out.only HOb.out (by simp)) (by rw [HN2.out]; omega)).mono ?_
              rintro e wc ⟨rfl, hoc⟩
              rw [HK2.out.1]
              have HOc := Lib.hid (HOb.out.then hoc); have HMc := Lib.hid (HMb.out.only hoc (by simp)); have HNc := Lib.hid (HNb.out.only hoc (by simp)); have HKc := Lib.hid (hoc.heap HKb.out (by simp))
              clear hoc HOb HMb HNb HKb e0 e1 e2 ef
              go_upto_region 14 with (refine wpList_store_row rfl 25 _ _ rfl wc.heap.size K2 rfl rfl _ _ (heap_alloc_new wc _) HK2.out.2.2.1 (by rw [HK2.out.2.1]; simp) HK2.out.2.2.2 ?_)
              generalize hg : World.setRow _ _ _ = we
              have hee : we = (wc.alloc (.cells (List.replicate 32 (Value.int .u8 0)).toArray 25 (0, 0))).setRow wc.heap.size K2 := hg.symm.trans rfl
              have HKe : Hid (we.heap[wc.heap.size]? = some (.cells K2 25 (0, 0))) := Lib.hid (by rw [hee]; exact setRow_heap _ _ _ K2 _ _ (heap_alloc_new wc _))
              have hoe : Only [] wc we := by rw [hee]; exact ((Only.refl [] wc).alloc _).setRow (.inr (Nat.le_refl _)) K2
              have HOe := Lib.hid (HOc.out.then hoe); have HMe := Lib.hid (HMc.out.only hoe (by simp)); have HNe := Lib.hid (HNc.out.only hoe (by simp)); have HKd := Lib.hid (hoe.heap HKc.out (by simp))
              clear hg hee hoe HOc HMc HNc HKc
              obtain ⟨r2, hr2⟩ : ∃ r, wc.heap.size = r := ⟨_, rfl⟩
              rw [hr2] at HKe ⊢
              clear hr2
              obtain ⟨c0, c1, c2, cf⟩ := HMe.out.cells
              obtain ⟨e0, e1, e2, ef⟩ := HNe.out.cells
              --@D
              by_cases h4 : rootD ds = rootD es
              · have hK : K2 = K1 := by
                  have h1 := HK1.out.1
                  rw [h4, HK2.out.1] at h1
                  exact Value.agg.inj h1
                subst hK
                have hqk : ∀ W, (binOp .neq 25 (.agg K2) (.agg K2)).run Tryd.prog W = .ok (.bool false) W := fun W => by
                  have h := neq_dv (rootD ds) (rootD ds) HR1.out HR1.out W
                  rw [HK1.out.1, beq_self_eq_true] at h
                  exact h
                have hgk : ∀ ox oy W, (eqGuard .neq 25 ox oy (.agg K2) (.agg K2)).run Tryd.prog W = .ok () W := fun ox oy W => by
                  have h := guard_dv .neq (rootD ds) (rootD ds) ox oy W
                  rw [HK1.out.1] at h
                  exact h
                have hyes : twoB ds es = true := decide_eq_true ⟨by rw [← HC1.out.1, ← HC2.out.1], HNE.out, h4⟩
                have hnn : n = n2 := by rw [← HN1.out, ← HN2.out, ← HC1.out.1, ← HC2.out.1]
                subst hnn
                go_wp2_with (first
                  | (refine wpList_load_rowG (by rfl) 25 _ rfl r1 rfl _ _ _ _ HKd.out Tryd.underlying25 rfl HK1.out.2.2.1 ?_)
                  | (refine wpList_load_rowG (by rfl) 25 _ rfl r2 rfl _ _ _ _ HKe.out Tryd.underlying25 rfl HK1.out.2.2.1 ?_))
                --@E
                refine (two_yes we _ _ ds es (HV.out.only HOe.out (by simp)) (HU.out.only HOe.out (by simp)) (by rw [HN1.out]; omega) (HT.out.only HOe.out (by simp)) (HTZ.out.only HOe.out (by simp)) hyes).mono ?_
                rintro e w5 ⟨X, Y, lx, ly, rfl, hbx, hby, ho5, -, hxy⟩
                have HXY := Lib.hid (hxy hyes)
                rw [hyes]
                have HO5 := Lib.hid (HOe.out.then ho5)
                clear hxy ho5 HOe HMe HNe HKd HKe hqk hgk c0 c1 c2 cf e0 e1 e2 ef hyes h4
                obtain ⟨ax, cx, rfl, x1, x2, -⟩ := id hbx
                obtain ⟨ay, cy, rfl, y1, y2, -⟩ := id hby
                unfold maxLen at x2 y2
                have HXB := Lib.hid hbx; have HYB := Lib.hid hby
                rw [HXY.out.2.2.1] at x1 HXB ⊢
                rw [HXY.out.2.2.2] at y1 HYB ⊢
                clear hbx hby
                go_upto_region 17 with fail
                --@F
                refine wp_region_M [] (by kernel_rfl) ?_
                change wpAnyM _ _ _ _ _ _ _ _ (World.drew _)
                have HOd := Lib.hid HO5.out.drew; have HX1 := Lib.hid (HXB.out.only (Only.refl [] w5).drew (by simp)); have HY1 := Lib.hid (HYB.out.only (Only.refl [] w5).drew (by simp))
                generalize World.drew w5 = wd at *
                clear HO5 HXB HYB
                have hsx : ∀ x : Later [] wd, (convert 23 9 (.slice ax 65 cx)).run Tryd.prog x.at' = .ok (.string ⟨lx.toArray⟩) x.at' := fun x => run_string_of_bytes (P := Tryd.prog) Tryd.underlying23 Tryd.underlying5 Tryd.underlying9 (HX1.out.only x.only (by simp))
                have hsy : ∀ x : Later [] wd, (convert 23 9 (.slice ay 65 cy)).run Tryd.prog x.at' = .ok (.string ⟨ly.toArray⟩) x.at' := fun x => run_string_of_bytes (P := Tryd.prog) Tryd.underlying23 Tryd.underlying5 Tryd.underlying9 (HY1.out.only x.only (by simp))
                obtain ⟨SX, hSX⟩ : ∃ S : ByteArray, (⟨lx.toArray⟩ : ByteArray) = S := ⟨_, rfl⟩
                obtain ⟨SY, hSY⟩ : ∃ S : ByteArray, (⟨ly.toArray⟩ : ByteArray) = S := ⟨_, rfl⟩
                rw [hSX] at hsx; rw [hSY] at hsy
                have HSX : Hid (SX.data.toList = lx) := Lib.hid (by rw [← hSX])
                have HSY : Hid (SY.data.toList = ly) := Lib.hid (by rw [← hSY])
                have hcmp : (SX.toList == SY.toList) = false := by
                  rw [ByteArray.toList_eq, ByteArray.toList_eq, HSX.out, HSY.out]
                  exact beq_eq_false_iff_ne.2 HXY.out.1
                obtain ⟨K, hK0, -, -, -⟩ := store_facts (Sha.sum lx) (Sha.sum_length _)
                have HKV := Lib.hid hK0
                clear hSX hSY hK0
                have HC1 : Hid (∀ x : World, Only [] wd x → Calls Tryd.prog 26 #[.string SX] x fun e w' => e = .returned (.agg K) ∧ Only [] x w') := Lib.hid (fun x ho => by
                  have how := HOd.out.then ho
                  have h := ref_str SX lx HSX.out (by rw [HXY.out.2.2.1]; decide) x
                  rw [HKV.out] at h
                  exact h)
                have HC2 : Hid (∀ x : World, Only [] wd x → Calls Tryd.prog 26 #[.string SY] x fun e w' => e = .returned (.agg K) ∧ Only [] x w') := Lib.hid (fun x ho => by
                  have how := HOd.out.then ho
                  have h := ref_str SY ly HSY.out (by rw [HXY.out.2.2.2]; decide) x
                  rw [← HXY.out.2.1, HKV.out] at h
                  exact h)
                have hqK : ∀ W, (binOp .eql 25 (.agg K) (.agg K)).run Tryd.prog W = .ok (.bool true) W := fun W => by
                  have h := eql_dv (Sha.sum lx) (Sha.sum lx) (Sha.sum_length _) (Sha.sum_length _) W
                  rw [HKV.out, beq_self_eq_true] at h
                  exact h
                have hgK : ∀ ox oy W, (eqGuard .eql 25 ox oy (.agg K) (.agg K)).run Tryd.prog W = .ok () W := fun ox oy W => by
                  have h := guard_dv .eql (Sha.sum lx) (Sha.sum lx) ox oy W
                  rw [HKV.out] at h
                  exact h
                --@s
                refine wpAnyM_take (i := 0) (oi := { dst := some 99, op := .move (.tmp 14), type := 4, pos := "law.go:113", after := #[], guard := none }) rfl (by kernel_rfl) (by kernel_rfl) (by kernel_rfl) (YieldsOn.pure (by rfl) (by intro x; first | (go_simp; first | done | rfl) | (unfold execOp; simp only [Sem.run_bind]; go_simp; first | done | rfl))) (by exact fun _ _ _ h => h) ?_
                try simp only [Act.put, List.setIfInBounds_toArray, List.set_cons_zero, List.set_cons_succ]
                refine wpAnyM_take (i := 1) (oi := { dst := some 100, op := .move (.tmp 99), type := 4, pos := "law.go:113", after := #[{ on := 0, ground := .data }], guard := none }) rfl (by kernel_rfl) (by kernel_rfl) (by kernel_rfl) (YieldsOn.pure (by rfl) (by intro x; first | (go_simp; first | done | rfl) | (unfold execOp; simp only [Sem.run_bind]; go_simp; first | done | rfl))) (by exact fun _ _ _ h => h) ?_
                try simp only [Act.put, List.setIfInBounds_toArray, List.set_cons_zero, List.set_cons_succ]
                refine wpAnyM_take (i := 2) (oi := { dst := some 101, op := .move (.tmp 12), type := 23, pos := "law.go:113", after := #[{ on := 1, ground := .guard }], guard := some (1, true) }) rfl (by kernel_rfl) (by kernel_rfl) (by kernel_rfl) (YieldsOn.pure (by rfl) (by intro x; first | (go_simp; first | done | rfl) | (unfold execOp; simp only [Sem.run_bind]; go_simp; first | done | rfl))) (by exact fun _ _ _ h => h) ?_
                try simp only [Act.put, List.setIfInBounds_toArray, List.set_cons_zero, List.set_cons_succ]
                refine wpAnyM_take (i := 3) (oi := { dst := some 102, op := .convert 23 9 (.tmp 101), type := 9, pos := "law.go:113", after := #[{ on := 2, ground := .data }, { on := 1, ground := .guard }], guard := some (1, true) }) rfl (by kernel_rfl) (by kernel_rfl) (by kernel_rfl) (YieldsOn.value (by rfl) (by rfl) (by intro x; first | (go_simp; first | done | rfl) | (unfold execOp; simp only [Sem.run_bind]; go_simp; first | done | rfl))) (by exact fun _ _ _ h => h) ?_
                try simp only [Act.put, List.setIfInBounds_toArray, List.set_cons_zero, List.set_cons_succ]
                refine wpAnyM_take (i := 4) (oi := { dst := some 103, op := .move (.tmp 13), type := 23, pos := "law.go:113", after := #[{ on := 1, ground := .guard }], guard := some (1, true) }) rfl (by kernel_rfl) (by kernel_rfl) (by kernel_rfl) (YieldsOn.pure (by rfl) (by intro x; first | (go_simp; first | done | rfl) | (unfold execOp; simp only [Sem.run_bind]; go_simp; first | done | rfl))) (by exact fun _ _ _ h => h) ?_
                try simp only [Act.put, List.setIfInBounds_toArray, List.set_cons_zero, List.set_cons_succ]
                refine wpAnyM_take (i := 5) (oi := { dst := some 104, op := .convert 23 9 (.tmp 103), type := 9, pos := "law.go:113", after := #[{ on := 4, ground := .data }, { on := 1, ground := .guard }], guard := some (1, true) }) rfl (by kernel_rfl) (by kernel_rfl) (by kernel_rfl) (YieldsOn.value (by rfl) (by rfl) (by intro x; first | (go_simp; first | done | rfl) | (unfold execOp; simp only [Sem.run_bind]; go_simp; first | done | rfl))) (by exact fun _ _ _ h => h) ?_
                try simp only [Act.put, List.setIfInBounds_toArray, List.set_cons_zero, List.set_cons_succ]
                refine wpAnyM_take (i := 6) (oi := { dst := some 105, op := .binOp BinOp.neq 9 (.tmp 102) (.tmp 104) 9, type := 4, pos := "law.go:113", after := #[{ on := 3, ground := .data }, { on := 5, ground := .data }, { on := 1, ground := .guard }], guard := some (1, true) }) rfl (by kernel_rfl) (by kernel_rfl) (by kernel_rfl) (YieldsOn.value (by rfl) (by rfl) (by intro x; first | (go_simp; first | done | rfl) | (unfold execOp; simp only [Sem.run_bind]; go_simp; first | done | rfl))) (by exact fun _ _ _ h => h) ?_
                try simp only [Act.put, List.setIfInBounds_toArray, List.set_cons_zero, List.set_cons_succ]
                refine wpAnyM_take (i := 7) (oi := { dst := some 106, op := .pick (.tmp 100) (.tmp 105) (.const (Value.bool false)), type := 4, pos := "law.go:113", after := #[{ on := 1, ground := .data }, { on := 6, ground := .data }], guard := none }) rfl (by kernel_rfl) (by kernel_rfl) (by kernel_rfl) (YieldsOn.pure (by rfl) (by intro x; first | (go_simp; first | done | rfl) | (unfold execOp; simp only [Sem.run_bind]; go_simp; first | done | rfl))) (by exact fun _ _ _ h => h) ?_
                try simp only [Act.put, List.setIfInBounds_toArray, List.set_cons_zero, List.set_cons_succ]
                refine wpAnyM_take (i := 8) (oi := { dst := some 107, op := .move (.tmp 106), type := 4, pos := "law.go:113", after := #[{ on := 7, ground := .data }, { on := 1, ground := .chain }], guard := none }) rfl (by kernel_rfl) (by kernel_rfl) (by kernel_rfl) (YieldsOn.pure (by rfl) (by intro x; first | (go_simp; first | done | rfl) | (unfold execOp; simp only [Sem.run_bind]; go_simp; first | done | rfl))) (by exact fun _ _ _ h => h) ?_
                try simp only [Act.put, List.setIfInBounds_toArray, List.set_cons_zero, List.set_cons_succ]
                --@s8
                refine wpAnyM_take (i := 9) (oi := { dst := some 108, op := .move (.tmp 12), type := 23, pos := "law.go:113", after := #[{ on := 8, ground := .guard }], guard := some (8, true) }) rfl (by kernel_rfl) (by kernel_rfl) (by kernel_rfl) (YieldsOn.pure (by rfl) (by intro x; first | (go_simp; first | done | rfl) | (unfold execOp; simp only [Sem.run_bind]; go_simp; first | done | rfl))) (by exact fun _ _ _ h => h) ?_
                try simp only [Act.put, List.setIfInBounds_toArray, List.set_cons_zero, List.set_cons_succ]
                refine wpAnyM_take (i := 10) (oi := { dst := some 109, op := .convert 23 9 (.tmp 108), type := 9, pos := "law.go:113", after := #[{ on := 9, ground := .data }, { on := 8, ground := .guard }], guard := some (8, true) }) rfl (by kernel_rfl) (by kernel_rfl) (by kernel_rfl) (YieldsOn.value (by rfl) (by rfl) (by intro x; first | (go_simp; first | done | rfl) | (unfold execOp; simp only [Sem.run_bind]; go_simp; first | done | rfl))) (by exact fun _ _ _ h => h) ?_
                try simp only [Act.put, List.setIfInBounds_toArray, List.set_cons_zero, List.set_cons_succ]
                refine wpAnyM_take (i := 11) (oi := { dst := some 110, op := .call { callee := Callee.value (.func 26), args := #[.tmp 109], argTypes := #[9] }, type := 25, pos := "law.go:113", after := #[{ on := 10, ground := .data }, { on := 8, ground := .chain }, { on := 8, ground := .guard }], guard := some (8, true) }) rfl (by kernel_rfl) (by kernel_rfl) (by kernel_rfl) (YieldsOn.call (by rfl) (by rfl) (by intro x; go_simp; first | done | rfl | exact ⟨rfl, rfl⟩) (fun x => HC1.out x.at' x.only)) (by exact fun _ _ _ h => h) ?_
                try simp only [Act.put, List.setIfInBounds_toArray, List.set_cons_zero, List.set_cons_succ]
                refine wpAnyM_take (i := 12) (oi := { dst := some 111, op := .move (.tmp 13), type := 23, pos := "law.go:113", after := #[{ on := 8, ground := .guard }], guard := some (8, true) }) rfl (by kernel_rfl) (by kernel_rfl) (by kernel_rfl) (YieldsOn.pure (by rfl) (by intro x; first | (go_simp; first | done | rfl) | (unfold execOp; simp only [Sem.run_bind]; go_simp; first | done | rfl))) (by exact fun _ _ _ h => h) ?_
                try simp only [Act.put, List.setIfInBounds_toArray, List.set_cons_zero, List.set_cons_succ]
                refine wpAnyM_take (i := 13) (oi := { dst := some 112, op := .convert 23 9 (.tmp 111), type := 9, pos := "law.go:113", after := #[{ on := 12, ground := .data }, { on := 8, ground := .guard }], guard := some (8, true) }) rfl (by kernel_rfl) (by kernel_rfl) (by kernel_rfl) (YieldsOn.value (by rfl) (by rfl) (by intro x; first | (go_simp; first | done | rfl) | (unfold execOp; simp only [Sem.run_bind]; go_simp; first | done | rfl))) (by exact fun _ _ _ h => h) ?_
                try simp only [Act.put, List.setIfInBounds_toArray, List.set_cons_zero, List.set_cons_succ]
                refine wpAnyM_take (i := 14) (oi := { dst := some 113, op := .call { callee := Callee.value (.func 26), args := #[.tmp 112], argTypes := #[9] }, type := 25, pos := "law.go:113", after := #[{ on := 13, ground := .data }, { on := 11, ground := .chain }, { on := 8, ground := .guard }], guard := some (8, true) }) rfl (by kernel_rfl) (by kernel_rfl) (by kernel_rfl) (YieldsOn.call (by rfl) (by rfl) (by intro x; go_simp; first | done | rfl | exact ⟨rfl, rfl⟩) (fun x => HC2.out x.at' x.only)) (by exact fun _ _ _ h => h) ?_
                try simp only [Act.put, List.setIfInBounds_toArray, List.set_cons_zero, List.set_cons_succ]
                refine wpAnyM_take (i := 15) (oi := { dst := some 114, op := .binOp BinOp.eql 25 (.tmp 110) (.tmp 113) 25, type := 4, pos := "law.go:113", after := #[{ on := 11, ground := .data }, { on := 14, ground := .data }, { on := 8, ground := .guard }], guard := some (8, true) }) rfl (by kernel_rfl) (by kernel_rfl) (by kernel_rfl) (YieldsOn.value (by rfl) (by rfl) (by intro x; first | (go_simp; first | done | rfl) | (unfold execOp; simp only [Sem.run_bind]; go_simp; first | done | rfl))) (by exact fun _ _ _ h => h) ?_
                try simp only [Act.put, List.setIfInBounds_toArray, List.set_cons_zero, List.set_cons_succ]
                refine wpAnyM_take (i := 16) (oi := { dst := some 115, op := .pick (.tmp 107) (.tmp 114) (.const (Value.bool false)), type := 4, pos := "law.go:113", after := #[{ on := 8, ground := .data }, { on := 15, ground := .data }], guard := none }) rfl (by kernel_rfl) (by kernel_rfl) (by kernel_rfl) (YieldsOn.pure (by rfl) (by intro x; first | (go_simp; first | done | rfl) | (unfold execOp; simp only [Sem.run_bind]; go_simp; first | done | rfl))) (by exact fun _ _ _ h => h) ?_
                try simp only [Act.put, List.setIfInBounds_toArray, List.set_cons_zero, List.set_cons_succ]
                refine wpAnyM_take (i := 17) (oi := { dst := some 8, op := .assign (.tmp 115), type := 4, pos := "law.go:113", after := #[{ on := 16, ground := .data }, { on := 14, ground := .chain }, { on := 0, ground := .phase }, { on := 1, ground := .phase }, { on := 2, ground := .phase }, { on := 3, ground := .phase }, { on := 4, ground := .phase }, { on := 5, ground := .phase }, { on := 6, ground := .phase }, { on := 7, ground := .phase }, { on := 8, ground := .phase }, { on := 9, ground := .phase }, { on := 10, ground := .phase }, { on := 11, ground := .phase }, { on := 12, ground := .phase }, { on := 13, ground := .phase }, { on := 14, ground := .phase }, { on := 15, ground := .phase }, { on := 16, ground := .phase }], guard := none }) rfl (by kernel_rfl) (by kernel_rfl) (by kernel_rfl) (YieldsOn.pure (by rfl) (by intro x; first | (go_simp; first | done | rfl) | (unfold execOp; simp only [Sem.run_bind]; go_simp; first | done | rfl))) (by exact fun _ _ _ h => h) ?_
                try simp only [Act.put, List.setIfInBounds_toArray, List.set_cons_zero, List.set_cons_succ]
                refine wpAnyM_done (by kernel_rfl) (fun x9 hx9 => ?_) _
                go_wp2_with fail
                go_ret
                exact ⟨rfl, (HOd.out.then hx9).below (by simp) (Nat.le_refl _)⟩
              · have hqk : ∀ W, (binOp .neq 25 (.agg K1) (.agg K2)).run Tryd.prog W = .ok (.bool true) W := fun W => by
                  have h := neq_dv (rootD ds) (rootD es) HR1.out HR2.out W
                  rw [HK1.out.1, HK2.out.1, beq_eq_false_iff_ne.2 h4] at h
                  exact h
                have hgk : ∀ ox oy W, (eqGuard .neq 25 ox oy (.agg K1) (.agg K2)).run Tryd.prog W = .ok () W := fun ox oy W => by
                  have h := guard_dv .neq (rootD ds) (rootD es) ox oy W
                  rw [HK1.out.1, HK2.out.1] at h
                  exact h
                go_upto_region 15 with (first
                  | (refine wpList_load_rowG (by rfl) 25 _ rfl r1 rfl _ _ _ _ HKd.out Tryd.underlying25 rfl HK1.out.2.2.1 ?_)
                  | (refine wpList_load_rowG (by rfl) 25 _ rfl r2 rfl _ _ _ _ HKe.out Tryd.underlying25 rfl HK2.out.2.2.1 ?_))
                clear hqk hgk
                --@G
                clear c0 c1 c2 cf e0 e1 e2 ef
                refine wp_region_M [] (by kernel_rfl) ?_
                change wpAnyM _ _ _ _ _ _ _ _ (World.drew _)
                have HOd := Lib.hid HOe.out.drew; have HM1 := Lib.hid (HMe.out.only (Only.refl [] we).drew (by simp)); have HNN1 := Lib.hid (HNe.out.only (Only.refl [] we).drew (by simp))
                generalize World.drew we = wd at *
                clear HOe HMe HNe HKd HKe
                obtain ⟨I, hI, -, -, -⟩ := store_facts d HD32.out
                have HIV := Lib.hid hI
                clear hI
                have HCA : Hid (∀ x : World, Only [] wd x → Calls Tryd.prog 23 #[.agg #[.int .u64 (s : Nat), .int .u32 (p : Nat), .slice a n cap]] x fun e w' => e = .returned (.agg #[.int .u64 (s : Nat), .int .u32 (p : Nat), .slice a n cap]) ∧ Only [] x w') := Lib.hid (fun x ho => by
                  have how := HOd.out.then ho
                  have h := modelof_c x s p a n cap
                  exact h)
                have HCB : Hid (∀ x : World, Only [] wd x → Calls Tryd.prog 21 #[.agg #[.int .u64 (s : Nat), .int .u32 (p : Nat), .slice a n cap]] x fun e w' => e = .returned (.agg I) ∧ Only [] x w') := Lib.hid (fun x ho => by
                  have how := HOd.out.then ho
                  have h := rid_c x s p _ ds (HV.out.only how (by simp)) HS.out HP.out (by rw [HN1.out]; omega)
                  rw [show Sha.sum (idB s p ds) = idD s p ds from rfl, HC1.out.2, HIV.out] at h
                  exact h)
                have HCC : Hid (∀ x : World, Only [] wd x → Calls Tryd.prog 23 #[.agg #[.int .u64 (s : Nat), .int .u32 (p : Nat), .slice b n2 cbp]] x fun e w' => e = .returned (.agg #[.int .u64 (s : Nat), .int .u32 (p : Nat), .slice b n2 cbp]) ∧ Only [] x w') := Lib.hid (fun x ho => by
                  have how := HOd.out.then ho
                  have h := modelof_c x s p b n2 cbp
                  exact h)
                have HCD : Hid (∀ x : World, Only [] wd x → Calls Tryd.prog 21 #[.agg #[.int .u64 (s : Nat), .int .u32 (p : Nat), .slice b n2 cbp]] x fun e w' => e = .returned (.agg I) ∧ Only [] x w') := Lib.hid (fun x ho => by
                  have how := HOd.out.then ho
                  have h := rid_c x s p _ es (HU.out.only how (by simp)) HS2.out HP2.out (by rw [HN2.out]; omega)
                  rw [show Sha.sum (idB s p es) = idD s p es from rfl, HC2.out.2, HIV.out] at h
                  exact h)
                have hqI : ∀ W, (binOp .eql 25 (.agg I) (.agg I)).run Tryd.prog W = .ok (.bool true) W := fun W => by
                  have h := eql_dv d d HD32.out HD32.out W
                  rw [HIV.out, beq_self_eq_true] at h
                  exact h
                have hgI : ∀ ox oy W, (eqGuard .eql 25 ox oy (.agg I) (.agg I)).run Tryd.prog W = .ok () W := fun ox oy W => by
                  have h := guard_dv .eql d d ox oy W
                  rw [HIV.out] at h
                  exact h
                refine wpAnyM_take (i := 0) (oi := { dst := some 83, op := .load 35 (.tmp 4), type := 35, pos := "law.go:110", after := #[], guard := none }) rfl (by kernel_rfl) (by kernel_rfl) (by kernel_rfl) (YieldsOn.row (by rfl) 35 (.tmp 4) rfl q (by rfl) _ _ _ _ HM1.out (by simp) Tryd.underlying35 rfl (by kernel_rfl)) (by exact fun _ _ _ h => h) ?_
                try simp only [Act.put, List.setIfInBounds_toArray, List.set_cons_zero, List.set_cons_succ]
                refine wpAnyM_take (i := 3) (oi := { dst := some 86, op := .load 35 (.tmp 5), type := 35, pos := "law.go:110", after := #[], guard := none }) rfl (by kernel_rfl) (by kernel_rfl) (by kernel_rfl) (YieldsOn.row (by rfl) 35 (.tmp 5) rfl (q + 1) (by rfl) _ _ _ _ HNN1.out (by simp) Tryd.underlying35 rfl (by kernel_rfl)) (by exact fun _ _ _ h => h) ?_
                try simp only [Act.put, List.setIfInBounds_toArray, List.set_cons_zero, List.set_cons_succ]
                refine wpAnyM_take (i := 1) (oi := { dst := some 84, op := .call { callee := Callee.value (.func 23), args := #[.tmp 83], argTypes := #[35] }, type := 39, pos := "law.go:110", after := #[{ on := 0, ground := .data }], guard := none }) rfl (by kernel_rfl) (by kernel_rfl) (by kernel_rfl) (YieldsOn.call (by rfl) (by rfl) (by intro x; go_simp; first | done | rfl | exact ⟨rfl, rfl⟩) (fun x => HCA.out x.at' x.only)) (by exact fun _ _ _ h => h) ?_
                try simp only [Act.put, List.setIfInBounds_toArray, List.set_cons_zero, List.set_cons_succ]
                refine wpAnyM_take (i := 2) (oi := { dst := some 85, op := .call { callee := Callee.value (.func 21), args := #[.tmp 84], argTypes := #[39] }, type := 25, pos := "law.go:110", after := #[{ on := 1, ground := .data }, { on := 1, ground := .chain }], guard := none }) rfl (by kernel_rfl) (by kernel_rfl) (by kernel_rfl) (YieldsOn.call (by rfl) (by rfl) (by intro x; go_simp; first | done | rfl | exact ⟨rfl, rfl⟩) (fun x => HCB.out x.at' x.only)) (by exact fun _ _ _ h => h) ?_
                try simp only [Act.put, List.setIfInBounds_toArray, List.set_cons_zero, List.set_cons_succ]
                refine wpAnyM_take (i := 4) (oi := { dst := some 87, op := .call { callee := Callee.value (.func 23), args := #[.tmp 86], argTypes := #[35] }, type := 39, pos := "law.go:110", after := #[{ on := 3, ground := .data }, { on := 2, ground := .chain }], guard := none }) rfl (by kernel_rfl) (by kernel_rfl) (by kernel_rfl) (YieldsOn.call (by rfl) (by rfl) (by intro x; go_simp; first | done | rfl | exact ⟨rfl, rfl⟩) (fun x => HCC.out x.at' x.only)) (by exact fun _ _ _ h => h) ?_
                try simp only [Act.put, List.setIfInBounds_toArray, List.set_cons_zero, List.set_cons_succ]
                refine wpAnyM_take (i := 5) (oi := { dst := some 88, op := .call { callee := Callee.value (.func 21), args := #[.tmp 87], argTypes := #[39] }, type := 25, pos := "law.go:110", after := #[{ on := 4, ground := .data }, { on := 4, ground := .chain }], guard := none }) rfl (by kernel_rfl) (by kernel_rfl) (by kernel_rfl) (YieldsOn.call (by rfl) (by rfl) (by intro x; go_simp; first | done | rfl | exact ⟨rfl, rfl⟩) (fun x => HCD.out x.at' x.only)) (by exact fun _ _ _ h => h) ?_
                try simp only [Act.put, List.setIfInBounds_toArray, List.set_cons_zero, List.set_cons_succ]
                refine wpAnyM_take (i := 6) (oi := { dst := some 89, op := .binOp BinOp.eql 25 (.tmp 85) (.tmp 88) 25, type := 4, pos := "law.go:110", after := #[{ on := 2, ground := .data }, { on := 5, ground := .data }], guard := none }) rfl (by kernel_rfl) (by kernel_rfl) (by kernel_rfl) (YieldsOn.value (by rfl) (by rfl) (by intro x; first | (go_simp; first | done | rfl) | (unfold execOp; simp only [Sem.run_bind]; go_simp; first | done | rfl))) (by exact fun _ _ _ h => h) ?_
                try simp only [Act.put, List.setIfInBounds_toArray, List.set_cons_zero, List.set_cons_succ]
                refine wpAnyM_take (i := 7) (oi := { dst := some 8, op := .assign (.tmp 89), type := 4, pos := "law.go:110", after := #[{ on := 6, ground := .data }, { on := 5, ground := .chain }, { on := 0, ground := .phase }, { on := 1, ground := .phase }, { on := 2, ground := .phase }, { on := 3, ground := .phase }, { on := 4, ground := .phase }, { on := 5, ground := .phase }, { on := 6, ground := .phase }], guard := none }) rfl (by kernel_rfl) (by kernel_rfl) (by kernel_rfl) (YieldsOn.pure (by rfl) (by intro x; first | (go_simp; first | done | rfl) | (unfold execOp; simp only [Sem.run_bind]; go_simp; first | done | rfl))) (by exact fun _ _ _ h => h) ?_
                try simp only [Act.put, List.setIfInBounds_toArray, List.set_cons_zero, List.set_cons_succ]
                refine wpAnyM_done (by kernel_rfl) (fun x9 hx9 => ?_) _
                go_wp2_with fail
                go_ret
                exact ⟨rfl, (HOd.out.then hx9).below (by simp) (Nat.le_refl _)⟩
          · have h2I : ¬ ((p : Int) = (p2 : Int)) := by omega
            obtain ⟨c0, c1, c2, cf⟩ := HM4.out.cells
            obtain ⟨e0, e1, e2, ef⟩ := HNN4.out.cells
            go_wp2_with fail
            refine (rroot_c w4 _ ds (HV.out.only HO4.out (by simp)) (by rw [HN1.out]; omega)).mono ?_
            rintro e wa ⟨rfl, hoa⟩
            rw [HK1.out.1]
            have HOa := Lib.hid (HO4.out.then hoa); have HMa := Lib.hid (HM4.out.only hoa (by simp)); have HNa := Lib.hid (HNN4.out.only hoa (by simp))
            clear hoa HO4 HM4 HNN4 c0 c1 c2 cf e0 e1 e2 ef
            go_upto_region 13 with (refine wpList_store_row rfl 25 _ _ rfl wa.heap.size K1 rfl rfl _ _ (heap_alloc_new wa _) HK1.out.2.2.1 (by rw [HK1.out.2.1]; simp) HK1.out.2.2.2 ?_)
            generalize hg : World.setRow _ _ _ = wb
            have heb : wb = (wa.alloc (.cells (List.replicate 32 (Value.int .u8 0)).toArray 25 (0, 0))).setRow wa.heap.size K1 := hg.symm.trans rfl
            have HKb : Hid (wb.heap[wa.heap.size]? = some (.cells K1 25 (0, 0))) := Lib.hid (by rw [heb]; exact setRow_heap _ _ _ K1 _ _ (heap_alloc_new wa _))
            have hob : Only [] wa wb := by rw [heb]; exact ((Only.refl [] wa).alloc _).setRow (.inr (Nat.le_refl _)) K1
            have HOb := Lib.hid (HOa.out.then hob); have HMb := Lib.hid (HMa.out.only hob (by simp)); have HNb := Lib.hid (HNa.out.only hob (by simp))
            clear hg heb hob HOa HMa HNa
            obtain ⟨r1, hr1⟩ : ∃ r, wa.heap.size = r := ⟨_, rfl⟩
            rw [hr1] at HKb ⊢
            clear hr1
            obtain ⟨e0, e1, e2, ef⟩ := HNb.out.cells
            go_wp2_with fail
            refine (rroot_c wb _ es (HU.out.only HOb.out (by simp)) (by rw [HN2.out]; omega)).mono ?_
            rintro e wc ⟨rfl, hoc⟩
            rw [HK2.out.1]
            have HOc := Lib.hid (HOb.out.then hoc); have HMc := Lib.hid (HMb.out.only hoc (by simp)); have HNc := Lib.hid (HNb.out.only hoc (by simp)); have HKc := Lib.hid (hoc.heap HKb.out (by simp))
            clear hoc HOb HMb HNb HKb e0 e1 e2 ef
            go_upto_region 14 with (refine wpList_store_row rfl 25 _ _ rfl wc.heap.size K2 rfl rfl _ _ (heap_alloc_new wc _) HK2.out.2.2.1 (by rw [HK2.out.2.1]; simp) HK2.out.2.2.2 ?_)
            generalize hg : World.setRow _ _ _ = we
            have hee : we = (wc.alloc (.cells (List.replicate 32 (Value.int .u8 0)).toArray 25 (0, 0))).setRow wc.heap.size K2 := hg.symm.trans rfl
            have HKe : Hid (we.heap[wc.heap.size]? = some (.cells K2 25 (0, 0))) := Lib.hid (by rw [hee]; exact setRow_heap _ _ _ K2 _ _ (heap_alloc_new wc _))
            have hoe : Only [] wc we := by rw [hee]; exact ((Only.refl [] wc).alloc _).setRow (.inr (Nat.le_refl _)) K2
            have HOe := Lib.hid (HOc.out.then hoe); have HMe := Lib.hid (HMc.out.only hoe (by simp)); have HNe := Lib.hid (HNc.out.only hoe (by simp)); have HKd := Lib.hid (hoe.heap HKc.out (by simp))
            clear hg hee hoe HOc HMc HNc HKc
            obtain ⟨r2, hr2⟩ : ∃ r, wc.heap.size = r := ⟨_, rfl⟩
            rw [hr2] at HKe ⊢
            clear hr2
            obtain ⟨c0, c1, c2, cf⟩ := HMe.out.cells
            obtain ⟨e0, e1, e2, ef⟩ := HNe.out.cells
            go_upto_region 15 with fail
            --@H
            clear c0 c1 c2 cf e0 e1 e2 ef
            refine wp_region_M [] (by kernel_rfl) ?_
            change wpAnyM _ _ _ _ _ _ _ _ (World.drew _)
            have HOd := Lib.hid HOe.out.drew; have HM1 := Lib.hid (HMe.out.only (Only.refl [] we).drew (by simp)); have HNN1 := Lib.hid (HNe.out.only (Only.refl [] we).drew (by simp))
            generalize World.drew we = wd at *
            clear HOe HMe HNe HKd HKe
            obtain ⟨I, hI, -, -, -⟩ := store_facts d HD32.out
            have HIV := Lib.hid hI
            clear hI
            have HCA : Hid (∀ x : World, Only [] wd x → Calls Tryd.prog 23 #[.agg #[.int .u64 (s : Nat), .int .u32 (p : Nat), .slice a n cap]] x fun e w' => e = .returned (.agg #[.int .u64 (s : Nat), .int .u32 (p : Nat), .slice a n cap]) ∧ Only [] x w') := Lib.hid (fun x ho => by
              have how := HOd.out.then ho
              have h := modelof_c x s p a n cap
              exact h)
            have HCB : Hid (∀ x : World, Only [] wd x → Calls Tryd.prog 21 #[.agg #[.int .u64 (s : Nat), .int .u32 (p : Nat), .slice a n cap]] x fun e w' => e = .returned (.agg I) ∧ Only [] x w') := Lib.hid (fun x ho => by
              have how := HOd.out.then ho
              have h := rid_c x s p _ ds (HV.out.only how (by simp)) HS.out HP.out (by rw [HN1.out]; omega)
              rw [show Sha.sum (idB s p ds) = idD s p ds from rfl, HC1.out.2, HIV.out] at h
              exact h)
            have HCC : Hid (∀ x : World, Only [] wd x → Calls Tryd.prog 23 #[.agg #[.int .u64 (s : Nat), .int .u32 (p2 : Nat), .slice b n2 cbp]] x fun e w' => e = .returned (.agg #[.int .u64 (s : Nat), .int .u32 (p2 : Nat), .slice b n2 cbp]) ∧ Only [] x w') := Lib.hid (fun x ho => by
              have how := HOd.out.then ho
              have h := modelof_c x s p2 b n2 cbp
              exact h)
            have HCD : Hid (∀ x : World, Only [] wd x → Calls Tryd.prog 21 #[.agg #[.int .u64 (s : Nat), .int .u32 (p2 : Nat), .slice b n2 cbp]] x fun e w' => e = .returned (.agg I) ∧ Only [] x w') := Lib.hid (fun x ho => by
              have how := HOd.out.then ho
              have h := rid_c x s p2 _ es (HU.out.only how (by simp)) HS2.out HP2.out (by rw [HN2.out]; omega)
              rw [show Sha.sum (idB s p2 es) = idD s p2 es from rfl, HC2.out.2, HIV.out] at h
              exact h)
            have hqI : ∀ W, (binOp .eql 25 (.agg I) (.agg I)).run Tryd.prog W = .ok (.bool true) W := fun W => by
              have h := eql_dv d d HD32.out HD32.out W
              rw [HIV.out, beq_self_eq_true] at h
              exact h
            have hgI : ∀ ox oy W, (eqGuard .eql 25 ox oy (.agg I) (.agg I)).run Tryd.prog W = .ok () W := fun ox oy W => by
              have h := guard_dv .eql d d ox oy W
              rw [HIV.out] at h
              exact h
            refine wpAnyM_take (i := 0) (oi := { dst := some 83, op := .load 35 (.tmp 4), type := 35, pos := "law.go:110", after := #[], guard := none }) rfl (by kernel_rfl) (by kernel_rfl) (by kernel_rfl) (YieldsOn.row (by rfl) 35 (.tmp 4) rfl q (by rfl) _ _ _ _ HM1.out (by simp) Tryd.underlying35 rfl (by kernel_rfl)) (by exact fun _ _ _ h => h) ?_
            try simp only [Act.put, List.setIfInBounds_toArray, List.set_cons_zero, List.set_cons_succ]
            refine wpAnyM_take (i := 3) (oi := { dst := some 86, op := .load 35 (.tmp 5), type := 35, pos := "law.go:110", after := #[], guard := none }) rfl (by kernel_rfl) (by kernel_rfl) (by kernel_rfl) (YieldsOn.row (by rfl) 35 (.tmp 5) rfl (q + 1) (by rfl) _ _ _ _ HNN1.out (by simp) Tryd.underlying35 rfl (by kernel_rfl)) (by exact fun _ _ _ h => h) ?_
            try simp only [Act.put, List.setIfInBounds_toArray, List.set_cons_zero, List.set_cons_succ]
            refine wpAnyM_take (i := 1) (oi := { dst := some 84, op := .call { callee := Callee.value (.func 23), args := #[.tmp 83], argTypes := #[35] }, type := 39, pos := "law.go:110", after := #[{ on := 0, ground := .data }], guard := none }) rfl (by kernel_rfl) (by kernel_rfl) (by kernel_rfl) (YieldsOn.call (by rfl) (by rfl) (by intro x; go_simp; first | done | rfl | exact ⟨rfl, rfl⟩) (fun x => HCA.out x.at' x.only)) (by exact fun _ _ _ h => h) ?_
            try simp only [Act.put, List.setIfInBounds_toArray, List.set_cons_zero, List.set_cons_succ]
            refine wpAnyM_take (i := 2) (oi := { dst := some 85, op := .call { callee := Callee.value (.func 21), args := #[.tmp 84], argTypes := #[39] }, type := 25, pos := "law.go:110", after := #[{ on := 1, ground := .data }, { on := 1, ground := .chain }], guard := none }) rfl (by kernel_rfl) (by kernel_rfl) (by kernel_rfl) (YieldsOn.call (by rfl) (by rfl) (by intro x; go_simp; first | done | rfl | exact ⟨rfl, rfl⟩) (fun x => HCB.out x.at' x.only)) (by exact fun _ _ _ h => h) ?_
            try simp only [Act.put, List.setIfInBounds_toArray, List.set_cons_zero, List.set_cons_succ]
            refine wpAnyM_take (i := 4) (oi := { dst := some 87, op := .call { callee := Callee.value (.func 23), args := #[.tmp 86], argTypes := #[35] }, type := 39, pos := "law.go:110", after := #[{ on := 3, ground := .data }, { on := 2, ground := .chain }], guard := none }) rfl (by kernel_rfl) (by kernel_rfl) (by kernel_rfl) (YieldsOn.call (by rfl) (by rfl) (by intro x; go_simp; first | done | rfl | exact ⟨rfl, rfl⟩) (fun x => HCC.out x.at' x.only)) (by exact fun _ _ _ h => h) ?_
            try simp only [Act.put, List.setIfInBounds_toArray, List.set_cons_zero, List.set_cons_succ]
            refine wpAnyM_take (i := 5) (oi := { dst := some 88, op := .call { callee := Callee.value (.func 21), args := #[.tmp 87], argTypes := #[39] }, type := 25, pos := "law.go:110", after := #[{ on := 4, ground := .data }, { on := 4, ground := .chain }], guard := none }) rfl (by kernel_rfl) (by kernel_rfl) (by kernel_rfl) (YieldsOn.call (by rfl) (by rfl) (by intro x; go_simp; first | done | rfl | exact ⟨rfl, rfl⟩) (fun x => HCD.out x.at' x.only)) (by exact fun _ _ _ h => h) ?_
            try simp only [Act.put, List.setIfInBounds_toArray, List.set_cons_zero, List.set_cons_succ]
            refine wpAnyM_take (i := 6) (oi := { dst := some 89, op := .binOp BinOp.eql 25 (.tmp 85) (.tmp 88) 25, type := 4, pos := "law.go:110", after := #[{ on := 2, ground := .data }, { on := 5, ground := .data }], guard := none }) rfl (by kernel_rfl) (by kernel_rfl) (by kernel_rfl) (YieldsOn.value (by rfl) (by rfl) (by intro x; first | (go_simp; first | done | rfl) | (unfold execOp; simp only [Sem.run_bind]; go_simp; first | done | rfl))) (by exact fun _ _ _ h => h) ?_
            try simp only [Act.put, List.setIfInBounds_toArray, List.set_cons_zero, List.set_cons_succ]
            refine wpAnyM_take (i := 7) (oi := { dst := some 8, op := .assign (.tmp 89), type := 4, pos := "law.go:110", after := #[{ on := 6, ground := .data }, { on := 5, ground := .chain }, { on := 0, ground := .phase }, { on := 1, ground := .phase }, { on := 2, ground := .phase }, { on := 3, ground := .phase }, { on := 4, ground := .phase }, { on := 5, ground := .phase }, { on := 6, ground := .phase }], guard := none }) rfl (by kernel_rfl) (by kernel_rfl) (by kernel_rfl) (YieldsOn.pure (by rfl) (by intro x; first | (go_simp; first | done | rfl) | (unfold execOp; simp only [Sem.run_bind]; go_simp; first | done | rfl))) (by exact fun _ _ _ h => h) ?_
            try simp only [Act.put, List.setIfInBounds_toArray, List.set_cons_zero, List.set_cons_succ]
            refine wpAnyM_done (by kernel_rfl) (fun x9 hx9 => ?_) _
            go_wp2_with fail
            go_ret
            exact ⟨rfl, (HOd.out.then hx9).below (by simp) (Nat.le_refl _)⟩
        · have h1I : ¬ ((s : Int) = (s2 : Int)) := by omega
          obtain ⟨c0, c1, c2, cf⟩ := HM4.out.cells
          obtain ⟨e0, e1, e2, ef⟩ := HNN4.out.cells
          go_wp2_with fail
          refine (rroot_c w4 _ ds (HV.out.only HO4.out (by simp)) (by rw [HN1.out]; omega)).mono ?_
          rintro e wa ⟨rfl, hoa⟩
          rw [HK1.out.1]
          have HOa := Lib.hid (HO4.out.then hoa); have HMa := Lib.hid (HM4.out.only hoa (by simp)); have HNa := Lib.hid (HNN4.out.only hoa (by simp))
          clear hoa HO4 HM4 HNN4 c0 c1 c2 cf e0 e1 e2 ef
          go_upto_region 13 with (refine wpList_store_row rfl 25 _ _ rfl wa.heap.size K1 rfl rfl _ _ (heap_alloc_new wa _) HK1.out.2.2.1 (by rw [HK1.out.2.1]; simp) HK1.out.2.2.2 ?_)
          generalize hg : World.setRow _ _ _ = wb
          have heb : wb = (wa.alloc (.cells (List.replicate 32 (Value.int .u8 0)).toArray 25 (0, 0))).setRow wa.heap.size K1 := hg.symm.trans rfl
          have HKb : Hid (wb.heap[wa.heap.size]? = some (.cells K1 25 (0, 0))) := Lib.hid (by rw [heb]; exact setRow_heap _ _ _ K1 _ _ (heap_alloc_new wa _))
          have hob : Only [] wa wb := by rw [heb]; exact ((Only.refl [] wa).alloc _).setRow (.inr (Nat.le_refl _)) K1
          have HOb := Lib.hid (HOa.out.then hob); have HMb := Lib.hid (HMa.out.only hob (by simp)); have HNb := Lib.hid (HNa.out.only hob (by simp))
          clear hg heb hob HOa HMa HNa
          obtain ⟨r1, hr1⟩ : ∃ r, wa.heap.size = r := ⟨_, rfl⟩
          rw [hr1] at HKb ⊢
          clear hr1
          obtain ⟨e0, e1, e2, ef⟩ := HNb.out.cells
          go_wp2_with fail
          refine (rroot_c wb _ es (HU.out.only HOb.out (by simp)) (by rw [HN2.out]; omega)).mono ?_
          rintro e wc ⟨rfl, hoc⟩
          rw [HK2.out.1]
          have HOc := Lib.hid (HOb.out.then hoc); have HMc := Lib.hid (HMb.out.only hoc (by simp)); have HNc := Lib.hid (HNb.out.only hoc (by simp)); have HKc := Lib.hid (hoc.heap HKb.out (by simp))
          clear hoc HOb HMb HNb HKb e0 e1 e2 ef
          go_upto_region 14 with (refine wpList_store_row rfl 25 _ _ rfl wc.heap.size K2 rfl rfl _ _ (heap_alloc_new wc _) HK2.out.2.2.1 (by rw [HK2.out.2.1]; simp) HK2.out.2.2.2 ?_)
          generalize hg : World.setRow _ _ _ = we
          have hee : we = (wc.alloc (.cells (List.replicate 32 (Value.int .u8 0)).toArray 25 (0, 0))).setRow wc.heap.size K2 := hg.symm.trans rfl
          have HKe : Hid (we.heap[wc.heap.size]? = some (.cells K2 25 (0, 0))) := Lib.hid (by rw [hee]; exact setRow_heap _ _ _ K2 _ _ (heap_alloc_new wc _))
          have hoe : Only [] wc we := by rw [hee]; exact ((Only.refl [] wc).alloc _).setRow (.inr (Nat.le_refl _)) K2
          have HOe := Lib.hid (HOc.out.then hoe); have HMe := Lib.hid (HMc.out.only hoe (by simp)); have HNe := Lib.hid (HNc.out.only hoe (by simp)); have HKd := Lib.hid (hoe.heap HKc.out (by simp))
          clear hg hee hoe HOc HMc HNc HKc
          obtain ⟨r2, hr2⟩ : ∃ r, wc.heap.size = r := ⟨_, rfl⟩
          rw [hr2] at HKe ⊢
          clear hr2
          obtain ⟨c0, c1, c2, cf⟩ := HMe.out.cells
          obtain ⟨e0, e1, e2, ef⟩ := HNe.out.cells
          go_upto_region 15 with fail
          --@I
          clear c0 c1 c2 cf e0 e1 e2 ef
          refine wp_region_M [] (by kernel_rfl) ?_
          change wpAnyM _ _ _ _ _ _ _ _ (World.drew _)
          have HOd := Lib.hid HOe.out.drew; have HM1 := Lib.hid (HMe.out.only (Only.refl [] we).drew (by simp)); have HNN1 := Lib.hid (HNe.out.only (Only.refl [] we).drew (by simp))
          generalize World.drew we = wd at *
          clear HOe HMe HNe HKd HKe
          obtain ⟨I, hI, -, -, -⟩ := store_facts d HD32.out
          have HIV := Lib.hid hI
          clear hI
          have HCA : Hid (∀ x : World, Only [] wd x → Calls Tryd.prog 23 #[.agg #[.int .u64 (s : Nat), .int .u32 (p : Nat), .slice a n cap]] x fun e w' => e = .returned (.agg #[.int .u64 (s : Nat), .int .u32 (p : Nat), .slice a n cap]) ∧ Only [] x w') := Lib.hid (fun x ho => by
            have how := HOd.out.then ho
            have h := modelof_c x s p a n cap
            exact h)
          have HCB : Hid (∀ x : World, Only [] wd x → Calls Tryd.prog 21 #[.agg #[.int .u64 (s : Nat), .int .u32 (p : Nat), .slice a n cap]] x fun e w' => e = .returned (.agg I) ∧ Only [] x w') := Lib.hid (fun x ho => by
            have how := HOd.out.then ho
            have h := rid_c x s p _ ds (HV.out.only how (by simp)) HS.out HP.out (by rw [HN1.out]; omega)
            rw [show Sha.sum (idB s p ds) = idD s p ds from rfl, HC1.out.2, HIV.out] at h
            exact h)
          have HCC : Hid (∀ x : World, Only [] wd x → Calls Tryd.prog 23 #[.agg #[.int .u64 (s2 : Nat), .int .u32 (p2 : Nat), .slice b n2 cbp]] x fun e w' => e = .returned (.agg #[.int .u64 (s2 : Nat), .int .u32 (p2 : Nat), .slice b n2 cbp]) ∧ Only [] x w') := Lib.hid (fun x ho => by
            have how := HOd.out.then ho
            have h := modelof_c x s2 p2 b n2 cbp
            exact h)
          have HCD : Hid (∀ x : World, Only [] wd x → Calls Tryd.prog 21 #[.agg #[.int .u64 (s2 : Nat), .int .u32 (p2 : Nat), .slice b n2 cbp]] x fun e w' => e = .returned (.agg I) ∧ Only [] x w') := Lib.hid (fun x ho => by
            have how := HOd.out.then ho
            have h := rid_c x s2 p2 _ es (HU.out.only how (by simp)) HS2.out HP2.out (by rw [HN2.out]; omega)
            rw [show Sha.sum (idB s2 p2 es) = idD s2 p2 es from rfl, HC2.out.2, HIV.out] at h
            exact h)
          have hqI : ∀ W, (binOp .eql 25 (.agg I) (.agg I)).run Tryd.prog W = .ok (.bool true) W := fun W => by
            have h := eql_dv d d HD32.out HD32.out W
            rw [HIV.out, beq_self_eq_true] at h
            exact h
          have hgI : ∀ ox oy W, (eqGuard .eql 25 ox oy (.agg I) (.agg I)).run Tryd.prog W = .ok () W := fun ox oy W => by
            have h := guard_dv .eql d d ox oy W
            rw [HIV.out] at h
            exact h
          refine wpAnyM_take (i := 0) (oi := { dst := some 83, op := .load 35 (.tmp 4), type := 35, pos := "law.go:110", after := #[], guard := none }) rfl (by kernel_rfl) (by kernel_rfl) (by kernel_rfl) (YieldsOn.row (by rfl) 35 (.tmp 4) rfl q (by rfl) _ _ _ _ HM1.out (by simp) Tryd.underlying35 rfl (by kernel_rfl)) (by exact fun _ _ _ h => h) ?_
          try simp only [Act.put, List.setIfInBounds_toArray, List.set_cons_zero, List.set_cons_succ]
          refine wpAnyM_take (i := 3) (oi := { dst := some 86, op := .load 35 (.tmp 5), type := 35, pos := "law.go:110", after := #[], guard := none }) rfl (by kernel_rfl) (by kernel_rfl) (by kernel_rfl) (YieldsOn.row (by rfl) 35 (.tmp 5) rfl (q + 1) (by rfl) _ _ _ _ HNN1.out (by simp) Tryd.underlying35 rfl (by kernel_rfl)) (by exact fun _ _ _ h => h) ?_
          try simp only [Act.put, List.setIfInBounds_toArray, List.set_cons_zero, List.set_cons_succ]
          refine wpAnyM_take (i := 1) (oi := { dst := some 84, op := .call { callee := Callee.value (.func 23), args := #[.tmp 83], argTypes := #[35] }, type := 39, pos := "law.go:110", after := #[{ on := 0, ground := .data }], guard := none }) rfl (by kernel_rfl) (by kernel_rfl) (by kernel_rfl) (YieldsOn.call (by rfl) (by rfl) (by intro x; go_simp; first | done | rfl | exact ⟨rfl, rfl⟩) (fun x => HCA.out x.at' x.only)) (by exact fun _ _ _ h => h) ?_
          try simp only [Act.put, List.setIfInBounds_toArray, List.set_cons_zero, List.set_cons_succ]
          refine wpAnyM_take (i := 2) (oi := { dst := some 85, op := .call { callee := Callee.value (.func 21), args := #[.tmp 84], argTypes := #[39] }, type := 25, pos := "law.go:110", after := #[{ on := 1, ground := .data }, { on := 1, ground := .chain }], guard := none }) rfl (by kernel_rfl) (by kernel_rfl) (by kernel_rfl) (YieldsOn.call (by rfl) (by rfl) (by intro x; go_simp; first | done | rfl | exact ⟨rfl, rfl⟩) (fun x => HCB.out x.at' x.only)) (by exact fun _ _ _ h => h) ?_
          try simp only [Act.put, List.setIfInBounds_toArray, List.set_cons_zero, List.set_cons_succ]
          refine wpAnyM_take (i := 4) (oi := { dst := some 87, op := .call { callee := Callee.value (.func 23), args := #[.tmp 86], argTypes := #[35] }, type := 39, pos := "law.go:110", after := #[{ on := 3, ground := .data }, { on := 2, ground := .chain }], guard := none }) rfl (by kernel_rfl) (by kernel_rfl) (by kernel_rfl) (YieldsOn.call (by rfl) (by rfl) (by intro x; go_simp; first | done | rfl | exact ⟨rfl, rfl⟩) (fun x => HCC.out x.at' x.only)) (by exact fun _ _ _ h => h) ?_
          try simp only [Act.put, List.setIfInBounds_toArray, List.set_cons_zero, List.set_cons_succ]
          refine wpAnyM_take (i := 5) (oi := { dst := some 88, op := .call { callee := Callee.value (.func 21), args := #[.tmp 87], argTypes := #[39] }, type := 25, pos := "law.go:110", after := #[{ on := 4, ground := .data }, { on := 4, ground := .chain }], guard := none }) rfl (by kernel_rfl) (by kernel_rfl) (by kernel_rfl) (YieldsOn.call (by rfl) (by rfl) (by intro x; go_simp; first | done | rfl | exact ⟨rfl, rfl⟩) (fun x => HCD.out x.at' x.only)) (by exact fun _ _ _ h => h) ?_
          try simp only [Act.put, List.setIfInBounds_toArray, List.set_cons_zero, List.set_cons_succ]
          refine wpAnyM_take (i := 6) (oi := { dst := some 89, op := .binOp BinOp.eql 25 (.tmp 85) (.tmp 88) 25, type := 4, pos := "law.go:110", after := #[{ on := 2, ground := .data }, { on := 5, ground := .data }], guard := none }) rfl (by kernel_rfl) (by kernel_rfl) (by kernel_rfl) (YieldsOn.value (by rfl) (by rfl) (by intro x; first | (go_simp; first | done | rfl) | (unfold execOp; simp only [Sem.run_bind]; go_simp; first | done | rfl))) (by exact fun _ _ _ h => h) ?_
          try simp only [Act.put, List.setIfInBounds_toArray, List.set_cons_zero, List.set_cons_succ]
          refine wpAnyM_take (i := 7) (oi := { dst := some 8, op := .assign (.tmp 89), type := 4, pos := "law.go:110", after := #[{ on := 6, ground := .data }, { on := 5, ground := .chain }, { on := 0, ground := .phase }, { on := 1, ground := .phase }, { on := 2, ground := .phase }, { on := 3, ground := .phase }, { on := 4, ground := .phase }, { on := 5, ground := .phase }, { on := 6, ground := .phase }], guard := none }) rfl (by kernel_rfl) (by kernel_rfl) (by kernel_rfl) (YieldsOn.pure (by rfl) (by intro x; first | (go_simp; first | done | rfl) | (unfold execOp; simp only [Sem.run_bind]; go_simp; first | done | rfl))) (by exact fun _ _ _ h => h) ?_
          try simp only [Act.put, List.setIfInBounds_toArray, List.set_cons_zero, List.set_cons_succ]
          refine wpAnyM_done (by kernel_rfl) (fun x9 hx9 => ?_) _
          go_wp2_with fail
          go_ret
          exact ⟨rfl, (HOd.out.then hx9).below (by simp) (Nat.le_refl _)⟩
      · have hcI : ¬ ((C2 : Int) = 0) := by omega
        go_wp2_with fail
        go_ret
        exact ⟨rfl, HO4.out.below (by simp) (Nat.le_refl _)⟩
    · have hcI : ¬ ((C1 : Int) = 0) := by omega
      go_wp2_with fail
      go_ret
      exact ⟨rfl, HO3.out.below (by simp) (Nat.le_refl _)⟩
  | true =>
    have HD32 : Hid ((idD s p ds).length = 32) := Lib.hid (Sha.sum_length _)
    obtain ⟨D, hDV, hDS, hDI, hD1⟩ := store_facts (idD s p ds) HD32.out
    have HDV := Lib.hid hDV; have HDI := Lib.hid hDI; have HD1' := Lib.hid hD1; have HDS := Lib.hid hDS
    clear hDV hDS hDI hD1
    obtain ⟨d, hd⟩ : ∃ d, idD s p ds = d := ⟨_, rfl⟩
    go_wp2_with (refine wpList_load_row rfl 35 _ rfl q rfl _ _ _ _ HM2.out Tryd.underlying35 rfl (by kernel_rfl) ?_)
    refine (id_c wl s p _ ds (HV.out.only HO2.out (by simp)) HS.out HP.out (by rw [HN1.out]; omega) (HT.out.only HO2.out (by simp)) (HTZ.out.only HO2.out (by simp))).mono ?_
    rintro e w4 ⟨rfl, ho4⟩
    rw [show Sha.sum (idB s p ds) = idD s p ds from rfl, HDV.out]
    have HO4 := Lib.hid (HO2.out.then ho4); have HM4 := Lib.hid (HM2.out.only ho4 (by simp)); have HNN4 := Lib.hid (HNN2.out.only ho4 (by simp)); have HD4 := Lib.hid (ho4.heap HD2.out (by simp))
    clear ho4 HO2 HM2 HNN2 HD2 c0 c1 c2 cf e0 e1 e2 ef
    go_upto_region 8 with (refine wpList_store_row rfl 25 _ _ rfl (q + 2) D rfl rfl _ _ HD4.out HDI.out (by rw [HDS.out, HAS.out]) HD1'.out ?_)
    --@2
    have HD2 : Hid ((w4.setRow (q + 2) D).heap[q + 2]? = some (.cells D 25 (0, 0))) := Lib.hid (setRow_heap _ _ _ D _ _ HD4.out)
    have HM2 : Hid (M3 (w4.setRow (q + 2) D) q 35 s p (.slice a n cap)) := Lib.hid (by unfold M3; rw [setRow_other _ _ _ _ (by omega)]; exact HM4.out)
    have HNN2 : Hid (M3 (w4.setRow (q + 2) D) (q + 1) 35 s2 p2 (.slice b n2 cbp)) := Lib.hid (by unfold M3; rw [setRow_other _ _ _ _ (by omega)]; exact HNN4.out)
    have HO2 : Hid (Only [] w (w4.setRow (q + 2) D)) := Lib.hid (HO4.out.setRow (.inr (by have := HWQ.out; omega)) D)
    generalize World.setRow _ _ _ = wl at *
    clear HO4 HM4 HNN4 HD4 HDS HD1'
    rw [hd] at HD32 HDV
    clear hd
    go_wp2_with (first | (refine wpList_load_rowG (by rfl) 35 _ rfl q rfl _ _ _ _ HM2.out Tryd.underlying35 rfl (by kernel_rfl) ?_) | (refine wpList_load_rowG (by rfl) 35 _ rfl (q + 1) rfl _ _ _ _ HNN2.out Tryd.underlying35 rfl (by kernel_rfl) ?_) | (refine wpList_load_rowG (by rfl) 25 _ rfl (q + 2) rfl _ _ _ _ HD2.out Tryd.underlying25 rfl HDI.out ?_))
    --@A
    refine (check_dd wl s p _ ds d D HDV.out (HV.out.only HO2.out (by simp)) HD32.out HS.out HP.out (by rw [HN1.out]; omega) (HT.out.only HO2.out (by simp)) (HTZ.out.only HO2.out (by simp))).mono ?_
    rintro e w3 ⟨rfl, ho3⟩
    have HO3 := Lib.hid (HO2.out.then ho3); have HM3 := Lib.hid (HM2.out.only ho3 (by simp)); have HNN3 := Lib.hid (HNN2.out.only ho3 (by simp)); have HD3 := Lib.hid (ho3.heap HD2.out (by simp))
    clear ho3 HO2 HM2 HNN2 HD2
    obtain ⟨C1, hC1⟩ : ∃ C, chk s p ds d = C := ⟨_, rfl⟩
    rw [hC1]
    by_cases hc1 : C1 = 0
    · subst hc1
      have HC1 := Lib.hid (chk_zero hC1)
      clear hC1
      rw [show ((0 : Nat) : Int) = 0 from rfl]
      go_wp2_with (first | (refine wpList_load_rowG (by rfl) 35 _ rfl q rfl _ _ _ _ HM3.out Tryd.underlying35 rfl (by kernel_rfl) ?_) | (refine wpList_load_rowG (by rfl) 35 _ rfl (q + 1) rfl _ _ _ _ HNN3.out Tryd.underlying35 rfl (by kernel_rfl) ?_) | (refine wpList_load_rowG (by rfl) 25 _ rfl (q + 2) rfl _ _ _ _ HD3.out Tryd.underlying25 rfl HDI.out ?_))
      --@B
      refine (check_dd w3 s2 p2 _ es d D HDV.out (HU.out.only HO3.out (by simp)) HD32.out HS2.out HP2.out (by rw [HN2.out]; omega) (HT.out.only HO3.out (by simp)) (HTZ.out.only HO3.out (by simp))).mono ?_
      rintro e w4 ⟨rfl, ho4⟩
      have HO4 := Lib.hid (HO3.out.then ho4); have HM4 := Lib.hid (HM3.out.only ho4 (by simp)); have HNN4 := Lib.hid (HNN3.out.only ho4 (by simp))
      clear ho4 HO3 HM3 HNN3 HD3
      obtain ⟨C2, hC2⟩ : ∃ C, chk s2 p2 es d = C := ⟨_, rfl⟩
      rw [hC2]
      by_cases hc2 : C2 = 0
      · subst hc2
        have HC2 := Lib.hid (chk_zero hC2)
        clear hC2
        rw [show ((0 : Nat) : Int) = 0 from rfl]
        by_cases h1 : s = s2
        · subst h1
          by_cases h2 : p = p2
          · subst h2
            obtain ⟨c0, c1, c2, cf⟩ := HM4.out.cells
            obtain ⟨e0, e1, e2, ef⟩ := HNN4.out.cells
            go_wp2_with fail
            --@C
            refine (same_c w4 _ _ ds es (HV.out.only HO4.out (by simp)) (HU.out.only HO4.out (by simp)) (by rw [HN1.out]; omega) (by rw [HN2.out]; omega)).mono ?_
            rintro e w5 ⟨rfl, ho5⟩
            have HO5 := Lib.hid (HO4.out.then ho5); have HM5 := Lib.hid (HM4.out.only ho5 (by simp)); have HNN5 := Lib.hid (HNN4.out.only ho5 (by simp))
            clear ho5 HO4 HM4 HNN4 c0 c1 c2 cf e0 e1 e2 ef
            by_cases h3 : ds = es
            · rw [decide_eq_true h3]
              go_wp2_with fail
              go_ret
              exact ⟨rfl, HO5.out.below (by simp) (Nat.le_refl _)⟩
            · rw [decide_eq_false h3]
              have HNE := Lib.hid h3
              clear h3
              obtain ⟨c0, c1, c2, cf⟩ := HM5.out.cells
              obtain ⟨e0, e1, e2, ef⟩ := HNN5.out.cells
              go_wp2_with fail
              refine (rroot_c w5 _ ds (HV.out.only HO5.out (by simp)) (by rw [HN1.out]; omega)).mono ?_
              rintro e wa ⟨rfl, hoa⟩
              rw [HK1.out.1]
              have HOa := Lib.hid (HO5.out.then hoa); have HMa := Lib.hid (HM5.out.only hoa (by simp)); have HNa := Lib.hid (HNN5.out.only hoa (by simp))
              clear hoa HO5 HM5 HNN5 c0 c1 c2 cf e0 e1 e2 ef
              go_upto_region 13 with (refine wpList_store_row rfl 25 _ _ rfl wa.heap.size K1 rfl rfl _ _ (heap_alloc_new wa _) HK1.out.2.2.1 (by rw [HK1.out.2.1]; simp) HK1.out.2.2.2 ?_)
              generalize hg : World.setRow _ _ _ = wb
              have heb : wb = (wa.alloc (.cells (List.replicate 32 (Value.int .u8 0)).toArray 25 (0, 0))).setRow wa.heap.size K1 := hg.symm.trans rfl
              have HKb : Hid (wb.heap[wa.heap.size]? = some (.cells K1 25 (0, 0))) := Lib.hid (by rw [heb]; exact setRow_heap _ _ _ K1 _ _ (heap_alloc_new wa _))
              have hob : Only [] wa wb := by rw [heb]; exact ((Only.refl [] wa).alloc _).setRow (.inr (Nat.le_refl _)) K1
              have HOb := Lib.hid (HOa.out.then hob); have HMb := Lib.hid (HMa.out.only hob (by simp)); have HNb := Lib.hid (HNa.out.only hob (by simp))
              clear hg heb hob HOa HMa HNa
              obtain ⟨r1, hr1⟩ : ∃ r, wa.heap.size = r := ⟨_, rfl⟩
              rw [hr1] at HKb ⊢
              clear hr1
              obtain ⟨e0, e1, e2, ef⟩ := HNb.out.cells
              go_wp2_with fail
              refine (rroot_c wb _ es (HU.out.only HOb.out (by simp)) (by rw [HN2.out]; omega)).mono ?_
              rintro e wc ⟨rfl, hoc⟩
              rw [HK2.out.1]
              have HOc := Lib.hid (HOb.out.then hoc); have HMc := Lib.hid (HMb.out.only hoc (by simp)); have HNc := Lib.hid (HNb.out.only hoc (by simp)); have HKc := Lib.hid (hoc.heap HKb.out (by simp))
              clear hoc HOb HMb HNb HKb e0 e1 e2 ef
              go_upto_region 14 with (refine wpList_store_row rfl 25 _ _ rfl wc.heap.size K2 rfl rfl _ _ (heap_alloc_new wc _) HK2.out.2.2.1 (by rw [HK2.out.2.1]; simp) HK2.out.2.2.2 ?_)
              generalize hg : World.setRow _ _ _ = we
              have hee : we = (wc.alloc (.cells (List.replicate 32 (Value.int .u8 0)).toArray 25 (0, 0))).setRow wc.heap.size K2 := hg.symm.trans rfl
              have HKe : Hid (we.heap[wc.heap.size]? = some (.cells K2 25 (0, 0))) := Lib.hid (by rw [hee]; exact setRow_heap _ _ _ K2 _ _ (heap_alloc_new wc _))
              have hoe : Only [] wc we := by rw [hee]; exact ((Only.refl [] wc).alloc _).setRow (.inr (Nat.le_refl _)) K2
              have HOe := Lib.hid (HOc.out.then hoe); have HMe := Lib.hid (HMc.out.only hoe (by simp)); have HNe := Lib.hid (HNc.out.only hoe (by simp)); have HKd := Lib.hid (hoe.heap HKc.out (by simp))
              clear hg hee hoe HOc HMc HNc HKc
              obtain ⟨r2, hr2⟩ : ∃ r, wc.heap.size = r := ⟨_, rfl⟩
              rw [hr2] at HKe ⊢
              clear hr2
              obtain ⟨c0, c1, c2, cf⟩ := HMe.out.cells
              obtain ⟨e0, e1, e2, ef⟩ := HNe.out.cells
              --@D
              by_cases h4 : rootD ds = rootD es
              · have hK : K2 = K1 := by
                  have h1 := HK1.out.1
                  rw [h4, HK2.out.1] at h1
                  exact Value.agg.inj h1
                subst hK
                have hqk : ∀ W, (binOp .neq 25 (.agg K2) (.agg K2)).run Tryd.prog W = .ok (.bool false) W := fun W => by
                  have h := neq_dv (rootD ds) (rootD ds) HR1.out HR1.out W
                  rw [HK1.out.1, beq_self_eq_true] at h
                  exact h
                have hgk : ∀ ox oy W, (eqGuard .neq 25 ox oy (.agg K2) (.agg K2)).run Tryd.prog W = .ok () W := fun ox oy W => by
                  have h := guard_dv .neq (rootD ds) (rootD ds) ox oy W
                  rw [HK1.out.1] at h
                  exact h
                have hyes : twoB ds es = true := decide_eq_true ⟨by rw [← HC1.out.1, ← HC2.out.1], HNE.out, h4⟩
                have hnn : n = n2 := by rw [← HN1.out, ← HN2.out, ← HC1.out.1, ← HC2.out.1]
                subst hnn
                go_wp2_with (first
                  | (refine wpList_load_rowG (by rfl) 25 _ rfl r1 rfl _ _ _ _ HKd.out Tryd.underlying25 rfl HK1.out.2.2.1 ?_)
                  | (refine wpList_load_rowG (by rfl) 25 _ rfl r2 rfl _ _ _ _ HKe.out Tryd.underlying25 rfl HK1.out.2.2.1 ?_))
                --@E
                refine (two_yes we _ _ ds es (HV.out.only HOe.out (by simp)) (HU.out.only HOe.out (by simp)) (by rw [HN1.out]; omega) (HT.out.only HOe.out (by simp)) (HTZ.out.only HOe.out (by simp)) hyes).mono ?_
                rintro e w5 ⟨X, Y, lx, ly, rfl, hbx, hby, ho5, -, hxy⟩
                have HXY := Lib.hid (hxy hyes)
                rw [hyes]
                have HO5 := Lib.hid (HOe.out.then ho5)
                clear hxy ho5 HOe HMe HNe HKd HKe hqk hgk c0 c1 c2 cf e0 e1 e2 ef hyes h4
                obtain ⟨ax, cx, rfl, x1, x2, -⟩ := id hbx
                obtain ⟨ay, cy, rfl, y1, y2, -⟩ := id hby
                unfold maxLen at x2 y2
                have HXB := Lib.hid hbx; have HYB := Lib.hid hby
                rw [HXY.out.2.2.1] at x1 HXB ⊢
                rw [HXY.out.2.2.2] at y1 HYB ⊢
                clear hbx hby
                go_upto_region 17 with fail
                --@F
                refine wp_region_M [] (by kernel_rfl) ?_
                change wpAnyM _ _ _ _ _ _ _ _ (World.drew _)
                have HOd := Lib.hid HO5.out.drew; have HX1 := Lib.hid (HXB.out.only (Only.refl [] w5).drew (by simp)); have HY1 := Lib.hid (HYB.out.only (Only.refl [] w5).drew (by simp))
                generalize World.drew w5 = wd at *
                clear HO5 HXB HYB
                have hsx : ∀ x : Later [] wd, (convert 23 9 (.slice ax 65 cx)).run Tryd.prog x.at' = .ok (.string ⟨lx.toArray⟩) x.at' := fun x => run_string_of_bytes (P := Tryd.prog) Tryd.underlying23 Tryd.underlying5 Tryd.underlying9 (HX1.out.only x.only (by simp))
                have hsy : ∀ x : Later [] wd, (convert 23 9 (.slice ay 65 cy)).run Tryd.prog x.at' = .ok (.string ⟨ly.toArray⟩) x.at' := fun x => run_string_of_bytes (P := Tryd.prog) Tryd.underlying23 Tryd.underlying5 Tryd.underlying9 (HY1.out.only x.only (by simp))
                obtain ⟨SX, hSX⟩ : ∃ S : ByteArray, (⟨lx.toArray⟩ : ByteArray) = S := ⟨_, rfl⟩
                obtain ⟨SY, hSY⟩ : ∃ S : ByteArray, (⟨ly.toArray⟩ : ByteArray) = S := ⟨_, rfl⟩
                rw [hSX] at hsx; rw [hSY] at hsy
                have HSX : Hid (SX.data.toList = lx) := Lib.hid (by rw [← hSX])
                have HSY : Hid (SY.data.toList = ly) := Lib.hid (by rw [← hSY])
                have hcmp : (SX.toList == SY.toList) = false := by
                  rw [ByteArray.toList_eq, ByteArray.toList_eq, HSX.out, HSY.out]
                  exact beq_eq_false_iff_ne.2 HXY.out.1
                obtain ⟨K, hK0, -, -, -⟩ := store_facts (Sha.sum lx) (Sha.sum_length _)
                have HKV := Lib.hid hK0
                clear hSX hSY hK0
                have HC1 : Hid (∀ x : World, Only [] wd x → Calls Tryd.prog 26 #[.string SX] x fun e w' => e = .returned (.agg K) ∧ Only [] x w') := Lib.hid (fun x ho => by
                  have how := HOd.out.then ho
                  have h := ref_str SX lx HSX.out (by rw [HXY.out.2.2.1]; decide) x
                  rw [HKV.out] at h
                  exact h)
                have HC2 : Hid (∀ x : World, Only [] wd x → Calls Tryd.prog 26 #[.string SY] x fun e w' => e = .returned (.agg K) ∧ Only [] x w') := Lib.hid (fun x ho => by
                  have how := HOd.out.then ho
                  have h := ref_str SY ly HSY.out (by rw [HXY.out.2.2.2]; decide) x
                  rw [← HXY.out.2.1, HKV.out] at h
                  exact h)
                have hqK : ∀ W, (binOp .eql 25 (.agg K) (.agg K)).run Tryd.prog W = .ok (.bool true) W := fun W => by
                  have h := eql_dv (Sha.sum lx) (Sha.sum lx) (Sha.sum_length _) (Sha.sum_length _) W
                  rw [HKV.out, beq_self_eq_true] at h
                  exact h
                have hgK : ∀ ox oy W, (eqGuard .eql 25 ox oy (.agg K) (.agg K)).run Tryd.prog W = .ok () W := fun ox oy W => by
                  have h := guard_dv .eql (Sha.sum lx) (Sha.sum lx) ox oy W
                  rw [HKV.out] at h
                  exact h
                --@s
                refine wpAnyM_take (i := 0) (oi := { dst := some 99, op := .move (.tmp 14), type := 4, pos := "law.go:113", after := #[], guard := none }) rfl (by kernel_rfl) (by kernel_rfl) (by kernel_rfl) (YieldsOn.pure (by rfl) (by intro x; first | (go_simp; first | done | rfl) | (unfold execOp; simp only [Sem.run_bind]; go_simp; first | done | rfl))) (by exact fun _ _ _ h => h) ?_
                try simp only [Act.put, List.setIfInBounds_toArray, List.set_cons_zero, List.set_cons_succ]
                refine wpAnyM_take (i := 1) (oi := { dst := some 100, op := .move (.tmp 99), type := 4, pos := "law.go:113", after := #[{ on := 0, ground := .data }], guard := none }) rfl (by kernel_rfl) (by kernel_rfl) (by kernel_rfl) (YieldsOn.pure (by rfl) (by intro x; first | (go_simp; first | done | rfl) | (unfold execOp; simp only [Sem.run_bind]; go_simp; first | done | rfl))) (by exact fun _ _ _ h => h) ?_
                try simp only [Act.put, List.setIfInBounds_toArray, List.set_cons_zero, List.set_cons_succ]
                refine wpAnyM_take (i := 2) (oi := { dst := some 101, op := .move (.tmp 12), type := 23, pos := "law.go:113", after := #[{ on := 1, ground := .guard }], guard := some (1, true) }) rfl (by kernel_rfl) (by kernel_rfl) (by kernel_rfl) (YieldsOn.pure (by rfl) (by intro x; first | (go_simp; first | done | rfl) | (unfold execOp; simp only [Sem.run_bind]; go_simp; first | done | rfl))) (by exact fun _ _ _ h => h) ?_
                try simp only [Act.put, List.setIfInBounds_toArray, List.set_cons_zero, List.set_cons_succ]
                refine wpAnyM_take (i := 3) (oi := { dst := some 102, op := .convert 23 9 (.tmp 101), type := 9, pos := "law.go:113", after := #[{ on := 2, ground := .data }, { on := 1, ground := .guard }], guard := some (1, true) }) rfl (by kernel_rfl) (by kernel_rfl) (by kernel_rfl) (YieldsOn.value (by rfl) (by rfl) (by intro x; first | (go_simp; first | done | rfl) | (unfold execOp; simp only [Sem.run_bind]; go_simp; first | done | rfl))) (by exact fun _ _ _ h => h) ?_
                try simp only [Act.put, List.setIfInBounds_toArray, List.set_cons_zero, List.set_cons_succ]
                refine wpAnyM_take (i := 4) (oi := { dst := some 103, op := .move (.tmp 13), type := 23, pos := "law.go:113", after := #[{ on := 1, ground := .guard }], guard := some (1, true) }) rfl (by kernel_rfl) (by kernel_rfl) (by kernel_rfl) (YieldsOn.pure (by rfl) (by intro x; first | (go_simp; first | done | rfl) | (unfold execOp; simp only [Sem.run_bind]; go_simp; first | done | rfl))) (by exact fun _ _ _ h => h) ?_
                try simp only [Act.put, List.setIfInBounds_toArray, List.set_cons_zero, List.set_cons_succ]
                refine wpAnyM_take (i := 5) (oi := { dst := some 104, op := .convert 23 9 (.tmp 103), type := 9, pos := "law.go:113", after := #[{ on := 4, ground := .data }, { on := 1, ground := .guard }], guard := some (1, true) }) rfl (by kernel_rfl) (by kernel_rfl) (by kernel_rfl) (YieldsOn.value (by rfl) (by rfl) (by intro x; first | (go_simp; first | done | rfl) | (unfold execOp; simp only [Sem.run_bind]; go_simp; first | done | rfl))) (by exact fun _ _ _ h => h) ?_
                try simp only [Act.put, List.setIfInBounds_toArray, List.set_cons_zero, List.set_cons_succ]
                refine wpAnyM_take (i := 6) (oi := { dst := some 105, op := .binOp BinOp.neq 9 (.tmp 102) (.tmp 104) 9, type := 4, pos := "law.go:113", after := #[{ on := 3, ground := .data }, { on := 5, ground := .data }, { on := 1, ground := .guard }], guard := some (1, true) }) rfl (by kernel_rfl) (by kernel_rfl) (by kernel_rfl) (YieldsOn.value (by rfl) (by rfl) (by intro x; first | (go_simp; first | done | rfl) | (unfold execOp; simp only [Sem.run_bind]; go_simp; first | done | rfl))) (by exact fun _ _ _ h => h) ?_
                try simp only [Act.put, List.setIfInBounds_toArray, List.set_cons_zero, List.set_cons_succ]
                refine wpAnyM_take (i := 7) (oi := { dst := some 106, op := .pick (.tmp 100) (.tmp 105) (.const (Value.bool false)), type := 4, pos := "law.go:113", after := #[{ on := 1, ground := .data }, { on := 6, ground := .data }], guard := none }) rfl (by kernel_rfl) (by kernel_rfl) (by kernel_rfl) (YieldsOn.pure (by rfl) (by intro x; first | (go_simp; first | done | rfl) | (unfold execOp; simp only [Sem.run_bind]; go_simp; first | done | rfl))) (by exact fun _ _ _ h => h) ?_
                try simp only [Act.put, List.setIfInBounds_toArray, List.set_cons_zero, List.set_cons_succ]
                refine wpAnyM_take (i := 8) (oi := { dst := some 107, op := .move (.tmp 106), type := 4, pos := "law.go:113", after := #[{ on := 7, ground := .data }, { on := 1, ground := .chain }], guard := none }) rfl (by kernel_rfl) (by kernel_rfl) (by kernel_rfl) (YieldsOn.pure (by rfl) (by intro x; first | (go_simp; first | done | rfl) | (unfold execOp; simp only [Sem.run_bind]; go_simp; first | done | rfl))) (by exact fun _ _ _ h => h) ?_
                try simp only [Act.put, List.setIfInBounds_toArray, List.set_cons_zero, List.set_cons_succ]
                --@s8
                refine wpAnyM_take (i := 9) (oi := { dst := some 108, op := .move (.tmp 12), type := 23, pos := "law.go:113", after := #[{ on := 8, ground := .guard }], guard := some (8, true) }) rfl (by kernel_rfl) (by kernel_rfl) (by kernel_rfl) (YieldsOn.pure (by rfl) (by intro x; first | (go_simp; first | done | rfl) | (unfold execOp; simp only [Sem.run_bind]; go_simp; first | done | rfl))) (by exact fun _ _ _ h => h) ?_
                try simp only [Act.put, List.setIfInBounds_toArray, List.set_cons_zero, List.set_cons_succ]
                refine wpAnyM_take (i := 10) (oi := { dst := some 109, op := .convert 23 9 (.tmp 108), type := 9, pos := "law.go:113", after := #[{ on := 9, ground := .data }, { on := 8, ground := .guard }], guard := some (8, true) }) rfl (by kernel_rfl) (by kernel_rfl) (by kernel_rfl) (YieldsOn.value (by rfl) (by rfl) (by intro x; first | (go_simp; first | done | rfl) | (unfold execOp; simp only [Sem.run_bind]; go_simp; first | done | rfl))) (by exact fun _ _ _ h => h) ?_
                try simp only [Act.put, List.setIfInBounds_toArray, List.set_cons_zero, List.set_cons_succ]
                refine wpAnyM_take (i := 11) (oi := { dst := some 110, op := .call { callee := Callee.value (.func 26), args := #[.tmp 109], argTypes := #[9] }, type := 25, pos := "law.go:113", after := #[{ on := 10, ground := .data }, { on := 8, ground := .chain }, { on := 8, ground := .guard }], guard := some (8, true) }) rfl (by kernel_rfl) (by kernel_rfl) (by kernel_rfl) (YieldsOn.call (by rfl) (by rfl) (by intro x; go_simp; first | done | rfl | exact ⟨rfl, rfl⟩) (fun x => HC1.out x.at' x.only)) (by exact fun _ _ _ h => h) ?_
                try simp only [Act.put, List.setIfInBounds_toArray, List.set_cons_zero, List.set_cons_succ]
                refine wpAnyM_take (i := 12) (oi := { dst := some 111, op := .move (.tmp 13), type := 23, pos := "law.go:113", after := #[{ on := 8, ground := .guard }], guard := some (8, true) }) rfl (by kernel_rfl) (by kernel_rfl) (by kernel_rfl) (YieldsOn.pure (by rfl) (by intro x; first | (go_simp; first | done | rfl) | (unfold execOp; simp only [Sem.run_bind]; go_simp; first | done | rfl))) (by exact fun _ _ _ h => h) ?_
                try simp only [Act.put, List.setIfInBounds_toArray, List.set_cons_zero, List.set_cons_succ]
                refine wpAnyM_take (i := 13) (oi := { dst := some 112, op := .convert 23 9 (.tmp 111), type := 9, pos := "law.go:113", after := #[{ on := 12, ground := .data }, { on := 8, ground := .guard }], guard := some (8, true) }) rfl (by kernel_rfl) (by kernel_rfl) (by kernel_rfl) (YieldsOn.value (by rfl) (by rfl) (by intro x; first | (go_simp; first | done | rfl) | (unfold execOp; simp only [Sem.run_bind]; go_simp; first | done | rfl))) (by exact fun _ _ _ h => h) ?_
                try simp only [Act.put, List.setIfInBounds_toArray, List.set_cons_zero, List.set_cons_succ]
                refine wpAnyM_take (i := 14) (oi := { dst := some 113, op := .call { callee := Callee.value (.func 26), args := #[.tmp 112], argTypes := #[9] }, type := 25, pos := "law.go:113", after := #[{ on := 13, ground := .data }, { on := 11, ground := .chain }, { on := 8, ground := .guard }], guard := some (8, true) }) rfl (by kernel_rfl) (by kernel_rfl) (by kernel_rfl) (YieldsOn.call (by rfl) (by rfl) (by intro x; go_simp; first | done | rfl | exact ⟨rfl, rfl⟩) (fun x => HC2.out x.at' x.only)) (by exact fun _ _ _ h => h) ?_
                try simp only [Act.put, List.setIfInBounds_toArray, List.set_cons_zero, List.set_cons_succ]
                refine wpAnyM_take (i := 15) (oi := { dst := some 114, op := .binOp BinOp.eql 25 (.tmp 110) (.tmp 113) 25, type := 4, pos := "law.go:113", after := #[{ on := 11, ground := .data }, { on := 14, ground := .data }, { on := 8, ground := .guard }], guard := some (8, true) }) rfl (by kernel_rfl) (by kernel_rfl) (by kernel_rfl) (YieldsOn.value (by rfl) (by rfl) (by intro x; first | (go_simp; first | done | rfl) | (unfold execOp; simp only [Sem.run_bind]; go_simp; first | done | rfl))) (by exact fun _ _ _ h => h) ?_
                try simp only [Act.put, List.setIfInBounds_toArray, List.set_cons_zero, List.set_cons_succ]
                refine wpAnyM_take (i := 16) (oi := { dst := some 115, op := .pick (.tmp 107) (.tmp 114) (.const (Value.bool false)), type := 4, pos := "law.go:113", after := #[{ on := 8, ground := .data }, { on := 15, ground := .data }], guard := none }) rfl (by kernel_rfl) (by kernel_rfl) (by kernel_rfl) (YieldsOn.pure (by rfl) (by intro x; first | (go_simp; first | done | rfl) | (unfold execOp; simp only [Sem.run_bind]; go_simp; first | done | rfl))) (by exact fun _ _ _ h => h) ?_
                try simp only [Act.put, List.setIfInBounds_toArray, List.set_cons_zero, List.set_cons_succ]
                refine wpAnyM_take (i := 17) (oi := { dst := some 8, op := .assign (.tmp 115), type := 4, pos := "law.go:113", after := #[{ on := 16, ground := .data }, { on := 14, ground := .chain }, { on := 0, ground := .phase }, { on := 1, ground := .phase }, { on := 2, ground := .phase }, { on := 3, ground := .phase }, { on := 4, ground := .phase }, { on := 5, ground := .phase }, { on := 6, ground := .phase }, { on := 7, ground := .phase }, { on := 8, ground := .phase }, { on := 9, ground := .phase }, { on := 10, ground := .phase }, { on := 11, ground := .phase }, { on := 12, ground := .phase }, { on := 13, ground := .phase }, { on := 14, ground := .phase }, { on := 15, ground := .phase }, { on := 16, ground := .phase }], guard := none }) rfl (by kernel_rfl) (by kernel_rfl) (by kernel_rfl) (YieldsOn.pure (by rfl) (by intro x; first | (go_simp; first | done | rfl) | (unfold execOp; simp only [Sem.run_bind]; go_simp; first | done | rfl))) (by exact fun _ _ _ h => h) ?_
                try simp only [Act.put, List.setIfInBounds_toArray, List.set_cons_zero, List.set_cons_succ]
                refine wpAnyM_done (by kernel_rfl) (fun x9 hx9 => ?_) _
                go_wp2_with fail
                go_ret
                exact ⟨rfl, (HOd.out.then hx9).below (by simp) (Nat.le_refl _)⟩
              · have hqk : ∀ W, (binOp .neq 25 (.agg K1) (.agg K2)).run Tryd.prog W = .ok (.bool true) W := fun W => by
                  have h := neq_dv (rootD ds) (rootD es) HR1.out HR2.out W
                  rw [HK1.out.1, HK2.out.1, beq_eq_false_iff_ne.2 h4] at h
                  exact h
                have hgk : ∀ ox oy W, (eqGuard .neq 25 ox oy (.agg K1) (.agg K2)).run Tryd.prog W = .ok () W := fun ox oy W => by
                  have h := guard_dv .neq (rootD ds) (rootD es) ox oy W
                  rw [HK1.out.1, HK2.out.1] at h
                  exact h
                go_upto_region 15 with (first
                  | (refine wpList_load_rowG (by rfl) 25 _ rfl r1 rfl _ _ _ _ HKd.out Tryd.underlying25 rfl HK1.out.2.2.1 ?_)
                  | (refine wpList_load_rowG (by rfl) 25 _ rfl r2 rfl _ _ _ _ HKe.out Tryd.underlying25 rfl HK2.out.2.2.1 ?_))
                clear hqk hgk
                --@G
                clear c0 c1 c2 cf e0 e1 e2 ef
                refine wp_region_M [] (by kernel_rfl) ?_
                change wpAnyM _ _ _ _ _ _ _ _ (World.drew _)
                have HOd := Lib.hid HOe.out.drew; have HM1 := Lib.hid (HMe.out.only (Only.refl [] we).drew (by simp)); have HNN1 := Lib.hid (HNe.out.only (Only.refl [] we).drew (by simp))
                generalize World.drew we = wd at *
                clear HOe HMe HNe HKd HKe
                obtain ⟨I, hI, -, -, -⟩ := store_facts d HD32.out
                have HIV := Lib.hid hI
                clear hI
                have HCA : Hid (∀ x : World, Only [] wd x → Calls Tryd.prog 23 #[.agg #[.int .u64 (s : Nat), .int .u32 (p : Nat), .slice a n cap]] x fun e w' => e = .returned (.agg #[.int .u64 (s : Nat), .int .u32 (p : Nat), .slice a n cap]) ∧ Only [] x w') := Lib.hid (fun x ho => by
                  have how := HOd.out.then ho
                  have h := modelof_c x s p a n cap
                  exact h)
                have HCB : Hid (∀ x : World, Only [] wd x → Calls Tryd.prog 21 #[.agg #[.int .u64 (s : Nat), .int .u32 (p : Nat), .slice a n cap]] x fun e w' => e = .returned (.agg I) ∧ Only [] x w') := Lib.hid (fun x ho => by
                  have how := HOd.out.then ho
                  have h := rid_c x s p _ ds (HV.out.only how (by simp)) HS.out HP.out (by rw [HN1.out]; omega)
                  rw [show Sha.sum (idB s p ds) = idD s p ds from rfl, HC1.out.2, HIV.out] at h
                  exact h)
                have HCC : Hid (∀ x : World, Only [] wd x → Calls Tryd.prog 23 #[.agg #[.int .u64 (s : Nat), .int .u32 (p : Nat), .slice b n2 cbp]] x fun e w' => e = .returned (.agg #[.int .u64 (s : Nat), .int .u32 (p : Nat), .slice b n2 cbp]) ∧ Only [] x w') := Lib.hid (fun x ho => by
                  have how := HOd.out.then ho
                  have h := modelof_c x s p b n2 cbp
                  exact h)
                have HCD : Hid (∀ x : World, Only [] wd x → Calls Tryd.prog 21 #[.agg #[.int .u64 (s : Nat), .int .u32 (p : Nat), .slice b n2 cbp]] x fun e w' => e = .returned (.agg I) ∧ Only [] x w') := Lib.hid (fun x ho => by
                  have how := HOd.out.then ho
                  have h := rid_c x s p _ es (HU.out.only how (by simp)) HS2.out HP2.out (by rw [HN2.out]; omega)
                  rw [show Sha.sum (idB s p es) = idD s p es from rfl, HC2.out.2, HIV.out] at h
                  exact h)
                have hqI : ∀ W, (binOp .eql 25 (.agg I) (.agg I)).run Tryd.prog W = .ok (.bool true) W := fun W => by
                  have h := eql_dv d d HD32.out HD32.out W
                  rw [HIV.out, beq_self_eq_true] at h
                  exact h
                have hgI : ∀ ox oy W, (eqGuard .eql 25 ox oy (.agg I) (.agg I)).run Tryd.prog W = .ok () W := fun ox oy W => by
                  have h := guard_dv .eql d d ox oy W
                  rw [HIV.out] at h
                  exact h
                refine wpAnyM_take (i := 0) (oi := { dst := some 83, op := .load 35 (.tmp 4), type := 35, pos := "law.go:110", after := #[], guard := none }) rfl (by kernel_rfl) (by kernel_rfl) (by kernel_rfl) (YieldsOn.row (by rfl) 35 (.tmp 4) rfl q (by rfl) _ _ _ _ HM1.out (by simp) Tryd.underlying35 rfl (by kernel_rfl)) (by exact fun _ _ _ h => h) ?_
                try simp only [Act.put, List.setIfInBounds_toArray, List.set_cons_zero, List.set_cons_succ]
                refine wpAnyM_take (i := 3) (oi := { dst := some 86, op := .load 35 (.tmp 5), type := 35, pos := "law.go:110", after := #[], guard := none }) rfl (by kernel_rfl) (by kernel_rfl) (by kernel_rfl) (YieldsOn.row (by rfl) 35 (.tmp 5) rfl (q + 1) (by rfl) _ _ _ _ HNN1.out (by simp) Tryd.underlying35 rfl (by kernel_rfl)) (by exact fun _ _ _ h => h) ?_
                try simp only [Act.put, List.setIfInBounds_toArray, List.set_cons_zero, List.set_cons_succ]
                refine wpAnyM_take (i := 1) (oi := { dst := some 84, op := .call { callee := Callee.value (.func 23), args := #[.tmp 83], argTypes := #[35] }, type := 39, pos := "law.go:110", after := #[{ on := 0, ground := .data }], guard := none }) rfl (by kernel_rfl) (by kernel_rfl) (by kernel_rfl) (YieldsOn.call (by rfl) (by rfl) (by intro x; go_simp; first | done | rfl | exact ⟨rfl, rfl⟩) (fun x => HCA.out x.at' x.only)) (by exact fun _ _ _ h => h) ?_
                try simp only [Act.put, List.setIfInBounds_toArray, List.set_cons_zero, List.set_cons_succ]
                refine wpAnyM_take (i := 2) (oi := { dst := some 85, op := .call { callee := Callee.value (.func 21), args := #[.tmp 84], argTypes := #[39] }, type := 25, pos := "law.go:110", after := #[{ on := 1, ground := .data }, { on := 1, ground := .chain }], guard := none }) rfl (by kernel_rfl) (by kernel_rfl) (by kernel_rfl) (YieldsOn.call (by rfl) (by rfl) (by intro x; go_simp; first | done | rfl | exact ⟨rfl, rfl⟩) (fun x => HCB.out x.at' x.only)) (by exact fun _ _ _ h => h) ?_
                try simp only [Act.put, List.setIfInBounds_toArray, List.set_cons_zero, List.set_cons_succ]
                refine wpAnyM_take (i := 4) (oi := { dst := some 87, op := .call { callee := Callee.value (.func 23), args := #[.tmp 86], argTypes := #[35] }, type := 39, pos := "law.go:110", after := #[{ on := 3, ground := .data }, { on := 2, ground := .chain }], guard := none }) rfl (by kernel_rfl) (by kernel_rfl) (by kernel_rfl) (YieldsOn.call (by rfl) (by rfl) (by intro x; go_simp; first | done | rfl | exact ⟨rfl, rfl⟩) (fun x => HCC.out x.at' x.only)) (by exact fun _ _ _ h => h) ?_
                try simp only [Act.put, List.setIfInBounds_toArray, List.set_cons_zero, List.set_cons_succ]
                refine wpAnyM_take (i := 5) (oi := { dst := some 88, op := .call { callee := Callee.value (.func 21), args := #[.tmp 87], argTypes := #[39] }, type := 25, pos := "law.go:110", after := #[{ on := 4, ground := .data }, { on := 4, ground := .chain }], guard := none }) rfl (by kernel_rfl) (by kernel_rfl) (by kernel_rfl) (YieldsOn.call (by rfl) (by rfl) (by intro x; go_simp; first | done | rfl | exact ⟨rfl, rfl⟩) (fun x => HCD.out x.at' x.only)) (by exact fun _ _ _ h => h) ?_
                try simp only [Act.put, List.setIfInBounds_toArray, List.set_cons_zero, List.set_cons_succ]
                refine wpAnyM_take (i := 6) (oi := { dst := some 89, op := .binOp BinOp.eql 25 (.tmp 85) (.tmp 88) 25, type := 4, pos := "law.go:110", after := #[{ on := 2, ground := .data }, { on := 5, ground := .data }], guard := none }) rfl (by kernel_rfl) (by kernel_rfl) (by kernel_rfl) (YieldsOn.value (by rfl) (by rfl) (by intro x; first | (go_simp; first | done | rfl) | (unfold execOp; simp only [Sem.run_bind]; go_simp; first | done | rfl))) (by exact fun _ _ _ h => h) ?_
                try simp only [Act.put, List.setIfInBounds_toArray, List.set_cons_zero, List.set_cons_succ]
                refine wpAnyM_take (i := 7) (oi := { dst := some 8, op := .assign (.tmp 89), type := 4, pos := "law.go:110", after := #[{ on := 6, ground := .data }, { on := 5, ground := .chain }, { on := 0, ground := .phase }, { on := 1, ground := .phase }, { on := 2, ground := .phase }, { on := 3, ground := .phase }, { on := 4, ground := .phase }, { on := 5, ground := .phase }, { on := 6, ground := .phase }], guard := none }) rfl (by kernel_rfl) (by kernel_rfl) (by kernel_rfl) (YieldsOn.pure (by rfl) (by intro x; first | (go_simp; first | done | rfl) | (unfold execOp; simp only [Sem.run_bind]; go_simp; first | done | rfl))) (by exact fun _ _ _ h => h) ?_
                try simp only [Act.put, List.setIfInBounds_toArray, List.set_cons_zero, List.set_cons_succ]
                refine wpAnyM_done (by kernel_rfl) (fun x9 hx9 => ?_) _
                go_wp2_with fail
                go_ret
                exact ⟨rfl, (HOd.out.then hx9).below (by simp) (Nat.le_refl _)⟩
          · have h2I : ¬ ((p : Int) = (p2 : Int)) := by omega
            obtain ⟨c0, c1, c2, cf⟩ := HM4.out.cells
            obtain ⟨e0, e1, e2, ef⟩ := HNN4.out.cells
            go_wp2_with fail
            refine (rroot_c w4 _ ds (HV.out.only HO4.out (by simp)) (by rw [HN1.out]; omega)).mono ?_
            rintro e wa ⟨rfl, hoa⟩
            rw [HK1.out.1]
            have HOa := Lib.hid (HO4.out.then hoa); have HMa := Lib.hid (HM4.out.only hoa (by simp)); have HNa := Lib.hid (HNN4.out.only hoa (by simp))
            clear hoa HO4 HM4 HNN4 c0 c1 c2 cf e0 e1 e2 ef
            go_upto_region 13 with (refine wpList_store_row rfl 25 _ _ rfl wa.heap.size K1 rfl rfl _ _ (heap_alloc_new wa _) HK1.out.2.2.1 (by rw [HK1.out.2.1]; simp) HK1.out.2.2.2 ?_)
            generalize hg : World.setRow _ _ _ = wb
            have heb : wb = (wa.alloc (.cells (List.replicate 32 (Value.int .u8 0)).toArray 25 (0, 0))).setRow wa.heap.size K1 := hg.symm.trans rfl
            have HKb : Hid (wb.heap[wa.heap.size]? = some (.cells K1 25 (0, 0))) := Lib.hid (by rw [heb]; exact setRow_heap _ _ _ K1 _ _ (heap_alloc_new wa _))
            have hob : Only [] wa wb := by rw [heb]; exact ((Only.refl [] wa).alloc _).setRow (.inr (Nat.le_refl _)) K1
            have HOb := Lib.hid (HOa.out.then hob); have HMb := Lib.hid (HMa.out.only hob (by simp)); have HNb := Lib.hid (HNa.out.only hob (by simp))
            clear hg heb hob HOa HMa HNa
            obtain ⟨r1, hr1⟩ : ∃ r, wa.heap.size = r := ⟨_, rfl⟩
            rw [hr1] at HKb ⊢
            clear hr1
            obtain ⟨e0, e1, e2, ef⟩ := HNb.out.cells
            go_wp2_with fail
            refine (rroot_c wb _ es (HU.out.only HOb.out (by simp)) (by rw [HN2.out]; omega)).mono ?_
            rintro e wc ⟨rfl, hoc⟩
            rw [HK2.out.1]
            have HOc := Lib.hid (HOb.out.then hoc); have HMc := Lib.hid (HMb.out.only hoc (by simp)); have HNc := Lib.hid (HNb.out.only hoc (by simp)); have HKc := Lib.hid (hoc.heap HKb.out (by simp))
            clear hoc HOb HMb HNb HKb e0 e1 e2 ef
            go_upto_region 14 with (refine wpList_store_row rfl 25 _ _ rfl wc.heap.size K2 rfl rfl _ _ (heap_alloc_new wc _) HK2.out.2.2.1 (by rw [HK2.out.2.1]; simp) HK2.out.2.2.2 ?_)
            generalize hg : World.setRow _ _ _ = we
            have hee : we = (wc.alloc (.cells (List.replicate 32 (Value.int .u8 0)).toArray 25 (0, 0))).setRow wc.heap.size K2 := hg.symm.trans rfl
            have HKe : Hid (we.heap[wc.heap.size]? = some (.cells K2 25 (0, 0))) := Lib.hid (by rw [hee]; exact setRow_heap _ _ _ K2 _ _ (heap_alloc_new wc _))
            have hoe : Only [] wc we := by rw [hee]; exact ((Only.refl [] wc).alloc _).setRow (.inr (Nat.le_refl _)) K2
            have HOe := Lib.hid (HOc.out.then hoe); have HMe := Lib.hid (HMc.out.only hoe (by simp)); have HNe := Lib.hid (HNc.out.only hoe (by simp)); have HKd := Lib.hid (hoe.heap HKc.out (by simp))
            clear hg hee hoe HOc HMc HNc HKc
            obtain ⟨r2, hr2⟩ : ∃ r, wc.heap.size = r := ⟨_, rfl⟩
            rw [hr2] at HKe ⊢
            clear hr2
            obtain ⟨c0, c1, c2, cf⟩ := HMe.out.cells
            obtain ⟨e0, e1, e2, ef⟩ := HNe.out.cells
            go_upto_region 15 with fail
            --@H
            clear c0 c1 c2 cf e0 e1 e2 ef
            refine wp_region_M [] (by kernel_rfl) ?_
            change wpAnyM _ _ _ _ _ _ _ _ (World.drew _)
            have HOd := Lib.hid HOe.out.drew; have HM1 := Lib.hid (HMe.out.only (Only.refl [] we).drew (by simp)); have HNN1 := Lib.hid (HNe.out.only (Only.refl [] we).drew (by simp))
            generalize World.drew we = wd at *
            clear HOe HMe HNe HKd HKe
            obtain ⟨I, hI, -, -, -⟩ := store_facts d HD32.out
            have HIV := Lib.hid hI
            clear hI
            have HCA : Hid (∀ x : World, Only [] wd x → Calls Tryd.prog 23 #[.agg #[.int .u64 (s : Nat), .int .u32 (p : Nat), .slice a n cap]] x fun e w' => e = .returned (.agg #[.int .u64 (s : Nat), .int .u32 (p : Nat), .slice a n cap]) ∧ Only [] x w') := Lib.hid (fun x ho => by
              have how := HOd.out.then ho
              have h := modelof_c x s p a n cap
              exact h)
            have HCB : Hid (∀ x : World, Only [] wd x → Calls Tryd.prog 21 #[.agg #[.int .u64 (s : Nat), .int .u32 (p : Nat), .slice a n cap]] x fun e w' => e = .returned (.agg I) ∧ Only [] x w') := Lib.hid (fun x ho => by
              have how := HOd.out.then ho
              have h := rid_c x s p _ ds (HV.out.only how (by simp)) HS.out HP.out (by rw [HN1.out]; omega)
              rw [show Sha.sum (idB s p ds) = idD s p ds from rfl, HC1.out.2, HIV.out] at h
              exact h)
            have HCC : Hid (∀ x : World, Only [] wd x → Calls Tryd.prog 23 #[.agg #[.int .u64 (s : Nat), .int .u32 (p2 : Nat), .slice b n2 cbp]] x fun e w' => e = .returned (.agg #[.int .u64 (s : Nat), .int .u32 (p2 : Nat), .slice b n2 cbp]) ∧ Only [] x w') := Lib.hid (fun x ho => by
              have how := HOd.out.then ho
              have h := modelof_c x s p2 b n2 cbp
              exact h)
            have HCD : Hid (∀ x : World, Only [] wd x → Calls Tryd.prog 21 #[.agg #[.int .u64 (s : Nat), .int .u32 (p2 : Nat), .slice b n2 cbp]] x fun e w' => e = .returned (.agg I) ∧ Only [] x w') := Lib.hid (fun x ho => by
              have how := HOd.out.then ho
              have h := rid_c x s p2 _ es (HU.out.only how (by simp)) HS2.out HP2.out (by rw [HN2.out]; omega)
              rw [show Sha.sum (idB s p2 es) = idD s p2 es from rfl, HC2.out.2, HIV.out] at h
              exact h)
            have hqI : ∀ W, (binOp .eql 25 (.agg I) (.agg I)).run Tryd.prog W = .ok (.bool true) W := fun W => by
              have h := eql_dv d d HD32.out HD32.out W
              rw [HIV.out, beq_self_eq_true] at h
              exact h
            have hgI : ∀ ox oy W, (eqGuard .eql 25 ox oy (.agg I) (.agg I)).run Tryd.prog W = .ok () W := fun ox oy W => by
              have h := guard_dv .eql d d ox oy W
              rw [HIV.out] at h
              exact h
            refine wpAnyM_take (i := 0) (oi := { dst := some 83, op := .load 35 (.tmp 4), type := 35, pos := "law.go:110", after := #[], guard := none }) rfl (by kernel_rfl) (by kernel_rfl) (by kernel_rfl) (YieldsOn.row (by rfl) 35 (.tmp 4) rfl q (by rfl) _ _ _ _ HM1.out (by simp) Tryd.underlying35 rfl (by kernel_rfl)) (by exact fun _ _ _ h => h) ?_
            try simp only [Act.put, List.setIfInBounds_toArray, List.set_cons_zero, List.set_cons_succ]
            refine wpAnyM_take (i := 3) (oi := { dst := some 86, op := .load 35 (.tmp 5), type := 35, pos := "law.go:110", after := #[], guard := none }) rfl (by kernel_rfl) (by kernel_rfl) (by kernel_rfl) (YieldsOn.row (by rfl) 35 (.tmp 5) rfl (q + 1) (by rfl) _ _ _ _ HNN1.out (by simp) Tryd.underlying35 rfl (by kernel_rfl)) (by exact fun _ _ _ h => h) ?_
            try simp only [Act.put, List.setIfInBounds_toArray, List.set_cons_zero, List.set_cons_succ]
            refine wpAnyM_take (i := 1) (oi := { dst := some 84, op := .call { callee := Callee.value (.func 23), args := #[.tmp 83], argTypes := #[35] }, type := 39, pos := "law.go:110", after := #[{ on := 0, ground := .data }], guard := none }) rfl (by kernel_rfl) (by kernel_rfl) (by kernel_rfl) (YieldsOn.call (by rfl) (by rfl) (by intro x; go_simp; first | done | rfl | exact ⟨rfl, rfl⟩) (fun x => HCA.out x.at' x.only)) (by exact fun _ _ _ h => h) ?_
            try simp only [Act.put, List.setIfInBounds_toArray, List.set_cons_zero, List.set_cons_succ]
            refine wpAnyM_take (i := 2) (oi := { dst := some 85, op := .call { callee := Callee.value (.func 21), args := #[.tmp 84], argTypes := #[39] }, type := 25, pos := "law.go:110", after := #[{ on := 1, ground := .data }, { on := 1, ground := .chain }], guard := none }) rfl (by kernel_rfl) (by kernel_rfl) (by kernel_rfl) (YieldsOn.call (by rfl) (by rfl) (by intro x; go_simp; first | done | rfl | exact ⟨rfl, rfl⟩) (fun x => HCB.out x.at' x.only)) (by exact fun _ _ _ h => h) ?_
            try simp only [Act.put, List.setIfInBounds_toArray, List.set_cons_zero, List.set_cons_succ]
            refine wpAnyM_take (i := 4) (oi := { dst := some 87, op := .call { callee := Callee.value (.func 23), args := #[.tmp 86], argTypes := #[35] }, type := 39, pos := "law.go:110", after := #[{ on := 3, ground := .data }, { on := 2, ground := .chain }], guard := none }) rfl (by kernel_rfl) (by kernel_rfl) (by kernel_rfl) (YieldsOn.call (by rfl) (by rfl) (by intro x; go_simp; first | done | rfl | exact ⟨rfl, rfl⟩) (fun x => HCC.out x.at' x.only)) (by exact fun _ _ _ h => h) ?_
            try simp only [Act.put, List.setIfInBounds_toArray, List.set_cons_zero, List.set_cons_succ]
            refine wpAnyM_take (i := 5) (oi := { dst := some 88, op := .call { callee := Callee.value (.func 21), args := #[.tmp 87], argTypes := #[39] }, type := 25, pos := "law.go:110", after := #[{ on := 4, ground := .data }, { on := 4, ground := .chain }], guard := none }) rfl (by kernel_rfl) (by kernel_rfl) (by kernel_rfl) (YieldsOn.call (by rfl) (by rfl) (by intro x; go_simp; first | done | rfl | exact ⟨rfl, rfl⟩) (fun x => HCD.out x.at' x.only)) (by exact fun _ _ _ h => h) ?_
            try simp only [Act.put, List.setIfInBounds_toArray, List.set_cons_zero, List.set_cons_succ]
            refine wpAnyM_take (i := 6) (oi := { dst := some 89, op := .binOp BinOp.eql 25 (.tmp 85) (.tmp 88) 25, type := 4, pos := "law.go:110", after := #[{ on := 2, ground := .data }, { on := 5, ground := .data }], guard := none }) rfl (by kernel_rfl) (by kernel_rfl) (by kernel_rfl) (YieldsOn.value (by rfl) (by rfl) (by intro x; first | (go_simp; first | done | rfl) | (unfold execOp; simp only [Sem.run_bind]; go_simp; first | done | rfl))) (by exact fun _ _ _ h => h) ?_
            try simp only [Act.put, List.setIfInBounds_toArray, List.set_cons_zero, List.set_cons_succ]
            refine wpAnyM_take (i := 7) (oi := { dst := some 8, op := .assign (.tmp 89), type := 4, pos := "law.go:110", after := #[{ on := 6, ground := .data }, { on := 5, ground := .chain }, { on := 0, ground := .phase }, { on := 1, ground := .phase }, { on := 2, ground := .phase }, { on := 3, ground := .phase }, { on := 4, ground := .phase }, { on := 5, ground := .phase }, { on := 6, ground := .phase }], guard := none }) rfl (by kernel_rfl) (by kernel_rfl) (by kernel_rfl) (YieldsOn.pure (by rfl) (by intro x; first | (go_simp; first | done | rfl) | (unfold execOp; simp only [Sem.run_bind]; go_simp; first | done | rfl))) (by exact fun _ _ _ h => h) ?_
            try simp only [Act.put, List.setIfInBounds_toArray, List.set_cons_zero, List.set_cons_succ]
            refine wpAnyM_done (by kernel_rfl) (fun x9 hx9 => ?_) _
            go_wp2_with fail
            go_ret
            exact ⟨rfl, (HOd.out.then hx9).below (by simp) (Nat.le_refl _)⟩
        · have h1I : ¬ ((s : Int) = (s2 : Int)) := by omega
          obtain ⟨c0, c1, c2, cf⟩ := HM4.out.cells
          obtain ⟨e0, e1, e2, ef⟩ := HNN4.out.cells
          go_wp2_with fail
          refine (rroot_c w4 _ ds (HV.out.only HO4.out (by simp)) (by rw [HN1.out]; omega)).mono ?_
          rintro e wa ⟨rfl, hoa⟩
          rw [HK1.out.1]
          have HOa := Lib.hid (HO4.out.then hoa); have HMa := Lib.hid (HM4.out.only hoa (by simp)); have HNa := Lib.hid (HNN4.out.only hoa (by simp))
          clear hoa HO4 HM4 HNN4 c0 c1 c2 cf e0 e1 e2 ef
          go_upto_region 13 with (refine wpList_store_row rfl 25 _ _ rfl wa.heap.size K1 rfl rfl _ _ (heap_alloc_new wa _) HK1.out.2.2.1 (by rw [HK1.out.2.1]; simp) HK1.out.2.2.2 ?_)
          generalize hg : World.setRow _ _ _ = wb
          have heb : wb = (wa.alloc (.cells (List.replicate 32 (Value.int .u8 0)).toArray 25 (0, 0))).setRow wa.heap.size K1 := hg.symm.trans rfl
          have HKb : Hid (wb.heap[wa.heap.size]? = some (.cells K1 25 (0, 0))) := Lib.hid (by rw [heb]; exact setRow_heap _ _ _ K1 _ _ (heap_alloc_new wa _))
          have hob : Only [] wa wb := by rw [heb]; exact ((Only.refl [] wa).alloc _).setRow (.inr (Nat.le_refl _)) K1
          have HOb := Lib.hid (HOa.out.then hob); have HMb := Lib.hid (HMa.out.only hob (by simp)); have HNb := Lib.hid (HNa.out.only hob (by simp))
          clear hg heb hob HOa HMa HNa
          obtain ⟨r1, hr1⟩ : ∃ r, wa.heap.size = r := ⟨_, rfl⟩
          rw [hr1] at HKb ⊢
          clear hr1
          obtain ⟨e0, e1, e2, ef⟩ := HNb.out.cells
          go_wp2_with fail
          refine (rroot_c wb _ es (HU.out.only HOb.out (by simp)) (by rw [HN2.out]; omega)).mono ?_
          rintro e wc ⟨rfl, hoc⟩
          rw [HK2.out.1]
          have HOc := Lib.hid (HOb.out.then hoc); have HMc := Lib.hid (HMb.out.only hoc (by simp)); have HNc := Lib.hid (HNb.out.only hoc (by simp)); have HKc := Lib.hid (hoc.heap HKb.out (by simp))
          clear hoc HOb HMb HNb HKb e0 e1 e2 ef
          go_upto_region 14 with (refine wpList_store_row rfl 25 _ _ rfl wc.heap.size K2 rfl rfl _ _ (heap_alloc_new wc _) HK2.out.2.2.1 (by rw [HK2.out.2.1]; simp) HK2.out.2.2.2 ?_)
          generalize hg : World.setRow _ _ _ = we
          have hee : we = (wc.alloc (.cells (List.replicate 32 (Value.int .u8 0)).toArray 25 (0, 0))).setRow wc.heap.size K2 := hg.symm.trans rfl
          have HKe : Hid (we.heap[wc.heap.size]? = some (.cells K2 25 (0, 0))) := Lib.hid (by rw [hee]; exact setRow_heap _ _ _ K2 _ _ (heap_alloc_new wc _))
          have hoe : Only [] wc we := by rw [hee]; exact ((Only.refl [] wc).alloc _).setRow (.inr (Nat.le_refl _)) K2
          have HOe := Lib.hid (HOc.out.then hoe); have HMe := Lib.hid (HMc.out.only hoe (by simp)); have HNe := Lib.hid (HNc.out.only hoe (by simp)); have HKd := Lib.hid (hoe.heap HKc.out (by simp))
          clear hg hee hoe HOc HMc HNc HKc
          obtain ⟨r2, hr2⟩ : ∃ r, wc.heap.size = r := ⟨_, rfl⟩
          rw [hr2] at HKe ⊢
          clear hr2
          obtain ⟨c0, c1, c2, cf⟩ := HMe.out.cells
          obtain ⟨e0, e1, e2, ef⟩ := HNe.out.cells
          go_upto_region 15 with fail
          --@I
          clear c0 c1 c2 cf e0 e1 e2 ef
          refine wp_region_M [] (by kernel_rfl) ?_
          change wpAnyM _ _ _ _ _ _ _ _ (World.drew _)
          have HOd := Lib.hid HOe.out.drew; have HM1 := Lib.hid (HMe.out.only (Only.refl [] we).drew (by simp)); have HNN1 := Lib.hid (HNe.out.only (Only.refl [] we).drew (by simp))
          generalize World.drew we = wd at *
          clear HOe HMe HNe HKd HKe
          obtain ⟨I, hI, -, -, -⟩ := store_facts d HD32.out
          have HIV := Lib.hid hI
          clear hI
          have HCA : Hid (∀ x : World, Only [] wd x → Calls Tryd.prog 23 #[.agg #[.int .u64 (s : Nat), .int .u32 (p : Nat), .slice a n cap]] x fun e w' => e = .returned (.agg #[.int .u64 (s : Nat), .int .u32 (p : Nat), .slice a n cap]) ∧ Only [] x w') := Lib.hid (fun x ho => by
            have how := HOd.out.then ho
            have h := modelof_c x s p a n cap
            exact h)
          have HCB : Hid (∀ x : World, Only [] wd x → Calls Tryd.prog 21 #[.agg #[.int .u64 (s : Nat), .int .u32 (p : Nat), .slice a n cap]] x fun e w' => e = .returned (.agg I) ∧ Only [] x w') := Lib.hid (fun x ho => by
            have how := HOd.out.then ho
            have h := rid_c x s p _ ds (HV.out.only how (by simp)) HS.out HP.out (by rw [HN1.out]; omega)
            rw [show Sha.sum (idB s p ds) = idD s p ds from rfl, HC1.out.2, HIV.out] at h
            exact h)
          have HCC : Hid (∀ x : World, Only [] wd x → Calls Tryd.prog 23 #[.agg #[.int .u64 (s2 : Nat), .int .u32 (p2 : Nat), .slice b n2 cbp]] x fun e w' => e = .returned (.agg #[.int .u64 (s2 : Nat), .int .u32 (p2 : Nat), .slice b n2 cbp]) ∧ Only [] x w') := Lib.hid (fun x ho => by
            have how := HOd.out.then ho
            have h := modelof_c x s2 p2 b n2 cbp
            exact h)
          have HCD : Hid (∀ x : World, Only [] wd x → Calls Tryd.prog 21 #[.agg #[.int .u64 (s2 : Nat), .int .u32 (p2 : Nat), .slice b n2 cbp]] x fun e w' => e = .returned (.agg I) ∧ Only [] x w') := Lib.hid (fun x ho => by
            have how := HOd.out.then ho
            have h := rid_c x s2 p2 _ es (HU.out.only how (by simp)) HS2.out HP2.out (by rw [HN2.out]; omega)
            rw [show Sha.sum (idB s2 p2 es) = idD s2 p2 es from rfl, HC2.out.2, HIV.out] at h
            exact h)
          have hqI : ∀ W, (binOp .eql 25 (.agg I) (.agg I)).run Tryd.prog W = .ok (.bool true) W := fun W => by
            have h := eql_dv d d HD32.out HD32.out W
            rw [HIV.out, beq_self_eq_true] at h
            exact h
          have hgI : ∀ ox oy W, (eqGuard .eql 25 ox oy (.agg I) (.agg I)).run Tryd.prog W = .ok () W := fun ox oy W => by
            have h := guard_dv .eql d d ox oy W
            rw [HIV.out] at h
            exact h
          refine wpAnyM_take (i := 0) (oi := { dst := some 83, op := .load 35 (.tmp 4), type := 35, pos := "law.go:110", after := #[], guard := none }) rfl (by kernel_rfl) (by kernel_rfl) (by kernel_rfl) (YieldsOn.row (by rfl) 35 (.tmp 4) rfl q (by rfl) _ _ _ _ HM1.out (by simp) Tryd.underlying35 rfl (by kernel_rfl)) (by exact fun _ _ _ h => h) ?_
          try simp only [Act.put, List.setIfInBounds_toArray, List.set_cons_zero, List.set_cons_succ]
          refine wpAnyM_take (i := 3) (oi := { dst := some 86, op := .load 35 (.tmp 5), type := 35, pos := "law.go:110", after := #[], guard := none }) rfl (by kernel_rfl) (by kernel_rfl) (by kernel_rfl) (YieldsOn.row (by rfl) 35 (.tmp 5) rfl (q + 1) (by rfl) _ _ _ _ HNN1.out (by simp) Tryd.underlying35 rfl (by kernel_rfl)) (by exact fun _ _ _ h => h) ?_
          try simp only [Act.put, List.setIfInBounds_toArray, List.set_cons_zero, List.set_cons_succ]
          refine wpAnyM_take (i := 1) (oi := { dst := some 84, op := .call { callee := Callee.value (.func 23), args := #[.tmp 83], argTypes := #[35] }, type := 39, pos := "law.go:110", after := #[{ on := 0, ground := .data }], guard := none }) rfl (by kernel_rfl) (by kernel_rfl) (by kernel_rfl) (YieldsOn.call (by rfl) (by rfl) (by intro x; go_simp; first | done | rfl | exact ⟨rfl, rfl⟩) (fun x => HCA.out x.at' x.only)) (by exact fun _ _ _ h => h) ?_
          try simp only [Act.put, List.setIfInBounds_toArray, List.set_cons_zero, List.set_cons_succ]
          refine wpAnyM_take (i := 2) (oi := { dst := some 85, op := .call { callee := Callee.value (.func 21), args := #[.tmp 84], argTypes := #[39] }, type := 25, pos := "law.go:110", after := #[{ on := 1, ground := .data }, { on := 1, ground := .chain }], guard := none }) rfl (by kernel_rfl) (by kernel_rfl) (by kernel_rfl) (YieldsOn.call (by rfl) (by rfl) (by intro x; go_simp; first | done | rfl | exact ⟨rfl, rfl⟩) (fun x => HCB.out x.at' x.only)) (by exact fun _ _ _ h => h) ?_
          try simp only [Act.put, List.setIfInBounds_toArray, List.set_cons_zero, List.set_cons_succ]
          refine wpAnyM_take (i := 4) (oi := { dst := some 87, op := .call { callee := Callee.value (.func 23), args := #[.tmp 86], argTypes := #[35] }, type := 39, pos := "law.go:110", after := #[{ on := 3, ground := .data }, { on := 2, ground := .chain }], guard := none }) rfl (by kernel_rfl) (by kernel_rfl) (by kernel_rfl) (YieldsOn.call (by rfl) (by rfl) (by intro x; go_simp; first | done | rfl | exact ⟨rfl, rfl⟩) (fun x => HCC.out x.at' x.only)) (by exact fun _ _ _ h => h) ?_
          try simp only [Act.put, List.setIfInBounds_toArray, List.set_cons_zero, List.set_cons_succ]
          refine wpAnyM_take (i := 5) (oi := { dst := some 88, op := .call { callee := Callee.value (.func 21), args := #[.tmp 87], argTypes := #[39] }, type := 25, pos := "law.go:110", after := #[{ on := 4, ground := .data }, { on := 4, ground := .chain }], guard := none }) rfl (by kernel_rfl) (by kernel_rfl) (by kernel_rfl) (YieldsOn.call (by rfl) (by rfl) (by intro x; go_simp; first | done | rfl | exact ⟨rfl, rfl⟩) (fun x => HCD.out x.at' x.only)) (by exact fun _ _ _ h => h) ?_
          try simp only [Act.put, List.setIfInBounds_toArray, List.set_cons_zero, List.set_cons_succ]
          refine wpAnyM_take (i := 6) (oi := { dst := some 89, op := .binOp BinOp.eql 25 (.tmp 85) (.tmp 88) 25, type := 4, pos := "law.go:110", after := #[{ on := 2, ground := .data }, { on := 5, ground := .data }], guard := none }) rfl (by kernel_rfl) (by kernel_rfl) (by kernel_rfl) (YieldsOn.value (by rfl) (by rfl) (by intro x; first | (go_simp; first | done | rfl) | (unfold execOp; simp only [Sem.run_bind]; go_simp; first | done | rfl))) (by exact fun _ _ _ h => h) ?_
          try simp only [Act.put, List.setIfInBounds_toArray, List.set_cons_zero, List.set_cons_succ]
          refine wpAnyM_take (i := 7) (oi := { dst := some 8, op := .assign (.tmp 89), type := 4, pos := "law.go:110", after := #[{ on := 6, ground := .data }, { on := 5, ground := .chain }, { on := 0, ground := .phase }, { on := 1, ground := .phase }, { on := 2, ground := .phase }, { on := 3, ground := .phase }, { on := 4, ground := .phase }, { on := 5, ground := .phase }, { on := 6, ground := .phase }], guard := none }) rfl (by kernel_rfl) (by kernel_rfl) (by kernel_rfl) (YieldsOn.pure (by rfl) (by intro x; first | (go_simp; first | done | rfl) | (unfold execOp; simp only [Sem.run_bind]; go_simp; first | done | rfl))) (by exact fun _ _ _ h => h) ?_
          try simp only [Act.put, List.setIfInBounds_toArray, List.set_cons_zero, List.set_cons_succ]
          refine wpAnyM_done (by kernel_rfl) (fun x9 hx9 => ?_) _
          go_wp2_with fail
          go_ret
          exact ⟨rfl, (HOd.out.then hx9).below (by simp) (Nat.le_refl _)⟩
      · have hcI : ¬ ((C2 : Int) = 0) := by omega
        go_wp2_with fail
        go_ret
        exact ⟨rfl, HO4.out.below (by simp) (Nat.le_refl _)⟩
    · have hcI : ¬ ((C1 : Int) = 0) := by omega
      go_wp2_with fail
      go_ret
      exact ⟨rfl, HO3.out.below (by simp) (Nat.le_refl _)⟩
end Go.Proofs.YtpgcfpfmicghnaaDoor.mrk
