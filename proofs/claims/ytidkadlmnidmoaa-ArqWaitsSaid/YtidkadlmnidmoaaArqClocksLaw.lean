/-
  ArqClocks, walked.
-/
import Derived.Test.YtidkadlmnidmoaaArqRawLaw
import Derived.Test.YtidkadlmnidmoaaArqLates
import Derived.StillTailTactics
set_option linter.unusedVariables false
set_option linter.unusedSimpArgs false
namespace Go.Proofs.Ytidkadlmnidmoaa.arq
open Go Go.RowKit Go.Lm

theorem only6 (w : World) (b : Nat) (v0 v1 v2 v3 v4 v5 : Value) : Only [b] w ((((((w.setCell ⟨b, 0, none⟩ v0).setCell ⟨b, 1, none⟩ v1).setCell ⟨b, 2, none⟩ v2).setCell ⟨b, 3, none⟩ v3).setCell ⟨b, 4, none⟩ v4).setCell ⟨b, 5, none⟩ v5) :=
  ((((((Only.refl [b] w).setCell (.inl (by simp)) _).setCell (.inl (by simp)) _).setCell (.inl (by simp)) _).setCell (.inl (by simp)) _).setCell (.inl (by simp)) _).setCell (.inl (by simp)) _
def ul (l : List Nat) : List Value := l.map fun (n : Nat) => Value.int .u64 (n : Int)
theorem vs_ul {w : World} {a : Option Addr} {n cap : Nat} {l : List Nat} (h : VS w (.slice a n cap) (ul l)) (k : Nat) (hk : k < l.length) : ∃ b off, a = some ⟨b, off, none⟩ ∧ w.cell? ⟨b, off + k, none⟩ = some (.int .u64 ((l.getD k 0 : Nat) : Int)) := by
  obtain ⟨a', cap', he, _, _, _, hc⟩ := h
  simp only [Value.slice.injEq] at he
  obtain ⟨rfl, rfl, rfl⟩ := he
  obtain ⟨b, off, rfl, hcell⟩ := hc k (by simpa [ul] using hk)
  refine ⟨b, off, rfl, ?_⟩
  rw [hcell]
  simp [ul, List.getD_eq_getElem?_getD, hk]
section
open Go.ChangeShapes Go.WideShapes
variable {H : Type} {enc : TypeId × Value → H}
theorem u64s_opened {W : World} {v : Value} {d : DataW H} {ps : List MemPlace} {base : Nat} (hv : Value.okWide Try.prog W .any base 41 v)
    (h : DataW.Trod enc Try.prog W 0 (fun _ => true) true 41 v d ps) : ∃ L : List Nat, VS W v (ul L) ∧ ∀ x ∈ L, x < 18446744073709551616 := by
  obtain ⟨a, cap, zs, rfl, h1, h2, h3, h4, h5⟩ := ints_opened Try.underlying41 Try.underlying40 (by kernel_rfl) hv h
  refine ⟨zs.map Int.toNat, ⟨a, cap, by simp [ul], by simpa [ul] using h1, h2, h3, fun k hk => ?_⟩, fun x hx => ?_⟩
  · have hk' : k < zs.length := by simpa [ul] using hk
    obtain ⟨b, off, ha, hcell⟩ := h4 k hk'
    refine ⟨b, off, ha, ?_⟩
    rw [hcell]
    have := wf_u64 (h5 zs[k] (List.getElem_mem hk'))
    simp only [ul, List.getElem_map]
    congr 2
    omega
  · obtain ⟨z, hz, rfl⟩ := List.mem_map.1 hx
    have := wf_u64 (h5 z hz)
    omega
end

set_option maxRecDepth 100000 in
set_option maxHeartbeats 8000000 in
theorem clocks_c (w : World) (f l m : Nat) (hl : l < 18446744073709551616) (hm : m < 18446744073709551616) (v : Value) (L : List Nat) (hv : VS w v (ul L)) (hL : ∀ x ∈ L, x < 18446744073709551616) : Calls Try.prog 5 #[.int .u64 (f : Int), .int .u64 (l : Int), .int .u64 (m : Int), v] w fun e w' => e = .returned (.bool true) ∧ Below w.heap.size w w' := by
  have HV := Lib.hid hv; have HL := Lib.hid hL
  obtain ⟨a, cap, hve, h1, h2, -, -⟩ := hv
  obtain ⟨n, hn⟩ : ∃ n, L.length = n := ⟨_, rfl⟩
  rw [show (ul L).length = n by simp [ul, hn]] at hve h1
  subst hve
  unfold maxLen at h2
  have HN := Lib.hid hn
  have HK0 := Lib.hid (Arq.new_ok f l m hl hm)
  clear hn hL hl hm
  go_enter Try.func5, Try.ntmps5
  go_wp2_with fail
  refine (awake_c w).mono ?_
  rintro e w1 ⟨rfl, ho1⟩
  have HO1 := Lib.hid ho1
  clear ho1
  go_wp2_with fail
  refine (newclock_c w1 f l m).mono ?_
  rintro e w2 ⟨rfl, ho2⟩
  have HO2 := Lib.hid (HO1.out.then ho2)
  clear ho2 HO1
  have HR := Lib.hid (fun W => rnew_c W f l m)
  generalize Arq.newClock f l m = c0 at *
  obtain ⟨cl, cm, cw, cn, cf, ca⟩ := c0
  simp only [clkV] at HR ⊢
  go_upto_region 5 with fail
  have hA : CB (w2.alloc (.cells #[.int .u64 (cl : Int), .int .u64 (cm : Int), .int .u64 (cw : Int), .int .u64 (cn : Int), .int .u64 (cf : Int), .bool ca] 43 (0, 0))) w2.heap.size 43 ⟨cl, cm, cw, cn, cf, ca⟩ := CB.new w2 _ ⟨cl, cm, cw, cn, cf, ca⟩
  have HO3 : Hid (Only [] w (w2.alloc (.cells #[.int .u64 (cl : Int), .int .u64 (cm : Int), .int .u64 (cw : Int), .int .u64 (cn : Int), .int .u64 (cf : Int), .bool ca] 43 (0, 0)))) := Lib.hid (HO2.out.alloc _)
  generalize World.alloc w2 _ = w3 at *
  obtain ⟨C, hC⟩ : ∃ C, w2.heap.size = C := ⟨_, rfl⟩
  rw [hC] at hA ⊢
  have HCW : Hid (w.heap.size ≤ C) := Lib.hid (by have := HO2.out.size; omega)
  have HA := Lib.hid hA
  clear hA hC HO2
  go_wp2_with fail
  refine (HR.out w3).mono ?_
  rintro e w4 ⟨rfl, ho4⟩
  have HA4 := Lib.hid (HA.out.only ho4 (by simp))
  have HO4 := Lib.hid (HO3.out.then ho4)
  clear ho4 HO3 HA HR
  go_upto_region 6 with fail
  have hB : CB (w4.alloc (.cells #[.int .u64 (cl : Int), .int .u64 (cm : Int), .int .u64 (cw : Int), .int .u64 (cn : Int), .int .u64 (cf : Int), .bool ca] 45 (0, 0))) w4.heap.size 45 ⟨cl, cm, cw, cn, cf, ca⟩ := CB.new w4 _ ⟨cl, cm, cw, cn, cf, ca⟩
  have HO5 : Hid (Only [] w (w4.alloc (.cells #[.int .u64 (cl : Int), .int .u64 (cm : Int), .int .u64 (cw : Int), .int .u64 (cn : Int), .int .u64 (cf : Int), .bool ca] 45 (0, 0)))) := Lib.hid (HO4.out.alloc _)
  have HA5 : Hid (CB (w4.alloc (.cells #[.int .u64 (cl : Int), .int .u64 (cm : Int), .int .u64 (cw : Int), .int .u64 (cn : Int), .int .u64 (cf : Int), .bool ca] 45 (0, 0))) C 43 ⟨cl, cm, cw, cn, cf, ca⟩) := Lib.hid (HA4.out.only ((Only.refl [] w4).alloc _) (by simp))
  generalize World.alloc w4 _ = w5 at *
  obtain ⟨D, hD⟩ : ∃ D, w4.heap.size = D := ⟨_, rfl⟩
  rw [hD] at hB ⊢
  have HCD : Hid (C < D) := Lib.hid (by have := lt_of_block HA4.out; omega)
  have HB := Lib.hid hB
  clear hB hD HO4 HA4
  go_wp2_with fail
  --@1
  go_loopw [12] (fun i wr => ∃ (k : Nat) (c : Arq.Clk), k ≤ n ∧ k ≤ 60 ∧ i = .int .i64 (k : Nat) ∧ CB wr C 43 c ∧ CB wr D 45 c ∧ Arq.Ok c ∧ Only [] w wr) (fun i _ => n - (intOf i).toNat)
  case atStart => exact ⟨0, ⟨cl, cm, cw, cn, cf, ca⟩, Nat.zero_le _, by omega, rfl, HA5.out, HB.out, HK0.out, HO5.out⟩
  case round =>
    clear HA5 HB HK0 HO5
    obtain ⟨k, c, hk, hk60, rfl, hA, hB, hok, ho⟩ := hrel
    have HA := Lib.hid hA; have HB := Lib.hid hB; have HOK := Lib.hid hok; have HO := Lib.hid ho
    obtain ⟨wq, hwq⟩ : ∃ wq, wq = wr := ⟨_, rfl⟩
    subst hwq
    have hCD : ¬ C = D := by have := HCD.out; omega
    have hDC : ¬ D = C := by omega
    by_cases hlt : k < n ∧ k < 60
    · have hltI : (k : Int) < (n : Int) := by omega
      have hltJ : (k : Int) < 60 := by omega
      have hkL : k < L.length := by rw [HN.out]; exact hlt.1
      obtain ⟨b, off, rfl, hs0⟩ := vs_ul HV.out k hkL
      obtain ⟨x, hx⟩ : ∃ x, L.getD k 0 = x := ⟨_, rfl⟩
      rw [hx] at hs0
      have hx64 : x < 18446744073709551616 := by
        rw [← hx, List.getD_eq_getElem?_getD, List.getElem?_eq_getElem hkL]
        exact HL.out _ (List.getElem_mem hkL)
      have HX64 := Lib.hid hx64; have HS0 := Lib.hid hs0
      have hs := HO.out.cell hs0 (by simp)
      clear hkL hx hA hB hok ho hx64 hs0
      --@2
      go_upto_if 39 with fail
      go_cut [] (fun wx => ∃ d, CB wx C 43 d ∧ CB wx D 45 d ∧ Arq.Ok d ∧ Only [] w wx)
      case first =>
        by_cases h5 : x % 5 = 0
        · have h5I : (x : Int) % 5 = 0 := by omega
          have h5J : (x : Int).tmod 5 = 0 := by rw [Int.tmod_eq_emod_of_nonneg (by omega)]; exact h5I
          have H1 := Lib.hid (fun W => late_c W c HOK.out.wait)
          have H2 := Lib.hid (fun W => rlate_c W c HOK.out.wait)
          have HK := Lib.hid (Arq.late_ok c HOK.out)
          clear h5
          generalize Arq.late c = d at *
          obtain ⟨cl, cm, cw, cn, cf, ca⟩ := c
          obtain ⟨dl, dm, dw, dn, df, da⟩ := d
          simp only [clkV] at H1 H2
          obtain ⟨e0, e1, e2, e3, e4, e5, ef⟩ := CB.cells HA.out
          go_wp2_with fail
          refine (H1.out wq).mono ?_
          rintro e w6 ⟨rfl, ho6⟩
          clear e0 e1 e2 e3 e4 e5 ef
          have hA6 := HA.out.only ho6 (by simp)
          have HB7 := Lib.hid ((HB.out.only ho6 (by simp)).only (only6 w6 C (.int .u64 (dl : Int)) (.int .u64 (dm : Int)) (.int .u64 (dw : Int)) (.int .u64 (dn : Int)) (.int .u64 (df : Int)) (.bool da)) (by simp; omega))
          have HO7 := Lib.hid (only_set6 (HO.out.then ho6) HCW.out (.int .u64 (dl : Int)) (.int .u64 (dm : Int)) (.int .u64 (dw : Int)) (.int .u64 (dn : Int)) (.int .u64 (df : Int)) (.bool da))
          obtain ⟨e0, e1, e2, e3, e4, e5, ef⟩ := CB.cells hA6
          have HA7 := Lib.hid (hA6.put ⟨dl, dm, dw, dn, df, da⟩)
          clear hA6 ho6
          go_upto_region 11 with fail
          --@3
          (try simp only [] at HA7)
          generalize World.setCell _ _ _ = w7 at *
          clear e0 e1 e2 e3 e4 e5 ef
          obtain ⟨e0, e1, e2, e3, e4, e5, ef⟩ := CB.cells HB7.out
          go_wp2_with fail
          refine (H2.out w7).mono ?_
          rintro e w8 ⟨rfl, ho8⟩
          clear e0 e1 e2 e3 e4 e5 ef
          have hB8 := HB7.out.only ho8 (by simp)
          have HA9 := Lib.hid ((HA7.out.only ho8 (by simp)).only (only6 w8 D (.int .u64 (dl : Int)) (.int .u64 (dm : Int)) (.int .u64 (dw : Int)) (.int .u64 (dn : Int)) (.int .u64 (df : Int)) (.bool da)) (by simp; omega))
          have HO9 := Lib.hid (only_set6 (HO7.out.then ho8) (show w.heap.size ≤ D by have := HCW.out; have := HCD.out; omega) (.int .u64 (dl : Int)) (.int .u64 (dm : Int)) (.int .u64 (dw : Int)) (.int .u64 (dn : Int)) (.int .u64 (df : Int)) (.bool da))
          obtain ⟨e0, e1, e2, e3, e4, e5, ef⟩ := CB.cells hB8
          have HB9 := Lib.hid (hB8.put ⟨dl, dm, dw, dn, df, da⟩)
          clear hB8 ho8
          go_wp2_with fail
          go_meet
          --@4
          exact ⟨⟨dl, dm, dw, dn, df, da⟩, HA9.out, HB9.out, HK.out, HO9.out⟩
        · have h5I : ((x : Int) % 5 == 0) = false := by rw [beq_eq_false_iff_ne]; omega
          have h5J : ((x : Int).tmod 5 == 0) = false := by rw [Int.tmod_eq_emod_of_nonneg (by omega)]; exact h5I
          have H1 := Lib.hid (fun W => came_c W c x HX64.out HOK.out.mean HOK.out.off)
          have H2 := Lib.hid (fun W => rcame_c W c x HX64.out HOK.out.mean HOK.out.off)
          have HK := Lib.hid (Arq.came_ok c x HOK.out HX64.out)
          clear h5
          generalize Arq.came c x = d at *
          obtain ⟨cl, cm, cw, cn, cf, ca⟩ := c
          obtain ⟨dl, dm, dw, dn, df, da⟩ := d
          simp only [clkV] at H1 H2
          obtain ⟨e0, e1, e2, e3, e4, e5, ef⟩ := CB.cells HA.out
          go_upto_region 12 with fail
          --@5
          go_still_tail 5, (by kernel_rfl)
          change wpList _ _ _ _ _ wq.drew
          have HAd := Lib.hid (HA.out.only (Only.refl [] wq).drew (by simp))
          have HBd := Lib.hid (HB.out.only (Only.refl [] wq).drew (by simp))
          have HOd := Lib.hid HO.out.drew
          generalize wq.drew = wd at *
          clear e0 e1 e2 e3 e4 e5 ef hs
          --@6
          go_wp2_with fail
          refine (H1.out wd).mono ?_
          rintro e w6 ⟨rfl, ho6⟩
          have hA6 := HAd.out.only ho6 (by simp)
          have HB7 := Lib.hid ((HBd.out.only ho6 (by simp)).only (only6 w6 C (.int .u64 (dl : Int)) (.int .u64 (dm : Int)) (.int .u64 (dw : Int)) (.int .u64 (dn : Int)) (.int .u64 (df : Int)) (.bool da)) (by simp; omega))
          have HO7 := Lib.hid (only_set6 (HOd.out.then ho6) HCW.out (.int .u64 (dl : Int)) (.int .u64 (dm : Int)) (.int .u64 (dw : Int)) (.int .u64 (dn : Int)) (.int .u64 (df : Int)) (.bool da))
          obtain ⟨e0, e1, e2, e3, e4, e5, ef⟩ := CB.cells hA6
          have HA7 := Lib.hid (hA6.put ⟨dl, dm, dw, dn, df, da⟩)
          clear hA6 ho6
          go_upto_region 13 with fail
          --@7
          (try simp only [] at HA7)
          generalize World.setCell _ _ _ = w7 at *
          clear e0 e1 e2 e3 e4 e5 ef
          obtain ⟨e0, e1, e2, e3, e4, e5, ef⟩ := CB.cells HB7.out
          have hs := HO7.out.cell HS0.out (by simp)
          go_still_tail 5, (by kernel_rfl)
          change wpList _ _ _ _ _ w7.drew
          have HAe := Lib.hid (HA7.out.only (Only.refl [] w7).drew (by simp))
          have HBe := Lib.hid (HB7.out.only (Only.refl [] w7).drew (by simp))
          have HOe := Lib.hid HO7.out.drew
          generalize w7.drew = we at *
          clear e0 e1 e2 e3 e4 e5 ef hs
          go_wp2_with fail
          refine (H2.out we).mono ?_
          rintro e w8 ⟨rfl, ho8⟩
          have hB8 := HBe.out.only ho8 (by simp)
          have HA9 := Lib.hid ((HAe.out.only ho8 (by simp)).only (only6 w8 D (.int .u64 (dl : Int)) (.int .u64 (dm : Int)) (.int .u64 (dw : Int)) (.int .u64 (dn : Int)) (.int .u64 (df : Int)) (.bool da)) (by simp; omega))
          have HO9 := Lib.hid (only_set6 (HOe.out.then ho8) (show w.heap.size ≤ D by have := HCW.out; have := HCD.out; omega) (.int .u64 (dl : Int)) (.int .u64 (dm : Int)) (.int .u64 (dw : Int)) (.int .u64 (dn : Int)) (.int .u64 (df : Int)) (.bool da))
          obtain ⟨e0, e1, e2, e3, e4, e5, ef⟩ := CB.cells hB8
          have HB9 := Lib.hid (hB8.put ⟨dl, dm, dw, dn, df, da⟩)
          clear hB8 ho8
          go_wp2_with fail
          go_meet
          --@8
          exact ⟨⟨dl, dm, dw, dn, df, da⟩, HA9.out, HB9.out, HK.out, HO9.out⟩
      case rest =>
        obtain ⟨d, hA6, hB6, hok6, ho6⟩ := hcut
        have HK := Lib.hid hok6; have HO6 := Lib.hid ho6; have HA6 := Lib.hid hA6; have HB6 := Lib.hid hB6
        have HM := Lib.hid (fun W => model_c W d)
        obtain ⟨dl, dm, dw, dn, df, da⟩ := d
        simp only [clkV] at HM
        obtain ⟨e0, e1, e2, e3, e4, e5, ef⟩ := CB.cells hA6
        obtain ⟨f0, f1, f2, f3, f4, f5, ff⟩ := CB.cells hB6
        have x0 := fun x : Later [] wc => Later.cell e0 (by simp) x
        have x1 := fun x : Later [] wc => Later.cell e1 (by simp) x
        have x2 := fun x : Later [] wc => Later.cell e2 (by simp) x
        have x3 := fun x : Later [] wc => Later.cell e3 (by simp) x
        have x4 := fun x : Later [] wc => Later.cell e4 (by simp) x
        have x5 := fun x : Later [] wc => Later.cell e5 (by simp) x
        have y0 := fun x : Later [] wc => Later.cell f0 (by simp) x
        have y1 := fun x : Later [] wc => Later.cell f1 (by simp) x
        have y2 := fun x : Later [] wc => Later.cell f2 (by simp) x
        have y3 := fun x : Later [] wc => Later.cell f3 (by simp) x
        have y4 := fun x : Later [] wc => Later.cell f4 (by simp) x
        have y5 := fun x : Later [] wc => Later.cell f5 (by simp) x
        clear e0 e1 e2 e3 e4 e5 ef f0 f1 f2 f3 f4 f5 ff hA6 hB6 hok6 ho6 hs HA HB HOK
        go_upto_region 14 with fail
        refine wp_region_later [] (by kernel_rfl) (by kernel_rfl) ?_
        repeat (go_big_quiet_step (((go_at_call 22; with_reducible exact Calls.later_nil (HM.out _)))))
        --@9
        refine wpQuiet_nil ?_
        rintro _ ⟨x9, rfl⟩
        have HX9 := Lib.hid x9.only
        clear x0 x1 x2 x3 x4 x5 y0 y1 y2 y3 y4 y5
        generalize x9.at' = w9 at *
        have HO9 := Lib.hid (HO6.out.then HX9.out)
        have HA9 := Lib.hid (HA6.out.only HX9.out (by simp))
        have HB9 := Lib.hid (HB6.out.only HX9.out (by simp))
        go_wp2
        go_roundw
        --@10
        case rel => exact ⟨k + 1, ⟨dl, dm, dw, dn, df, da⟩, by omega, by omega, by go_num, HA9.out, HB9.out, HK.out, HO9.out⟩
        case measure => simp [intOf]; omega
    · have HM := Lib.hid (fun W => model_c W c)
      obtain ⟨dl, dm, dw, dn, df, da⟩ := c
      simp only [clkV] at HM
      obtain ⟨e0, e1, e2, e3, e4, e5, ef⟩ := CB.cells hA
      obtain ⟨f0, f1, f2, f3, f4, f5, ff⟩ := CB.cells hB
      have x0 := fun x : Later [] wq => Later.cell e0 (by simp) x
      have x1 := fun x : Later [] wq => Later.cell e1 (by simp) x
      have x2 := fun x : Later [] wq => Later.cell e2 (by simp) x
      have x3 := fun x : Later [] wq => Later.cell e3 (by simp) x
      have x4 := fun x : Later [] wq => Later.cell e4 (by simp) x
      have x5 := fun x : Later [] wq => Later.cell e5 (by simp) x
      have y0 := fun x : Later [] wq => Later.cell f0 (by simp) x
      have y1 := fun x : Later [] wq => Later.cell f1 (by simp) x
      have y2 := fun x : Later [] wq => Later.cell f2 (by simp) x
      have y3 := fun x : Later [] wq => Later.cell f3 (by simp) x
      have y4 := fun x : Later [] wq => Later.cell f4 (by simp) x
      have y5 := fun x : Later [] wq => Later.cell f5 (by simp) x
      have htest : (decide ((k : Int) < (n : Int)) && decide ((k : Int) < 60)) = false := by
        rw [Bool.and_eq_false_iff, decide_eq_false_iff_not, decide_eq_false_iff_not]
        omega
      clear e0 e1 e2 e3 e4 e5 ef f0 f1 f2 f3 f4 f5 ff hA hB hok ho HA HB HOK
      rcases (show ((k : Int) < (n : Int) ∧ ¬ ((k : Int) < 60)) ∨ (¬ ((k : Int) < (n : Int)) ∧ (k : Int) ≤ 60) by omega) with ⟨hkn, hk2⟩ | ⟨hkn, hk2⟩
      all_goals
        go_wp2_with fail
        --@11
        refine wp_region_later [] (by kernel_rfl) (by kernel_rfl) ?_
        repeat (go_big_quiet_step (((go_at_call 22; with_reducible exact Calls.later_nil (HM.out _)))))
        refine wpQuiet_nil ?_
        rintro _ ⟨x9, rfl⟩
        have HX9 := Lib.hid x9.only
        clear x0 x1 x2 x3 x4 x5 y0 y1 y2 y3 y4 y5
        generalize x9.at' = w9 at *
        have HO9 := Lib.hid (HO.out.then HX9.out)
        go_wp2
        go_ret
        exact ⟨rfl, HO9.out.below (by simp) (Nat.le_refl _)⟩
end Go.Proofs.Ytidkadlmnidmoaa.arq
