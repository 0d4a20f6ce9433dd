/-
  CursorReads, walked.
-/
import Derived.Test.YtlheknaddecdaaaCurRef
import Derived.Outline
import Derived.OwnWalk
import Derived.Deep.RegionHeld3
import Derived.Test.YtlheknaddecdaaaCurWrites
import Derived.Test.YtlheknaddecdaaaCurWrites
import Derived.Test.YtlheknaddecdaaaCurWrites
import Derived.Test.YtlheknaddecdaaaCurWrites
set_option linter.unusedVariables false
namespace Go.Proofs.Ytlheknaddecdaaa.cur
open Go Go.RowKit Go.Lm

set_option maxRecDepth 100000 in
set_option maxHeartbeats 4000000 in
theorem reads_c (w : World) (v : Value) (l0 : List UInt8) (hv0 : BS w v l0) (v1 : Value) (ts : List ActL) (hv : ACTS w v1 ts) : Calls Try.prog 3 #[v, v1] w fun e w' => e = .returned (.bool true) ∧ Below w.heap.size w w' := by
  obtain ⟨a, cap, rfl, h1, h2, hat⟩ := hv
  have HAT := Lib.hid hat; clear hat
  obtain ⟨a0, cap0, rfl, h3, h4, _⟩ := id hv0
  have HV := Lib.hid hv0; clear hv0
  unfold maxLen at h2 h4
  by_cases hbig : 2000 < l0.length
  · go_enter Try.func3, Try.ntmps3
    go_wp2_with fail
    refine (awake_c w).mono ?_
    rintro e w1 ⟨rfl, ho1⟩
    have HO1 := Lib.hid ho1; clear ho1
    go_wp2
    go_ret
    exact ⟨rfl, HO1.out.below (by simp) (Nat.le_refl _)⟩
  go_enter Try.func3, Try.ntmps3
  go_wp2_with fail
  refine (awake_c w).mono ?_
  rintro e w1 ⟨rfl, ho1⟩
  have HO1 := Lib.hid ho1
  have HV1 := Lib.hid (HV.out.only ho1 (by simp))
  clear ho1
  go_wp2_with fail
  refine (newreader_c w1 _ l0 HV1.out (by omega)).mono ?_
  rintro e w2 ⟨r, rfl, hr, ho2⟩
  have hrC : r < w2.heap.size := hr.2.1
  have hB : w.heap.size ≤ r := by have := hr.1; have := HO1.out.size; omega
  have HO2 := Lib.hid (HO1.out.then ho2)
  have HR := Lib.hid hr
  have hstr := run_string_of_bytes (P := Try.prog) Try.underlying22 Try.underlying5 Try.underlying9 (HV1.out.only ho2 (by simp))
  clear hr ho2
  generalize w1.heap.size = B at HR
  go_wp2_with fail
  have hq : (w2.alloc (.cells #[.string ⟨l0.toArray⟩, .int .i64 0] 29 (0, 0))).heap[w2.heap.size]? = some (.cells #[.string ⟨l0.toArray⟩, .int .i64 0] 29 (0, 0)) := heap_alloc_new w2 _
  have HQ := Lib.hid hq; clear hq hstr
  have HR1 := Lib.hid (HR.out.below ((Below.refl _ _).alloc (Nat.le_refl _) (.cells #[.string ⟨l0.toArray⟩, .int .i64 0] 29 (0, 0))) (Nat.le_refl _))
  obtain ⟨C, hC⟩ : ∃ C, w2.heap.size = C := ⟨_, rfl⟩
  have hCw : w.heap.size ≤ C := by have := HO2.out.size; omega
  rw [hC] at HR1 HQ hrC ⊢
  clear hC HR HV HV1 HO1
  go_loopw [8] (fun i wr => ∃ k : Nat, ∃ e s, k ≤ ts.length ∧ k ≤ 60 ∧ i = .int .i64 k ∧ s.size ≤ 2000 ∧ RD wr B C r e s.data.toList ∧ wr.heap[C]? = some (.cells #[.string s, .int .i64 e] 29 (0, 0)) ∧ Only [] w wr) (fun i _ => ts.length - (intOf i).toNat)
  case atStart => exact ⟨0, 0, ⟨l0.toArray⟩, Nat.zero_le _, Nat.zero_le _, rfl, by simp [ByteArray.size]; omega, HR1.out, HQ.out, HO2.out.alloc _⟩
  case round =>
    obtain ⟨k, e, s, hk, hk60, rfl, hs, hrd, hq, hor⟩ := hrel
    have HRD := Lib.hid hrd; have HOR := Lib.hid hor; have HQQ := Lib.hid hq
    clear hrd hor hq HR1 HO2 HQ
    by_cases hgo : k < ts.length ∧ k < 60
    · obtain ⟨hkl, hk6⟩ := hgo
      obtain ⟨b, off, rfl, hact0⟩ := HAT.out k hkl
      have hact := hact0.kept (fun j hj => HOR.out.block j hj (by simp))
      obtain ⟨c0, c1, c2, -, -, -, -⟩ := hact
      generalize ts[k] = t at *
      have HACT := Lib.hid hact0; clear hact0 c2
      cases htn : t.num with
      | true =>
        rw [htn] at c0
        clear htn
        obtain ⟨⟨L', E, X⟩, hT⟩ : ∃ T, Cur.rnum s.data.toList e t.n = T := ⟨_, rfl⟩
        have HT := Lib.hid hT
        have HLEN : Hid (L'.length ≤ 2000) := by
          have := Cur.rtake_left s.data.toList e t.n (decide (1 ≤ t.n) && decide (t.n ≤ 8))
          have h2 : L' = (Cur.rnum s.data.toList e t.n).1 := by rw [hT]
          rw [h2]
          have h3 := len_data s
          show (Cur.rtake s.data.toList e t.n _).1.length ≤ 2000
          omega
        clear hT
        go_wp2_with fail
        refine (number_c wr B C r e t.n _ HRD.out).mono ?_
        rintro x w3 ⟨rfl, hr3, ho3⟩
        rw [HT.out] at hr3 ⊢
        have HR3 := Lib.hid hr3
        have HO3 := Lib.hid (only_own HOR.out ho3 hB)
        have hw3C : C ≤ w3.heap.size := by have := lt_of_block HQQ.out; have := ho3.size; omega
        have hq3 := ho3.heap HQQ.out (by have := hrC; simp; omega)
        have HQ3 := Lib.hid hq3
        clear hr3 ho3 c0 c1
        obtain ⟨c0, c1, c2, -, -, -, -⟩ := HACT.out.kept (fun j hj => HO3.out.block j hj (by simp))
        have d0 := cell_of_row _ _ 0 _ _ _ hq3
        have d1 := cell_of_row _ _ 1 _ _ _ hq3
        simp only [List.getElem?_toArray, List.getElem?_cons_zero, List.getElem?_cons_succ] at d0 d1
        clear hq3 c0 c2
        go_wp2_with fail
        have n1 : C ≠ w3.heap.size := by have := World.block_lt_of_cell? w3 _ d0; simp at this; omega
        have n2 : b ≠ w3.heap.size := by have := World.block_lt_of_cell? w3 _ c1; simp at this; omega
        have n3 := World.new_ne w3 _ d0
        have n4 := World.new_ne w3 _ d1
        have n5 := World.new_ne w3 _ c1
        go_region_held3 (fun w' => w'.cell? ⟨C, 0, none⟩ = some (.string s) ∧ w'.cell? ⟨C, 1, none⟩ = some (.int .i64 e) ∧ w'.cell? ⟨b, off + k * 4 + 1, none⟩ = some (.int .i64 t.n)) (go_keep)
          (first | (go_at_call 11; refine (refnumber_c _ s e t.n (by omega)).mono ?_; rintro x w4 ⟨s', rfl, hs', ho4⟩; rw [HT.out] at hs' ⊢; unfold RV; have g0 := ho4.cell (p := ⟨C, 0, none⟩) (v := .string s) (by go_simp) (by simp); have g1 := ho4.cell (p := ⟨C, 1, none⟩) (v := .int .i64 e) (by go_simp) (by simp); have g2 := ho4.cell (p := ⟨b, off + k * 4 + 1, none⟩) (v := .int .i64 t.n) (by go_simp) (by simp); (first | (have kh := ho4.heap (k := w3.heap.size) (o := .cells #[.string ⟨#[]⟩, .int .i64 0] 29 (0, 0)) (heap_alloc_new w3 _) (by simp); have kc0 := cell_of_row _ _ 0 _ _ _ kh; have kc1 := cell_of_row _ _ 1 _ _ _ kh; have kf : ∀ i, w4.frozen? ⟨w3.heap.size, i, none⟩ = false := fun i => by simp [World.frozen?, kh]) | skip)))
        focus
          have hN := heap_alloc_new w4 (Obj.cells #[.string s', .int .i64 E] 29 (0, 0))
          have hO5 : Only [] w3 (w4.alloc (Obj.cells #[.string s', .int .i64 E] 29 (0, 0))) := ((Only.refl [] w3).drew.then ho4).alloc _
          generalize w4.alloc _ = W5 at hN hO5 ⊢
          clear ho4 g0 g1 g2
        rotate_left
        focus
          have hN : ((w4.setCell ⟨w3.heap.size, 0, none⟩ (.string s')).setCell ⟨w3.heap.size, 1, none⟩ (.int .i64 E)).heap[w3.heap.size]? = some (.cells #[.string s', .int .i64 E] 29 (0, 0)) := (Go.Lm.heap_setCell_same (k := 1) (Go.Lm.heap_setCell_same (k := 0) kh _) _).trans rfl
          have hO5 : Only [] w3 ((w4.setCell ⟨w3.heap.size, 0, none⟩ (.string s')).setCell ⟨w3.heap.size, 1, none⟩ (.int .i64 E)) := ((((Only.refl [] w3).alloc _).drew.then ho4).setCell (.inr (Nat.le_refl _)) _).setCell (.inr (Nat.le_refl _)) _
          generalize (World.setCell _ _ _) = W5 at hN hO5 ⊢
          clear ho4 g0 g1 g2 kh kc0 kc1 kf
        rotate_left
        all_goals
          clear n1 n2 n3 n4 n5 d0 d1 c1
          have hq5 := hO5.heap HQ3.out (by simp)
          have HR5 := Lib.hid (HR3.out.only hO5 (by simpa using hw3C))
          have HO5 := Lib.hid (HO3.out.then hO5)
          have k0 := cell_of_row _ _ 0 _ _ _ hN
          have k1 := cell_of_row _ _ 1 _ _ _ hN
          have d0 := cell_of_row _ _ 0 _ _ _ hq5
          have d1 := cell_of_row _ _ 1 _ _ _ hq5
          have hf5 : ∀ i, W5.frozen? ⟨C, i, none⟩ = false := fun i => by simp [World.frozen?, hq5]
          simp only [List.getElem?_toArray, List.getElem?_cons_zero, List.getElem?_cons_succ] at k0 k1 d0 d1
          have hq6 : ((W5.setCell ⟨C, 0, none⟩ (.string s')).setCell ⟨C, 1, none⟩ (.int .i64 E)).heap[C]? = some (.cells #[.string s', .int .i64 E] 29 (0, 0)) := (Go.Lm.heap_setCell_same (k := 1) (Go.Lm.heap_setCell_same (k := 0) hq5 _) _).trans rfl
          have hO6 : Only [C] W5 ((W5.setCell ⟨C, 0, none⟩ (.string s')).setCell ⟨C, 1, none⟩ (.int .i64 E)) := ((Only.refl [C] W5).setCell (.inl (by simp)) _).setCell (.inl (by simp)) _
          have hs2 : s'.size ≤ 2000 := by rw [← len_data, hs']; exact HLEN.out
          have HN := Lib.hid hN; have HQ6 := Lib.hid hq6; have HO6 := Lib.hid hO6; have HQ5 := Lib.hid hq5; have HS' := Lib.hid hs'
          clear hN hq6 hO6 hq5 hs' hO5
          skip
          go_wp2_with fail
          clear k0 k1 d0 d1 hf5
          have hR6 : RD ((W5.setCell ⟨C, 0, none⟩ (.string s')).setCell ⟨C, 1, none⟩ (.int .i64 E)) B C r E s'.data.toList := by
            rw [HS'.out]
            exact HR5.out.kept fun j h1 h2 => HO6.out.block j (by have := HR5.out.lt; have := lt_of_block HQ5.out; omega) (by simp; omega)
          have hO7 : Only [] w ((W5.setCell ⟨C, 0, none⟩ (.string s')).setCell ⟨C, 1, none⟩ (.int .i64 E)) := HO5.out.trans HO6.out (by simp) (by simp; omega)
          have hq6 := HQ6.out
          generalize (World.setCell (World.setCell _ _ _) _ _) = W6 at hR6 hO7 hq6 ⊢
          have HR6 := Lib.hid hR6; have HO7 := Lib.hid hO7
          have hsz6 : C < W6.heap.size := lt_of_block hq6
          have d0 := cell_of_row _ _ 0 _ _ _ hq6
          have d1 := cell_of_row _ _ 1 _ _ _ hq6
          simp only [List.getElem?_toArray, List.getElem?_cons_zero, List.getElem?_cons_succ] at d0 d1
          have HQ7 := Lib.hid hq6
          have l0 := fun x : Later [] W6 => Later.cell d0 (by simp) x
          have l1 := fun x : Later [] W6 => Later.cell d1 (by simp) x
          have HL6 : Hid (∀ x : Later [] W6, RD x.at' B C r E s'.data.toList) := fun x => HR6.out.only x.only (by omega)
          have hdl : s'.data.toList.length = s'.size := len_data s'
          clear hR6 hO7 hq6 d0 d1 HR5 HO5 HO6 HQ5 HN HQ6
          refine wp_region_later [] (by kernel_rfl) (by kernel_rfl) ?_
          repeat (go_big_quiet_step (first
            | (go_at_call 14; exact Calls.later_same (err_c _ B C r E _ (HL6.out _)))
            | (go_at_call 15; exact Calls.later_same (left_c _ B C r E _ (HL6.out _)))
            | (go_at_call 16; exact Calls.later_same (end_c _ B C r E _ (HL6.out _)))
            | (go_at_call 17; exact Calls.later_nil (refend_c _ s' E (by omega)))))
          refine wpQuiet_nil ?_
          rintro _ ⟨x, rfl⟩
          have hx := x.only
          have HX := Lib.hid hx; clear hx l0 l1 hdl
          generalize x.at' = w9 at HX ⊢
          go_wp2
          go_roundw
          case rel => exact ⟨k + 1, E, s', by omega, by omega, by go_num, hs2, HR6.out.only HX.out (by omega), HX.out.heap HQ7.out (by simp), HO7.out.then HX.out⟩
          case measure => simp [intOf]; omega
      | false =>
        rw [htn] at c0
        clear htn
        obtain ⟨⟨L', E, X⟩, hT⟩ : ∃ T, Cur.rbytes s.data.toList e t.n = T := ⟨_, rfl⟩
        have HT := Lib.hid hT
        have HLEN : Hid (L'.length ≤ 2000) := by
          have := Cur.rtake_left s.data.toList e t.n (decide (0 ≤ t.n))
          have h2 : L' = (Cur.rbytes s.data.toList e t.n).1 := by rw [hT]
          rw [h2]
          have h3 := len_data s
          show (Cur.rtake s.data.toList e t.n _).1.length ≤ 2000
          omega
        clear hT
        go_wp2_with fail
        refine (bytes_c wr B C r e t.n _ HRD.out).mono ?_
        rintro x w3 ⟨v3, rfl, hr3, hb3, ho3⟩
        rw [HT.out] at hr3 hb3
        have HB3 := Lib.hid hb3; clear hb3
        have HR3 := Lib.hid hr3
        have HO3 := Lib.hid (only_own HOR.out ho3 hB)
        have hw3C : C ≤ w3.heap.size := by have := lt_of_block HQQ.out; have := ho3.size; omega
        have hq3 := ho3.heap HQQ.out (by have := hrC; simp; omega)
        have HQ3 := Lib.hid hq3
        clear hr3 ho3 c0 c1
        obtain ⟨c0, c1, c2, -, -, -, -⟩ := HACT.out.kept (fun j hj => HO3.out.block j hj (by simp))
        have d0 := cell_of_row _ _ 0 _ _ _ hq3
        have d1 := cell_of_row _ _ 1 _ _ _ hq3
        simp only [List.getElem?_toArray, List.getElem?_cons_zero, List.getElem?_cons_succ] at d0 d1
        clear hq3 c0 c2
        go_wp2_with fail
        have n1 : C ≠ w3.heap.size := by have := World.block_lt_of_cell? w3 _ d0; simp at this; omega
        have n2 : b ≠ w3.heap.size := by have := World.block_lt_of_cell? w3 _ c1; simp at this; omega
        have n3 := World.new_ne w3 _ d0
        have n4 := World.new_ne w3 _ d1
        have n5 := World.new_ne w3 _ c1
        go_region_held3 (fun w' => w'.cell? ⟨C, 0, none⟩ = some (.string s) ∧ w'.cell? ⟨C, 1, none⟩ = some (.int .i64 e) ∧ w'.cell? ⟨b, off + k * 4 + 1, none⟩ = some (.int .i64 t.n)) (go_keep)
          (first | (go_at_call 13; refine (reftake_c _ s e t.n (by omega)).mono ?_; rintro x w4 ⟨s', o, rfl, hs', hoo, ho4⟩; rw [HT.out] at hs' hoo ⊢; unfold RV; have g0 := ho4.cell (p := ⟨C, 0, none⟩) (v := .string s) (by go_simp) (by simp); have g1 := ho4.cell (p := ⟨C, 1, none⟩) (v := .int .i64 e) (by go_simp) (by simp); have g2 := ho4.cell (p := ⟨b, off + k * 4 + 1, none⟩) (v := .int .i64 t.n) (by go_simp) (by simp); (first | (have kh := ho4.heap (k := w3.heap.size) (o := .cells #[.string ⟨#[]⟩, .int .i64 0] 29 (0, 0)) (heap_alloc_new w3 _) (by simp); have kc0 := cell_of_row _ _ 0 _ _ _ kh; have kc1 := cell_of_row _ _ 1 _ _ _ kh; have kf : ∀ i, w4.frozen? ⟨w3.heap.size, i, none⟩ = false := fun i => by simp [World.frozen?, kh]) | skip)))
        focus
          have hN := heap_alloc_new w4 (Obj.cells #[.string s', .int .i64 E] 29 (0, 0))
          have hO5 : Only [] w3 (w4.alloc (Obj.cells #[.string s', .int .i64 E] 29 (0, 0))) := ((Only.refl [] w3).drew.then ho4).alloc _
          generalize w4.alloc _ = W5 at hN hO5 ⊢
          clear ho4 g0 g1 g2
        rotate_left
        focus
          have hN : ((w4.setCell ⟨w3.heap.size, 0, none⟩ (.string s')).setCell ⟨w3.heap.size, 1, none⟩ (.int .i64 E)).heap[w3.heap.size]? = some (.cells #[.string s', .int .i64 E] 29 (0, 0)) := (Go.Lm.heap_setCell_same (k := 1) (Go.Lm.heap_setCell_same (k := 0) kh _) _).trans rfl
          have hO5 : Only [] w3 ((w4.setCell ⟨w3.heap.size, 0, none⟩ (.string s')).setCell ⟨w3.heap.size, 1, none⟩ (.int .i64 E)) := ((((Only.refl [] w3).alloc _).drew.then ho4).setCell (.inr (Nat.le_refl _)) _).setCell (.inr (Nat.le_refl _)) _
          generalize (World.setCell _ _ _) = W5 at hN hO5 ⊢
          clear ho4 g0 g1 g2 kh kc0 kc1 kf
        rotate_left
        all_goals
          clear n1 n2 n3 n4 n5 d0 d1 c1
          have hq5 := hO5.heap HQ3.out (by simp)
          have HR5 := Lib.hid (HR3.out.only hO5 (by simpa using hw3C))
          have HO5 := Lib.hid (HO3.out.then hO5); have HO35 := Lib.hid hO5
          have k0 := cell_of_row _ _ 0 _ _ _ hN
          have k1 := cell_of_row _ _ 1 _ _ _ hN
          have d0 := cell_of_row _ _ 0 _ _ _ hq5
          have d1 := cell_of_row _ _ 1 _ _ _ hq5
          have hf5 : ∀ i, W5.frozen? ⟨C, i, none⟩ = false := fun i => by simp [World.frozen?, hq5]
          simp only [List.getElem?_toArray, List.getElem?_cons_zero, List.getElem?_cons_succ] at k0 k1 d0 d1
          have hq6 : ((W5.setCell ⟨C, 0, none⟩ (.string s')).setCell ⟨C, 1, none⟩ (.int .i64 E)).heap[C]? = some (.cells #[.string s', .int .i64 E] 29 (0, 0)) := (Go.Lm.heap_setCell_same (k := 1) (Go.Lm.heap_setCell_same (k := 0) hq5 _) _).trans rfl
          have hO6 : Only [C] W5 ((W5.setCell ⟨C, 0, none⟩ (.string s')).setCell ⟨C, 1, none⟩ (.int .i64 E)) := ((Only.refl [C] W5).setCell (.inl (by simp)) _).setCell (.inl (by simp)) _
          have hs2 : s'.size ≤ 2000 := by rw [← len_data, hs']; exact HLEN.out
          have HN := Lib.hid hN; have HQ6 := Lib.hid hq6; have HO6 := Lib.hid hO6; have HQ5 := Lib.hid hq5; have HS' := Lib.hid hs'
          clear hN hq6 hO6 hq5 hs' hO5
          have hstr := run_string_of_bytes (P := Try.prog) Try.underlying22 Try.underlying5 Try.underlying9 ((HB3.out.1.only HO35.out (by simp)).only HO6.out (fun c hc hl => by have := HB3.out.2 c hc hl; simp; omega)); obtain rfl := ba_eq hoo
          go_wp2_with fail
          clear k0 k1 d0 d1 hf5
          have hR6 : RD ((W5.setCell ⟨C, 0, none⟩ (.string s')).setCell ⟨C, 1, none⟩ (.int .i64 E)) B C r E s'.data.toList := by
            rw [HS'.out]
            exact HR5.out.kept fun j h1 h2 => HO6.out.block j (by have := HR5.out.lt; have := lt_of_block HQ5.out; omega) (by simp; omega)
          have hO7 : Only [] w ((W5.setCell ⟨C, 0, none⟩ (.string s')).setCell ⟨C, 1, none⟩ (.int .i64 E)) := HO5.out.trans HO6.out (by simp) (by simp; omega)
          have hq6 := HQ6.out
          generalize (World.setCell (World.setCell _ _ _) _ _) = W6 at hR6 hO7 hq6 ⊢
          have HR6 := Lib.hid hR6; have HO7 := Lib.hid hO7
          have hsz6 : C < W6.heap.size := lt_of_block hq6
          have d0 := cell_of_row _ _ 0 _ _ _ hq6
          have d1 := cell_of_row _ _ 1 _ _ _ hq6
          simp only [List.getElem?_toArray, List.getElem?_cons_zero, List.getElem?_cons_succ] at d0 d1
          have HQ7 := Lib.hid hq6
          have l0 := fun x : Later [] W6 => Later.cell d0 (by simp) x
          have l1 := fun x : Later [] W6 => Later.cell d1 (by simp) x
          have HL6 : Hid (∀ x : Later [] W6, RD x.at' B C r E s'.data.toList) := fun x => HR6.out.only x.only (by omega)
          have hdl : s'.data.toList.length = s'.size := len_data s'
          clear hR6 hO7 hq6 d0 d1 HR5 HO5 HO6 HQ5 HN HQ6
          refine wp_region_later [] (by kernel_rfl) (by kernel_rfl) ?_
          repeat (go_big_quiet_step (first
            | (go_at_call 14; exact Calls.later_same (err_c _ B C r E _ (HL6.out _)))
            | (go_at_call 15; exact Calls.later_same (left_c _ B C r E _ (HL6.out _)))
            | (go_at_call 16; exact Calls.later_same (end_c _ B C r E _ (HL6.out _)))
            | (go_at_call 17; exact Calls.later_nil (refend_c _ s' E (by omega)))))
          refine wpQuiet_nil ?_
          rintro _ ⟨x, rfl⟩
          have hx := x.only
          have HX := Lib.hid hx; clear hx l0 l1 hdl
          generalize x.at' = w9 at HX ⊢
          go_wp2
          go_roundw
          case rel => exact ⟨k + 1, E, s', by omega, by omega, by go_num, hs2, HR6.out.only HX.out (by omega), HX.out.heap HQ7.out (by simp), HO7.out.then HX.out⟩
          case measure => simp [intOf]; omega
    · clear HAT
      have hdec : (ts.length ≤ k) ∨ (k < ts.length ∧ 60 ≤ k) := by omega
      rcases hdec with hd1 | ⟨hd1, hd2⟩
      all_goals
        clear hgo
        go_wp2
        go_ret
        exact ⟨rfl, HOR.out.below (by simp) (Nat.le_refl _)⟩
end Go.Proofs.Ytlheknaddecdaaa.cur
