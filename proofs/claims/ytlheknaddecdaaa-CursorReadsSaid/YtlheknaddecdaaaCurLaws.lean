/-
  CursorStays, CursorOwn, walked.
-/
import Derived.Test.YtlheknaddecdaaaCurAwake
set_option linter.unusedVariables false
namespace Go.Proofs.Ytlheknaddecdaaa.cur
open Go Go.RowKit Go.Lm

theorem WR.only' {S : List Nat} {w w' : World} {B r : Nat} {l : List UInt8} (h : WR w B r l) (ho : Only S w w') (hS : ∀ s ∈ S, s < B) : WR w' B r l := by
  obtain ⟨h1, v, h2, h3⟩ := h
  exact ⟨h1, v, ho.heap h2 (fun hm => by have := hS r hm; omega), h3.only ho fun c hc hm => by
    have := (h3.lt hc).1
    have := hS c hm
    omega⟩
theorem RD.only' {S : List Nat} {w w' : World} {B C r : Nat} {e : Int} {l : List UInt8} (h : RD w B C r e l) (ho : Only S w w') (hs : C ≤ w.heap.size) (hS : ∀ s ∈ S, s < B ∨ C ≤ s) : RD w' B C r e l :=
  h.kept fun k h1 h2 => ho.block k (by omega) (fun hm => by have := hS k hm; omega)
theorem RD.lt {w : World} {B C r : Nat} {e : Int} {l : List UInt8} (h : RD w B C r e l) : r < w.heap.size := by
  obtain ⟨_, _, v, h, _⟩ := h
  exact lt_of_block h

set_option maxHeartbeats 1000000 in
theorem stays_c (w : World) (v : Value) (l : List UInt8) (hv : BS w v l) (n m : Int) : Calls Try.prog 6 #[v, .int .i64 n, .int .i64 m] w fun e w' => e = .returned (.bool true) ∧ Below w.heap.size w w' := by
  obtain ⟨a, cap, rfl, h1, h2, _⟩ := id hv
  have HV := Lib.hid hv; clear hv
  unfold maxLen at h2
  by_cases hbig : 500 < l.length
  · go_enter Try.func6, Try.ntmps6
    go_wp2_with fail
    refine (awake_c w).mono ?_
    rintro e w1 ⟨rfl, ho1⟩
    have HO1 := Lib.hid ho1; clear ho1
    go_wp2
    go_ret
    exact ⟨rfl, HO1.out.below (by simp) (Nat.le_refl _)⟩
  have e1 : Cur.rbytes l 0 ((l.length : Int) + 1) = (l, 10, []) := by
    have : decide (0 ≤ (l.length : Int) + 1) = true := by simp; omega
    simp [Cur.rbytes, Cur.rtake, this]; omega
  have e2 : ∀ n, Cur.rnum l 10 n = (l, 10, 0) := by intro n; simp [Cur.rnum, Cur.rtake, Cur.le]
  have e3 : ∀ n, Cur.rbytes l 10 n = (l, 10, []) := by intro n; simp [Cur.rbytes, Cur.rtake]
  have e4 : Cur.rend l 10 = 10 := by simp [Cur.rend]
  have E1 := Lib.hid e1; have E2 := Lib.hid e2; have E3 := Lib.hid e3; have E4 := Lib.hid e4
  clear e1 e2 e3 e4
  go_enter Try.func6, Try.ntmps6
  go_wp2_with fail
  refine (awake_c w).mono ?_
  rintro e w1 ⟨rfl, ho1⟩
  have HO1 := Lib.hid ho1; clear ho1
  go_wp2_with fail
  refine (newreader_c w1 _ l (HV.out.only HO1.out (by simp)) (by omega)).mono ?_
  rintro e w2 ⟨r, rfl, hr, ho2⟩
  have hB : w.heap.size ≤ r := by have := hr.1; have := HO1.out.size; omega
  have HO2 := Lib.hid (HO1.out.then ho2)
  have HR := Lib.hid hr
  clear hr ho2
  generalize w1.heap.size = B at HR
  generalize w2.heap.size = C at HR
  go_wp2_with fail
  refine (bytes_c w2 B C r 0 _ l HR.out).mono ?_
  rintro e w3 ⟨v3, rfl, hr, hb, ho3⟩
  rw [E1.out] at hr hb
  have HR3 := Lib.hid hr
  have HO3 := Lib.hid (only_own HO2.out ho3 hB)
  obtain ⟨a3, cap3, rfl, _⟩ := hb.1
  clear hr hb ho3 HO2 HR HO1
  go_wp2_with fail
  refine (number_c w3 B C r 10 n l HR3.out).mono ?_
  rintro e w4 ⟨rfl, hr, ho4⟩
  rw [E2.out] at hr ⊢
  have HR4 := Lib.hid hr
  have HO4 := Lib.hid (only_own HO3.out ho4 hB)
  clear hr ho4 HO3 HR3
  go_wp2_with fail
  refine (bytes_c w4 B C r 10 m l HR4.out).mono ?_
  rintro e w5 ⟨v5, rfl, hr, hb, ho5⟩
  rw [E3.out] at hr hb
  have HR5 := Lib.hid hr
  have HO5 := Lib.hid (only_own HO4.out ho5 hB)
  obtain ⟨a5, cap5, rfl, _⟩ := hb.1
  clear hr hb ho5 HO4 HR4
  go_wp2_with fail
  refine (wnumber_nil 1 1 w5).mono ?_
  rintro e w' ⟨rfl, rfl⟩
  go_wp2_with fail
  refine (wbytes_nil _ w5).mono ?_
  rintro e w' ⟨rfl, rfl⟩
  go_wp2_with fail
  refine (err_c w5 B C r 10 l HR5.out).mono ?_
  rintro e w' ⟨rfl, rfl⟩
  go_wp2_with fail
  refine (end_c w5 B C r 10 l HR5.out).mono ?_
  rintro e w' ⟨rfl, rfl⟩
  rw [E4.out]
  go_wp2_with fail
  refine (left_c w5 B C r 10 l HR5.out).mono ?_
  rintro e w' ⟨rfl, rfl⟩
  go_wp2_with fail
  refine (number_nil n w5).mono ?_
  rintro e w' ⟨rfl, rfl⟩
  go_wp2_with fail
  refine (bytes_nil m w5).mono ?_
  rintro e w' ⟨rfl, rfl⟩
  go_wp2_with fail
  refine (left_nil w5).mono ?_
  rintro e w' ⟨rfl, rfl⟩
  go_wp2_with fail
  refine (err_nil w5).mono ?_
  rintro e w' ⟨rfl, rfl⟩
  go_wp2_with fail
  refine (end_nil w5).mono ?_
  rintro e w' ⟨rfl, rfl⟩
  go_wp2_with fail
  refine (out_nil w5).mono ?_
  rintro e w' ⟨rfl, rfl⟩
  go_wp2
  go_ret
  exact ⟨by simp, HO5.out.below (by simp) (Nat.le_refl _)⟩

set_option maxHeartbeats 1000000 in
theorem own_c (w : World) (v : Value) (l : List UInt8) (hv : BS w v l) (x : Int) (hx0 : 0 ≤ x) (hx1 : x ≤ 255) : Calls Try.prog 7 #[v, .int .u8 x] w fun e w' => e = .returned (.bool true) ∧ Below w.heap.size w w' := by
  obtain ⟨a, cap, rfl, h1, h2, _⟩ := id hv
  have HV := Lib.hid hv; clear hv
  unfold maxLen at h2
  by_cases h0 : l.length = 0
  · rw [h0]
    go_enter Try.func7, Try.ntmps7
    go_wp2_with fail
    refine (awake_c w).mono ?_
    rintro e w1 ⟨rfl, ho1⟩
    have HO1 := Lib.hid ho1; clear ho1
    go_wp2
    go_ret
    exact ⟨rfl, HO1.out.below (by simp) (Nat.le_refl _)⟩
  have hz : ((l.length : Int) == 0) = false := by rw [beq_eq_false_iff_ne]; omega
  by_cases hbig : 500 < l.length
  · go_enter Try.func7, Try.ntmps7
    go_wp2_with fail
    refine (awake_c w).mono ?_
    rintro e w1 ⟨rfl, ho1⟩
    have HO1 := Lib.hid ho1; clear ho1
    go_wp2
    go_ret
    exact ⟨rfl, HO1.out.below (by simp) (Nat.le_refl _)⟩
  have e1 : Cur.rbytes l 0 (l.length : Int) = ([], 0, l) := by simp [Cur.rbytes, Cur.rtake]
  have e4 : Cur.rend [] 0 = 0 := by simp [Cur.rend]
  have E1 := Lib.hid e1; have E4 := Lib.hid e4
  clear e1 e4
  obtain ⟨i0, hi, hz0, hz1, hz2⟩ := info_parts info_u8
  have HI := Lib.hid hi; have HZ0 := Lib.hid hz0; have HZ1 := Lib.hid hz1; have HZ2 := Lib.hid hz2
  clear hi hz0 hz1 hz2
  have hne : l ≠ [] := by rintro rfl; simp at h0
  have hpos : 0 < l.length := by omega
  have HNE := Lib.hid hne; clear hne h0
  go_enter Try.func7, Try.ntmps7
  go_wp2_with fail
  refine (awake_c w).mono ?_
  rintro e w1 ⟨rfl, ho1⟩
  have HO1 := Lib.hid ho1; clear ho1
  have hV1 := HV.out.only HO1.out (by simp)
  have hstr := run_string_of_bytes (P := Try.prog) Try.underlying22 Try.underlying5 Try.underlying9 hV1
  obtain ⟨v2, w2, hrun, hov, hg⟩ := run_append_vs (P := Try.prog) (ty := 22) Try.underlying22 HI.out HZ0.out HZ1.out HZ2.out rfl (OV.nil w1 w1.heap.size 5) (VS.of_bs hV1) (u8s_one l) (by simp [maxLen]; omega) (by simp; omega) (Nat.le_refl _)
  rw [List.nil_append] at hov
  have ho2 : Only [] w1 w2 := by simpa [Value.ownBlock] using Only.of_grown hg
  have HO2 := Lib.hid (HO1.out.then ho2)
  have hbo2 : BO w2 w1.heap.size w2.heap.size v2 l := BO.of_ov hov (Nat.le_refl _)
  have hs12 : w1.heap.size ≤ w2.heap.size := ho2.size
  have hs01 : w.heap.size ≤ w1.heap.size := HO1.out.size
  obtain ⟨a2, cap2, rfl, hc1, hc2, _, hc4⟩ := id hbo2.1
  obtain ⟨g, off, rfl, hcell2⟩ := hc4 0 (List.length_pos_iff.2 HNE.out)
  have hg2 := hbo2.2 g rfl HNE.out
  obtain ⟨hg2a, hg2b, cs2, hg2c⟩ := hg2
  have HG2 := Lib.hid hg2c
  have HBO2 := Lib.hid hbo2
  have HRUN := Lib.hid hrun
  have hcell2 : w2.cell? ⟨g, off, none⟩ = some (.int .u8 (l[0]'(List.length_pos_iff.2 HNE.out)).toNat) := hcell2
  obtain ⟨u0, hu0⟩ : ∃ u0 : Int, ((l[0]'(List.length_pos_iff.2 HNE.out)).toNat : Int) = u0 := ⟨_, rfl⟩
  rw [hu0] at hcell2
  clear hov hg ho2 hbo2 hc1 hc4 hg2c hrun hV1 hu0 HO1
  unfold maxLen at hc2
  generalize w1.heap.size = B at *
  have HC2 := Lib.hid hcell2; clear hcell2
  go_wp2_with (at_builtin; refine wpList_append_run rfl _ _ _ rfl rfl rfl HRUN.out ?_)
  refine (newreader_c w2 _ l HBO2.out.1 (by omega)).mono ?_
  rintro e w3 ⟨r, rfl, hr, ho3⟩
  have hr1 := hr.1
  have HO3 := Lib.hid (HO2.out.then ho3)
  have HR3 := Lib.hid hr
  have hs23 := ho3.size
  have HBO3 := Lib.hid (HBO2.out.kept fun k _ hk => ho3.block k hk (by simp))
  have HG3 := Lib.hid (ho3.heap HG2.out (by simp))
  have HC3 := Lib.hid (ho3.cell HC2.out (by simp))
  clear hr ho3 HO2 HRUN hstr HC2 HG2 HBO2 hcell2
  generalize w2.heap.size = B2 at *
  go_wp2_with fail
  refine (newwriter_c w3).mono ?_
  rintro e w4 ⟨rfl, hw4, ho4⟩
  have hs34 := ho4.size
  have HO4 := Lib.hid (HO3.out.then ho4)
  have HR4 := Lib.hid (HR3.out.only ho4 (Nat.le_refl _))
  have HW4 := Lib.hid hw4
  have HBO4 := Lib.hid (HBO3.out.only ho4 (by simp))
  have HG4 := Lib.hid (ho4.heap HG3.out (by simp))
  have HC4 := Lib.hid (ho4.cell HC3.out (by simp))
  have hrD : r < w3.heap.size := HR3.out.lt
  clear hw4 ho4 HO3 HR3 HBO3 HG3 HC3
  generalize w3.heap.size = D at *
  go_wp2_with fail
  refine (wbytes_c w4 D D [] l HW4.out _ HBO4.out.1 (by simp; omega)).mono ?_
  rintro e w5 ⟨rfl, hw5, hb5⟩
  rw [List.nil_append] at hw5
  have HO5 := Lib.hid (only_below HO4.out hb5 (by omega))
  have HR5 := Lib.hid (HR4.out.below hb5 (Nat.le_refl _))
  have HW5 := Lib.hid hw5
  have hg5 := (hb5.block g (by omega)).trans HG4.out
  have hc5 : w5.cell? ⟨g, off, none⟩ = some (.int .u8 u0) := by
    have := HC4.out
    unfold World.cell? at this ⊢
    rw [hb5.block g (by omega)]; exact this
  have hf5 : ∀ k, w5.frozen? ⟨g, k, none⟩ = false := fun k => by simp [World.frozen?, hg5]
  have hs45 := hb5.size
  have HON6 : Hid (∀ u, Only [g] w5 (w5.setCell ⟨g, off, none⟩ u)) := fun u => (Only.refl [g] w5).setCell (.inl (by simp)) _
  have HR6 : Hid (∀ u, RD (w5.setCell ⟨g, off, none⟩ u) B2 D r 0 l) := fun u => HR5.out.only' (HON6.out u) (by omega) (by simp; omega)
  have HW6 : Hid (∀ u, WR (w5.setCell ⟨g, off, none⟩ u) D D l) := fun u => HW5.out.only' (HON6.out u) (by simp; omega)
  have HO6 : Hid (∀ u, Only [] w (w5.setCell ⟨g, off, none⟩ u)) := fun u => only_own HO5.out (HON6.out u) (by omega)
  clear hb5 hw5 HO4 HR4 HW4 HBO4 HG4 HC4 hg5
  go_wp2_with fail
  refine (bytes_c _ B2 D r 0 _ l (HR6.out _)).mono ?_
  rintro e w7 ⟨v7, rfl, hr7, hb7, ho7⟩
  rw [E1.out] at hr7 hb7
  have hw7 := (HW6.out _).only' ho7 (by simp; omega)
  have ho7' := only_own (HO6.out _) ho7 (by omega)
  have HR7 := Lib.hid hr7
  have HW7 := Lib.hid hw7
  have HO7 := Lib.hid ho7'
  have hs7 : w5.heap.size ≤ w7.heap.size := by have := ho7.size; simpa using this
  clear hr7 hw7 ho7' HO6 HW6 HR6 HON6 HW5 HR5 HO5 ho7 hc5 hf5
  have HB7 := Lib.hid hb7
  obtain ⟨a7, cap7, rfl, hd1, hd2, _, hd4⟩ := id hb7.1
  obtain ⟨g7, off7, rfl, hcell7⟩ := hd4 0 (List.length_pos_iff.2 HNE.out)
  obtain ⟨hg7a, hg7b, cs7, hg7c⟩ := hb7.2 g7 rfl HNE.out
  have hcell7 : w7.cell? ⟨g7, off7, none⟩ = some (.int .u8 (l[0]'(List.length_pos_iff.2 HNE.out)).toNat) := hcell7
  obtain ⟨u7, hu7⟩ : ∃ u7 : Int, ((l[0]'(List.length_pos_iff.2 HNE.out)).toNat : Int) = u7 := ⟨_, rfl⟩
  rw [hu7] at hcell7
  have hne7 : g7 ≠ r := by
    obtain ⟨_, _, v, h3, h4⟩ := HR7.out
    obtain ⟨a', c', rfl, _⟩ := h4.1
    exact BS.not_block hb7.1 ⟨_, _, _, h3⟩ g7 rfl HNE.out
  have hstr7 := run_string_of_bytes (P := Try.prog) Try.underlying22 Try.underlying5 Try.underlying9 hb7.1
  have HG7 := Lib.hid hg7c
  have HC7 := Lib.hid hcell7
  clear hb7 hd1 hd4 hg7c hu7 hcell7
  unfold maxLen at hd2
  go_wp2_with fail
  refine (out_c w7 D D l HW7.out (by omega)).mono ?_
  rintro e w8 ⟨v8, rfl, hov8, ho8⟩
  have hstr8 := run_string_of_bytes (P := Try.prog) Try.underlying22 Try.underlying5 Try.underlying9 (BS.of_vs hov8.vs)
  have HO8 := Lib.hid (HO7.out.then ho8)
  have HR8 := Lib.hid (HR7.out.only' ho8 (by omega) (by simp))
  have HW8 := Lib.hid (HW7.out.only ho8)
  have hg8 := ho8.heap HG7.out (by simp)
  have hc8 := ho8.cell HC7.out (by simp)
  have hf8 : ∀ k, w8.frozen? ⟨g7, k, none⟩ = false := fun k => by simp [World.frozen?, hg8]
  have HON9 : Hid (∀ u, Only [g7] w8 (w8.setCell ⟨g7, off7, none⟩ u)) := fun u => (Only.refl [g7] w8).setCell (.inl (by simp)) _
  have HW9 : Hid (∀ u, WR (w8.setCell ⟨g7, off7, none⟩ u) D D l) := fun u => HW8.out.only' (HON9.out u) (by simp; omega)
  have HO9 : Hid (∀ u, Only [] w (w8.setCell ⟨g7, off7, none⟩ u)) := fun u => only_own HO8.out (HON9.out u) (by omega)
  have HR9 : Hid (∀ u, RD (w8.setCell ⟨g7, off7, none⟩ u) B2 D r 0 []) := fun u => by
    obtain ⟨h1, h2, v, h3, h4⟩ := HR8.out
    exact ⟨h1, h2, v, (HON9.out u).heap h3 (by simp; omega), h4.only (HON9.out u) (fun c _ hn => absurd rfl hn)⟩
  have hs8 := ho8.size
  clear hov8 ho8 HG7 HC7 hg8 HO7 HW7 HR7
  go_wp2_with fail
  refine (out_c _ D D l (HW9.out _) (by omega)).mono ?_
  rintro e w10 ⟨v10, rfl, hov10, ho10⟩
  have hstr10 := run_string_of_bytes (P := Try.prog) Try.underlying22 Try.underlying5 Try.underlying9 (BS.of_vs hov10.vs)
  have HO10 := Lib.hid ((HO9.out _).then ho10)
  have HR10 := Lib.hid ((HR9.out _).only' ho10 (by simp; omega) (by simp))
  clear hov10 ho10 HO9 HR9 HW9 HON9 hstr7 hstr8
  go_wp2_with fail
  refine (end_c w10 B2 D r 0 [] HR10.out).mono ?_
  rintro e w' ⟨rfl, rfl⟩
  rw [E4.out]
  go_wp2
  go_ret
  exact ⟨by simp, HO10.out.below (by simp) (Nat.le_refl _)⟩
end Go.Proofs.Ytlheknaddecdaaa.cur
