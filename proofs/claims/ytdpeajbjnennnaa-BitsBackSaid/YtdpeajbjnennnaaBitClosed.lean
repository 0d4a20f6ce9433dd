/-
  THE WALK of Closed; the laws' awake.
-/
import Derived.Test.YtdpeajbjnennnaaBitWrite
import Derived.Test.YtdpeajbjnennnaaBitBack
import Derived.Lib.SlBytesConst
set_option linter.unusedVariables false
set_option linter.unusedSimpArgs false
namespace Go.Proofs.Ytdpeajbjnennnaa.bit
open Go Go.RowKit Go.Lm

theorem only_below {w a b : World} {D : Nat} (h : Only [] w a) (k : Below D a b) (hD : w.heap.size ≤ D) : Only [] w b :=
  ⟨k.os.trans h.os, k.tape.trans h.tape, k.output.trans h.output, Nat.le_trans h.size k.size, fun i hi hn => (k.block i (by omega)).trans (h.block i hi hn)⟩
theorem only_own {w a b : World} {r : Nat} (h : Only [] w a) (k : Only [r] a b) (hr : w.heap.size ≤ r) : Only [] w b := h.trans k (by simp) (by simp; omega)

set_option maxHeartbeats 1000000 in
theorem closed_c (w : World) (B r : Nat) (L : List Bool) (h : WB w B r L) (hl : L.length ≤ 10000000) : Calls Try.prog 28 #[.pointer (some ⟨r, 0, none⟩)] w fun e w' => ∃ v, e = .returned v ∧ OV w' w.heap.size 5 v ((Bt.bytesOf (L ++ [true])).map u8v) ∧ Only [] w w' := by
  obtain ⟨a, cap, hc0, hc1, hf, hov, hr, hne, hcap1, hcap2⟩ := h.cells
  have hbs := BS.of_vs hov.vs
  have hll := Bt.bytesOf_length L
  have HBS := Lib.hid hbs
  have HLL := Lib.hid hll
  have n1 := World.new_ne w _ hc0
  have n2 := World.new_ne w _ hc1
  unfold maxLen at hcap2
  clear hov hr hne h hbs hll
  go_enter Try.func28, Try.ntmps28
  go_wp2_with fail
  go_region_held3 (fun w' => w'.cell? ⟨r, 0, none⟩ = some (.slice a (Bt.bytesOf L).length cap) ∧ w'.cell? ⟨r, 1, none⟩ = some (.int .i64 (L.length : Int))) (go_keep)
    (first
      | (go_at_call 31; refine (clone_c _ _ _ (HBS.out.only (Only.drew (Only.refl [] w)) (by simp)) (by have := HLL.out; omega)).mono ?_; rintro e w4 ⟨v', rfl, hov, ho4⟩; obtain ⟨a', n', c', rfl⟩ := OV.isSlice hov; have g0 := ho4.cell (p := ⟨r, 0, none⟩) (v := .slice a (Bt.bytesOf L).length cap) (by go_simp) (by simp); have g1 := ho4.cell (p := ⟨r, 1, none⟩) (v := .int .i64 (L.length : Int)) (by go_simp) (by simp)))
  all_goals
    have ho : Only [] w w4 := (Only.drew (Only.refl [] w)).then ho4
    have hov' : OV w4 w.heap.size 5 (.slice a' n' c') ((Bt.bytesOf L).map u8v) := hov
    have hx : WB (w4.alloc (.cells #[.slice a' n' c', .int .i64 (L.length : Int)] 76 (0, 0))) w.heap.size w4.heap.size L := ⟨ho.size, _, heap_alloc_new _ _, hov'.only ((Only.refl [] w4).alloc _) (by simp)⟩
    have ho2 : Only [] w (w4.alloc (.cells #[.slice a' n' c', .int .i64 (L.length : Int)] 76 (0, 0))) := ho.alloc _
    have HX := Lib.hid hx; have HO := Lib.hid ho2
    clear ho ho4 hov hov' g0 g1 n1 n2 hx ho2 hc0 hc1 hf
    go_wp2_with fail
    refine (write_c _ _ _ L HX.out 1 1 (by decide) (by omega)).mono ?_
    rintro e w5 ⟨rfl, hw5, hb5⟩
    rw [if_pos (by decide)] at hw5
    have hw5' : WB w5 w.heap.size w4.heap.size (L ++ [true]) := hw5
    obtain ⟨a5, cap5, hc0, hc1, hf, hov5, -, -, -, -⟩ := hw5'.cells
    have HOV := Lib.hid hov5
    have HO5 := Lib.hid (only_below HO.out hb5 (Nat.le_refl _))
    clear hw5 hw5' hb5 hov5
    go_wp2
    go_ret
    exact ⟨_, rfl, HOV.out, HO5.out⟩

set_option maxHeartbeats 2000000 in
theorem awake_c (w : World) : Calls Try.prog 10 #[] w fun e w' => e = .returned (.bool true) ∧ Only [] w w' := by
  have htop3 : ∀ t, Top (Bt.bitsOf [13]) t → t = 3 := by
    intro t h
    refine h.inj ⟨by decide, by decide, fun j hj => ?_⟩
    by_cases h8 : j < 8
    · have : j = 4 ∨ j = 5 ∨ j = 6 ∨ j = 7 := by omega
      rcases this with rfl | rfl | rfl | rfl <;> decide
    · rw [List.getD_eq_getElem?_getD, List.getElem?_eq_none (by rw [Bt.bitsOf_length]; simp; omega)]; rfl
  have e1 : (last ((Bt.bitsOf [13]).take 3) 0 2).2.2 = 2 := by decide
  have e2 : Bt.bytesOf (Bt.low 5 3 ++ [true]) = [13] := by decide
  have e3 : fread [13] 0 3 = (5, 0, 3) := by decide
  have HT3 := Lib.hid htop3; have E1 := Lib.hid e1; have E2 := Lib.hid e2; have E3 := Lib.hid e3
  clear htop3 e1 e2 e3
  go_enter Try.func10, Try.ntmps10
  go_wp2_with fail
  refine (newback_yes _ _ [13] (BS.lit _ _ _ _ _ _ rfl rfl (by decide)) (by simp) (by decide) (by decide)).mono ?_
  rintro e w1 ⟨r, t, rfl, ht, hr, ho1⟩
  obtain rfl := HT3.out t ht
  have hB : w.heap.size ≤ r := by have := hr.1; simp at this; omega
  have HO1 : Hid (Only [] w w1) := ((Only.refl [] w).alloc _).then ho1
  have HR := Lib.hid hr
  clear ho1 hr ht
  generalize (World.alloc w _).heap.size = B at HR
  go_wp2_with fail
  refine (bread_c w1 B _ r 0 _ 2 _ HR.out (Nat.le_refl _) (by decide) (by decide) (by decide)).mono ?_
  rintro e w2 ⟨rfl, hr, ho2⟩
  rw [show Int.toNat ((3 : Nat) : Int) = 3 from rfl, E1.out]
  have hr : BW w2 B w1.heap.size r 1 [13] := hr
  have HO2 : Hid (Only [] w w2) := only_own HO1.out ho2 hB
  have HR2 := Lib.hid hr
  clear hr ho2 HR HO1
  go_wp2_with fail
  refine (bleft_c w2 B _ r 1 _ HR2.out).mono ?_
  rintro e w' ⟨rfl, rfl⟩
  go_wp2_with fail
  refine (newwriter_c w2).mono ?_
  rintro e w3 ⟨rfl, hw3, ho3⟩
  have HO3 : Hid (Only [] w w3) := HO2.out.then ho3
  have HW3 := Lib.hid hw3
  have hD : w.heap.size ≤ w2.heap.size := HO2.out.size
  clear ho3 hw3 HR2 HO2
  generalize w2.heap.size = D at HW3 hD ⊢
  go_wp2_with fail
  refine (write_c w3 D D [] HW3.out 5 3 (by decide) (by decide)).mono ?_
  rintro e w4 ⟨rfl, hw4, hb4⟩
  rw [if_pos (by decide), List.nil_append] at hw4
  have hw4 : WB w4 D D (Bt.low 5 3) := hw4
  have HO4 : Hid (Only [] w w4) := only_below HO3.out hb4 hD
  have HW4 := Lib.hid hw4
  clear hb4 hw4 HO3 HW3
  go_wp2_with fail
  refine (closed_c w4 D D _ HW4.out (by decide)).mono ?_
  rintro e w5 ⟨v5, rfl, hov, ho5⟩
  rw [E2.out] at hov
  have hbs := BS.of_vs hov.vs
  have HBS := Lib.hid hbs
  have HO5 := Lib.hid (HO4.out.then ho5)
  clear hov ho5 HW4 hbs
  go_wp2_with fail
  refine (newforward_c w5 v5 [13] HBS.out (by decide)).mono ?_
  rintro e w6 ⟨r6, rfl, hr6, ho6⟩
  have hB6 : w.heap.size ≤ r6 := by have := hr6.1; have := HO5.out.size; omega
  have HO6 := Lib.hid (HO5.out.then ho6)
  have HBS6 := Lib.hid (HBS.out.only ho6 (by simp))
  have hne6 := HBS.out.ne (B := r6) hr6.1
  have HNE := Lib.hid hne6
  have HR6 := Lib.hid hr6
  clear hr6 ho6 hne6 HO5
  generalize w5.heap.size = B5 at HR6
  go_wp2_with fail
  refine (fread_c w6 B5 _ r6 0 3 _ HR6.out (Nat.le_refl _) (by decide) (by decide)).mono ?_
  rintro e w7 ⟨rfl, hr7, ho7⟩
  rw [E3.out] at hr7 ⊢
  have HR7 := Lib.hid hr7
  have HO7 := Lib.hid (only_own HO6.out ho7 hB6)
  have hbs7 := HBS6.out.only ho7 (fun c hc hl => by simp; exact HNE.out c hc hl)
  clear hr7 ho7 HR6 HO6
  obtain ⟨a, cap, rfl, h1, h2, h3, h4⟩ := hbs7
  obtain ⟨b, off, rfl, hcell⟩ := h4 0 (by decide)
  have hcell : w7.cell? ⟨b, off, none⟩ = some (.int .u8 13) := hcell
  clear h3 h4
  simp only [List.length_cons, List.length_nil] at h1 ⊢
  unfold maxLen at h2
  go_wp2_with fail
  refine (fused_c w7 B5 _ r6 3 _ HR7.out (by decide) (by decide)).mono ?_
  rintro e w' ⟨rfl, rfl⟩
  go_wp2
  go_ret
  exact ⟨rfl, HO7.out⟩
end Go.Proofs.Ytdpeajbjnennnaa.bit
