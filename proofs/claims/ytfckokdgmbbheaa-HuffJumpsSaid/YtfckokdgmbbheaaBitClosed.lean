/-
  THE WALK of Closed; the laws' awake.
-/
import Derived.Test.YtfckokdgmbbheaaBitWrite
import Derived.Test.YtfckokdgmbbheaaBitBack
import Derived.Lib.SlBytesConst
set_option linter.unusedVariables false
set_option linter.unusedSimpArgs false
set_option maxRecDepth 20000
namespace Go.Proofs.Ytfckokdgmbbheaa.bit
open Go Go.RowKit Go.Lm

theorem only_below {w a b : World} {D : Nat} (h : Only [] w a) (k : Below D a b) (hD : w.heap.size ≤ D) : Only [] w b :=
  ⟨k.os.trans h.os, k.tape.trans h.tape, k.output.trans h.output, Nat.le_trans h.size k.size, fun i hi hn => (k.block i (by omega)).trans (h.block i hi hn)⟩
theorem only_own {w a b : World} {r : Nat} (h : Only [] w a) (k : Only [r] a b) (hr : w.heap.size ≤ r) : Only [] w b := h.trans k (by simp) (by simp; omega)

set_option maxHeartbeats 1000000 in
theorem closed_c (w : World) (B r : Nat) (L : List Bool) (h : WB w B r L) (hl : L.length ≤ 10000000) : Calls Try.prog 42 #[.pointer (some ⟨r, 0, none⟩)] w fun e w' => ∃ v, e = .returned v ∧ OV w' w.heap.size 5 v ((Bt.bytesOf (L ++ [true])).map u8v) ∧ Only [] w w' := by
  obtain ⟨a, cap, hc0, hc1, hf, hov, hr, hne, hcap1, hcap2⟩ := h.cells
  have hbs := BS.of_vs hov.vs
  have hll := Bt.bytesOf_length L
  have HBS := Lib.hid hbs
  have HLL := Lib.hid hll
  have n1 := World.new_ne w _ hc0
  have n2 := World.new_ne w _ hc1
  unfold maxLen at hcap2
  clear hov hr hne h hbs hll
  go_enter Try.func42, Try.ntmps42
  go_wp2_with fail
  go_region_held3 (fun w' => w'.cell? ⟨r, 0, none⟩ = some (.slice a (Bt.bytesOf L).length cap) ∧ w'.cell? ⟨r, 1, none⟩ = some (.int .i64 (L.length : Int))) (go_keep)
    (first
      | (go_at_call 46; refine (clone_c _ _ _ (HBS.out.only (Only.drew (Only.refl [] w)) (by simp)) (by have := HLL.out; omega)).mono ?_; rintro e w4 ⟨v', rfl, hov, ho4⟩; obtain ⟨a', n', c', rfl⟩ := OV.isSlice hov; have g0 := ho4.cell (p := ⟨r, 0, none⟩) (v := .slice a (Bt.bytesOf L).length cap) (by go_simp) (by simp); have g1 := ho4.cell (p := ⟨r, 1, none⟩) (v := .int .i64 (L.length : Int)) (by go_simp) (by simp)))
  all_goals
    have ho : Only [] w w4 := (Only.drew (Only.refl [] w)).then ho4
    have hov' : OV w4 w.heap.size 5 (.slice a' n' c') ((Bt.bytesOf L).map u8v) := hov
    have hx : WB (w4.alloc (.cells #[.slice a' n' c', .int .i64 (L.length : Int)] 105 (0, 0))) w.heap.size w4.heap.size L := ⟨ho.size, _, heap_alloc_new _ _, hov'.only ((Only.refl [] w4).alloc _) (by simp)⟩
    have ho2 : Only [] w (w4.alloc (.cells #[.slice a' n' c', .int .i64 (L.length : Int)] 105 (0, 0))) := ho.alloc _
    have HX := Lib.hid hx; have HO := Lib.hid ho2
    clear ho ho4 hov hov' g0 g1 n1 n2 hx ho2 hc0 hc1 hf
    go_wp2_with fail
    refine (write_c _ _ _ L HX.out 1 1 (by decide) (by omega)).mono ?_
    rintro e w5 ⟨rfl, hw5, hb5⟩
    rw [if_pos (by decide)] at hw5
    have hw5' : WB w5 w.heap.size w4.heap.size (L ++ [true]) := hw5
    obtain ⟨a5, cap5, hc0, hc1, hf, hov5, -, -, -, -⟩ := hw5'.cells
    have HOV := Lib.hid hov5
    have HO5 := Lib.hid (only_below HO.out hb5 (Nat.le_refl _))
    clear hw5 hw5' hb5 hov5
    go_wp2
    go_ret
    exact ⟨_, rfl, HOV.out, HO5.out⟩

end Go.Proofs.Ytfckokdgmbbheaa.bit
