/-
  GENERAL, MORE: blocks of two cells; slices of integers that came in. Of no program.
-/
import Derived.Test.YtfckokdgmbbheaaGen4
set_option linter.unusedVariables false
namespace Go.Lm
open Go Go.RowKit Go.ChangeShapes Go.WideShapes

/-- Block b holds two cells. -/
def P2 (w : World) (b : Nat) (t : TypeId) (x y : Value) : Prop := w.heap[b]? = some (.cells #[x, y] t (0, 0))
theorem P2.cells {w : World} {b : Nat} {t : TypeId} {x y : Value} (h : P2 w b t x y) : w.cell? ⟨b, 0, none⟩ = some x ∧ w.cell? ⟨b, 1, none⟩ = some y ∧ ∀ k, w.frozen? ⟨b, k, none⟩ = false := by
  unfold P2 at h
  exact ⟨by rw [cell_of_row _ _ _ _ _ _ h]; rfl, by rw [cell_of_row _ _ _ _ _ _ h]; rfl, fun k => by simp [World.frozen?, h]⟩
theorem P2.lt {w : World} {b : Nat} {t : TypeId} {x y : Value} (h : P2 w b t x y) : b < w.heap.size := lt_of_block h
theorem P2.only {S : List Nat} {w w' : World} {b : Nat} {t : TypeId} {x y : Value} (h : P2 w b t x y) (ho : Only S w w') (hn : b ∉ S) : P2 w' b t x y := ho.heap h hn
theorem P2.new (w : World) (t : TypeId) (x y : Value) : P2 (w.alloc (.cells #[x, y] t (0, 0))) w.heap.size t x y := heap_alloc_new w _
theorem P2.set {w : World} {b : Nat} {t : TypeId} {x y : Value} (h : P2 w b t x y) (x' y' : Value) : P2 ((w.setCell ⟨b, 0, none⟩ x').setCell ⟨b, 1, none⟩ y') b t x' y' :=
  (heap_setCell_same (k := 1) (heap_setCell_same (k := 0) h _) _).trans rfl
theorem P2.set1 {w : World} {b : Nat} {t : TypeId} {x y : Value} (h : P2 w b t x y) (y' : Value) : P2 (w.setCell ⟨b, 1, none⟩ y') b t x y' :=
  (heap_setCell_same (k := 1) h _).trans rfl
theorem P2.set0 {w : World} {b : Nat} {t : TypeId} {x y : Value} (h : P2 w b t x y) (x' : Value) : P2 (w.setCell ⟨b, 0, none⟩ x') b t x' y :=
  (heap_setCell_same (k := 0) h _).trans rfl
theorem only_set (w : World) (b : Nat) (x' y' : Value) : Only [b] w ((w.setCell ⟨b, 0, none⟩ x').setCell ⟨b, 1, none⟩ y') :=
  ((Only.refl [b] w).setCell (.inl (by simp)) _).setCell (.inl (by simp)) _

theorem only_below {w a b : World} {D : Nat} (h : Only [] w a) (k : Below D a b) (hD : w.heap.size ≤ D) : Only [] w b :=
  ⟨k.os.trans h.os, k.tape.trans h.tape, k.output.trans h.output, Nat.le_trans h.size k.size, fun i hi hn => (k.block i (by omega)).trans (h.block i hi hn)⟩
theorem only_own {w a b : World} {r : Nat} (h : Only [] w a) (k : Only [r] a b) (hr : w.heap.size ≤ r) : Only [] w b := h.trans k (by simp) (by simp; omega)
theorem only_own2 {w a b : World} {r q : Nat} (h : Only [] w a) (k : Only [r, q] a b) (hr : w.heap.size ≤ r) (hq : w.heap.size ≤ q) : Only [] w b := h.trans k (by simp) (by simp; omega)
theorem Only.in2l {a b : World} {r q : Nat} (h : Only [r] a b) : Only [r, q] a b := h.mono (by simp)
theorem Only.in2r {a b : World} {r q : Nat} (h : Only [q] a b) : Only [r, q] a b := h.mono (by simp)
theorem Only.in2 {a b : World} {r q : Nat} (h : Only [] a b) : Only [r, q] a b := h.mono (by simp)

section
variable {H : Type} {enc : TypeId × Value → H} {P : Program}
/-- An argument that is a slice of integers, opened. -/
theorem VS.ints {W : World} {t e : TypeId} {v : Value} {d : DataW H} {ps : List MemPlace} (ht : P.underlying t = some (.slice e)) (he : P.underlying e = some (.int .i64)) (hc : P.cellsOf e = 1)
    {base : Nat} (hv : Value.okWide P W .any base t v) (h : DataW.Trod enc P W 0 (fun _ => true) true t v d ps) : ∃ zs, VS W v (i64s zs) ∧ ∀ z ∈ zs, -9223372036854775808 ≤ z ∧ z ≤ 9223372036854775807 := by
  obtain ⟨a, cap, zs, rfl, h1, h2, h3, h4, h5⟩ := ints_opened ht he hc hv h
  refine ⟨zs, ⟨a, cap, by simp [i64s], by simpa [i64s] using h1, h2, h3, fun k hk => ?_⟩, fun z hz => wf_i64 (h5 z hz)⟩
  obtain ⟨b, off, ha, hcell⟩ := h4 k (by simpa [i64s] using hk)
  exact ⟨b, off, ha, by rw [hcell]; simp [i64s]⟩
end
end Go.Lm
