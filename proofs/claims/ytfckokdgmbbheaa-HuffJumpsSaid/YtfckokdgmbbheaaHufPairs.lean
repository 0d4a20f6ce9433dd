/-
  GENERAL: a block that holds pairs, one after the other. Of no program.
-/
import Derived.Test.YtfckokdgmbbheaaGen5
import Derived.Test.YtfckokdgmbbheaaGenM
import Derived.Deep.MidRow
set_option linter.unusedVariables false
set_option linter.unusedSimpArgs false
namespace Go.Lm
open Go Go.RowKit Go.ChangeShapes Go.WideShapes

/-- Cells of pairs. -/
def pc (ps : List (Value × Value)) : List Value := ps.flatMap fun p => [p.1, p.2]
theorem pc_length : ∀ ps : List (Value × Value), (pc ps).length = 2 * ps.length
  | [] => rfl
  | p :: ps => by have := pc_length ps; simp only [pc, List.flatMap_cons, List.length_append, List.length_cons, List.length_nil] at *; omega
theorem pc_get : ∀ (ps : List (Value × Value)) (i : Nat) (h : i < ps.length), (pc ps)[2 * i]? = some (ps[i]).1 ∧ (pc ps)[2 * i + 1]? = some (ps[i]).2
  | p :: ps, 0, h => ⟨rfl, rfl⟩
  | p :: ps, i + 1, h => by
    have := pc_get ps i (by simpa using h)
    refine ⟨?_, ?_⟩
    · rw [show 2 * (i + 1) = 2 * i + 1 + 1 by omega]; simpa [pc] using this.1
    · rw [show 2 * (i + 1) + 1 = 2 * i + 1 + 1 + 1 by omega]; simpa [pc] using this.2
theorem pc_set : ∀ (ps : List (Value × Value)) (i : Nat) (x y : Value), ((pc ps).set (2 * i) x).set (2 * i + 1) y = pc (ps.set i (x, y))
  | [], i, x, y => rfl
  | p :: ps, 0, x, y => rfl
  | p :: ps, i + 1, x, y => by
    have := pc_set ps i x y
    have e : ∀ q : List (Value × Value), pc (p :: q) = p.1 :: p.2 :: pc q := fun _ => rfl
    rw [List.set_cons_succ, e, e, show 2 * (i + 1) = 2 * i + 1 + 1 by omega, List.set_cons_succ, List.set_cons_succ, List.set_cons_succ, List.set_cons_succ, this]
theorem pc_append (a b : List (Value × Value)) : pc (a ++ b) = pc a ++ pc b := by simp [pc]

/-- Block g begins with these pairs; its cells may be written. -/
structure PB (w : World) (g : Nat) (t : TypeId) (ps : List (Value × Value)) : Prop where
  at' : ∃ cs fr, w.heap[g]? = some (.cells cs t fr) ∧ 2 * ps.length ≤ cs.size ∧ cs.toList.take (2 * ps.length) = pc ps
  free : ∀ k, k < 2 * ps.length → w.frozen? ⟨g, k, none⟩ = false
theorem PB.lt {w : World} {g : Nat} {t : TypeId} {ps : List (Value × Value)} (h : PB w g t ps) : g < w.heap.size := by
  obtain ⟨cs, fr, h1, _⟩ := h.at'
  exact lt_of_block h1
theorem PB.cell {w : World} {g : Nat} {t : TypeId} {ps : List (Value × Value)} (h : PB w g t ps) (i : Nat) (hi : i < ps.length) : w.cell? ⟨g, 2 * i, none⟩ = some (ps[i]).1 ∧ w.cell? ⟨g, 2 * i + 1, none⟩ = some (ps[i]).2 := by
  obtain ⟨cs, fr, h1, h2, h3⟩ := h.at'
  obtain ⟨g1, g2⟩ := pc_get ps i hi
  rw [← h3, List.getElem?_take_of_lt (by omega)] at g1 g2
  exact ⟨by rw [cell_of_row w g _ _ _ _ h1]; simpa using g1, by rw [cell_of_row w g _ _ _ _ h1]; simpa using g2⟩
theorem PB.range {w : World} {g : Nat} {t : TypeId} {ps : List (Value × Value)} (h : PB w g t ps) (i : Nat) (hi : i < ps.length) : w.rangeAt g (2 * i) [(ps[i]).1, (ps[i]).2] := by
  obtain ⟨h1, h2⟩ := h.cell i hi
  intro j v hv
  match j, hv with
  | 0, hv => cases hv; exact h1
  | 1, hv => cases hv; exact h2
theorem PB.there {w : World} {g : Nat} {t : TypeId} {ps : List (Value × Value)} (h : PB w g t ps) (i : Nat) (hi : i < ps.length) : w.there g (2 * i) 2 := by
  obtain ⟨h1, h2⟩ := h.cell i hi
  intro j hj
  match j, hj with
  | 0, _ => exact ⟨by rw [Nat.add_zero, h1]; rfl, h.free _ (by omega)⟩
  | 1, _ => exact ⟨by rw [h2]; rfl, h.free _ (by omega)⟩
theorem PB.only {S : List Nat} {w w' : World} {g : Nat} {t : TypeId} {ps : List (Value × Value)} (h : PB w g t ps) (ho : Only S w w') (hn : g ∉ S) : PB w' g t ps := by
  obtain ⟨cs, fr, h1, h2, h3⟩ := h.at'
  have h1' := ho.heap h1 hn
  refine ⟨⟨cs, fr, h1', h2, h3⟩, fun k hk => ?_⟩
  have := h.free k hk
  simp only [World.frozen?, h1] at this
  simp only [World.frozen?, h1']
  exact this
theorem PB.below {B : Nat} {w w' : World} {g : Nat} {t : TypeId} {ps : List (Value × Value)} (h : PB w g t ps) (hb : Below B w w') (hg : g < B) : PB w' g t ps := by
  obtain ⟨cs, fr, h1, h2, h3⟩ := h.at'
  have h1' : w'.heap[g]? = some (.cells cs t fr) := (hb.block g hg).trans h1
  refine ⟨⟨cs, fr, h1', h2, h3⟩, fun k hk => ?_⟩
  have := h.free k hk
  simp only [World.frozen?, h1] at this
  simp only [World.frozen?, h1']
  exact this
theorem PB.set {w : World} {g : Nat} {t : TypeId} {ps : List (Value × Value)} (h : PB w g t ps) (i : Nat) (hi : i < ps.length) (x y : Value) : PB (w.setCells g (2 * i) [x, y]) g t (ps.set i (x, y)) := by
  obtain ⟨cs, fr, h1, h2, h3⟩ := h.at'
  refine ⟨⟨(cs.setIfInBounds (2 * i) x).setIfInBounds (2 * i + 1) y, fr, ?_, by simpa using h2, ?_⟩, fun k hk => ?_⟩
  · exact heap_setCell_same (heap_setCell_same h1 x) y
  · rw [List.length_set, ← pc_set, ← h3]
    simp only [Array.toList_setIfInBounds, List.take_set]
  · rw [World.frozen?_setCells]
    exact h.free k (by simpa using hk)
theorem only_pair {w : World} (g i : Nat) (x y : Value) : Only [g] w (w.setCells g (2 * i) [x, y]) :=
  ((Only.refl [g] w).setCell (.inl (by simp)) _).setCell (.inl (by simp)) _
end Go.Lm
