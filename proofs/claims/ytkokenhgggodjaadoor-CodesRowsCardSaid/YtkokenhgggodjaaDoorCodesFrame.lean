/-
  THE FRAME of the rows of this seat: the tables that they list; a world for the witness.
-/
import Derived.Test.YtkokenhgggodjaaDoorCodesLaws
import Derived.Test.YtkokenhgggodjaaDoorCards
import Derived.Test.YtkokenhgggodjaaDoorTie
import Derived.Deep.DeepHandedRow
import Derived.Lib.LaidTab
import Derived.Stop.LaidErr
set_option linter.unusedVariables false
namespace Go.Proofs.YtkokenhgggodjaaDoor.codes
open Go Go.RowKit Go.Lm Go.ChangeShapes Go.WideShapes Go.ChangeAt

theorem own : ownKnob Tryd.prog.godebug = none := by kernel_rfl
theorem laidOut : laidOutB Tryd.prog = true := by kernel_rfl
theorem gLit : Tryd.prog.globalNamed "lighterman/codes.literals" = some 0 := by kernel_rfl
theorem gMat : Tryd.prog.globalNamed "lighterman/codes.matches" = some 1 := by kernel_rfl
theorem gLitType : (Tryd.prog.globals[0]?).map (·.type) = some 43 := by kernel_rfl
theorem gMatType : (Tryd.prog.globals[1]?).map (·.type) = some 44 := by kernel_rfl
theorem cellsLit : Tryd.prog.cellsOf 43 = 20 := by kernel_rfl
theorem cellsMat : Tryd.prog.cellsOf 44 = 21 := by kernel_rfl
theorem cellsNum : Tryd.prog.cellsOf 3 = 1 := by kernel_rfl

def laidList : List (String × DataW Unit) := [("lighterman/codes.literals", Rows.laid_lighterman_codes_literals), ("lighterman/codes.matches", Rows.laid_lighterman_codes_matches)]

theorem heap_of_tab {W : World} {n : String} {g : Nat} {k : IntKind} {zs : List Int} (h : Lib.TabIs Tryd.prog W n k zs) (hg : Tryd.prog.globalNamed n = some g) : ∃ t fr, W.heap[g]? = some (.cells (zs.map (Value.int k)).toArray t fr) := by
  unfold Lib.TabIs World.var? at h
  rw [hg] at h
  simp only [Option.bind_some] at h
  split at h
  · rename_i cs t fr he
    exact ⟨t, fr, by rw [he]; simp_all⟩
  · cases h
theorem tab {W : World} (h : laidMetH Tryd.prog laidList W) : Tabs W := by
  have h2 : laidMet Tryd.prog laidList W := h
  have hl : Lib.TabIs Tryd.prog W "lighterman/codes.literals" .i64 Codes.lits := Lib.tabIs_of_head gLit gLitType Tryd.underlying43 Tryd.underlying3 cellsNum cellsLit h2
  have hm : Lib.TabIs Tryd.prog W "lighterman/codes.matches" .i64 Codes.mats := Lib.tabIs_of_head (rest := []) gMat gMatType Tryd.underlying44 Tryd.underlying3 cellsNum cellsMat (laidMet.tail h2)
  exact ⟨heap_of_tab hl gLit, heap_of_tab hm gMat⟩

def laying (cs : Array Value) : Obj → Obj
  | .cells _ t frozen => .cells cs t frozen
  | o => o
/-- A WORLD FOR THE WITNESS: the settled one, the tables holding what their initialisers lay. -/
noncomputable def laidWorld (os : Os) : World :=
  { World.holding Tryd.prog os ⟨#[], #[], []⟩ with heap := ((World.holding Tryd.prog os ⟨#[], #[], []⟩).heap.modify 0 (laying (i64s Codes.lits).toArray)).modify 1 (laying (i64s Codes.mats).toArray) }
end Go.Proofs.YtkokenhgggodjaaDoor.codes
