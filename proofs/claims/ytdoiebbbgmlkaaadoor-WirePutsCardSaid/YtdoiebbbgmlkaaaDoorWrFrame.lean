/-
  THE FRAME of the rows of this seat: the table that they list; a world for the witness.
-/
import Derived.Test.YtdoiebbbgmlkaaaDoorWrOpen
import Derived.Test.YtdoiebbbgmlkaaaDoorCards
import Derived.Test.YtdoiebbbgmlkaaaDoorTie
import Derived.Deep.DeepHandedRow
import Derived.Lib.LaidTab
set_option linter.unusedVariables false
namespace Go.Proofs.YtdoiebbbgmlkaaaDoor.wr
open Go Go.RowKit Go.Lm Go.ChangeShapes Go.WideShapes Go.ChangeAt Go.Proofs.YtdoiebbbgmlkaaaDoor.crc

theorem own : ownKnob Tryd.prog.godebug = none := by kernel_rfl
theorem laidOut : laidOutB Tryd.prog = true := by kernel_rfl
theorem gTab : Tryd.prog.globalNamed "lighterman/crc.halves" = some 0 := by kernel_rfl
theorem gTabType : (Tryd.prog.globals[0]?).map (·.type) = some 85 := by kernel_rfl
theorem cellsTab : Tryd.prog.cellsOf 85 = 16 := by kernel_rfl
theorem cellsNum : Tryd.prog.cellsOf 23 = 1 := by kernel_rfl

def laidList : List (String × DataW Unit) := [("lighterman/crc.halves", Rows.laid_lighterman_crc_halves)]
theorem tab {W : World} (h : laidMetH Tryd.prog laidList W) : Tab W := by
  have ht : Lib.TabIs Tryd.prog W "lighterman/crc.halves" .u32 Crc.H := Lib.tabIs_of_head (rest := []) gTab gTabType Tryd.underlying85 Tryd.underlying23 cellsNum cellsTab h
  intro i hi
  rw [ht.cell gTab i hi]
  have : ∀ i, i < 16 → Crc.H.getD i 0 = (Crc.Hn i : Int) := by decide
  rw [this i hi]

/-- A WORLD FOR THE WITNESS: the settled one, the table holding what its initialiser lays. -/
noncomputable def laidWorld (os : Os) : World :=
  { World.holding Tryd.prog os ⟨#[], #[], []⟩ with heap := (World.holding Tryd.prog os ⟨#[], #[], []⟩).heap.modify 0 fun
      | .cells _ t frozen => .cells (Crc.H.map (Value.int .u32)).toArray t frozen
      | o => o }
end Go.Proofs.YtdoiebbbgmlkaaaDoor.wr
