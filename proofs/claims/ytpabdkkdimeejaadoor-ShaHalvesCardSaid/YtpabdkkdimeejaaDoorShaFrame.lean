/-
  THE FRAME of the rows of this seat: the table that they list; a world for the witness.
-/
import Derived.Test.YtpabdkkdimeejaaDoorShaAwake
import Derived.Test.YtpabdkkdimeejaaDoorCards
import Derived.Test.YtpabdkkdimeejaaDoorTie
import Derived.Deep.DeepHandedRow
import Derived.Lib.LaidTab
set_option linter.unusedVariables false
namespace Go.Proofs.YtpabdkkdimeejaaDoor.sha
open Go Go.RowKit Go.Lm Go.ChangeShapes Go.WideShapes Go.ChangeAt

/-- The table, as integers. -/
def KI : List Int := [1116352408, 1899447441, 3049323471, 3921009573, 961987163, 1508970993, 2453635748, 2870763221, 3624381080, 310598401, 607225278, 1426881987, 1925078388, 2162078206, 2614888103, 3248222580, 3835390401, 4022224774, 264347078, 604807628, 770255983, 1249150122, 1555081692, 1996064986, 2554220882, 2821834349, 2952996808, 3210313671, 3336571891, 3584528711, 113926993, 338241895, 666307205, 773529912, 1294757372, 1396182291, 1695183700, 1986661051, 2177026350, 2456956037, 2730485921, 2820302411, 3259730800, 3345764771, 3516065817, 3600352804, 4094571909, 275423344, 430227734, 506948616, 659060556, 883997877, 958139571, 1322822218, 1537002063, 1747873779, 1955562222, 2024104815, 2227730452, 2361852424, 2428436474, 2756734187, 3204031479, 3329325298]
theorem own : ownKnob Tryd.prog.godebug = none := by kernel_rfl
theorem laidOut : laidOutB Tryd.prog = true := by kernel_rfl
theorem gTab : Tryd.prog.globalNamed "lighterman/sha.rounds" = some 0 := by kernel_rfl
theorem gTabType : (Tryd.prog.globals[0]?).map (·.type) = some 48 := by kernel_rfl
theorem cellsTab : Tryd.prog.cellsOf 48 = 64 := by kernel_rfl
theorem cellsNum : Tryd.prog.cellsOf 39 = 1 := by kernel_rfl

def laidList : List (String × DataW Unit) := [("lighterman/sha.rounds", Rows.laid_lighterman_sha_rounds)]
theorem tab {W : World} (h : laidMetH Tryd.prog laidList W) : Tab W := by
  have ht : Lib.TabIs Tryd.prog W "lighterman/sha.rounds" .u32 KI := Lib.tabIs_of_head (rest := []) gTab gTabType Tryd.underlying48 Tryd.underlying39 cellsNum cellsTab h
  intro i hi
  rw [ht.cell gTab i hi]
  have : ∀ i, i < 64 → KI.getD i 0 = ((Sha.K.getD i 0 : Nat) : Int) := by decide
  rw [this i hi]

/-- A WORLD FOR THE WITNESS: the settled one, the table holding what its initialiser lays. -/
noncomputable def laidWorld (os : Os) : World :=
  { World.holding Tryd.prog os ⟨#[], #[], []⟩ with heap := (World.holding Tryd.prog os ⟨#[], #[], []⟩).heap.modify 0 fun
      | .cells _ t frozen => .cells (KI.map (Value.int .u32)).toArray t frozen
      | o => o }
end Go.Proofs.YtpabdkkdimeejaaDoor.sha
