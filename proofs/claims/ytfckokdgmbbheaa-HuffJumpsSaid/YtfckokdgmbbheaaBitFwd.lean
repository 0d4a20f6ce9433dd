/-
  BitsForward, walked.
-/
import Derived.Test.YtfckokdgmbbheaaBitClosed
import Derived.Test.YtfckokdgmbbheaaBitRef3
import Derived.Test.YtfckokdgmbbheaaGen5
import Derived.Deep.RegionHeld3
import Derived.Deep.RegionWith
import Derived.Outline
import Derived.OwnWalk
set_option linter.unusedVariables false
set_option linter.unusedSimpArgs false
namespace Go.Proofs.Ytfckokdgmbbheaa.bit
open Go Go.RowKit Go.Lm

theorem fread_L (l : List UInt8) (p : Nat) (n : Int) : freadL (Bt.bitsOf l) p n = fread l p n := by
  unfold freadL fread
  rw [Bt.bitsOf_length]
  simp

end Go.Proofs.Ytfckokdgmbbheaa.bit
