/-
  DERIVED. GIVEN WITH THE SEED: THE CARDS: each row of YtdoiebbbgmlkaaaDoorRows.lean that lists a variable, with what it lists TIED to the program's text (the seventh form; the later family's looks); each row that meets fmt, with fmt's text TOLD by the authors' own Lean function (tested against real Go, not proved from fmt's source: count such statements apart). THE CARD IS WHAT COUNTS. Prove the row's statement (the work); the ties are given (YtdoiebbbgmlkaaaDoorTie.lean); close each card by the builder's one call (the guide's Derived/Test/ToyasCard.lean, 'card_holds'). Laid BY PROGRAM, IN A SANDBOX (cutbox-door.mjs). By AI agents, Wed Nov 11 2026. No macro, syntax, notation, axiom, sorry.
-/
import Derived.Test.YtdoiebbbgmlkaaaDoorRows
import GoSem.ClaimSeven
namespace Go.Proofs.YtdoiebbbgmlkaaaDoor
namespace Rows

/-- THE TIED CARD OF 'lightermanlaw24.WirePuts'. -/
def wirePutsCard : Claim7 := { stood := { row := wirePutsRow, standIns := [], harness := (true, "59409db6c8a011f114c608db6b5a4722aa4cefdeb5ac545573ad3ad77a8fbd4d"), looks := false }, kinds := [], alts := [], laidByText := true, laidKinds := [.data], laidTests := true, laidLooks := .later }
def WirePutsCardSaid : Prop := Claim7.holds Tryd.pinned (.plain (OpenSpec.ofChange wirePutsSpec)) wirePutsCard

/-- THE TIED CARD OF 'lightermanlaw24.WireGets'. -/
def wireGetsCard : Claim7 := { stood := { row := wireGetsRow, standIns := [], harness := (true, "59409db6c8a011f114c608db6b5a4722aa4cefdeb5ac545573ad3ad77a8fbd4d"), looks := false }, kinds := [], alts := [], laidByText := true, laidKinds := [.data], laidTests := true, laidLooks := .later }
def WireGetsCardSaid : Prop := Claim7.holds Tryd.pinned (.plain (OpenSpec.ofChange wireGetsSpec)) wireGetsCard

/-- THE TIED CARD OF 'lightermanlaw24.WireBits'. -/
def wireBitsCard : Claim7 := { stood := { row := wireBitsRow, standIns := [], harness := (true, "59409db6c8a011f114c608db6b5a4722aa4cefdeb5ac545573ad3ad77a8fbd4d"), looks := false }, kinds := [], alts := [], laidByText := true, laidKinds := [.data], laidTests := true, laidLooks := .later }
def WireBitsCardSaid : Prop := Claim7.holds Tryd.pinned (.plain (OpenSpec.ofChange wireBitsSpec)) wireBitsCard

/-- THE TIED CARD OF 'lightermanlaw24.WireCut'. -/
def wireCutCard : Claim7 := { stood := { row := wireCutRow, standIns := [], harness := (true, "59409db6c8a011f114c608db6b5a4722aa4cefdeb5ac545573ad3ad77a8fbd4d"), looks := false }, kinds := [], alts := [], laidByText := true, laidKinds := [.data], laidTests := true, laidLooks := .later }
def WireCutCardSaid : Prop := Claim7.holds Tryd.pinned (.plain (OpenSpec.ofChange wireCutSpec)) wireCutCard

/-- THE TIED CARD OF 'lightermanlaw24.WireFields'. -/
def wireFieldsCard : Claim7 := { stood := { row := wireFieldsRow, standIns := [], harness := (true, "59409db6c8a011f114c608db6b5a4722aa4cefdeb5ac545573ad3ad77a8fbd4d"), looks := false }, kinds := [], alts := [], laidByText := true, laidKinds := [.data], laidTests := true, laidLooks := .later }
def WireFieldsCardSaid : Prop := Claim7.holds Tryd.pinned (.plain (OpenSpec.ofChange wireFieldsSpec)) wireFieldsCard

/-- THE SECOND FORM's CARD OF 'lightermanlaw24.WirePuts'. -/
def wirePutsUptoCard : Claim7 := { stood := { row := wirePutsUptoRow, standIns := [], harness := (true, "59409db6c8a011f114c608db6b5a4722aa4cefdeb5ac545573ad3ad77a8fbd4d"), looks := false }, kinds := [], alts := [], laidByText := true, laidKinds := [.data], laidTests := true, laidLooks := .later }
def WirePutsUptoCardSaid : Prop := Claim7.holds Tryd.pinned (.plain (OpenSpec.upto wirePutsSpec)) wirePutsUptoCard

/-- THE SECOND FORM's CARD OF 'lightermanlaw24.WireGets'. -/
def wireGetsUptoCard : Claim7 := { stood := { row := wireGetsUptoRow, standIns := [], harness := (true, "59409db6c8a011f114c608db6b5a4722aa4cefdeb5ac545573ad3ad77a8fbd4d"), looks := false }, kinds := [], alts := [], laidByText := true, laidKinds := [.data], laidTests := true, laidLooks := .later }
def WireGetsUptoCardSaid : Prop := Claim7.holds Tryd.pinned (.plain (OpenSpec.upto wireGetsSpec)) wireGetsUptoCard

/-- THE SECOND FORM's CARD OF 'lightermanlaw24.WireBits'. -/
def wireBitsUptoCard : Claim7 := { stood := { row := wireBitsUptoRow, standIns := [], harness := (true, "59409db6c8a011f114c608db6b5a4722aa4cefdeb5ac545573ad3ad77a8fbd4d"), looks := false }, kinds := [], alts := [], laidByText := true, laidKinds := [.data], laidTests := true, laidLooks := .later }
def WireBitsUptoCardSaid : Prop := Claim7.holds Tryd.pinned (.plain (OpenSpec.upto wireBitsSpec)) wireBitsUptoCard

/-- THE SECOND FORM's CARD OF 'lightermanlaw24.WireCut'. -/
def wireCutUptoCard : Claim7 := { stood := { row := wireCutUptoRow, standIns := [], harness := (true, "59409db6c8a011f114c608db6b5a4722aa4cefdeb5ac545573ad3ad77a8fbd4d"), looks := false }, kinds := [], alts := [], laidByText := true, laidKinds := [.data], laidTests := true, laidLooks := .later }
def WireCutUptoCardSaid : Prop := Claim7.holds Tryd.pinned (.plain (OpenSpec.upto wireCutSpec)) wireCutUptoCard

/-- THE SECOND FORM's CARD OF 'lightermanlaw24.WireFields'. -/
def wireFieldsUptoCard : Claim7 := { stood := { row := wireFieldsUptoRow, standIns := [], harness := (true, "59409db6c8a011f114c608db6b5a4722aa4cefdeb5ac545573ad3ad77a8fbd4d"), looks := false }, kinds := [], alts := [], laidByText := true, laidKinds := [.data], laidTests := true, laidLooks := .later }
def WireFieldsUptoCardSaid : Prop := Claim7.holds Tryd.pinned (.plain (OpenSpec.upto wireFieldsSpec)) wireFieldsUptoCard
end Rows
end Go.Proofs.YtdoiebbbgmlkaaaDoor
