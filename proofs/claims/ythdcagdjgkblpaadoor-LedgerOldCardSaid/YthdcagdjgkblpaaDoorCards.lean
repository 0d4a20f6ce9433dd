/-
  DERIVED. GIVEN WITH THE SEED: THE CARDS: each row of YthdcagdjgkblpaaDoorRows.lean that lists a variable, with what it lists TIED to the program's text (the seventh form; the later family's looks); each row that meets fmt, with fmt's text TOLD by the authors' own Lean function (tested against real Go, not proved from fmt's source: count such statements apart). THE CARD IS WHAT COUNTS. Prove the row's statement (the work); the ties are given (YthdcagdjgkblpaaDoorTie.lean); close each card by the builder's one call (the guide's Derived/Test/ToyasCard.lean, 'card_holds'). Laid BY PROGRAM, IN A SANDBOX (cutbox-door.mjs). By AI agents, Wed Nov 11 2026. No macro, syntax, notation, axiom, sorry.
-/
import Derived.Test.YthdcagdjgkblpaaDoorRows
import GoSem.ClaimSeven
namespace Go.Proofs.YthdcagdjgkblpaaDoor
namespace Rows

/-- THE TIED CARD OF 'lightermanlaw22.LedgerReads'. -/
def ledgerReadsCard : Claim7 := { stood := { row := ledgerReadsRow, standIns := [], harness := (true, "3fd7d9c5357fd1f4f48a564df7391a39213c002a97cac0ca2157eafdf8c47f11"), looks := false }, kinds := [], alts := [], laidByText := true, laidKinds := [.data], laidTests := true, laidLooks := .later }
def LedgerReadsCardSaid : Prop := Claim7.holds Tryd.pinned (.plain (OpenSpec.ofChange ledgerReadsSpec)) ledgerReadsCard

/-- THE TIED CARD OF 'lightermanlaw22.LedgerPuts'. -/
def ledgerPutsCard : Claim7 := { stood := { row := ledgerPutsRow, standIns := [], harness := (true, "3fd7d9c5357fd1f4f48a564df7391a39213c002a97cac0ca2157eafdf8c47f11"), looks := false }, kinds := [], alts := [], laidByText := true, laidKinds := [.data], laidTests := true, laidLooks := .later }
def LedgerPutsCardSaid : Prop := Claim7.holds Tryd.pinned (.plain (OpenSpec.ofChange ledgerPutsSpec)) ledgerPutsCard

/-- THE TIED CARD OF 'lightermanlaw22.LedgerCuts'. -/
def ledgerCutsCard : Claim7 := { stood := { row := ledgerCutsRow, standIns := [], harness := (true, "3fd7d9c5357fd1f4f48a564df7391a39213c002a97cac0ca2157eafdf8c47f11"), looks := false }, kinds := [], alts := [], laidByText := true, laidKinds := [.data], laidTests := true, laidLooks := .later }
def LedgerCutsCardSaid : Prop := Claim7.holds Tryd.pinned (.plain (OpenSpec.ofChange ledgerCutsSpec)) ledgerCutsCard

/-- THE TIED CARD OF 'lightermanlaw22.LedgerLast'. -/
def ledgerLastCard : Claim7 := { stood := { row := ledgerLastRow, standIns := [], harness := (true, "3fd7d9c5357fd1f4f48a564df7391a39213c002a97cac0ca2157eafdf8c47f11"), looks := false }, kinds := [], alts := [], laidByText := true, laidKinds := [.data], laidTests := true, laidLooks := .later }
def LedgerLastCardSaid : Prop := Claim7.holds Tryd.pinned (.plain (OpenSpec.ofChange ledgerLastSpec)) ledgerLastCard

/-- THE TIED CARD OF 'lightermanlaw22.LedgerGaps'. -/
def ledgerGapsCard : Claim7 := { stood := { row := ledgerGapsRow, standIns := [], harness := (true, "3fd7d9c5357fd1f4f48a564df7391a39213c002a97cac0ca2157eafdf8c47f11"), looks := false }, kinds := [], alts := [], laidByText := true, laidKinds := [.data], laidTests := true, laidLooks := .later }
def LedgerGapsCardSaid : Prop := Claim7.holds Tryd.pinned (.plain (OpenSpec.ofChange ledgerGapsSpec)) ledgerGapsCard

/-- THE TIED CARD OF 'lightermanlaw22.LedgerOld'. -/
def ledgerOldCard : Claim7 := { stood := { row := ledgerOldRow, standIns := [], harness := (true, "3fd7d9c5357fd1f4f48a564df7391a39213c002a97cac0ca2157eafdf8c47f11"), looks := false }, kinds := [], alts := [], laidByText := true, laidKinds := [.data], laidTests := true, laidLooks := .later }
def LedgerOldCardSaid : Prop := Claim7.holds Tryd.pinned (.plain (OpenSpec.ofChange ledgerOldSpec)) ledgerOldCard

/-- THE SECOND FORM's CARD OF 'lightermanlaw22.LedgerReads'. -/
def ledgerReadsUptoCard : Claim7 := { stood := { row := ledgerReadsUptoRow, standIns := [], harness := (true, "3fd7d9c5357fd1f4f48a564df7391a39213c002a97cac0ca2157eafdf8c47f11"), looks := false }, kinds := [], alts := [], laidByText := true, laidKinds := [.data], laidTests := true, laidLooks := .later }
def LedgerReadsUptoCardSaid : Prop := Claim7.holds Tryd.pinned (.plain (OpenSpec.upto ledgerReadsSpec)) ledgerReadsUptoCard

/-- THE SECOND FORM's CARD OF 'lightermanlaw22.LedgerPuts'. -/
def ledgerPutsUptoCard : Claim7 := { stood := { row := ledgerPutsUptoRow, standIns := [], harness := (true, "3fd7d9c5357fd1f4f48a564df7391a39213c002a97cac0ca2157eafdf8c47f11"), looks := false }, kinds := [], alts := [], laidByText := true, laidKinds := [.data], laidTests := true, laidLooks := .later }
def LedgerPutsUptoCardSaid : Prop := Claim7.holds Tryd.pinned (.plain (OpenSpec.upto ledgerPutsSpec)) ledgerPutsUptoCard

/-- THE SECOND FORM's CARD OF 'lightermanlaw22.LedgerCuts'. -/
def ledgerCutsUptoCard : Claim7 := { stood := { row := ledgerCutsUptoRow, standIns := [], harness := (true, "3fd7d9c5357fd1f4f48a564df7391a39213c002a97cac0ca2157eafdf8c47f11"), looks := false }, kinds := [], alts := [], laidByText := true, laidKinds := [.data], laidTests := true, laidLooks := .later }
def LedgerCutsUptoCardSaid : Prop := Claim7.holds Tryd.pinned (.plain (OpenSpec.upto ledgerCutsSpec)) ledgerCutsUptoCard

/-- THE SECOND FORM's CARD OF 'lightermanlaw22.LedgerLast'. -/
def ledgerLastUptoCard : Claim7 := { stood := { row := ledgerLastUptoRow, standIns := [], harness := (true, "3fd7d9c5357fd1f4f48a564df7391a39213c002a97cac0ca2157eafdf8c47f11"), looks := false }, kinds := [], alts := [], laidByText := true, laidKinds := [.data], laidTests := true, laidLooks := .later }
def LedgerLastUptoCardSaid : Prop := Claim7.holds Tryd.pinned (.plain (OpenSpec.upto ledgerLastSpec)) ledgerLastUptoCard

/-- THE SECOND FORM's CARD OF 'lightermanlaw22.LedgerGaps'. -/
def ledgerGapsUptoCard : Claim7 := { stood := { row := ledgerGapsUptoRow, standIns := [], harness := (true, "3fd7d9c5357fd1f4f48a564df7391a39213c002a97cac0ca2157eafdf8c47f11"), looks := false }, kinds := [], alts := [], laidByText := true, laidKinds := [.data], laidTests := true, laidLooks := .later }
def LedgerGapsUptoCardSaid : Prop := Claim7.holds Tryd.pinned (.plain (OpenSpec.upto ledgerGapsSpec)) ledgerGapsUptoCard

/-- THE SECOND FORM's CARD OF 'lightermanlaw22.LedgerOld'. -/
def ledgerOldUptoCard : Claim7 := { stood := { row := ledgerOldUptoRow, standIns := [], harness := (true, "3fd7d9c5357fd1f4f48a564df7391a39213c002a97cac0ca2157eafdf8c47f11"), looks := false }, kinds := [], alts := [], laidByText := true, laidKinds := [.data], laidTests := true, laidLooks := .later }
def LedgerOldUptoCardSaid : Prop := Claim7.holds Tryd.pinned (.plain (OpenSpec.upto ledgerOldSpec)) ledgerOldUptoCard
end Rows
end Go.Proofs.YthdcagdjgkblpaaDoor
