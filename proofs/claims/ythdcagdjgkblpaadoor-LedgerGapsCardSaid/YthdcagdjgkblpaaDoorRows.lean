/-
  NARROWER THAN 'FOR EVERY INPUT', by the rows' own cells (each row's printed sentence says how): LedgerReads: laid · LedgerPuts: laid · LedgerCuts: laid · LedgerLast: laid · LedgerGaps: laid · LedgerOld: laid.
  DERIVED. THE GIVEN ROWS OF THIS SEAT. 6 by the template 'for every input the law returns true; each argument reads behind the call as it read before'; 0 by the template 'total and deterministic' (their statements: YthdcagdjgkblpaaDoorTotals.lean).
  GIVEN WITH THE SEED: the statements are not yours to turn. If you find one false, say at which input.
  Laid BY PROGRAM, IN A SANDBOX (cutbox-rows.mjs): the forced cells as the released guide's own fill.sh prints them over the translation a828cb76751755d2… (all of the seat's roots in one cut). By AI agents, Wed Nov 11 2026. No macro, syntax, notation, axiom, sorry.
-/
import Derived.Test.YthdcagdjgkblpaaDoorChecked
import GoSem.Claim
import GoSem.ClaimJoined
import GoSem.ClaimMapViews
import Derived.JoinedTies
import Derived.KernelRfl
namespace Go.Proofs.YthdcagdjgkblpaaDoor
/- THE CELL 'sum', in the pinned program and in every row, IS THE sha256 OF THE DUMP (.gsa) THAT YthdcagdjgkblpaaDoorProg.lean LOADS. Nothing in Lean hashes anything: it is a label: what it is worth is what the hold of that sum in a sandbox is worth. -/
noncomputable def Tryd.pinned : Pinned := { name := "ythdcagdjgkblpaadoor", sum := "a828cb76751755d21d256fb62300f9f4f2cb5795f6fe3edc3eed7acf0427de1c", checked := Tryd.checked }
namespace Rows
def none {H : Type} : Left H := { results := [], args := [] }

/- WHAT THE LISTED PACKAGE-LEVEL VARIABLES READ AS WHEN THE CALL BEGINS. Each datum BY PROGRAM (the guide's laid-datum.mjs) off the statement by which the dump's own 'gosem.cut.vars' lays the variable. In a bare row this is a premise. The card (YthdcagdjgkblpaaDoorCards.lean) ties it to the program's text. -/
def laid_lighterman_crc_halves {H : Type} : DataW H := .agg [.lit (.int .u32 0), .lit (.int .u32 274646895), .lit (.int .u32 549293790), .lit (.int .u32 820201905), .lit (.int .u32 1098587580), .lit (.int .u32 1361435347), .lit (.int .u32 1640403810), .lit (.int .u32 1905808397), .lit (.int .u32 2197175160), .lit (.int .u32 2460548119), .lit (.int .u32 2722870694), .lit (.int .u32 2987750089), .lit (.int .u32 3280807620), .lit (.int .u32 3553878443), .lit (.int .u32 3811616794), .lit (.int .u32 4084100981)]

/-- 'lightermanlaw22.LedgerReads': WHATEVER THE INPUT: true; the input reads as it did. -/
def ledgerReadsSpec : ChangeSpec := { name := "ledgerReads", fn := fun _ => fun
  | [d] => { results := [.lit (.bool true)], args := [d] }
  | _ => none }
def ledgerReadsRow : OpenClaim := { program := "ythdcagdjgkblpaadoor", sum := "a828cb76751755d21d256fb62300f9f4f2cb5795f6fe3edc3eed7acf0427de1c", func := "lighterman/lightermanlaw22.LedgerReads", spec := "ledgerReads", unfollowed := true, recurses := true, named := ["lighterman/crc.halves"], apart := false, laid := [("lighterman/crc.halves", laid_lighterman_crc_halves)] }
def LedgerReadsSaid : Prop := ledgerReadsRow.holds Tryd.pinned (OpenSpec.ofChange ledgerReadsSpec)

/-- ITS FALSE NEIGHBOUR: 'it returns false'. Refute it at one input. -/
def ledgerReadsWrong : ChangeSpec := { name := "ledgerReads", fn := fun _ => fun
  | [d] => { results := [.lit (.bool false)], args := [d] }
  | _ => none }
def LedgerReadsWrongFalsely : Prop := ledgerReadsRow.holds Tryd.pinned (OpenSpec.ofChange ledgerReadsWrong)

/-- 'lightermanlaw22.LedgerPuts': WHATEVER THE INPUT: true; the input reads as it did. -/
def ledgerPutsSpec : ChangeSpec := { name := "ledgerPuts", fn := fun _ => fun
  | [d] => { results := [.lit (.bool true)], args := [d] }
  | _ => none }
def ledgerPutsRow : OpenClaim := { program := "ythdcagdjgkblpaadoor", sum := "a828cb76751755d21d256fb62300f9f4f2cb5795f6fe3edc3eed7acf0427de1c", func := "lighterman/lightermanlaw22.LedgerPuts", spec := "ledgerPuts", unfollowed := true, recurses := true, named := ["lighterman/crc.halves"], apart := false, laid := [("lighterman/crc.halves", laid_lighterman_crc_halves)] }
def LedgerPutsSaid : Prop := ledgerPutsRow.holds Tryd.pinned (OpenSpec.ofChange ledgerPutsSpec)

/-- ITS FALSE NEIGHBOUR: 'it returns false'. Refute it at one input. -/
def ledgerPutsWrong : ChangeSpec := { name := "ledgerPuts", fn := fun _ => fun
  | [d] => { results := [.lit (.bool false)], args := [d] }
  | _ => none }
def LedgerPutsWrongFalsely : Prop := ledgerPutsRow.holds Tryd.pinned (OpenSpec.ofChange ledgerPutsWrong)

/-- 'lightermanlaw22.LedgerCuts': WHATEVER THE INPUT: true; the input reads as it did. -/
def ledgerCutsSpec : ChangeSpec := { name := "ledgerCuts", fn := fun _ => fun
  | [d1, d2, d3] => { results := [.lit (.bool true)], args := [d1, d2, d3] }
  | _ => none }
def ledgerCutsRow : OpenClaim := { program := "ythdcagdjgkblpaadoor", sum := "a828cb76751755d21d256fb62300f9f4f2cb5795f6fe3edc3eed7acf0427de1c", func := "lighterman/lightermanlaw22.LedgerCuts", spec := "ledgerCuts", unfollowed := true, recurses := true, named := ["lighterman/crc.halves"], apart := false, laid := [("lighterman/crc.halves", laid_lighterman_crc_halves)] }
def LedgerCutsSaid : Prop := ledgerCutsRow.holds Tryd.pinned (OpenSpec.ofChange ledgerCutsSpec)

/-- ITS FALSE NEIGHBOUR: 'it returns false'. Refute it at one input. -/
def ledgerCutsWrong : ChangeSpec := { name := "ledgerCuts", fn := fun _ => fun
  | [d1, d2, d3] => { results := [.lit (.bool false)], args := [d1, d2, d3] }
  | _ => none }
def LedgerCutsWrongFalsely : Prop := ledgerCutsRow.holds Tryd.pinned (OpenSpec.ofChange ledgerCutsWrong)

/-- 'lightermanlaw22.LedgerLast': WHATEVER THE INPUT: true; the input reads as it did. -/
def ledgerLastSpec : ChangeSpec := { name := "ledgerLast", fn := fun _ => fun
  | [d1, d2, d3] => { results := [.lit (.bool true)], args := [d1, d2, d3] }
  | _ => none }
def ledgerLastRow : OpenClaim := { program := "ythdcagdjgkblpaadoor", sum := "a828cb76751755d21d256fb62300f9f4f2cb5795f6fe3edc3eed7acf0427de1c", func := "lighterman/lightermanlaw22.LedgerLast", spec := "ledgerLast", unfollowed := true, recurses := true, named := ["lighterman/crc.halves"], apart := false, laid := [("lighterman/crc.halves", laid_lighterman_crc_halves)] }
def LedgerLastSaid : Prop := ledgerLastRow.holds Tryd.pinned (OpenSpec.ofChange ledgerLastSpec)

/-- ITS FALSE NEIGHBOUR: 'it returns false'. Refute it at one input. -/
def ledgerLastWrong : ChangeSpec := { name := "ledgerLast", fn := fun _ => fun
  | [d1, d2, d3] => { results := [.lit (.bool false)], args := [d1, d2, d3] }
  | _ => none }
def LedgerLastWrongFalsely : Prop := ledgerLastRow.holds Tryd.pinned (OpenSpec.ofChange ledgerLastWrong)

/-- 'lightermanlaw22.LedgerGaps': WHATEVER THE INPUT: true; the input reads as it did. -/
def ledgerGapsSpec : ChangeSpec := { name := "ledgerGaps", fn := fun _ => fun
  | [d1, d2, d3] => { results := [.lit (.bool true)], args := [d1, d2, d3] }
  | _ => none }
def ledgerGapsRow : OpenClaim := { program := "ythdcagdjgkblpaadoor", sum := "a828cb76751755d21d256fb62300f9f4f2cb5795f6fe3edc3eed7acf0427de1c", func := "lighterman/lightermanlaw22.LedgerGaps", spec := "ledgerGaps", unfollowed := true, recurses := true, named := ["lighterman/crc.halves"], apart := false, laid := [("lighterman/crc.halves", laid_lighterman_crc_halves)] }
def LedgerGapsSaid : Prop := ledgerGapsRow.holds Tryd.pinned (OpenSpec.ofChange ledgerGapsSpec)

/-- ITS FALSE NEIGHBOUR: 'it returns false'. Refute it at one input. -/
def ledgerGapsWrong : ChangeSpec := { name := "ledgerGaps", fn := fun _ => fun
  | [d1, d2, d3] => { results := [.lit (.bool false)], args := [d1, d2, d3] }
  | _ => none }
def LedgerGapsWrongFalsely : Prop := ledgerGapsRow.holds Tryd.pinned (OpenSpec.ofChange ledgerGapsWrong)

/-- 'lightermanlaw22.LedgerOld': WHATEVER THE INPUT: true; the input reads as it did. -/
def ledgerOldSpec : ChangeSpec := { name := "ledgerOld", fn := fun _ => fun
  | [d1, d2] => { results := [.lit (.bool true)], args := [d1, d2] }
  | _ => none }
def ledgerOldRow : OpenClaim := { program := "ythdcagdjgkblpaadoor", sum := "a828cb76751755d21d256fb62300f9f4f2cb5795f6fe3edc3eed7acf0427de1c", func := "lighterman/lightermanlaw22.LedgerOld", spec := "ledgerOld", unfollowed := true, recurses := true, named := ["lighterman/crc.halves"], apart := false, laid := [("lighterman/crc.halves", laid_lighterman_crc_halves)] }
def LedgerOldSaid : Prop := ledgerOldRow.holds Tryd.pinned (OpenSpec.ofChange ledgerOldSpec)

/-- ITS FALSE NEIGHBOUR: 'it returns false'. Refute it at one input. -/
def ledgerOldWrong : ChangeSpec := { name := "ledgerOld", fn := fun _ => fun
  | [d1, d2] => { results := [.lit (.bool false)], args := [d1, d2] }
  | _ => none }
def LedgerOldWrongFalsely : Prop := ledgerOldRow.holds Tryd.pinned (OpenSpec.ofChange ledgerOldWrong)

/- THE SECOND FORM. 'bulk': how many values and letters a reading holds, each counted each time it is reached (what is shared counts as often as it is met; a slice's spare places count too). A statement '..UptoSaid' is the law's where the arguments, and the package variables that the reading takes, are together of bulk at most 1048576: NARROWER than '..Said'. Prove '..Said' where nothing that the law and all that it calls make is longer than what came in: it says more and counts as full. Else prove '..UptoSaid'. A law counts once. -/
mutual
def uptoBulk {H : Type} : DataW H → Nat
  | .lit (.string bytes) => bytes.length + 1
  | .lit _ => 1
  | .nil => 1
  | .ptr d => uptoBulk d + 1
  | .slice elems spare => uptoBulkAll elems + uptoBulkAll spare + 1
  | .agg parts => uptoBulkAll parts + 1
  | .iface _ d => uptoBulk d + 1
  | .map entries => uptoBulkEntries entries + 1
  | .held _ => 1
def uptoBulkAll {H : Type} : List (DataW H) → Nat
  | [] => 0
  | d :: r => uptoBulk d + uptoBulkAll r
def uptoBulkEntries {H : Type} : List (Lit × DataW H) → Nat
  | [] => 0
  | x :: r => uptoBulkEntry x + uptoBulkEntries r
def uptoBulkEntry {H : Type} : Lit × DataW H → Nat
  | (.string bytes, d) => bytes.length + uptoBulk d + 1
  | (_, d) => uptoBulk d + 1
 end
def uptoSmall : (H : Type) → List (DataW H) → Bool := fun _ ds => decide (uptoBulkAll ds ≤ 1048576)
def OpenSpec.upto (s : _root_.Go.ChangeSpec) : _root_.Go.OpenSpec := { _root_.Go.OpenSpec.ofChange s with cond := some uptoSmall }

/-- 'lightermanlaw22.LedgerReads', WHERE WHAT IT READS IS OF BULK AT MOST 1048576: true; the input reads as it did. -/
def ledgerReadsUptoRow : OpenClaim := { program := "ythdcagdjgkblpaadoor", sum := "a828cb76751755d21d256fb62300f9f4f2cb5795f6fe3edc3eed7acf0427de1c", func := "lighterman/lightermanlaw22.LedgerReads", spec := "ledgerReads", unfollowed := true, recurses := true, named := ["lighterman/crc.halves"], apart := false, laid := [("lighterman/crc.halves", laid_lighterman_crc_halves)], narrowed := true }
def LedgerReadsUptoSaid : Prop := ledgerReadsUptoRow.holds Tryd.pinned (OpenSpec.upto ledgerReadsSpec)

/-- 'lightermanlaw22.LedgerPuts', WHERE WHAT IT READS IS OF BULK AT MOST 1048576: true; the input reads as it did. -/
def ledgerPutsUptoRow : OpenClaim := { program := "ythdcagdjgkblpaadoor", sum := "a828cb76751755d21d256fb62300f9f4f2cb5795f6fe3edc3eed7acf0427de1c", func := "lighterman/lightermanlaw22.LedgerPuts", spec := "ledgerPuts", unfollowed := true, recurses := true, named := ["lighterman/crc.halves"], apart := false, laid := [("lighterman/crc.halves", laid_lighterman_crc_halves)], narrowed := true }
def LedgerPutsUptoSaid : Prop := ledgerPutsUptoRow.holds Tryd.pinned (OpenSpec.upto ledgerPutsSpec)

/-- 'lightermanlaw22.LedgerCuts', WHERE WHAT IT READS IS OF BULK AT MOST 1048576: true; the input reads as it did. -/
def ledgerCutsUptoRow : OpenClaim := { program := "ythdcagdjgkblpaadoor", sum := "a828cb76751755d21d256fb62300f9f4f2cb5795f6fe3edc3eed7acf0427de1c", func := "lighterman/lightermanlaw22.LedgerCuts", spec := "ledgerCuts", unfollowed := true, recurses := true, named := ["lighterman/crc.halves"], apart := false, laid := [("lighterman/crc.halves", laid_lighterman_crc_halves)], narrowed := true }
def LedgerCutsUptoSaid : Prop := ledgerCutsUptoRow.holds Tryd.pinned (OpenSpec.upto ledgerCutsSpec)

/-- 'lightermanlaw22.LedgerLast', WHERE WHAT IT READS IS OF BULK AT MOST 1048576: true; the input reads as it did. -/
def ledgerLastUptoRow : OpenClaim := { program := "ythdcagdjgkblpaadoor", sum := "a828cb76751755d21d256fb62300f9f4f2cb5795f6fe3edc3eed7acf0427de1c", func := "lighterman/lightermanlaw22.LedgerLast", spec := "ledgerLast", unfollowed := true, recurses := true, named := ["lighterman/crc.halves"], apart := false, laid := [("lighterman/crc.halves", laid_lighterman_crc_halves)], narrowed := true }
def LedgerLastUptoSaid : Prop := ledgerLastUptoRow.holds Tryd.pinned (OpenSpec.upto ledgerLastSpec)

/-- 'lightermanlaw22.LedgerGaps', WHERE WHAT IT READS IS OF BULK AT MOST 1048576: true; the input reads as it did. -/
def ledgerGapsUptoRow : OpenClaim := { program := "ythdcagdjgkblpaadoor", sum := "a828cb76751755d21d256fb62300f9f4f2cb5795f6fe3edc3eed7acf0427de1c", func := "lighterman/lightermanlaw22.LedgerGaps", spec := "ledgerGaps", unfollowed := true, recurses := true, named := ["lighterman/crc.halves"], apart := false, laid := [("lighterman/crc.halves", laid_lighterman_crc_halves)], narrowed := true }
def LedgerGapsUptoSaid : Prop := ledgerGapsUptoRow.holds Tryd.pinned (OpenSpec.upto ledgerGapsSpec)

/-- 'lightermanlaw22.LedgerOld', WHERE WHAT IT READS IS OF BULK AT MOST 1048576: true; the input reads as it did. -/
def ledgerOldUptoRow : OpenClaim := { program := "ythdcagdjgkblpaadoor", sum := "a828cb76751755d21d256fb62300f9f4f2cb5795f6fe3edc3eed7acf0427de1c", func := "lighterman/lightermanlaw22.LedgerOld", spec := "ledgerOld", unfollowed := true, recurses := true, named := ["lighterman/crc.halves"], apart := false, laid := [("lighterman/crc.halves", laid_lighterman_crc_halves)], narrowed := true }
def LedgerOldUptoSaid : Prop := ledgerOldUptoRow.holds Tryd.pinned (OpenSpec.upto ledgerOldSpec)

end Rows
end Go.Proofs.YthdcagdjgkblpaaDoor
