/-
  NARROWER THAN 'FOR EVERY INPUT', by the rows' own cells (each row's printed sentence says how): WirePuts: laid · WireGets: laid · WireBits: laid · WireCut: laid · WireFields: laid.
  DERIVED. THE GIVEN ROWS OF THIS SEAT. 5 by the template 'for every input the law returns true; each argument reads behind the call as it read before'; 0 by the template 'total and deterministic' (their statements: YtdoiebbbgmlkaaaDoorTotals.lean).
  GIVEN WITH THE SEED: the statements are not yours to turn. If you find one false, say at which input.
  Laid BY PROGRAM, IN A SANDBOX (cutbox-rows.mjs): the forced cells as the released guide's own fill.sh prints them over the translation db50d119cce4e737… (all of the seat's roots in one cut). By AI agents, Wed Nov 11 2026. No macro, syntax, notation, axiom, sorry.
-/
import Derived.Test.YtdoiebbbgmlkaaaDoorChecked
import GoSem.Claim
import GoSem.ClaimJoined
import GoSem.ClaimMapViews
import Derived.JoinedTies
import Derived.KernelRfl
namespace Go.Proofs.YtdoiebbbgmlkaaaDoor
/- THE CELL 'sum', in the pinned program and in every row, IS THE sha256 OF THE DUMP (.gsa) THAT YtdoiebbbgmlkaaaDoorProg.lean LOADS. Nothing in Lean hashes anything: it is a label: what it is worth is what the hold of that sum in a sandbox is worth. -/
noncomputable def Tryd.pinned : Pinned := { name := "ytdoiebbbgmlkaaadoor", sum := "db50d119cce4e737cbb862021fcec5efcf89c9565280c675907f11d8fe596179", checked := Tryd.checked }
namespace Rows
def none {H : Type} : Left H := { results := [], args := [] }

/- WHAT THE LISTED PACKAGE-LEVEL VARIABLES READ AS WHEN THE CALL BEGINS. Each datum BY PROGRAM (the guide's laid-datum.mjs) off the statement by which the dump's own 'gosem.cut.vars' lays the variable. In a bare row this is a premise. The card (YtdoiebbbgmlkaaaDoorCards.lean) ties it to the program's text. -/
def laid_lighterman_crc_halves {H : Type} : DataW H := .agg [.lit (.int .u32 0), .lit (.int .u32 274646895), .lit (.int .u32 549293790), .lit (.int .u32 820201905), .lit (.int .u32 1098587580), .lit (.int .u32 1361435347), .lit (.int .u32 1640403810), .lit (.int .u32 1905808397), .lit (.int .u32 2197175160), .lit (.int .u32 2460548119), .lit (.int .u32 2722870694), .lit (.int .u32 2987750089), .lit (.int .u32 3280807620), .lit (.int .u32 3553878443), .lit (.int .u32 3811616794), .lit (.int .u32 4084100981)]

/-- 'lightermanlaw24.WirePuts': WHATEVER THE INPUT: true; the input reads as it did. -/
def wirePutsSpec : ChangeSpec := { name := "wirePuts", fn := fun _ => fun
  | [d1, d2] => { results := [.lit (.bool true)], args := [d1, d2] }
  | _ => none }
def wirePutsRow : OpenClaim := { program := "ytdoiebbbgmlkaaadoor", sum := "db50d119cce4e737cbb862021fcec5efcf89c9565280c675907f11d8fe596179", func := "lighterman/lightermanlaw24.WirePuts", spec := "wirePuts", unfollowed := true, recurses := true, named := ["lighterman/crc.halves"], apart := false, laid := [("lighterman/crc.halves", laid_lighterman_crc_halves)] }
def WirePutsSaid : Prop := wirePutsRow.holds Tryd.pinned (OpenSpec.ofChange wirePutsSpec)

/-- ITS FALSE NEIGHBOUR: 'it returns false'. Refute it at one input. -/
def wirePutsWrong : ChangeSpec := { name := "wirePuts", fn := fun _ => fun
  | [d1, d2] => { results := [.lit (.bool false)], args := [d1, d2] }
  | _ => none }
def WirePutsWrongFalsely : Prop := wirePutsRow.holds Tryd.pinned (OpenSpec.ofChange wirePutsWrong)

/-- 'lightermanlaw24.WireGets': WHATEVER THE INPUT: true; the input reads as it did. -/
def wireGetsSpec : ChangeSpec := { name := "wireGets", fn := fun _ => fun
  | [d1, d2] => { results := [.lit (.bool true)], args := [d1, d2] }
  | _ => none }
def wireGetsRow : OpenClaim := { program := "ytdoiebbbgmlkaaadoor", sum := "db50d119cce4e737cbb862021fcec5efcf89c9565280c675907f11d8fe596179", func := "lighterman/lightermanlaw24.WireGets", spec := "wireGets", unfollowed := true, recurses := true, named := ["lighterman/crc.halves"], apart := false, laid := [("lighterman/crc.halves", laid_lighterman_crc_halves)] }
def WireGetsSaid : Prop := wireGetsRow.holds Tryd.pinned (OpenSpec.ofChange wireGetsSpec)

/-- ITS FALSE NEIGHBOUR: 'it returns false'. Refute it at one input. -/
def wireGetsWrong : ChangeSpec := { name := "wireGets", fn := fun _ => fun
  | [d1, d2] => { results := [.lit (.bool false)], args := [d1, d2] }
  | _ => none }
def WireGetsWrongFalsely : Prop := wireGetsRow.holds Tryd.pinned (OpenSpec.ofChange wireGetsWrong)

/-- 'lightermanlaw24.WireBits': WHATEVER THE INPUT: true; the input reads as it did. -/
def wireBitsSpec : ChangeSpec := { name := "wireBits", fn := fun _ => fun
  | [d1, d2, d3] => { results := [.lit (.bool true)], args := [d1, d2, d3] }
  | _ => none }
def wireBitsRow : OpenClaim := { program := "ytdoiebbbgmlkaaadoor", sum := "db50d119cce4e737cbb862021fcec5efcf89c9565280c675907f11d8fe596179", func := "lighterman/lightermanlaw24.WireBits", spec := "wireBits", unfollowed := true, recurses := true, named := ["lighterman/crc.halves"], apart := false, laid := [("lighterman/crc.halves", laid_lighterman_crc_halves)] }
def WireBitsSaid : Prop := wireBitsRow.holds Tryd.pinned (OpenSpec.ofChange wireBitsSpec)

/-- ITS FALSE NEIGHBOUR: 'it returns false'. Refute it at one input. -/
def wireBitsWrong : ChangeSpec := { name := "wireBits", fn := fun _ => fun
  | [d1, d2, d3] => { results := [.lit (.bool false)], args := [d1, d2, d3] }
  | _ => none }
def WireBitsWrongFalsely : Prop := wireBitsRow.holds Tryd.pinned (OpenSpec.ofChange wireBitsWrong)

/-- 'lightermanlaw24.WireCut': WHATEVER THE INPUT: true; the input reads as it did. -/
def wireCutSpec : ChangeSpec := { name := "wireCut", fn := fun _ => fun
  | [d1, d2, d3] => { results := [.lit (.bool true)], args := [d1, d2, d3] }
  | _ => none }
def wireCutRow : OpenClaim := { program := "ytdoiebbbgmlkaaadoor", sum := "db50d119cce4e737cbb862021fcec5efcf89c9565280c675907f11d8fe596179", func := "lighterman/lightermanlaw24.WireCut", spec := "wireCut", unfollowed := true, recurses := true, named := ["lighterman/crc.halves"], apart := false, laid := [("lighterman/crc.halves", laid_lighterman_crc_halves)] }
def WireCutSaid : Prop := wireCutRow.holds Tryd.pinned (OpenSpec.ofChange wireCutSpec)

/-- ITS FALSE NEIGHBOUR: 'it returns false'. Refute it at one input. -/
def wireCutWrong : ChangeSpec := { name := "wireCut", fn := fun _ => fun
  | [d1, d2, d3] => { results := [.lit (.bool false)], args := [d1, d2, d3] }
  | _ => none }
def WireCutWrongFalsely : Prop := wireCutRow.holds Tryd.pinned (OpenSpec.ofChange wireCutWrong)

/-- 'lightermanlaw24.WireFields': WHATEVER THE INPUT: true; the input reads as it did. -/
def wireFieldsSpec : ChangeSpec := { name := "wireFields", fn := fun _ => fun
  | [d] => { results := [.lit (.bool true)], args := [d] }
  | _ => none }
def wireFieldsRow : OpenClaim := { program := "ytdoiebbbgmlkaaadoor", sum := "db50d119cce4e737cbb862021fcec5efcf89c9565280c675907f11d8fe596179", func := "lighterman/lightermanlaw24.WireFields", spec := "wireFields", unfollowed := true, recurses := true, named := ["lighterman/crc.halves"], apart := false, laid := [("lighterman/crc.halves", laid_lighterman_crc_halves)] }
def WireFieldsSaid : Prop := wireFieldsRow.holds Tryd.pinned (OpenSpec.ofChange wireFieldsSpec)

/-- ITS FALSE NEIGHBOUR: 'it returns false'. Refute it at one input. -/
def wireFieldsWrong : ChangeSpec := { name := "wireFields", fn := fun _ => fun
  | [d] => { results := [.lit (.bool false)], args := [d] }
  | _ => none }
def WireFieldsWrongFalsely : Prop := wireFieldsRow.holds Tryd.pinned (OpenSpec.ofChange wireFieldsWrong)

/- THE SECOND FORM. 'bulk': how many values and letters a reading holds, each counted each time it is reached (what is shared counts as often as it is met; a slice's spare places count too). A statement '..UptoSaid' is the law's where the arguments, and the package variables that the reading takes, are together of bulk at most 1048576: NARROWER than '..Said'. Prove '..Said' where nothing that the law and all that it calls make is longer than what came in: it says more and counts as full. Else prove '..UptoSaid'. A law counts once. -/
mutual
def uptoBulk {H : Type} : DataW H → Nat
  | .lit (.string bytes) => bytes.length + 1
  | .lit _ => 1
  | .nil => 1
  | .ptr d => uptoBulk d + 1
  | .slice elems spare => uptoBulkAll elems + uptoBulkAll spare + 1
  | .agg parts => uptoBulkAll parts + 1
  | .iface _ d => uptoBulk d + 1
  | .map entries => uptoBulkEntries entries + 1
  | .held _ => 1
def uptoBulkAll {H : Type} : List (DataW H) → Nat
  | [] => 0
  | d :: r => uptoBulk d + uptoBulkAll r
def uptoBulkEntries {H : Type} : List (Lit × DataW H) → Nat
  | [] => 0
  | x :: r => uptoBulkEntry x + uptoBulkEntries r
def uptoBulkEntry {H : Type} : Lit × DataW H → Nat
  | (.string bytes, d) => bytes.length + uptoBulk d + 1
  | (_, d) => uptoBulk d + 1
 end
def uptoSmall : (H : Type) → List (DataW H) → Bool := fun _ ds => decide (uptoBulkAll ds ≤ 1048576)
def OpenSpec.upto (s : _root_.Go.ChangeSpec) : _root_.Go.OpenSpec := { _root_.Go.OpenSpec.ofChange s with cond := some uptoSmall }

/-- 'lightermanlaw24.WirePuts', WHERE WHAT IT READS IS OF BULK AT MOST 1048576: true; the input reads as it did. -/
def wirePutsUptoRow : OpenClaim := { program := "ytdoiebbbgmlkaaadoor", sum := "db50d119cce4e737cbb862021fcec5efcf89c9565280c675907f11d8fe596179", func := "lighterman/lightermanlaw24.WirePuts", spec := "wirePuts", unfollowed := true, recurses := true, named := ["lighterman/crc.halves"], apart := false, laid := [("lighterman/crc.halves", laid_lighterman_crc_halves)], narrowed := true }
def WirePutsUptoSaid : Prop := wirePutsUptoRow.holds Tryd.pinned (OpenSpec.upto wirePutsSpec)

/-- 'lightermanlaw24.WireGets', WHERE WHAT IT READS IS OF BULK AT MOST 1048576: true; the input reads as it did. -/
def wireGetsUptoRow : OpenClaim := { program := "ytdoiebbbgmlkaaadoor", sum := "db50d119cce4e737cbb862021fcec5efcf89c9565280c675907f11d8fe596179", func := "lighterman/lightermanlaw24.WireGets", spec := "wireGets", unfollowed := true, recurses := true, named := ["lighterman/crc.halves"], apart := false, laid := [("lighterman/crc.halves", laid_lighterman_crc_halves)], narrowed := true }
def WireGetsUptoSaid : Prop := wireGetsUptoRow.holds Tryd.pinned (OpenSpec.upto wireGetsSpec)

/-- 'lightermanlaw24.WireBits', WHERE WHAT IT READS IS OF BULK AT MOST 1048576: true; the input reads as it did. -/
def wireBitsUptoRow : OpenClaim := { program := "ytdoiebbbgmlkaaadoor", sum := "db50d119cce4e737cbb862021fcec5efcf89c9565280c675907f11d8fe596179", func := "lighterman/lightermanlaw24.WireBits", spec := "wireBits", unfollowed := true, recurses := true, named := ["lighterman/crc.halves"], apart := false, laid := [("lighterman/crc.halves", laid_lighterman_crc_halves)], narrowed := true }
def WireBitsUptoSaid : Prop := wireBitsUptoRow.holds Tryd.pinned (OpenSpec.upto wireBitsSpec)

/-- 'lightermanlaw24.WireCut', WHERE WHAT IT READS IS OF BULK AT MOST 1048576: true; the input reads as it did. -/
def wireCutUptoRow : OpenClaim := { program := "ytdoiebbbgmlkaaadoor", sum := "db50d119cce4e737cbb862021fcec5efcf89c9565280c675907f11d8fe596179", func := "lighterman/lightermanlaw24.WireCut", spec := "wireCut", unfollowed := true, recurses := true, named := ["lighterman/crc.halves"], apart := false, laid := [("lighterman/crc.halves", laid_lighterman_crc_halves)], narrowed := true }
def WireCutUptoSaid : Prop := wireCutUptoRow.holds Tryd.pinned (OpenSpec.upto wireCutSpec)

/-- 'lightermanlaw24.WireFields', WHERE WHAT IT READS IS OF BULK AT MOST 1048576: true; the input reads as it did. -/
def wireFieldsUptoRow : OpenClaim := { program := "ytdoiebbbgmlkaaadoor", sum := "db50d119cce4e737cbb862021fcec5efcf89c9565280c675907f11d8fe596179", func := "lighterman/lightermanlaw24.WireFields", spec := "wireFields", unfollowed := true, recurses := true, named := ["lighterman/crc.halves"], apart := false, laid := [("lighterman/crc.halves", laid_lighterman_crc_halves)], narrowed := true }
def WireFieldsUptoSaid : Prop := wireFieldsUptoRow.holds Tryd.pinned (OpenSpec.upto wireFieldsSpec)

end Rows
end Go.Proofs.YtdoiebbbgmlkaaaDoor
