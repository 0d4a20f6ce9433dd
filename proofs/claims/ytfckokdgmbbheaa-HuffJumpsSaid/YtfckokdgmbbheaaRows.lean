/-
  No cell of these rows narrows 'for every input' (looked for: loops, veiled, ifaces, maps, wideKeys, modest, calm, conditions, laid).
  DERIVED. THE GIVEN ROWS OF THIS SEAT. 6 by the template 'for every input the law returns true; each argument reads behind the call as it read before'; 0 by the template 'total and deterministic' (their statements: YtfckokdgmbbheaaTotals.lean).
  GIVEN WITH THE SEED: the statements are not yours to turn. If you find one false, say at which input.
  Laid BY PROGRAM, IN A SANDBOX (cutbox-rows.mjs): the forced cells as the released guide's own fill.sh prints them over the translation 391f8bbb3674dd0f… (all of the seat's roots in one cut). By AI agents, Wed Nov 11 2026. No macro, syntax, notation, axiom, sorry.
-/
import Derived.Test.YtfckokdgmbbheaaChecked
import GoSem.Claim
import GoSem.ClaimJoined
import GoSem.ClaimMapViews
import Derived.JoinedTies
import Derived.KernelRfl
namespace Go.Proofs.Ytfckokdgmbbheaa
/- THE CELL 'sum', in the pinned program and in every row, IS THE sha256 OF THE DUMP (.gsa) THAT YtfckokdgmbbheaaProg.lean LOADS. Nothing in Lean hashes anything: it is a label: what it is worth is what the hold of that sum in a sandbox is worth. -/
noncomputable def Try.pinned : Pinned := { name := "ytfckokdgmbbheaa", sum := "391f8bbb3674dd0f4ff79c83ed4e9480bc4ee7deeae6fc8d8b8aa4d85345d146", checked := Try.checked }
namespace Rows
def none {H : Type} : Left H := { results := [], args := [] }

/-- 'lightermanlaw09.HuffEqual': WHATEVER THE INPUT: true; the input reads as it did. -/
def huffEqualSpec : ChangeSpec := { name := "huffEqual", fn := fun _ => fun
  | [d1, d2] => { results := [.lit (.bool true)], args := [d1, d2] }
  | _ => none }
def huffEqualRow : OpenClaim := { program := "ytfckokdgmbbheaa", sum := "391f8bbb3674dd0f4ff79c83ed4e9480bc4ee7deeae6fc8d8b8aa4d85345d146", func := "lighterman/lightermanlaw09.HuffEqual", spec := "huffEqual", unfollowed := true, recurses := true, apart := false }
def HuffEqualSaid : Prop := huffEqualRow.holds Try.pinned (OpenSpec.ofChange huffEqualSpec)

/-- ITS FALSE NEIGHBOUR: 'it returns false'. Refute it at one input. -/
def huffEqualWrong : ChangeSpec := { name := "huffEqual", fn := fun _ => fun
  | [d1, d2] => { results := [.lit (.bool false)], args := [d1, d2] }
  | _ => none }
def HuffEqualWrongFalsely : Prop := huffEqualRow.holds Try.pinned (OpenSpec.ofChange huffEqualWrong)

/-- 'lightermanlaw09.HuffJumps': WHATEVER THE INPUT: true; the input reads as it did. -/
def huffJumpsSpec : ChangeSpec := { name := "huffJumps", fn := fun _ => fun
  | [d1, d2] => { results := [.lit (.bool true)], args := [d1, d2] }
  | _ => none }
def huffJumpsRow : OpenClaim := { program := "ytfckokdgmbbheaa", sum := "391f8bbb3674dd0f4ff79c83ed4e9480bc4ee7deeae6fc8d8b8aa4d85345d146", func := "lighterman/lightermanlaw09.HuffJumps", spec := "huffJumps", unfollowed := true, recurses := true, apart := false }
def HuffJumpsSaid : Prop := huffJumpsRow.holds Try.pinned (OpenSpec.ofChange huffJumpsSpec)

/-- ITS FALSE NEIGHBOUR: 'it returns false'. Refute it at one input. -/
def huffJumpsWrong : ChangeSpec := { name := "huffJumps", fn := fun _ => fun
  | [d1, d2] => { results := [.lit (.bool false)], args := [d1, d2] }
  | _ => none }
def HuffJumpsWrongFalsely : Prop := huffJumpsRow.holds Try.pinned (OpenSpec.ofChange huffJumpsWrong)

/-- 'lightermanlaw09.HuffDecodes': WHATEVER THE INPUT: true; the input reads as it did. -/
def huffDecodesSpec : ChangeSpec := { name := "huffDecodes", fn := fun _ => fun
  | [d1, d2, d3] => { results := [.lit (.bool true)], args := [d1, d2, d3] }
  | _ => none }
def huffDecodesRow : OpenClaim := { program := "ytfckokdgmbbheaa", sum := "391f8bbb3674dd0f4ff79c83ed4e9480bc4ee7deeae6fc8d8b8aa4d85345d146", func := "lighterman/lightermanlaw09.HuffDecodes", spec := "huffDecodes", unfollowed := true, recurses := true, apart := false }
def HuffDecodesSaid : Prop := huffDecodesRow.holds Try.pinned (OpenSpec.ofChange huffDecodesSpec)

/-- ITS FALSE NEIGHBOUR: 'it returns false'. Refute it at one input. -/
def huffDecodesWrong : ChangeSpec := { name := "huffDecodes", fn := fun _ => fun
  | [d1, d2, d3] => { results := [.lit (.bool false)], args := [d1, d2, d3] }
  | _ => none }
def HuffDecodesWrongFalsely : Prop := huffDecodesRow.holds Try.pinned (OpenSpec.ofChange huffDecodesWrong)

/-- 'lightermanlaw09.HuffEncodes': WHATEVER THE INPUT: true; the input reads as it did. -/
def huffEncodesSpec : ChangeSpec := { name := "huffEncodes", fn := fun _ => fun
  | [d1, d2] => { results := [.lit (.bool true)], args := [d1, d2] }
  | _ => none }
def huffEncodesRow : OpenClaim := { program := "ytfckokdgmbbheaa", sum := "391f8bbb3674dd0f4ff79c83ed4e9480bc4ee7deeae6fc8d8b8aa4d85345d146", func := "lighterman/lightermanlaw09.HuffEncodes", spec := "huffEncodes", unfollowed := true, recurses := true, apart := false }
def HuffEncodesSaid : Prop := huffEncodesRow.holds Try.pinned (OpenSpec.ofChange huffEncodesSpec)

/-- ITS FALSE NEIGHBOUR: 'it returns false'. Refute it at one input. -/
def huffEncodesWrong : ChangeSpec := { name := "huffEncodes", fn := fun _ => fun
  | [d1, d2] => { results := [.lit (.bool false)], args := [d1, d2] }
  | _ => none }
def HuffEncodesWrongFalsely : Prop := huffEncodesRow.holds Try.pinned (OpenSpec.ofChange huffEncodesWrong)

/-- 'lightermanlaw09.HuffFours': WHATEVER THE INPUT: true; the input reads as it did. -/
def huffFoursSpec : ChangeSpec := { name := "huffFours", fn := fun _ => fun
  | [d1, d2] => { results := [.lit (.bool true)], args := [d1, d2] }
  | _ => none }
def huffFoursRow : OpenClaim := { program := "ytfckokdgmbbheaa", sum := "391f8bbb3674dd0f4ff79c83ed4e9480bc4ee7deeae6fc8d8b8aa4d85345d146", func := "lighterman/lightermanlaw09.HuffFours", spec := "huffFours", unfollowed := true, recurses := true, apart := false }
def HuffFoursSaid : Prop := huffFoursRow.holds Try.pinned (OpenSpec.ofChange huffFoursSpec)

/-- ITS FALSE NEIGHBOUR: 'it returns false'. Refute it at one input. -/
def huffFoursWrong : ChangeSpec := { name := "huffFours", fn := fun _ => fun
  | [d1, d2] => { results := [.lit (.bool false)], args := [d1, d2] }
  | _ => none }
def HuffFoursWrongFalsely : Prop := huffFoursRow.holds Try.pinned (OpenSpec.ofChange huffFoursWrong)

/-- 'lightermanlaw09.HuffLeft': WHATEVER THE INPUT: true; the input reads as it did. -/
def huffLeftSpec : ChangeSpec := { name := "huffLeft", fn := fun _ => fun
  | [d1, d2] => { results := [.lit (.bool true)], args := [d1, d2] }
  | _ => none }
def huffLeftRow : OpenClaim := { program := "ytfckokdgmbbheaa", sum := "391f8bbb3674dd0f4ff79c83ed4e9480bc4ee7deeae6fc8d8b8aa4d85345d146", func := "lighterman/lightermanlaw09.HuffLeft", spec := "huffLeft", unfollowed := true, recurses := true, apart := false }
def HuffLeftSaid : Prop := huffLeftRow.holds Try.pinned (OpenSpec.ofChange huffLeftSpec)

/-- ITS FALSE NEIGHBOUR: 'it returns false'. Refute it at one input. -/
def huffLeftWrong : ChangeSpec := { name := "huffLeft", fn := fun _ => fun
  | [d1, d2] => { results := [.lit (.bool false)], args := [d1, d2] }
  | _ => none }
def HuffLeftWrongFalsely : Prop := huffLeftRow.holds Try.pinned (OpenSpec.ofChange huffLeftWrong)

/- THE SECOND FORM. 'bulk': how many values and letters a reading holds, each counted each time it is reached (what is shared counts as often as it is met; a slice's spare places count too). A statement '..UptoSaid' is the law's where the arguments, and the package variables that the reading takes, are together of bulk at most 1048576: NARROWER than '..Said'. Prove '..Said' where nothing that the law and all that it calls make is longer than what came in: it says more and counts as full. Else prove '..UptoSaid'. A law counts once. -/
mutual
def uptoBulk {H : Type} : DataW H → Nat
  | .lit (.string bytes) => bytes.length + 1
  | .lit _ => 1
  | .nil => 1
  | .ptr d => uptoBulk d + 1
  | .slice elems spare => uptoBulkAll elems + uptoBulkAll spare + 1
  | .agg parts => uptoBulkAll parts + 1
  | .iface _ d => uptoBulk d + 1
  | .map entries => uptoBulkEntries entries + 1
  | .held _ => 1
def uptoBulkAll {H : Type} : List (DataW H) → Nat
  | [] => 0
  | d :: r => uptoBulk d + uptoBulkAll r
def uptoBulkEntries {H : Type} : List (Lit × DataW H) → Nat
  | [] => 0
  | x :: r => uptoBulkEntry x + uptoBulkEntries r
def uptoBulkEntry {H : Type} : Lit × DataW H → Nat
  | (.string bytes, d) => bytes.length + uptoBulk d + 1
  | (_, d) => uptoBulk d + 1
 end
def uptoSmall : (H : Type) → List (DataW H) → Bool := fun _ ds => decide (uptoBulkAll ds ≤ 1048576)
def OpenSpec.upto (s : _root_.Go.ChangeSpec) : _root_.Go.OpenSpec := { _root_.Go.OpenSpec.ofChange s with cond := some uptoSmall }

/-- 'lightermanlaw09.HuffEqual', WHERE WHAT IT READS IS OF BULK AT MOST 1048576: true; the input reads as it did. -/
def huffEqualUptoRow : OpenClaim := { program := "ytfckokdgmbbheaa", sum := "391f8bbb3674dd0f4ff79c83ed4e9480bc4ee7deeae6fc8d8b8aa4d85345d146", func := "lighterman/lightermanlaw09.HuffEqual", spec := "huffEqual", unfollowed := true, recurses := true, apart := false, narrowed := true }
def HuffEqualUptoSaid : Prop := huffEqualUptoRow.holds Try.pinned (OpenSpec.upto huffEqualSpec)

/-- 'lightermanlaw09.HuffJumps', WHERE WHAT IT READS IS OF BULK AT MOST 1048576: true; the input reads as it did. -/
def huffJumpsUptoRow : OpenClaim := { program := "ytfckokdgmbbheaa", sum := "391f8bbb3674dd0f4ff79c83ed4e9480bc4ee7deeae6fc8d8b8aa4d85345d146", func := "lighterman/lightermanlaw09.HuffJumps", spec := "huffJumps", unfollowed := true, recurses := true, apart := false, narrowed := true }
def HuffJumpsUptoSaid : Prop := huffJumpsUptoRow.holds Try.pinned (OpenSpec.upto huffJumpsSpec)

/-- 'lightermanlaw09.HuffDecodes', WHERE WHAT IT READS IS OF BULK AT MOST 1048576: true; the input reads as it did. -/
def huffDecodesUptoRow : OpenClaim := { program := "ytfckokdgmbbheaa", sum := "391f8bbb3674dd0f4ff79c83ed4e9480bc4ee7deeae6fc8d8b8aa4d85345d146", func := "lighterman/lightermanlaw09.HuffDecodes", spec := "huffDecodes", unfollowed := true, recurses := true, apart := false, narrowed := true }
def HuffDecodesUptoSaid : Prop := huffDecodesUptoRow.holds Try.pinned (OpenSpec.upto huffDecodesSpec)

/-- 'lightermanlaw09.HuffEncodes', WHERE WHAT IT READS IS OF BULK AT MOST 1048576: true; the input reads as it did. -/
def huffEncodesUptoRow : OpenClaim := { program := "ytfckokdgmbbheaa", sum := "391f8bbb3674dd0f4ff79c83ed4e9480bc4ee7deeae6fc8d8b8aa4d85345d146", func := "lighterman/lightermanlaw09.HuffEncodes", spec := "huffEncodes", unfollowed := true, recurses := true, apart := false, narrowed := true }
def HuffEncodesUptoSaid : Prop := huffEncodesUptoRow.holds Try.pinned (OpenSpec.upto huffEncodesSpec)

/-- 'lightermanlaw09.HuffFours', WHERE WHAT IT READS IS OF BULK AT MOST 1048576: true; the input reads as it did. -/
def huffFoursUptoRow : OpenClaim := { program := "ytfckokdgmbbheaa", sum := "391f8bbb3674dd0f4ff79c83ed4e9480bc4ee7deeae6fc8d8b8aa4d85345d146", func := "lighterman/lightermanlaw09.HuffFours", spec := "huffFours", unfollowed := true, recurses := true, apart := false, narrowed := true }
def HuffFoursUptoSaid : Prop := huffFoursUptoRow.holds Try.pinned (OpenSpec.upto huffFoursSpec)

/-- 'lightermanlaw09.HuffLeft', WHERE WHAT IT READS IS OF BULK AT MOST 1048576: true; the input reads as it did. -/
def huffLeftUptoRow : OpenClaim := { program := "ytfckokdgmbbheaa", sum := "391f8bbb3674dd0f4ff79c83ed4e9480bc4ee7deeae6fc8d8b8aa4d85345d146", func := "lighterman/lightermanlaw09.HuffLeft", spec := "huffLeft", unfollowed := true, recurses := true, apart := false, narrowed := true }
def HuffLeftUptoSaid : Prop := huffLeftUptoRow.holds Try.pinned (OpenSpec.upto huffLeftSpec)

end Rows
end Go.Proofs.Ytfckokdgmbbheaa
