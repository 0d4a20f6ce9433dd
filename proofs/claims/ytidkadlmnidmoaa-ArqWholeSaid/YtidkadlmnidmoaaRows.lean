/-
  No cell of these rows narrows 'for every input' (looked for: loops, veiled, ifaces, maps, wideKeys, modest, calm, conditions, laid).
  DERIVED. THE GIVEN ROWS OF THIS SEAT. 6 by the template 'for every input the law returns true; each argument reads behind the call as it read before'; 0 by the template 'total and deterministic' (their statements: YtidkadlmnidmoaaTotals.lean).
  GIVEN WITH THE SEED: the statements are not yours to turn. If you find one false, say at which input.
  Laid BY PROGRAM, IN A SANDBOX (cutbox-rows.mjs): the forced cells as the released guide's own fill.sh prints them over the translation 41e70967e64d20fd… (all of the seat's roots in one cut). By AI agents, Wed Nov 11 2026. No macro, syntax, notation, axiom, sorry.
-/
import Derived.Test.YtidkadlmnidmoaaChecked
import GoSem.Claim
import GoSem.ClaimJoined
import GoSem.ClaimMapViews
import Derived.JoinedTies
import Derived.KernelRfl
namespace Go.Proofs.Ytidkadlmnidmoaa
/- THE CELL 'sum', in the pinned program and in every row, IS THE sha256 OF THE DUMP (.gsa) THAT YtidkadlmnidmoaaProg.lean LOADS. Nothing in Lean hashes anything: it is a label: what it is worth is what the hold of that sum in a sandbox is worth. -/
noncomputable def Try.pinned : Pinned := { name := "ytidkadlmnidmoaa", sum := "41e70967e64d20fd31ee8ac6bafe86b131af446bece328151540dc4260888db3", checked := Try.checked }
namespace Rows
def none {H : Type} : Left H := { results := [], args := [] }

/-- 'lightermanlaw25.ArqAsked': WHATEVER THE INPUT: true; the input reads as it did. -/
def arqAskedSpec : ChangeSpec := { name := "arqAsked", fn := fun _ => fun
  | [d1, d2] => { results := [.lit (.bool true)], args := [d1, d2] }
  | _ => none }
def arqAskedRow : OpenClaim := { program := "ytidkadlmnidmoaa", sum := "41e70967e64d20fd31ee8ac6bafe86b131af446bece328151540dc4260888db3", func := "lighterman/lightermanlaw25.ArqAsked", spec := "arqAsked", inPlace := ["math/bits.Add64"], named := ["math/bits.divideError", "math/bits.overflowError"], apart := false }
def ArqAskedSaid : Prop := arqAskedRow.holds Try.pinned (OpenSpec.ofChange arqAskedSpec)

/-- ITS FALSE NEIGHBOUR: 'it returns false'. Refute it at one input. -/
def arqAskedWrong : ChangeSpec := { name := "arqAsked", fn := fun _ => fun
  | [d1, d2] => { results := [.lit (.bool false)], args := [d1, d2] }
  | _ => none }
def ArqAskedWrongFalsely : Prop := arqAskedRow.holds Try.pinned (OpenSpec.ofChange arqAskedWrong)

/-- 'lightermanlaw25.ArqWhole': WHATEVER THE INPUT: true; the input reads as it did. -/
def arqWholeSpec : ChangeSpec := { name := "arqWhole", fn := fun _ => fun
  | [d1, d2, d3] => { results := [.lit (.bool true)], args := [d1, d2, d3] }
  | _ => none }
def arqWholeRow : OpenClaim := { program := "ytidkadlmnidmoaa", sum := "41e70967e64d20fd31ee8ac6bafe86b131af446bece328151540dc4260888db3", func := "lighterman/lightermanlaw25.ArqWhole", spec := "arqWhole", inPlace := ["math/bits.Add64"], named := ["math/bits.divideError", "math/bits.overflowError"], apart := false }
def ArqWholeSaid : Prop := arqWholeRow.holds Try.pinned (OpenSpec.ofChange arqWholeSpec)

/-- ITS FALSE NEIGHBOUR: 'it returns false'. Refute it at one input. -/
def arqWholeWrong : ChangeSpec := { name := "arqWhole", fn := fun _ => fun
  | [d1, d2, d3] => { results := [.lit (.bool false)], args := [d1, d2, d3] }
  | _ => none }
def ArqWholeWrongFalsely : Prop := arqWholeRow.holds Try.pinned (OpenSpec.ofChange arqWholeWrong)

/-- 'lightermanlaw25.ArqClocks': WHATEVER THE INPUT: true; the input reads as it did. -/
def arqClocksSpec : ChangeSpec := { name := "arqClocks", fn := fun _ => fun
  | [d1, d2, d3, d4] => { results := [.lit (.bool true)], args := [d1, d2, d3, d4] }
  | _ => none }
def arqClocksRow : OpenClaim := { program := "ytidkadlmnidmoaa", sum := "41e70967e64d20fd31ee8ac6bafe86b131af446bece328151540dc4260888db3", func := "lighterman/lightermanlaw25.ArqClocks", spec := "arqClocks", inPlace := ["math/bits.Add64"], named := ["math/bits.divideError", "math/bits.overflowError"], apart := false }
def ArqClocksSaid : Prop := arqClocksRow.holds Try.pinned (OpenSpec.ofChange arqClocksSpec)

/-- ITS FALSE NEIGHBOUR: 'it returns false'. Refute it at one input. -/
def arqClocksWrong : ChangeSpec := { name := "arqClocks", fn := fun _ => fun
  | [d1, d2, d3, d4] => { results := [.lit (.bool false)], args := [d1, d2, d3, d4] }
  | _ => none }
def ArqClocksWrongFalsely : Prop := arqClocksRow.holds Try.pinned (OpenSpec.ofChange arqClocksWrong)

/-- 'lightermanlaw25.ArqRaw': WHATEVER THE INPUT: true; the input reads as it did. -/
def arqRawSpec : ChangeSpec := { name := "arqRaw", fn := fun _ => fun
  | [d1, d2] => { results := [.lit (.bool true)], args := [d1, d2] }
  | _ => none }
def arqRawRow : OpenClaim := { program := "ytidkadlmnidmoaa", sum := "41e70967e64d20fd31ee8ac6bafe86b131af446bece328151540dc4260888db3", func := "lighterman/lightermanlaw25.ArqRaw", spec := "arqRaw", inPlace := ["math/bits.Add64"], named := ["math/bits.divideError", "math/bits.overflowError"], apart := false }
def ArqRawSaid : Prop := arqRawRow.holds Try.pinned (OpenSpec.ofChange arqRawSpec)

/-- ITS FALSE NEIGHBOUR: 'it returns false'. Refute it at one input. -/
def arqRawWrong : ChangeSpec := { name := "arqRaw", fn := fun _ => fun
  | [d1, d2] => { results := [.lit (.bool false)], args := [d1, d2] }
  | _ => none }
def ArqRawWrongFalsely : Prop := arqRawRow.holds Try.pinned (OpenSpec.ofChange arqRawWrong)

/-- 'lightermanlaw25.ArqWaits': WHATEVER THE INPUT: true; the input reads as it did. -/
def arqWaitsSpec : ChangeSpec := { name := "arqWaits", fn := fun _ => fun
  | [d1, d2, d3, d4] => { results := [.lit (.bool true)], args := [d1, d2, d3, d4] }
  | _ => none }
def arqWaitsRow : OpenClaim := { program := "ytidkadlmnidmoaa", sum := "41e70967e64d20fd31ee8ac6bafe86b131af446bece328151540dc4260888db3", func := "lighterman/lightermanlaw25.ArqWaits", spec := "arqWaits", inPlace := ["math/bits.Add64"], named := ["math/bits.divideError", "math/bits.overflowError"], apart := false }
def ArqWaitsSaid : Prop := arqWaitsRow.holds Try.pinned (OpenSpec.ofChange arqWaitsSpec)

/-- ITS FALSE NEIGHBOUR: 'it returns false'. Refute it at one input. -/
def arqWaitsWrong : ChangeSpec := { name := "arqWaits", fn := fun _ => fun
  | [d1, d2, d3, d4] => { results := [.lit (.bool false)], args := [d1, d2, d3, d4] }
  | _ => none }
def ArqWaitsWrongFalsely : Prop := arqWaitsRow.holds Try.pinned (OpenSpec.ofChange arqWaitsWrong)

/-- 'lightermanlaw25.ArqLate': WHATEVER THE INPUT: true; the input reads as it did. -/
def arqLateSpec : ChangeSpec := { name := "arqLate", fn := fun _ => fun
  | [d1, d2, d3] => { results := [.lit (.bool true)], args := [d1, d2, d3] }
  | _ => none }
def arqLateRow : OpenClaim := { program := "ytidkadlmnidmoaa", sum := "41e70967e64d20fd31ee8ac6bafe86b131af446bece328151540dc4260888db3", func := "lighterman/lightermanlaw25.ArqLate", spec := "arqLate", inPlace := ["math/bits.Add64"], named := ["math/bits.divideError", "math/bits.overflowError"], apart := false }
def ArqLateSaid : Prop := arqLateRow.holds Try.pinned (OpenSpec.ofChange arqLateSpec)

/-- ITS FALSE NEIGHBOUR: 'it returns false'. Refute it at one input. -/
def arqLateWrong : ChangeSpec := { name := "arqLate", fn := fun _ => fun
  | [d1, d2, d3] => { results := [.lit (.bool false)], args := [d1, d2, d3] }
  | _ => none }
def ArqLateWrongFalsely : Prop := arqLateRow.holds Try.pinned (OpenSpec.ofChange arqLateWrong)

/- THE SECOND FORM. 'bulk': how many values and letters a reading holds, each counted each time it is reached (what is shared counts as often as it is met; a slice's spare places count too). A statement '..UptoSaid' is the law's where the arguments, and the package variables that the reading takes, are together of bulk at most 1048576: NARROWER than '..Said'. Prove '..Said' where nothing that the law and all that it calls make is longer than what came in: it says more and counts as full. Else prove '..UptoSaid'. A law counts once. -/
mutual
def uptoBulk {H : Type} : DataW H → Nat
  | .lit (.string bytes) => bytes.length + 1
  | .lit _ => 1
  | .nil => 1
  | .ptr d => uptoBulk d + 1
  | .slice elems spare => uptoBulkAll elems + uptoBulkAll spare + 1
  | .agg parts => uptoBulkAll parts + 1
  | .iface _ d => uptoBulk d + 1
  | .map entries => uptoBulkEntries entries + 1
  | .held _ => 1
def uptoBulkAll {H : Type} : List (DataW H) → Nat
  | [] => 0
  | d :: r => uptoBulk d + uptoBulkAll r
def uptoBulkEntries {H : Type} : List (Lit × DataW H) → Nat
  | [] => 0
  | x :: r => uptoBulkEntry x + uptoBulkEntries r
def uptoBulkEntry {H : Type} : Lit × DataW H → Nat
  | (.string bytes, d) => bytes.length + uptoBulk d + 1
  | (_, d) => uptoBulk d + 1
 end
def uptoSmall : (H : Type) → List (DataW H) → Bool := fun _ ds => decide (uptoBulkAll ds ≤ 1048576)
def OpenSpec.upto (s : _root_.Go.ChangeSpec) : _root_.Go.OpenSpec := { _root_.Go.OpenSpec.ofChange s with cond := some uptoSmall }

/-- 'lightermanlaw25.ArqAsked', WHERE WHAT IT READS IS OF BULK AT MOST 1048576: true; the input reads as it did. -/
def arqAskedUptoRow : OpenClaim := { program := "ytidkadlmnidmoaa", sum := "41e70967e64d20fd31ee8ac6bafe86b131af446bece328151540dc4260888db3", func := "lighterman/lightermanlaw25.ArqAsked", spec := "arqAsked", inPlace := ["math/bits.Add64"], named := ["math/bits.divideError", "math/bits.overflowError"], apart := false, narrowed := true }
def ArqAskedUptoSaid : Prop := arqAskedUptoRow.holds Try.pinned (OpenSpec.upto arqAskedSpec)

/-- 'lightermanlaw25.ArqWhole', WHERE WHAT IT READS IS OF BULK AT MOST 1048576: true; the input reads as it did. -/
def arqWholeUptoRow : OpenClaim := { program := "ytidkadlmnidmoaa", sum := "41e70967e64d20fd31ee8ac6bafe86b131af446bece328151540dc4260888db3", func := "lighterman/lightermanlaw25.ArqWhole", spec := "arqWhole", inPlace := ["math/bits.Add64"], named := ["math/bits.divideError", "math/bits.overflowError"], apart := false, narrowed := true }
def ArqWholeUptoSaid : Prop := arqWholeUptoRow.holds Try.pinned (OpenSpec.upto arqWholeSpec)

/-- 'lightermanlaw25.ArqClocks', WHERE WHAT IT READS IS OF BULK AT MOST 1048576: true; the input reads as it did. -/
def arqClocksUptoRow : OpenClaim := { program := "ytidkadlmnidmoaa", sum := "41e70967e64d20fd31ee8ac6bafe86b131af446bece328151540dc4260888db3", func := "lighterman/lightermanlaw25.ArqClocks", spec := "arqClocks", inPlace := ["math/bits.Add64"], named := ["math/bits.divideError", "math/bits.overflowError"], apart := false, narrowed := true }
def ArqClocksUptoSaid : Prop := arqClocksUptoRow.holds Try.pinned (OpenSpec.upto arqClocksSpec)

/-- 'lightermanlaw25.ArqRaw', WHERE WHAT IT READS IS OF BULK AT MOST 1048576: true; the input reads as it did. -/
def arqRawUptoRow : OpenClaim := { program := "ytidkadlmnidmoaa", sum := "41e70967e64d20fd31ee8ac6bafe86b131af446bece328151540dc4260888db3", func := "lighterman/lightermanlaw25.ArqRaw", spec := "arqRaw", inPlace := ["math/bits.Add64"], named := ["math/bits.divideError", "math/bits.overflowError"], apart := false, narrowed := true }
def ArqRawUptoSaid : Prop := arqRawUptoRow.holds Try.pinned (OpenSpec.upto arqRawSpec)

/-- 'lightermanlaw25.ArqWaits', WHERE WHAT IT READS IS OF BULK AT MOST 1048576: true; the input reads as it did. -/
def arqWaitsUptoRow : OpenClaim := { program := "ytidkadlmnidmoaa", sum := "41e70967e64d20fd31ee8ac6bafe86b131af446bece328151540dc4260888db3", func := "lighterman/lightermanlaw25.ArqWaits", spec := "arqWaits", inPlace := ["math/bits.Add64"], named := ["math/bits.divideError", "math/bits.overflowError"], apart := false, narrowed := true }
def ArqWaitsUptoSaid : Prop := arqWaitsUptoRow.holds Try.pinned (OpenSpec.upto arqWaitsSpec)

/-- 'lightermanlaw25.ArqLate', WHERE WHAT IT READS IS OF BULK AT MOST 1048576: true; the input reads as it did. -/
def arqLateUptoRow : OpenClaim := { program := "ytidkadlmnidmoaa", sum := "41e70967e64d20fd31ee8ac6bafe86b131af446bece328151540dc4260888db3", func := "lighterman/lightermanlaw25.ArqLate", spec := "arqLate", inPlace := ["math/bits.Add64"], named := ["math/bits.divideError", "math/bits.overflowError"], apart := false, narrowed := true }
def ArqLateUptoSaid : Prop := arqLateUptoRow.holds Try.pinned (OpenSpec.upto arqLateSpec)

end Rows
end Go.Proofs.Ytidkadlmnidmoaa
