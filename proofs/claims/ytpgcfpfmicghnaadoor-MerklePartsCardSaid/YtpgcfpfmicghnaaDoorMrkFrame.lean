/-
  THE FRAME of the rows of this seat: the tables that they list; a world for the witness.
-/
import Derived.Test.YtpgcfpfmicghnaaDoorMrkOpen
import Derived.Test.YtpgcfpfmicghnaaDoorCards
import Derived.Test.YtpgcfpfmicghnaaDoorTie
import Derived.Deep.DeepHandedRow
import Derived.Lib.LaidTab
set_option linter.unusedVariables false
namespace Go.Proofs.YtpgcfpfmicghnaaDoor.mrk
open Go Go.RowKit Go.Lm Go.ChangeShapes Go.WideShapes Go.ChangeAt Go.Proofs.YtpgcfpfmicghnaaDoor.sha

def T32 : List Int := [0, 1, 28, 2, 29, 14, 24, 3, 30, 22, 20, 15, 25, 17, 4, 8, 31, 27, 13, 23, 21, 19, 16, 7, 26, 12, 18, 6, 11, 5, 10, 9]
def T64 : List Int := [0, 1, 56, 2, 57, 49, 28, 3, 61, 58, 42, 50, 38, 29, 17, 4, 62, 47, 59, 36, 45, 43, 51, 22, 53, 39, 33, 30, 24, 18, 12, 5, 63, 55, 48, 27, 60, 41, 37, 16, 46, 35, 44, 21, 52, 32, 23, 11, 54, 26, 40, 15, 34, 20, 31, 10, 25, 14, 19, 9, 13, 8, 7, 6]
def KI : List Int := [1116352408, 1899447441, 3049323471, 3921009573, 961987163, 1508970993, 2453635748, 2870763221, 3624381080, 310598401, 607225278, 1426881987, 1925078388, 2162078206, 2614888103, 3248222580, 3835390401, 4022224774, 264347078, 604807628, 770255983, 1249150122, 1555081692, 1996064986, 2554220882, 2821834349, 2952996808, 3210313671, 3336571891, 3584528711, 113926993, 338241895, 666307205, 773529912, 1294757372, 1396182291, 1695183700, 1986661051, 2177026350, 2456956037, 2730485921, 2820302411, 3259730800, 3345764771, 3516065817, 3600352804, 4094571909, 275423344, 430227734, 506948616, 659060556, 883997877, 958139571, 1322822218, 1537002063, 1747873779, 1955562222, 2024104815, 2227730452, 2361852424, 2428436474, 2756734187, 3204031479, 3329325298]
theorem own : ownKnob Tryd.prog.godebug = none := by kernel_rfl
theorem laidOut : laidOutB Tryd.prog = true := by kernel_rfl
theorem g64 : Tryd.prog.globalNamed "math/bits.deBruijn64tab" = some 1 := by kernel_rfl
theorem t64 : (Tryd.prog.globals[1]?).map (·.type) = some 86 := by kernel_rfl
theorem c64 : Tryd.prog.cellsOf 86 = 64 := by kernel_rfl
theorem gK : Tryd.prog.globalNamed "lighterman/sha.rounds" = some 2 := by kernel_rfl
theorem tK : (Tryd.prog.globals[2]?).map (·.type) = some 72 := by kernel_rfl
theorem cK : Tryd.prog.cellsOf 72 = 64 := by kernel_rfl
theorem cU32 : Tryd.prog.cellsOf 33 = 1 := by kernel_rfl
theorem laidMet_tail {P : Program} {x : String × DataW Unit} {rest : List (String × DataW Unit)} {W : World} (h : laidMet P (x :: rest) W) : laidMet P rest W := by
  obtain ⟨n, d⟩ := x
  obtain ⟨ps, ⟨g', t', cs, fuel, p, q, hg', ht', hvar, hd, hr, rfl⟩, hn, hc⟩ := h
  exact ⟨q, hr, (List.nodup_append.1 hn).2.1, fun b off hm => hc b off (List.mem_append_right _ hm)⟩

def laidList : List (String × DataW Unit) := [("math/bits.deBruijn32tab", Rows.laid_math_bits_deBruijn32tab), ("math/bits.deBruijn64tab", Rows.laid_math_bits_deBruijn64tab), ("lighterman/sha.rounds", Rows.laid_lighterman_sha_rounds)]
theorem tz {W : World} (h : laidMetH Tryd.prog laidList W) : Tz W := by
  have h1 := laidMet_tail (P := Tryd.prog) (show laidMet Tryd.prog laidList W from h)
  have ht : Lib.TabIs Tryd.prog W "math/bits.deBruijn64tab" .u8 T64 := Lib.tabIs_of_head g64 t64 Tryd.underlying86 Tryd.underlying5 k8 c64 h1
  intro i hi
  rw [ht.cell g64 i hi]
  have : ∀ i, i < 64 → T64.getD i 0 = ((Lib.deBruijn64tab.getD i 0 : Nat) : Int) := by decide
  rw [this i hi]
theorem tab {W : World} (h : laidMetH Tryd.prog laidList W) : Tab W := by
  have h1 := laidMet_tail (P := Tryd.prog) (laidMet_tail (P := Tryd.prog) (show laidMet Tryd.prog laidList W from h))
  have ht : Lib.TabIs Tryd.prog W "lighterman/sha.rounds" .u32 KI := Lib.tabIs_of_head gK tK Tryd.underlying72 Tryd.underlying33 cU32 cK h1
  intro i hi
  rw [ht.cell gK i hi]
  have : ∀ i, i < 64 → KI.getD i 0 = ((Sha.K.getD i 0 : Nat) : Int) := by decide
  rw [this i hi]

/-- A WORLD FOR THE WITNESS: the settled one, the tables holding what their initialisers lay. -/
def setTab (cs : Array Value) : Obj → Obj
  | .cells _ t frozen => .cells cs t frozen
  | o => o
noncomputable def laidWorld (os : Os) : World :=
  { World.holding Tryd.prog os ⟨#[], #[], []⟩ with heap := (((World.holding Tryd.prog os ⟨#[], #[], []⟩).heap.modify 2 (setTab (KI.map (Value.int .u32)).toArray)).modify 0 (setTab (T32.map (Value.int .u8)).toArray)).modify 1 (setTab (T64.map (Value.int .u8)).toArray) }
end Go.Proofs.YtpgcfpfmicghnaaDoor.mrk
