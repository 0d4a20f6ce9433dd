/-
  Readers and writers that are none; the laws' awake.
-/
import Derived.Test.YthdcagdjgkblpaaDoorCurNums
import Derived.Lib.SlBytesConst
set_option linter.unusedVariables false
namespace Go.Proofs.YthdcagdjgkblpaaDoor.cur
open Go Go.RowKit Go.Lm

theorem only_below {w a b : World} {D : Nat} (h : Only [] w a) (k : Below D a b) (hD : w.heap.size ≤ D) : Only [] w b :=
  ⟨k.os.trans h.os, k.tape.trans h.tape, k.output.trans h.output, Nat.le_trans h.size k.size, fun i hi hn => (k.block i (by omega)).trans (h.block i hi hn)⟩
theorem only_own {w a b : World} {r : Nat} (h : Only [] w a) (k : Only [r] a b) (hr : w.heap.size ≤ r) : Only [] w b := h.trans k (by simp) (by simp; omega)

theorem number_nil (n : Int) (w : World) : Calls Tryd.prog 18 #[.pointer none, .int .i64 n] w fun x w' => x = .returned (.int .u64 0) ∧ w = w' := by
  go_enter Tryd.func18, Tryd.ntmps18
  go_wp2
  go_ret
  exact ⟨rfl, rfl⟩
theorem wnumber_nil (x n : Int) (w : World) : Calls Tryd.prog 22 #[.pointer none, .int .u64 x, .int .i64 n] w fun x w' => x = .returned (.tuple #[]) ∧ w = w' := by
  go_enter Tryd.func22, Tryd.ntmps22
  go_wp2
  go_returns
  exact ⟨rfl, rfl⟩
theorem out_nil (w : World) : Calls Tryd.prog 24 #[.pointer none] w fun x w' => x = .returned (.slice none 0 0) ∧ w = w' := by
  go_enter Tryd.func24, Tryd.ntmps24
  go_wp2
  go_ret
  exact ⟨rfl, rfl⟩

end Go.Proofs.YthdcagdjgkblpaaDoor.cur
