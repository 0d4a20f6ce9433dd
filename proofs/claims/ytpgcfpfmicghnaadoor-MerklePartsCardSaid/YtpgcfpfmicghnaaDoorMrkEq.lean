/-
  Digests compared.
-/
import Derived.Test.YtpgcfpfmicghnaaDoorMrkMem
import Derived.Test.YtpgcfpfmicghnaaDoorGen9
import Derived.Test.YtpgcfpfmicghnaaDoorGen2
set_option linter.unusedVariables false
namespace Go.Proofs.YtpgcfpfmicghnaaDoor.mrk
open Go Go.RowKit Go.Lm Go.Proofs.YtpgcfpfmicghnaaDoor.sha

theorem eq_guard : Tryd.prog.eqGuardType Tryd.prog.depth 25 = false := by kernel_rfl
theorem info_u8' : ∃ i, Tryd.prog.info? 5 = some i := Option.isSome_iff_exists.1 (by kernel_rfl)
theorem eq_sums (a b : List UInt8) (ha : a.length = 32) (hb : b.length = 32) (w : World) : (Op.equalIn 10000 25 (.agg (a.map u8v).toArray) (.agg (b.map u8v).toArray)).run Tryd.prog w = .ok (a == b) w := by
  obtain ⟨i, hi⟩ := info_u8'
  exact run_equalIn_u8s Tryd.underlying25 hi Tryd.underlying5 (by kernel_rfl) a b ha hb w
theorem eql_dv (a b : List UInt8) (ha : a.length = 32) (hb : b.length = 32) (w : World) : (binOp .eql 25 (dv a) (dv b)).run Tryd.prog w = .ok (.bool (a == b)) w := by
  unfold dv
  rw [run_eql_struct w, eq_sums a b ha hb w]; rfl
theorem neq_dv (a b : List UInt8) (ha : a.length = 32) (hb : b.length = 32) (w : World) : (binOp .neq 25 (dv a) (dv b)).run Tryd.prog w = .ok (.bool (!(a == b))) w := by
  unfold dv
  rw [run_neq_struct w, eq_sums a b ha hb w]; rfl
theorem guard_dv (op : BinOp) (a b : List UInt8) (x y : Operand) (w : World) : (eqGuard op 25 x y (dv a) (dv b)).run Tryd.prog w = .ok () w := by
  unfold dv
  exact run_eqGuard_agg w op _ x y _ _ eq_guard
end Go.Proofs.YtpgcfpfmicghnaaDoor.mrk
