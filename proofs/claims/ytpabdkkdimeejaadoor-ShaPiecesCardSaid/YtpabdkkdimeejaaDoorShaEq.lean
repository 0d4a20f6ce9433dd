/-
  Digests compared; Sum by the digest's name.
-/
import Derived.Test.YtpabdkkdimeejaaDoorShaAwake
import Derived.Test.YtpabdkkdimeejaaDoorGen2
set_option linter.unusedVariables false
namespace Go.Proofs.YtpabdkkdimeejaaDoor.sha
open Go Go.RowKit Go.Lm

theorem eql_dv (a b : List UInt8) (ha : a.length = 32) (hb : b.length = 32) (w : World) : (binOp .eql 29 (dv a) (dv b)).run Tryd.prog w = .ok (.bool (a == b)) w := by
  unfold dv
  rw [run_eql_struct w, eq_sums a b ha hb w]; rfl
theorem neq_dv (a b : List UInt8) (ha : a.length = 32) (hb : b.length = 32) (w : World) : (binOp .neq 29 (dv a) (dv b)).run Tryd.prog w = .ok (.bool (!(a == b))) w := by
  unfold dv
  rw [run_neq_struct w, eq_sums a b ha hb w]; rfl
theorem guard_dv (op : BinOp) (a b : List UInt8) (x y : Operand) (w : World) : (eqGuard op 29 x y (dv a) (dv b)).run Tryd.prog w = .ok () w := by
  unfold dv
  exact run_eqGuard_agg w op _ x y _ _ eq_guard
theorem eql_same (l : List UInt8) (w : World) : (binOp .eql 29 (dv (Sha.sum l)) (dv (Sha.sum l))).run Tryd.prog w = .ok (.bool true) w := by
  rw [eql_dv _ _ (Sha.sum_length l) (Sha.sum_length l) w, beq_self_eq_true]
theorem neq_same (l : List UInt8) (w : World) : (binOp .neq 29 (dv (Sha.sum l)) (dv (Sha.sum l))).run Tryd.prog w = .ok (.bool false) w := by
  rw [neq_dv _ _ (Sha.sum_length l) (Sha.sum_length l) w, beq_self_eq_true]; rfl
theorem sum_d (b : Nat) (w : World) (l : List UInt8) (hb : HB w b l) (hT : Tab w) (hl : l.length ≤ 100000000) :
    Calls Tryd.prog 10 #[.pointer (some ⟨b, 0, none⟩)] w fun e w' => e = .returned (dv (Sha.sum l)) ∧ Only [] w w' := sum_c b w l hb hT hl
end Go.Proofs.YtpabdkkdimeejaaDoor.sha
