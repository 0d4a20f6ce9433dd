/-
  THE WALKS of the reference's tables.
-/
import Derived.Test.YtkokenhgggodjaaDoorCodesWalks
import Derived.Test.YtkokenhgggodjaaDoorGen4
set_option linter.unusedVariables false
namespace Go.Proofs.YtkokenhgggodjaaDoor.codes
open Go Go.RowKit Go.Lm

theorem info_u32 : (Tryd.prog.info? 23).map (fun i => (i.zero, i.size, i.bytes)) = some (some (.int .u32 0), 1, 4) := by kernel_rfl
theorem info_int : (Tryd.prog.info? 3).map (fun i => (i.zero, i.size, i.bytes)) = some (some (.int .i64 0), 1, 8) := by kernel_rfl

theorem begins_0 (w : World) : Calls Tryd.prog 11 #[.int .i64 0] w fun e w' => ∃ v, e = .returned v ∧ VS w' v (u32s Codes.begins0) ∧ Only [] w w' := by
  go_enter Tryd.func11, Tryd.ntmps11
  go_wp2
  go_ret
  exact ⟨_, rfl, VS.of_block (heap_alloc_new w _) 36 36 _ rfl rfl (Nat.le_refl _) (by unfold maxLen; omega), (Only.refl _ _).alloc _⟩

theorem begins_2 (w : World) : Calls Tryd.prog 11 #[.int .i64 2] w fun e w' => ∃ v, e = .returned v ∧ VS w' v (u32s Codes.begins2) ∧ Only [] w w' := by
  go_enter Tryd.func11, Tryd.ntmps11
  go_wp2
  go_ret
  exact ⟨_, rfl, VS.of_block (heap_alloc_new w _) 53 53 _ rfl rfl (Nat.le_refl _) (by unfold maxLen; omega), (Only.refl _ _).alloc _⟩

theorem adds_0 (w : World) : Calls Tryd.prog 15 #[.int .i64 0] w fun e w' => ∃ v, e = .returned v ∧ VS w' v (i64s Codes.adds0) ∧ Only [] w w' := by
  go_enter Tryd.func15, Tryd.ntmps15
  go_wp2
  go_ret
  exact ⟨_, rfl, VS.of_block (heap_alloc_new w _) 36 36 _ rfl rfl (Nat.le_refl _) (by unfold maxLen; omega), (Only.refl _ _).alloc _⟩

theorem adds_2 (w : World) : Calls Tryd.prog 15 #[.int .i64 2] w fun e w' => ∃ v, e = .returned v ∧ VS w' v (i64s Codes.adds2) ∧ Only [] w w' := by
  go_enter Tryd.func15, Tryd.ntmps15
  go_wp2
  go_ret
  exact ⟨_, rfl, VS.of_block (heap_alloc_new w _) 53 53 _ rfl rfl (Nat.le_refl _) (by unfold maxLen; omega), (Only.refl _ _).alloc _⟩
end Go.Proofs.YtkokenhgggodjaaDoor.codes
