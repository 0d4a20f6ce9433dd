/-
  modelOf, walked.
-/
import Derived.Test.YtpgcfpfmicghnaaDoorMrkCheck
import Derived.Test.YtpgcfpfmicghnaaDoorMrkOf
set_option linter.unusedVariables false
set_option linter.unusedSimpArgs false
namespace Go.Proofs.YtpgcfpfmicghnaaDoor.mrk
open Go Go.RowKit Go.Lm Go.ChangeShapes Go.WideShapes Go.Proofs.YtpgcfpfmicghnaaDoor.sha

set_option maxRecDepth 100000 in
set_option maxHeartbeats 8000000 in
theorem modelof_c (w : World) (s p : Nat) (a : Option Addr) (n cap : Nat) : Calls Tryd.prog 23 #[.agg #[.int .u64 (s : Nat), .int .u32 (p : Nat), .slice a n cap]] w fun e w' => e = .returned (.agg #[.int .u64 (s : Nat), .int .u32 (p : Nat), .slice a n cap]) ∧ Only [] w w' := by
  go_enter Tryd.func23, Tryd.ntmps23
  go_upto_region 1 with fail
  generalize hg : World.alloc _ _ = w1
  have h2 := two w (.cells #[.int .u64 (s : Nat), .int .u32 (p : Nat), .slice a n cap] 35 (0, 0)) (.cells #[.int .u64 0, .int .u32 0, .slice none 0 0] 39 (0, 0))
  have he : w1 = (w.alloc (.cells #[.int .u64 (s : Nat), .int .u32 (p : Nat), .slice a n cap] 35 (0, 0))).alloc (.cells #[.int .u64 0, .int .u32 0, .slice none 0 0] 39 (0, 0)) := hg.symm.trans rfl
  rw [← he] at h2
  have HO1 : Hid (Only [] w w1) := Lib.hid (by rw [he]; exact ((Only.refl [] w).alloc _).alloc _)
  have HM : Hid (M3 w1 w.heap.size 35 s p (.slice a n cap)) := Lib.hid h2.1
  have HZ : Hid (M3 w1 (w.heap.size + 1) 39 0 0 (.slice none 0 0)) := Lib.hid h2.2
  clear hg he h2
  obtain ⟨q, hq⟩ : ∃ q, w.heap.size = q := ⟨_, rfl⟩
  rw [hq] at HM HZ ⊢
  have HQ := Lib.hid hq
  clear hq
  obtain ⟨c0, c1, c2, cf⟩ := HM.out.cells
  obtain ⟨d0, d1, d2, df⟩ := HZ.out.cells
  go_wp2_with fail
  --@1
  have hres := HZ.out.set3 s p (.slice a n cap)
  have hof : Only [] w (((w1.setCell ⟨q + 1, 0, none⟩ (.int .u64 (s : Nat))).setCell ⟨q + 1, 1, none⟩ (.int .u32 (p : Nat))).setCell ⟨q + 1, 2, none⟩ (.slice a n cap)) := ((HO1.out.setCell (.inr (by have := HQ.out; show w.heap.size ≤ q + 1; omega)) _).setCell (.inr (by have := HQ.out; show w.heap.size ≤ q + 1; omega)) _).setCell (.inr (by have := HQ.out; show w.heap.size ≤ q + 1; omega)) _
  refine bodyPost_ret (v := .agg #[.int .u64 (s : Nat), .int .u32 (p : Nat), .slice a n cap]) (results_cell_row rfl _ _ (q + 1) 39 _ (0, 0) _ rfl hres Tryd.underlying39 rfl (by kernel_rfl)) rfl ⟨rfl, hof⟩
end Go.Proofs.YtpgcfpfmicghnaaDoor.mrk
