/-
  Write, and the reference's, at every size.
-/
import Derived.Test.YtkblnlddamojoaaFrmPlain2
import Derived.Test.YtkblnlddamojoaaFrmOut1
import Derived.Test.YtkblnlddamojoaaFrmOut2
import Derived.Test.YtkblnlddamojoaaFrmOut3
import Derived.Test.YtkblnlddamojoaaFrmOut4
import Derived.Test.YtkblnlddamojoaaFrmRefW
import Derived.Test.YtkblnlddamojoaaFrmRefB
set_option linter.unusedVariables false
set_option linter.unusedSimpArgs false
namespace Go.Proofs.Ytkblnlddamojoaa.frm
open Go Go.RowKit Go.Lm Go.Proofs.Ytkblnlddamojoaa.cur

theorem write_c (w : World) (size : Nat) (hs : size < 18446744073709551616) (sum : Bool) : Calls Try.prog 11 #[.int .u64 size, .bool sum] w fun e w' => ∃ v, e = .returned v ∧ OV w' w.heap.size 5 v (([40, 181, 47, 253] ++ Frm.wr size sum).map u8v) ∧ Only [] w w' := by
  unfold Frm.wr Frm.wf Frm.wn
  rw [← List.append_assoc, ← magic_eq]
  by_cases c1 : size < 256
  · simp only [if_pos c1]
    cases sum
    · exact write_1_false w size hs c1
    · exact write_1_true w size hs c1
  · by_cases c2 : size < 65792
    · simp only [if_neg c1, if_pos c2]
      cases sum
      · exact write_2_false w size hs _ rfl c1 c2
      · exact write_2_true w size hs _ rfl c1 c2
    · by_cases c3 : size < 4294967296
      · simp only [if_neg c1, if_neg c2, if_pos c3]
        cases sum
        · exact write_3_false w size hs c2 c3
        · exact write_3_true w size hs c2 c3
      · simp only [if_neg c1, if_neg c2, if_neg c3]
        cases sum
        · exact write_4_false w size hs c3
        · exact write_4_true w size hs c3
theorem refwrite_c (w : World) (size : Nat) (hs : size < 18446744073709551616) (sum : Bool) : Calls Try.prog 12 #[.int .u64 size, .bool sum] w fun e w' => ∃ s, e = .returned (.string s) ∧ s.data.toList = [40, 181, 47, 253] ++ Frm.wr size sum ∧ Only [] w w' := by
  unfold Frm.wr Frm.wf Frm.wn
  rw [← List.append_assoc]
  by_cases c1 : size < 256
  · simp only [if_pos c1]
    cases sum
    · exact refwrite_1_false w size hs c1
    · exact refwrite_1_true w size hs c1
  · by_cases c2 : size < 65792
    · simp only [if_neg c1, if_pos c2]
      cases sum
      · exact refwrite_2_false w size hs c1 c2
      · exact refwrite_2_true w size hs c1 c2
    · by_cases c3 : size < 4294967296
      · simp only [if_neg c1, if_neg c2, if_pos c3]
        cases sum
        · exact refwrite_3_false w size hs c2 c3
        · exact refwrite_3_true w size hs c2 c3
      · simp only [if_neg c1, if_neg c2, if_neg c3]
        cases sum
        · exact refwrite_4_false w size hs c3
        · exact refwrite_4_true w size hs c3

/-- What a block's head is written as, is read. -/
theorem blk_put (b : Bool) (k s : Nat) (hk : k ≤ 2) (hs : s ≤ 2097151) : blk (Cur.put (blkN b k s) 3) = ((b, k, s), 0) := by
  have hlt : blkN b k s < 256 ^ 3 := by unfold blkN; split <;> omega
  have h := Frm.rnum_put (blkN b k s) 3 [] (by decide) (by decide) hlt
  rw [List.append_nil, show ((3 : Nat) : Int) = 3 from rfl] at h
  unfold blk
  rw [h]
  simp only []
  have e1 : blkN b k s / 2 % 4 = k := by unfold blkN; split <;> omega
  have e2 : blkN b k s / 8 = s := by unfold blkN; split <;> omega
  have e3 : (blkN b k s % 2 == 1) = b := by
    unfold blkN
    cases b
    · rw [beq_eq_false_iff_ne]; simp; omega
    · rw [beq_iff_eq]; simp; omega
  rw [if_neg (by simp), e1, if_neg (by omega), e2, e3]

/-- Block b holds a block's head. -/
def KC (w : World) (b : Nat) (t : TypeId) (l : Bool) (k s : Nat) : Prop := w.heap[b]? = some (.cells #[.bool l, .int .i64 (k : Int), .int .i64 (s : Int)] t (0, 0))
theorem KC.cells {w : World} {b : Nat} {t : TypeId} {l : Bool} {k s : Nat} (h : KC w b t l k s) : w.cell? ⟨b, 0, none⟩ = some (.bool l) ∧ w.cell? ⟨b, 1, none⟩ = some (.int .i64 (k : Int)) ∧ w.cell? ⟨b, 2, none⟩ = some (.int .i64 (s : Int)) := by
  unfold KC at h
  exact ⟨by rw [cell_of_row _ _ _ _ _ _ h]; rfl, by rw [cell_of_row _ _ _ _ _ _ h]; rfl, by rw [cell_of_row _ _ _ _ _ _ h]; rfl⟩
theorem KC.only {S : List Nat} {w w' : World} {b : Nat} {t : TypeId} {l : Bool} {k s : Nat} (h : KC w b t l k s) (ho : Only S w w') (hn : b ∉ S) : KC w' b t l k s := ho.heap h hn
theorem KC.new (w : World) (t : TypeId) (l : Bool) (k s : Nat) : KC (w.alloc (.cells #[.bool l, .int .i64 (k : Int), .int .i64 (s : Int)] t (0, 0))) w.heap.size t l k s := heap_alloc_new w _
theorem HC.new (w : World) (t : TypeId) (a b : Nat) (k s : Bool) : HC (w.alloc (.cells #[.int .u64 (a : Int), .int .u64 (b : Int), .bool k, .bool s] t (0, 0))) w.heap.size t a b k s := heap_alloc_new w _
theorem KC.lt {w : World} {b : Nat} {t : TypeId} {l : Bool} {k s : Nat} (h : KC w b t l k s) : b < w.heap.size := lt_of_block h
end Go.Proofs.Ytkblnlddamojoaa.frm
