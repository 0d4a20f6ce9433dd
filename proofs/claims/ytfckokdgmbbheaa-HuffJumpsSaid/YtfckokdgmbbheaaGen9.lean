/-
  GENERAL, MORE: two arrays of bytes compared. Of no program.
-/
import Derived.Test.YtfckokdgmbbheaaGen3
import Derived.ChangeKeysEq
import Derived.Laws.Rows
set_option linter.unusedVariables false
namespace Go.Lm
open Go Go.RowKit Go.ChangeShapes Go.WideShapes

section
variable {P : Program}
theorem run_part_u8 {e : TypeId} (he : P.underlying e = some (.int .u8)) (l : List UInt8) (j : Nat) (hj : j < l.length) (w : World) : (part e (l.map u8v).toArray j).run P w = .ok (u8v l[j]) w := by
  have h1 : (isAgg e).run P w = .ok false w := by
    unfold isAgg
    rw [Sem.run_bind, run_underlying he w]
    rfl
  have hc : (l.map u8v).toArray[j]? = some (u8v l[j]) := by simp [hj]
  simp only [part, Sem.run_bind, h1, Result.andThen_ok, hc]
  rfl
theorem run_eqItems_u8 (d : Nat) {e : TypeId} (he : P.underlying e = some (.int .u8)) (hc : P.cellsOf e = 1) (a b : List UInt8) (w : World) : ∀ is : List Nat, (∀ i ∈ is, i < a.length ∧ i < b.length) →
    (Op.eqItems (d + 1) e (P.cellsOf e) (a.map u8v).toArray (b.map u8v).toArray is).run P w = .ok (decide (∀ i ∈ is, a[i]? = b[i]?)) w
  | [], _ => by simp [Op.eqItems]
  | i :: is, h => by
    obtain ⟨h1, h2⟩ := h i (by simp)
    have ih := run_eqItems_u8 d he hc a b w is (fun j hj => h j (by simp [hj]))
    simp only [Op.eqItems, Sem.run_bind, hc, Nat.mul_one, run_part_u8 he a i h1 w, run_part_u8 he b i h2 w, Result.andThen_ok]
    rw [hc] at ih
    rw [show u8v a[i] = Value.int .u8 (a[i].toNat : Int) from rfl, show u8v b[i] = Value.int .u8 (b[i].toNat : Int) from rfl, run_equalIn_int w d e .u8 .u8 _ _ he]
    simp only [Result.andThen_ok]
    by_cases hab : a[i] = b[i]
    · have hb : ((a[i].toNat : Int) == (b[i].toNat : Int)) = true := by rw [hab]; simp
      rw [hb]
      simp only [Bool.not_true, Bool.false_eq_true, if_false]
      rw [ih]
      congr 1
      simp [List.getElem?_eq_getElem h1, List.getElem?_eq_getElem h2, hab]
    · have hb : ((a[i].toNat : Int) == (b[i].toNat : Int)) = false := by
        rw [beq_eq_false_iff_ne]
        intro e
        exact hab (UInt8.toNat_inj.1 (by omega))
      rw [hb]
      simp [List.getElem?_eq_getElem h1, List.getElem?_eq_getElem h2, hab]
theorem run_equalIn_u8s {t e : TypeId} {n : Nat} {i : TypeInfo} (ht : P.underlying t = some (.array n e)) (hi : P.info? e = some i) (he : P.underlying e = some (.int .u8)) (hc : P.cellsOf e = 1) (a b : List UInt8) (ha : a.length = n) (hb : b.length = n) (w : World) :
    (Op.equalIn 10000 t (.agg (a.map u8v).toArray) (.agg (b.map u8v).toArray)).run P w = .ok (a == b) w := by
  rw [run_equalIn_array w 9999 _ _ ht hi, run_eqItems_u8 9998 he hc a b w _ (fun j hj => by simp at hj; omega)]
  congr 1
  by_cases hab : a = b
  · subst hab; simp
  · have h1 : (a == b) = false := by simpa using hab
    rw [h1, decide_eq_false_iff_not]
    intro h
    apply hab
    apply List.ext_getElem?
    intro j
    by_cases hj : j < n
    · exact h j (by simpa using hj)
    · rw [List.getElem?_eq_none (by omega), List.getElem?_eq_none (by omega)]
theorem Later.heap {S : List Nat} {w : World} {k : Nat} {o : Obj} (h : w.heap[k]? = some o) (hn : k ∉ S) (x : Later S w) : x.at'.heap[k]? = some o := x.only.heap h hn
/-- A whole array out of a block, in a region whose callees make memory but turn nothing. -/
theorem quiet_load_row {ops : Array Oper} {C : World → Prop} {o : Oper} {a : Act} {K : Act → Prop} (hgd : o.guard = none) (ty : TypeId) (x : Operand) (ho : o.op = .load ty x)
    (g : Nat) (hx : a.eval x = .pointer (some ⟨g, 0, none⟩)) (cs : Array Value) (t : TypeId) (fr : Nat × Nat) (d : TypeDesc) (hg : ∀ w, C w → w.heap[g]? = some (.cells cs t fr))
    (hu : P.underlying ty = some d) (hd : (match d with | .struct _ | .array _ _ => true | _ => false) = true) (hi : (P.info? ty).map (·.size) = some cs.size)
    (h : K (a.put o.dst (.agg cs))) : if Region.wanted o (yielded ops a.tmps) then o.quiet P a C K else K (a.put o.dst undef) := by
  have hw : Region.wanted o (yielded ops a.tmps) = true := by simp [Region.wanted, hgd]
  rw [if_pos hw]
  refine ⟨_, fun w hC => ?_, h⟩
  unfold Oper.quietAt execOp
  simp only [ho, hx, Instr.loadAt, Instr.sureAddr, Sem.run_bind, Sem.run_pure, Result.andThen_ok, run_loadVar_row w g t ty cs fr d (hg w hC) hu hd hi]
  exact ⟨rfl, rfl⟩
end
end Go.Lm
