/-
  GENERAL, MORE: a copy into a block that is known whole, with the exact frame; a stretch of cells stored. Of no program.
-/
import Derived.Test.YtfckokdgmbbheaaGen6
import Derived.Laws.CopyOwn
import Derived.Deep.MidRow
import Derived.StillTailTactics
set_option linter.unusedVariables false
namespace Go.Lm
open Go Go.RowKit Go.ChangeShapes Go.WideShapes

/-- 'copy' as a step of a region: only block g has turned. -/
theorem step_copy_only {P : Program} {ops : Array Oper} {o : Oper} {a : Act} {w : World} {K : Act → World → Prop} {Q : Exit → Act → World → Prop} {E : Prop} (hgd : o.guard = none) (d s : Operand) (dT sT : TypeId)
    (ho : o.op = .call { callee := .builtin .copy, args := #[d, s], argTypes := #[dT, sT] }) (elem : TypeId) (hu : P.underlying dT = some (.slice elem)) (hsz : (P.info? elem).map (·.size) = some 1)
    (dp sp : Option Addr) (dLen dCap sLen sCap : Nat) (hd : a.eval d = .slice dp dLen dCap) (hs : a.eval s = .slice sp sLen sCap)
    (g off : Nat) (cur : List Value) (t : TypeId) (hg : w.heap[g]? = some (.cells cur.toArray t (0, 0))) (cs : List Value) (hn : cs.length = Nat.min sLen dLen)
    (hpos : 0 < cs.length → dp = some ⟨g, off, none⟩ ∧ ∃ ad, sp = some ad ∧ ∀ j v, cs[j]? = some v → w.cell? (ad.add j) = some v)
    (hfit : off + cs.length ≤ cur.length) (h1 : ∀ v ∈ cs, v.oneCell' = true)
    (h : ∀ w', Hid (w'.heap[g]? = some (.cells (splice cur off cs).toArray t (0, 0))) → Hid (Only [g] w w') → K (a.put o.dst (goInt cs.length)) w') :
    if Region.wanted o (yielded ops a.tmps) = true then Oper.wp P o a w K Q else E := by
  have hw : Region.wanted o (yielded ops a.tmps) = true := by simp [Region.wanted, hgd]
  rw [if_pos hw]
  by_cases h0 : cs.length = 0
  · obtain rfl : cs = [] := List.eq_nil_of_length_eq_zero h0
    have hrun := run_copy_none (P := P) w dT sT o.type elem dp sp dLen dCap sLen sCap hu hsz (by simpa using hn.symm)
    unfold Oper.wp
    simp [execOp, ho, resolve, invoke, builtin, hd, hs, hrun, Result.andThen]
    exact h w (show _ = _ by simpa [splice] using hg) (Only.refl _ _)
  · obtain ⟨rfl, ad, rfl, hsrc⟩ := hpos (by omega)
    have hrun := run_copy_row (P := P) w dT sT o.type elem g off dLen dCap ad sLen sCap cur.toArray t cs hu hsz hg hn hsrc (by simpa using hfit) h1
    unfold Oper.wp
    simp [execOp, ho, resolve, invoke, builtin, hd, hs, hrun, Result.andThen]
    exact h _ (show _ = _ by simpa [splice] using setRow_heap w g _ _ t _ hg) ((Only.refl [g] w).setRow (.inl (by simp)) _)

/-- A load of many cells, in the still part of a region. -/
theorem still_load_mid {P : Program} {ops : Array Oper} {o : Oper} {a : Act} {w : World} {K : Act → Prop} (hgd : o.guard = none) (ty : TypeId) (x : Operand) (ho : o.op = .load ty x)
    (b off : Nat) (hx : a.eval x = .pointer (some ⟨b, off, none⟩)) (cs : List Value) (d : TypeDesc) (hc : w.rangeAt b off cs)
    (hu : P.underlying ty = some d) (hd : d.isRow = true) (hi : (P.info? ty).map (·.size) = some cs.length)
    (h : K (a.put o.dst (.agg cs.toArray))) : if Region.wanted o (yielded ops a.tmps) then o.still P a w K else K (a.put o.dst undef) := by
  have hw : Region.wanted o (yielded ops a.tmps) = true := by simp [Region.wanted, hgd]
  rw [if_pos hw]
  unfold Oper.still execOp
  simp only [ho, hx, Instr.loadAt, Instr.sureAddr, Sem.run_bind, Sem.run_pure, Result.andThen_ok, run_loadVar_mid w b off ty cs d hc hu hd hi]
  exact ⟨rfl, h⟩
theorem rangeAt_only {S : List Nat} {w w' : World} {b o : Nat} {cs : List Value} (h : w.rangeAt b o cs) (ho : Only S w w') (hb : b ∉ S) : w'.rangeAt b o cs := fun j v hv => ho.cell (h j v hv) hb
theorem there_only {S : List Nat} {w w' : World} {b o n : Nat} (h : w.there b o n) (ho : Only S w w') (hb : b ∉ S) : w'.there b o n := fun j hj => by
  obtain ⟨h1, h2⟩ := h j hj
  obtain ⟨u, hu⟩ := Option.isSome_iff_exists.1 h1
  have hlt := World.block_lt_of_cell? w _ hu
  refine ⟨by rw [ho.cell hu hb]; rfl, ?_⟩
  have e := ho.block b hlt hb
  simp only [World.frozen?] at h2 ⊢
  rw [e]; exact h2
theorem heap_setCells {b : Nat} {t : TypeId} : ∀ (vs : List Value) (o : Nat) (w : World) (cs : List Value), w.heap[b]? = some (.cells cs.toArray t (0, 0)) → o + vs.length ≤ cs.length → (w.setCells b o vs).heap[b]? = some (.cells (splice cs o vs).toArray t (0, 0))
  | [], o, w, cs, h, _ => by rw [World.setCells, h]; simp [splice]
  | v :: r, o, w, cs, h, hl => by
    rw [World.setCells]
    simp only [List.length_cons] at hl
    have h1 : (w.setCell ⟨b, o, none⟩ v).heap[b]? = some (.cells (cs.set o v).toArray t (0, 0)) := by
      rw [heap_setCell_same h]; congr 2; apply Array.toList_inj.1; simp
    rw [heap_setCells r (o + 1) _ _ h1 (by simp; omega)]
    congr 3
    simp only [splice, List.length_cons]
    have ho : o < cs.length := by omega
    rw [List.set_eq_take_append_cons_drop, if_pos ho]
    have e1 : (cs.take o).length = o := by simp; omega
    rw [List.take_append, e1, show o + 1 - o = 1 by omega, List.take_of_length_le (show (cs.take o).length ≤ o + 1 by omega)]
    rw [List.drop_append, e1, List.drop_eq_nil_of_le (show (cs.take o).length ≤ o + 1 + r.length by omega), List.nil_append]
    rw [show o + 1 + r.length - o = r.length + 1 by omega, List.drop_succ_cons, List.drop_drop]
    simp only [List.take_succ_cons, List.take_zero, List.append_assoc, List.singleton_append]
    rw [show o + 1 + r.length = o + (r.length + 1) by omega, List.cons_append]
theorem only_setCells {S : List Nat} {b : Nat} : ∀ (vs : List Value) (o : Nat) {a w : World}, Only S a w → (b ∈ S ∨ a.heap.size ≤ b) → Only S a (w.setCells b o vs)
  | [], _, _, _, h, _ => h
  | v :: r, o, _, w, h, hb => by rw [World.setCells]; exact only_setCells r (o + 1) (h.setCell hb v) hb
theorem there_of_block {w : World} {b : Nat} {cs : List Value} {t : TypeId} (h : w.heap[b]? = some (.cells cs.toArray t (0, 0))) (o n : Nat) (hn : o + n ≤ cs.length) : w.there b o n := fun j hj => by
  refine ⟨?_, by simp [World.frozen?, h]⟩
  simp only [World.cell?, h]
  simp; omega
theorem range_of_block {w : World} {b : Nat} {cs : List Value} {t : TypeId} (h : w.heap[b]? = some (.cells cs.toArray t (0, 0))) (o : Nat) (vs : List Value) (hv : ∀ j v, vs[j]? = some v → cs[o + j]? = some v) : w.rangeAt b o vs := fun j v hj => by
  simp only [World.cell?, h]
  simpa using hv j v hj
/-- 'x[i]' of an array by value. -/
theorem run_index_agg {P : Program} {t e : TypeId} {n : Nat} {kd kd' : IntKind} {cs : Array Value} {i : Nat} {v : Value} (ht : P.underlying t = some (.array n e)) (he : P.underlying e = some (.int kd)) (hs : (P.info? e).map (·.size) = some 1) (hi : i < n) (hc : cs[i]? = some v) (w : World) :
    (Instr.index t (.agg cs) (.int kd' (i : Int))).run P w = .ok v w := by
  have h1 : (isAgg e).run P w = .ok false w := by
    unfold isAgg
    rw [Sem.run_bind, run_underlying he w]
    rfl
  have hcond : 0 ≤ (i : Int) ∧ (i : Int) < (n : Int) := by omega
  simp only [Instr.index, asIntOf, Sem.run_bind, Sem.run_pure, Result.andThen_ok, run_underlying ht w]
  rw [if_pos hcond]
  simp only [Sem.run_bind, Go.Lm.sizeOf_one hs w, Result.andThen_ok, part, h1, Int.toNat_natCast, Nat.mul_one, hc]
  rfl
end Go.Lm
