/-
  REGIONS THAT DRAW THEIR ORDER, make memory, and MARK blocks of their own ('[]byte("..")' of a constant): the worlds behind the region's start are alike but for the marks of new blocks.
-/
import Derived.Test.YtpgcfpfmicghnaaDoorGenM
set_option linter.unusedVariables false
set_option linter.unusedSimpArgs false
namespace Go.Proofs.YtpgcfpfmicghnaaDoor
open Go Go.RowKit Go.Lm

/-- Alike but for the marks of blocks from B on. -/
structure OnlyF (B : Nat) (w w' : World) : Prop where
  os : w'.os = w.os
  tape : w'.tape = w.tape
  output : w'.output = w.output
  size : w.heap.size ≤ w'.heap.size
  block : ∀ (k : Nat), k < B → k < w.heap.size → w'.heap[k]? = w.heap[k]?
  same : ∀ (k : Nat) (cs : Array Value) (t : TypeId) (fr : Nat × Nat), w.heap[k]? = some (Obj.cells cs t fr) → ∃ fr', w'.heap[k]? = some (Obj.cells cs t fr')
theorem OnlyF.refl (B : Nat) (w : World) : OnlyF B w w := ⟨rfl, rfl, rfl, Nat.le_refl _, fun _ _ _ => rfl, fun _ _ _ fr h => ⟨fr, h⟩⟩
theorem OnlyF.tr {B : Nat} (a b c : World) (h : OnlyF B a b) (k : OnlyF B b c) : OnlyF B a c :=
  ⟨k.os.trans h.os, k.tape.trans h.tape, k.output.trans h.output, Nat.le_trans h.size k.size, fun i hB hi => (k.block i hB (Nat.lt_of_lt_of_le hi h.size)).trans (h.block i hB hi), fun i cs t fr hi => by
    obtain ⟨fr', h'⟩ := h.same i cs t fr hi
    exact k.same i cs t fr' h'⟩
theorem OnlyF.of {B : Nat} {a b : World} (h : Only [] a b) : OnlyF B a b :=
  ⟨h.os, h.tape, h.output, h.size, fun k _ hk => h.block k hk (by simp), fun k cs t fr hk => ⟨fr, h.heap hk (by simp)⟩⟩
theorem OnlyF.only {w a b : World} {B : Nat} (h : Only [] w a) (k : OnlyF B a b) (hB : w.heap.size ≤ B) : Only [] w b :=
  ⟨k.os.trans h.os, k.tape.trans h.tape, k.output.trans h.output, Nat.le_trans h.size k.size, fun i hi hn => (k.block i (by omega) (Nat.lt_of_lt_of_le hi h.size)).trans (h.block i hi hn)⟩
theorem OnlyF.heap {B : Nat} {w w' : World} (h : OnlyF B w w') {k : Nat} {o : Obj} (hk : w.heap[k]? = some o) (hB : k < B) : w'.heap[k]? = some o := by
  rw [h.block k hB (lt_of_block hk)]; exact hk
theorem OnlyF.cell {B : Nat} {w w' : World} (h : OnlyF B w w') {p : Addr} {v : Value} (hc : w.cell? p = some v) : w'.cell? p = some v := by
  unfold World.cell? at *
  split at hc
  · rename_i c t fr hb
    obtain ⟨fr', hb'⟩ := h.same _ _ _ _ hb
    rw [hb']
    exact hc
  · cases hc
theorem OnlyF.freeze {B g n : Nat} {w w' : World} (h : OnlyF B w w') (hg : B ≤ g) : OnlyF B w (w'.freeze ⟨g, n, none⟩ 1) := by
  refine h.tr _ _ _ ?_
  unfold World.freeze
  rw [if_neg (by decide)]
  refine ⟨rfl, rfl, rfl, by simp, fun k hB hk => ?_, fun k cs t fr hk => ?_⟩
  · simp only [Array.getElem?_modify]
    rw [if_neg (by omega)]
  · simp only [Array.getElem?_modify]
    by_cases hkg : g = k
    · rw [if_pos hkg, hk]
      exact ⟨_, rfl⟩
    · rw [if_neg hkg]; exact ⟨fr, hk⟩
theorem run_convert_marked {P : Program} {w : World} {t e u : TypeId} {C : Array Value} {g n c : Nat} {fr : Nat × Nat} (ht : P.underlying t = some (.slice e)) (he : P.underlying e = some (.int .u8)) (hg : w.heap[g]? = some (.cells C u fr)) :
    (convert t t (.slice (some ⟨g, 0, none⟩) n c)).run P w = .ok (.slice (some ⟨g, 0, none⟩) n c) (w.freeze ⟨g, C.size, none⟩ 1) := by
  have hsh : w.shape? g = some (u, C.size) := by
    unfold World.shape?
    rw [hg]
  simp [convert, run_underlying ht, run_underlying he, markStringish, hsh]

section
variable {P : Program} {ops : Array Oper} {Q : Exit → Act → World → Prop} {md : Region.Mode} {B : Nat}
theorem wpAnyF_take {i : Nat} {oi : Oper} {v : Value} {fuel : Nat} {listed : Array Bool} {a : Act} {w : World} (hi : ops[i]? = some oi)
    (hs : Region.noSelect ops = true) (hf : Region.free md ops listed i = true) (hr : (Region.ready md ops listed).contains i = true)
    (hy : YieldsOn P ops (OnlyF B) oi v a w) (hQ : ∀ c a w, Q (.panic c) (a.put oi.dst v) w → Q (.panic c) a w)
    (h : wpAnyM P md ops Q (OnlyF B) fuel (listed.setIfInBounds i true) (a.put oi.dst v) w) : wpAnyM P md ops Q (OnlyF B) (fuel + 1) listed a w :=
  wpAnyM_first (OnlyF.refl B) OnlyF.tr hi (Region.noSelect_spec hs) hQ fuel listed a w (Region.free_spec hi hf) (by simpa using hr) hy h
theorem wpAnyF_one {i : Nat} {o : Oper} {fuel : Nat} {listed : Array Bool} {a : Act} {w : World} (hr : Region.ready md ops listed = [i]) (ho : ops[i]? = some o)
    (h : ∀ w', OnlyF B w w' → ∀ K' : Act → World → Prop, (∀ a x, OnlyF B w' x → wpAnyM P md ops Q (OnlyF B) fuel (listed.setIfInBounds i true) a x → K' a x) → if Region.wanted o (yielded ops a.tmps) = true then Oper.wp P o a w' K' Q else K' (a.put o.dst undef) w') :
    wpAnyM P md ops Q (OnlyF B) (fuel + 1) listed a w := fun _ w' hw => by
  refine ⟨fun h0 => absurd (hr ▸ h0) (by simp), fun j hj => ?_⟩
  rw [hr] at hj
  obtain rfl : j = i := by simpa using hj
  exact wpOp_step ho fun K' hK => h w' hw K' fun a x h1 h2 => hK a x ⟨.inl h1, h2⟩
theorem wpAnyF_done {listed : Array Bool} {a : Act} {w : World} (hr : Region.ready md ops listed = []) (h : ∀ w', OnlyF B w w' → Q .normal a w') :
    ∀ fuel, wpAnyM P md ops Q (OnlyF B) fuel listed a w
  | 0 => fun _ w' hw => ⟨hr, h w' hw⟩
  | _ + 1 => fun _ w' hw => ⟨fun _ => h w' hw, by rw [hr]; simp⟩
theorem wp_region_F (B : Nat) {id : Nat} {a : Act} {w : World} (hm : P.follows .mixedOrders = true)
    (h : wpAnyM P .any ops Q (OnlyF B) ops.size (Array.replicate ops.size false) a w.drew) : (Code.region id ops true).wp P Q a w :=
  wp_region_any hm (wpAny_of_M (OnlyF.refl B) _ _ _ _ (closed_none _) h)
structure LaterF (B : Nat) (w : World) where
  at' : World
  rel : OnlyF B w at'
theorem YF.value {o : Oper} {v : Value} {a : Act} {w : World} (hw : Region.wanted o (yielded ops a.tmps) = true) (hd : dull o = false) (h : ∀ x : LaterF B w, (execOp a.eval o).run P x.at' = .ok (.value v) x.at') : YieldsOn P ops (OnlyF B) o v a w :=
  .inl ⟨hw, fun x hx => by unfold Oper.quietAt; rw [h ⟨x, hx.resolve_left (by rw [hd]; exact Bool.false_ne_true)⟩]; exact ⟨rfl, rfl⟩⟩
theorem YF.pure {o : Oper} {v : Value} {a : Act} {w : World} (hw : Region.wanted o (yielded ops a.tmps) = true) (h : ∀ x : World, (execOp a.eval o).run P x = .ok (.value v) x) : YieldsOn P ops (OnlyF B) o v a w :=
  .inl ⟨hw, fun x _ => by unfold Oper.quietAt; rw [h x]; exact ⟨rfl, rfl⟩⟩
theorem YF.call {o : Oper} {v : Value} {a : Act} {w : World} {f : FuncId} {args : Array Value} (hw : Region.wanted o (yielded ops a.tmps) = true) (hd : dull o = false) (h : ∀ x : LaterF B w, (execOp a.eval o).run P x.at' = .ok (.enter f args) x.at')
    (hc : ∀ x : LaterF B w, Calls P f args x.at' fun e w' => e = .returned v ∧ Only [] x.at' w') : YieldsOn P ops (OnlyF B) o v a w :=
  .inl ⟨hw, fun x hx => by have hx := hx.resolve_left (by rw [hd]; exact Bool.false_ne_true); unfold Oper.quietAt; rw [h ⟨x, hx⟩]; exact ⟨rfl, (hc ⟨x, hx⟩).mono fun e w' he => ⟨he.1, OnlyF.of he.2⟩⟩⟩
theorem YF.row {o : Oper} {a : Act} {w : World} (hw : Region.wanted o (yielded ops a.tmps) = true) (ty : TypeId) (x : Operand) (ho : o.op = .load ty x) (g : Nat) (hx : a.eval x = .pointer (some ⟨g, 0, none⟩))
    (cs : Array Value) (t : TypeId) (fr : Nat × Nat) (d : TypeDesc) (hg : w.heap[g]? = some (.cells cs t fr)) (hn : g < B) (hu : P.underlying ty = some d) (hd : (match d with | .struct _ | .array _ _ => true | _ => false) = true)
    (hi : (P.info? ty).map (·.size) = some cs.size) : YieldsOn P ops (OnlyF B) o (.agg cs) a w :=
  YF.value hw (by simp [dull, ho]) fun x => by
    unfold execOp
    simp only [ho, hx, Instr.loadAt, Instr.sureAddr, Sem.run_bind, Sem.run_pure, Result.andThen_ok, run_loadVar_row x.at' g t ty cs fr d (x.rel.heap hg hn) hu hd hi]
theorem YF.mid {o : Oper} {v : Value} {a : Act} {w : World} (hw : Region.wanted o (yielded ops a.tmps) = true) (ty : TypeId) (x : Operand) (ho : o.op = .load ty x) (b off : Nat) (hx : a.eval x = .pointer (some ⟨b, off, none⟩))
    (h : ∀ y : LaterF B w, (Instr.loadAt ty (.pointer (some ⟨b, off, none⟩))).run P y.at' = .ok v y.at') : YieldsOn P ops (OnlyF B) o v a w :=
  YF.value hw (by simp [dull, ho]) fun y => by
    unfold execOp
    simp only [ho, hx, Sem.run_bind, h y, Result.andThen_ok, Sem.run_pure]
end
end Go.Proofs.YtpgcfpfmicghnaaDoor
