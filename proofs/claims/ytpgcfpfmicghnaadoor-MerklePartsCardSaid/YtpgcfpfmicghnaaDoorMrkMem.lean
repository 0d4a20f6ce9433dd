/-
  DIGESTS IN MEMORY: slices of digests; slices of the call's own.
-/
import Derived.Test.YtpgcfpfmicghnaaDoorShaOf
import Derived.Test.YtpgcfpfmicghnaaDoorConcat
import Derived.Test.YtpgcfpfmicghnaaDoorMrkPlain
import Derived.Deep.MidRow
import Derived.WalkSmall
import Derived.Great.BuildSlice
set_option linter.unusedVariables false
set_option linter.unusedSimpArgs false
namespace Go.Proofs.YtpgcfpfmicghnaaDoor.mrk
open Go Go.RowKit Go.Lm Go.ChangeShapes Go.WideShapes Go.Proofs.YtpgcfpfmicghnaaDoor.sha

/-- The cells of digests, one behind the other. -/
def dcells (ds : List (List UInt8)) : List Value := ds.flatMap fun d => d.map u8v
def D32 (ds : List (List UInt8)) : Prop := ∀ d ∈ ds, d.length = 32
theorem dcells_append (a b : List (List UInt8)) : dcells (a ++ b) = dcells a ++ dcells b := by simp [dcells]
theorem dcells_length (ds : List (List UInt8)) (h : D32 ds) : (dcells ds).length = ds.length * 32 := by
  induction ds with
  | nil => rfl
  | cons d ds ih =>
    have h1 := h d (by simp)
    have h2 := ih (fun x hx => h x (by simp [hx]))
    simp only [dcells, List.flatMap_cons, List.length_append, List.length_map, List.length_cons] at h2 ⊢
    omega
theorem dcells_get (ds : List (List UInt8)) (h : D32 ds) (i : Nat) (hi : i < ds.length) (j : Nat) (v : Value) (hv : (ds[i].map u8v)[j]? = some v) : (dcells ds)[32 * i + j]? = some v := by
  have e : ds = ds.take i ++ ds[i] :: ds.drop (i + 1) := by rw [List.getElem_cons_drop, List.take_append_drop]
  have hl : (dcells (ds.take i)).length = 32 * i := by
    rw [dcells_length _ (fun d hd => h d (List.mem_of_mem_take hd)), List.length_take]; omega
  obtain ⟨hj, _⟩ := List.getElem?_eq_some_iff.1 hv
  conv => lhs; rw [e, dcells_append]
  rw [List.getElem?_append_right (by omega), hl, show 32 * i + j - 32 * i = j by omega]
  simp only [dcells, List.flatMap_cons]
  rw [List.getElem?_append_left hj]
  exact hv

/-- The slice value v reads as digests. -/
def DS (w : World) (v : Value) (ds : List (List UInt8)) : Prop :=
  ∃ a cap, v = .slice a ds.length cap ∧ ds.length ≤ cap ∧ cap ≤ maxLen ∧ (a = none → cap = 0) ∧ D32 ds ∧
    ∀ i (h : i < ds.length), ∃ b off, a = some ⟨b, off, none⟩ ∧ w.rangeAt b (off + 32 * i) (ds[i].map u8v)
theorem DS.nil (w : World) : DS w (.slice none 0 0) [] := ⟨none, 0, rfl, Nat.le_refl _, Nat.zero_le _, fun _ => rfl, fun d h => by simp at h, fun i h => by simp at h⟩
theorem DS.lt {w : World} {v : Value} {ds : List (List UInt8)} (h : DS w v ds) (hn : ds ≠ []) {c : Nat} (hc : v.ownBlock = some c) : c < w.heap.size := by
  obtain ⟨a, cap, rfl, h1, h2, h3, h4, h5⟩ := h
  obtain ⟨b, off, rfl, hr⟩ := h5 0 (List.length_pos_iff.2 hn)
  have h32 := h4 (ds[0]'(List.length_pos_iff.2 hn)) (List.getElem_mem _)
  simp [Value.ownBlock] at hc
  subst hc
  cases hd : ds[0]'(List.length_pos_iff.2 hn) with
  | nil => rw [hd] at h32; cases h32
  | cons x t => exact World.block_lt_of_cell? w _ (hr 0 (u8v x) (by rw [hd]; rfl))
theorem DS.only {S : List Nat} {w w' : World} {v : Value} {ds : List (List UInt8)} (h : DS w v ds) (ho : Only S w w') (hn : ∀ b, v.ownBlock = some b → ds ≠ [] → b ∉ S) : DS w' v ds := by
  obtain ⟨a, cap, rfl, h1, h2, h3, h4, h5⟩ := h
  refine ⟨a, cap, rfl, h1, h2, h3, h4, fun i hi => ?_⟩
  obtain ⟨b, off, rfl, hr⟩ := h5 i hi
  exact ⟨b, off, rfl, rangeAt_only hr ho (hn b rfl (by intro e; subst e; simp at hi))⟩
theorem DS.at {w : World} {a : Option Addr} {n cap : Nat} {ds : List (List UInt8)} (h : DS w (.slice a n cap) ds) (i : Nat) (hi : i < ds.length) : ∃ b off, a = some ⟨b, off, none⟩ ∧ w.rangeAt b (off + 32 * i) (ds[i].map u8v) := by
  obtain ⟨a', cap', he, _, _, _, _, h5⟩ := h
  simp only [Value.slice.injEq] at he
  obtain ⟨rfl, -, -⟩ := he
  exact h5 i hi
/-- 'x[lo:hi]' of digests. -/
def subd (a : Option Addr) (cap lo hi : Nat) : Value := .slice (if cap = lo then a else a.map (·.add (lo * 32))) (hi - lo) (cap - lo)
theorem subd_block (a : Option Addr) (cap lo hi : Nat) : (subd a cap lo hi).ownBlock = a.map (·.block) := by
  cases a with
  | none => unfold subd; split <;> rfl
  | some a => unfold subd; split <;> simp [Value.ownBlock, block_add]
theorem DS.sub {w : World} {a : Option Addr} {n cap : Nat} {ds : List (List UInt8)} (h : DS w (.slice a n cap) ds) (lo hi : Nat) (h1 : lo ≤ hi) (h2 : hi ≤ ds.length) : DS w (subd a cap lo hi) ((ds.take hi).drop lo) := by
  obtain ⟨a', cap', he, h3, h4, h5, h6, h7⟩ := h
  simp only [Value.slice.injEq] at he
  obtain ⟨rfl, rfl, rfl⟩ := he
  have hlen : ((ds.take hi).drop lo).length = hi - lo := by simp; omega
  refine ⟨if cap = lo then a else a.map (·.add (lo * 32)), cap - lo, by rw [hlen]; rfl, by omega, by omega, fun hn => ?_, fun d hd => h6 d (List.mem_of_mem_take (List.mem_of_mem_drop hd)), fun i hk => ?_⟩
  · have : a = none := by
      by_cases hc : cap = lo
      · rw [if_pos hc] at hn; exact hn
      · rw [if_neg hc] at hn; simpa using hn
    have := h5 this; omega
  · rw [hlen] at hk
    obtain ⟨b, off, rfl, hr⟩ := h7 (lo + i) (by omega)
    refine ⟨b, off + lo * 32, ?_, ?_⟩
    · rw [if_neg (by omega)]; simp [add_none]
    · rw [show off + lo * 32 + 32 * i = off + 32 * (lo + i) by omega]
      have e : ((ds.take hi).drop lo)[i] = ds[lo + i] := by simp
      rw [e]; exact hr

section
theorem size_sum (w : World) : (sizeOf 25).run Tryd.prog w = .ok 32 w := by
  have h : (Tryd.prog.info? 25).map (·.size) = some 32 := by kernel_rfl
  cases hi : Tryd.prog.info? 25 with
  | none => simp [hi] at h
  | some i => simp [hi] at h; simp [sizeOf, typeInfo, hi, h]
theorem run_subd_h (a : Option Addr) (n cap hi : Nat) (h2 : hi ≤ cap) (w : World) : (Instr.slice 22 (.slice a n cap) none (some (.int .i64 hi)) none).run Tryd.prog w = .ok (subd a cap 0 hi) w := by
  rw [run_slice_h w 22 a n cap (by rw [Tryd.underlying22, elem_eq Tryd.underlying22]) .i64 hi (by omega) (by omega), elem_eq Tryd.underlying22, size_sum]
  simp [Result.andThen, sliced, subd]
theorem run_subd_l (a : Option Addr) (n cap lo : Nat) (h2 : lo ≤ n) (w : World) : (Instr.slice 22 (.slice a n cap) (some (.int .i64 lo)) none none).run Tryd.prog w = .ok (subd a cap lo n) w := by
  rw [run_slice_l w 22 a n cap (by rw [Tryd.underlying22, elem_eq Tryd.underlying22]) .i64 lo (by omega) (by omega), elem_eq Tryd.underlying22, size_sum]
  simp [Result.andThen, sliced, subd]
end

/-- Digests of the call's own, from block B on. -/
def OD (w : World) (B : Nat) (v : Value) (ds : List (List UInt8)) : Prop := w.ownsRow B 25 32 v ds.length (dcells ds) ∧ D32 ds
theorem OD.nil (w : World) (B : Nat) : OD w B (.slice none 0 0) [] := ⟨World.ownsRow_nil w B _ 32, fun d h => by simp at h⟩
theorem OD.lt {w : World} {B : Nat} {v : Value} {ds : List (List UInt8)} (h : OD w B v ds) {c : Nat} (hc : v.ownBlock = some c) : B ≤ c ∧ c < w.heap.size := World.ownsRow.lt h.1 c hc
theorem OD.kept {w w' : World} {B : Nat} {v : Value} {ds : List (List UInt8)} (h : OD w B v ds) (hk : ∀ c, v.ownBlock = some c → w'.heap[c]? = w.heap[c]?) : OD w' B v ds := by
  refine ⟨⟨h.1.1, ?_⟩, h.2⟩
  rcases h.1.2 with hn | ⟨g, cap, cur, rfl, hb, hg, rest⟩
  · exact .inl hn
  · exact .inr ⟨g, cap, cur, rfl, hb, by rw [hk g rfl]; exact hg, rest⟩
theorem OD.only {S : List Nat} {w w' : World} {B : Nat} {v : Value} {ds : List (List UInt8)} (h : OD w B v ds) (ho : Only S w w') (hn : ∀ c, v.ownBlock = some c → c ∉ S) : OD w' B v ds :=
  h.kept fun c hc => ho.block c (h.lt hc).2 (hn c hc)
theorem OD.ds {w : World} {B : Nat} {v : Value} {ds : List (List UInt8)} (h : OD w B v ds) : DS w v ds := by
  rcases h.1.2 with ⟨rfl, h0⟩ | ⟨g, cap, cur, rfl, _, hg, h1, h2, h3, h4⟩
  · have : ds = [] := List.eq_nil_of_length_eq_zero h0
    subst this; exact DS.nil w
  · refine ⟨some ⟨g, 0, none⟩, cap, rfl, h1, h2, fun h => by simp at h, h.2, fun i hi => ⟨g, 0, rfl, fun j v hv => ?_⟩⟩
    rw [cell_of_row w g _ cur _ _ hg, Nat.zero_add]
    have hd := dcells_get ds h.2 i hi j v hv
    rw [← h4, List.getElem?_take] at hd
    split at hd
    · simpa using hd
    · cases hd
theorem OD.take {w : World} {B : Nat} {a : Option Addr} {n cap : Nat} {ds : List (List UInt8)} (h : OD w B (.slice a n cap) ds) (k : Nat) (hk : k ≤ ds.length) (h0 : 0 < ds.length) : OD w B (subd a cap 0 k) (ds.take k) := by
  have h32 : D32 (ds.take k) := fun d hd => h.2 d (List.mem_of_mem_take hd)
  refine ⟨⟨by rw [dcells_length _ h32], ?_⟩, h32⟩
  rcases h.1.2 with ⟨_, e0⟩ | ⟨g, cap', cur, he, hb, hg, h1, h2, h3, h4⟩
  · omega
  · simp only [Value.slice.injEq] at he
    obtain ⟨rfl, rfl, rfl⟩ := he
    refine .inr ⟨g, cap, cur, ?_, hb, hg, by rw [List.length_take]; omega, h2, h3, ?_⟩
    · unfold subd
      rw [List.length_take, Nat.min_eq_left hk]
      split <;> simp [Addr.add]
    · have hl : (dcells (ds.take k)).length = k * 32 := by rw [dcells_length _ h32, List.length_take, Nat.min_eq_left hk]
      rw [List.length_take, Nat.min_eq_left hk]
      have e : dcells ds = dcells (ds.take k) ++ dcells (ds.drop k) := by rw [← dcells_append, List.take_append_drop]
      have h5 : (cur.toList.take (ds.length * 32)).take (k * 32) = (dcells ds).take (k * 32) := by rw [h4]
      rw [List.take_take, Nat.min_eq_left (Nat.mul_le_mul_right _ hk)] at h5
      rw [h5, e, ← hl, List.take_left']
      rfl
theorem OD.slice {w : World} {B : Nat} {v : Value} {ds : List (List UInt8)} (h : OD w B v ds) : ∃ a cap, v = .slice a ds.length cap ∧ ds.length ≤ cap ∧ cap ≤ maxLen := by
  obtain ⟨a, cap, rfl, h1, h2, _⟩ := h.ds
  exact ⟨a, cap, rfl, h1, h2⟩
theorem info_sum : (Tryd.prog.info? 25).map (fun i => (i.zero.map (·.cells.size), i.size, i.bytes)) = some (some 32, 32, 32) := by kernel_rfl
theorem info_sum' : ∃ i z, Tryd.prog.info? 25 = some i ∧ i.zero = some z ∧ z.cells.size = 32 ∧ i.size = 32 ∧ i.bytes = 32 := by
  have h := info_sum
  cases hi : Tryd.prog.info? 25 with
  | none => simp [hi] at h
  | some i =>
    simp only [hi, Option.map_some, Option.some.injEq, Prod.mk.injEq] at h
    obtain ⟨h1, h2, h3⟩ := h
    cases hz : i.zero with
    | none => simp [hz] at h1
    | some z =>
      simp only [hz, Option.map_some, Option.some.injEq] at h1
      exact ⟨i, z, rfl, hz, h1, h2, h3⟩
/-- 'append(v, d)' of one digest, which is first laid in a new block. -/
theorem run_append_dig {w : World} {B : Nat} {v : Value} {ds : List (List UInt8)} {d : List UInt8} (hown : OD w B v ds) (hd : d.length = 32) (hn : ds.length ≤ 1000000) (hB : B ≤ w.heap.size) {ty : TypeId} {T : TypeId} {fr : Nat × Nat} (C : Array Value) (hC : C = (d.map u8v).toArray) :
    ∃ v' w', (Builtin.append_ #[22, 22] ty #[v, .slice (some ⟨w.heap.size, 0, none⟩) 1 1]).run Tryd.prog (w.alloc (.cells C T fr)) = .ok v' w' ∧ OD w' B v' (ds ++ [d]) ∧ (w.alloc (.cells C T fr)).grownBy w' v.ownBlock := by
  obtain ⟨i, z, hi, hz, hzs, hsz, hby⟩ := info_sum'
  have hown1 : OD (w.alloc (.cells C T fr)) B v ds := hown.kept fun c hc => Below.heap_alloc w _ _ (hown.lt hc).2
  obtain ⟨v', w', hrun, ho, hg, _⟩ := run_append_own (P := Tryd.prog) (w.alloc (.cells C T fr)) B 22 ty 25 i z 32 32 Tryd.underlying22 hi hz hsz hby hzs (by decide) v ds.length (dcells ds) hown1.1 ⟨w.heap.size, 0, none⟩ 1 1 (d.map u8v) (by simp [hd])
    (fun j u hj => by
      rw [Addr.add_mid, Nat.zero_add, cell_of_row _ _ _ C _ _ (heap_alloc_new w _), hC]
      simpa using hj)
    (fun u hu => by obtain ⟨x, _, rfl⟩ := List.mem_map.1 hu; rfl) (by unfold maxLen; omega) (by omega) (by simp; omega)
  refine ⟨v', w', hrun, ⟨?_, ?_⟩, hg⟩
  · rw [dcells_append, List.length_append]
    simpa [dcells] using ho
  · intro x hx
    rcases List.mem_append.1 hx with h | h
    · exact hown.2 x h
    · rw [List.mem_singleton.1 h]; exact hd

/-- A slice literal of one digest. -/
theorem run_one_dig (C : Array Value) (hC : C.size = 32) (w : World) : (Instr.buildSlice 22 1 #[(0, .agg C)]).run Tryd.prog w = .ok (.slice (some ⟨w.heap.size, 0, none⟩) 1 1) (w.alloc (.cells C 25)) := by
  obtain ⟨i, z, hi, hz, hzs, hsz, hby⟩ := info_sum'
  refine run_buildSlice w 22 25 1 _ C i z Tryd.underlying22 hi hz (by rw [hsz]; decide) (by rw [hsz]; decide) ?_
  rw [hsz]
  have h := Great.fill_whole (s := 32) (by decide) [.agg C] ((Array.range (1 * 32)).map (z.cells[· % z.cells.size]!)) (fun v hv => by rw [List.mem_singleton.1 hv]; exact hC) (by simp)
  refine h.trans ?_
  congr 1
  simp [Value.cells]
theorem wpList_one_dig {ops : Array Oper} {rest : List Oper} {o : Oper} {a : Act} {w : World} {Q : Exit → Act → World → Prop} (hg : o.guard = none) (x : Operand) (ho : o.op = .buildSlice 22 1 #[(0, x)]) (C : Array Value) (hx : a.eval x = .agg C) (hC : C.size = 32)
    (h : wpList Tryd.prog ops Q rest (a.put o.dst (.slice (some ⟨w.heap.size, 0, none⟩) 1 1)) (w.alloc (.cells C 25))) : wpList Tryd.prog ops Q (o :: rest) a w :=
  wpList_plain hg fun K hK => by
    unfold Oper.wp execOp
    simp only [ho, Sem.run_bind, List.map_toArray, List.map_cons, List.map_nil, hx, run_one_dig C hC w, Result.andThen_ok]
    exact hK _ _ h
/-- An append whose run is known, as a step of a region. -/
theorem step_append_run {P : Program} {ops : Array Oper} {o : Oper} {a : Act} {w w' : World} {K : Act → World → Prop} {Q : Exit → Act → World → Prop} {E : Prop} (hgd : o.guard = none) (s x : Operand) (t : TypeId)
    (ho : o.op = .call { callee := .builtin .append, args := #[s, x], argTypes := #[t, t] }) {v xv v' : Value} (hs : a.eval s = v) (hx : a.eval x = xv)
    (hr : (Builtin.append_ #[t, t] o.type #[v, xv]).run P w = .ok v' w') (h : K (a.put o.dst v') w') : if Region.wanted o (yielded ops a.tmps) = true then Oper.wp P o a w K Q else E := by
  have hw : Region.wanted o (yielded ops a.tmps) = true := by simp [Region.wanted, hgd]
  rw [if_pos hw]
  unfold Oper.wp execOp
  simp only [ho, resolve, invoke, builtin, Sem.run_bind, Sem.run_pure, Result.andThen_ok, List.map_toArray, List.map_cons, List.map_nil, hs, hx, hr]
  exact h
/-- A load of many cells, as a step of a region. -/
theorem step_load_mid {P : Program} {ops : Array Oper} {o : Oper} {a : Act} {w : World} {K : Act → World → Prop} {Q : Exit → Act → World → Prop} {E : Prop} (hgd : o.guard = none) (ty : TypeId) (x : Operand) (ho : o.op = .load ty x)
    (b off : Nat) (hx : a.eval x = .pointer (some ⟨b, off, none⟩)) (cs : List Value) (d : TypeDesc) (hc : w.rangeAt b off cs) (hu : P.underlying ty = some d) (hd : d.isRow = true) (hi : (P.info? ty).map (·.size) = some cs.length)
    (h : K (a.put o.dst (.agg cs.toArray)) w) : if Region.wanted o (yielded ops a.tmps) = true then Oper.wp P o a w K Q else E := by
  have hw : Region.wanted o (yielded ops a.tmps) = true := by simp [Region.wanted, hgd]
  rw [if_pos hw]
  exact wp_load_mid ty x ho b off hx cs d hc hu hd hi h
end Go.Proofs.YtpgcfpfmicghnaaDoor.mrk
