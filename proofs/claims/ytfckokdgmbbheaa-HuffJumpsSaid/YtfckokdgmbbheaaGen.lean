/-
  GENERAL: frames of worlds ('Only'), byte slices ('BS'), and the closing of a law's row. Of no program.
-/
import Derived.WalkKit
import Derived.ProofKit
import Derived.OpenShut
import Derived.Handy
import Derived.Lib.Hide
import Derived.Deep.Slices
import Derived.Carry
import Derived.Deep.QuietTactic
import Derived.BigQuiet
namespace Go.Lm
open Go Go.RowKit Go.ChangeShapes Go.WideShapes

/-- ONLY THE BLOCKS OF THE LIST (and new ones) may have turned. -/
structure Only (S : List Nat) (w w' : World) : Prop where
  os : w'.os = w.os
  tape : w'.tape = w.tape
  output : w'.output = w.output
  size : w.heap.size ≤ w'.heap.size
  block : ∀ k, k < w.heap.size → k ∉ S → w'.heap[k]? = w.heap[k]?

theorem Only.refl (S : List Nat) (w : World) : Only S w w := ⟨rfl, rfl, rfl, Nat.le_refl _, fun _ _ _ => rfl⟩
theorem Only.trans {S S1 S2 : List Nat} {a b c : World} (h : Only S1 a b) (k : Only S2 b c) (h1 : ∀ i ∈ S1, i ∈ S ∨ a.heap.size ≤ i) (h2 : ∀ i ∈ S2, i ∈ S ∨ a.heap.size ≤ i) : Only S a c :=
  ⟨k.os.trans h.os, k.tape.trans h.tape, k.output.trans h.output, Nat.le_trans h.size k.size, fun i hi hn => by
    have n1 : i ∉ S1 := fun hm => by rcases h1 i hm with h | h; exact hn h; omega
    have n2 : i ∉ S2 := fun hm => by rcases h2 i hm with h | h; exact hn h; omega
    rw [k.block i (Nat.lt_of_lt_of_le hi h.size) n2, h.block i hi n1]⟩
/-- .. the same list throughout. -/
theorem Only.then {S : List Nat} {a b c : World} (h : Only S a b) (k : Only S b c) : Only S a c := h.trans k (fun _ h => .inl h) (fun _ h => .inl h)
theorem Only.mono {S S' : List Nat} {a b : World} (h : Only S a b) (hs : ∀ i ∈ S, i ∈ S' ∨ a.heap.size ≤ i) : Only S' a b :=
  h.trans (Only.refl S' b) hs (fun _ h => .inl h)
theorem Only.drew {S : List Nat} {a w : World} (h : Only S a w) : Only S a w.drew := ⟨h.os, h.tape, h.output, h.size, h.block⟩
theorem Only.drewN {S : List Nat} {a w : World} (h : Only S a w) (n : Nat) : Only S a (w.drewN n) := ⟨h.os, h.tape, h.output, h.size, h.block⟩
theorem Only.alloc {S : List Nat} {a w : World} (h : Only S a w) (o : Obj) : Only S a (w.alloc o) :=
  ⟨h.os, h.tape, h.output, by simp; have := h.size; omega, fun i hi hn => by rw [Below.heap_alloc _ _ _ (by have := h.size; omega)]; exact h.block i hi hn⟩
theorem Only.setCell {S : List Nat} {a w : World} (h : Only S a w) {p : Addr} (hp : p.block ∈ S ∨ a.heap.size ≤ p.block) (u : Value) : Only S a (w.setCell p u) :=
  ⟨h.os, h.tape, h.output, by simpa using h.size, fun i hi hn => by
    rw [Below.heap_setCell _ _ _ _ (by intro e; rcases hp with hp | hp; exact hn (e ▸ hp); omega)]; exact h.block i hi hn⟩
theorem Only.setRow {S : List Nat} {a w : World} (h : Only S a w) {g : Nat} (hp : g ∈ S ∨ a.heap.size ≤ g) (cs : Array Value) : Only S a (w.setRow g cs) :=
  ⟨h.os, h.tape, h.output, by have := h.size; simpa [World.setRow] using this, fun i hi hn => by
    rw [setRow_other w g i cs (by intro e; rcases hp with hp | hp; exact hn (e ▸ hp); omega)]; exact h.block i hi hn⟩
theorem Only.of_grown {w w' : World} {row : Option Nat} (h : w.grownBy w' row) : Only row.toList w w' :=
  ⟨h.os, h.tape, h.output, h.size, fun k hk hn => h.block k hk (by intro e; subst e; simp at hn)⟩
theorem Only.below {S : List Nat} {B : Nat} {w w' : World} (h : Only S w w') (hS : ∀ k ∈ S, B ≤ k) (hB : B ≤ w.heap.size) : Below B w w' :=
  ⟨h.os, h.tape, h.output, h.size, fun k hk => h.block k (by omega) (fun hm => by have := hS k hm; omega)⟩
theorem Only.of_below {w w' : World} (h : Below w.heap.size w w') (S : List Nat) : Only S w w' := ⟨h.os, h.tape, h.output, h.size, fun k hk _ => h.block k hk⟩
theorem Only.heap {S : List Nat} {w w' : World} (h : Only S w w') {k : Nat} {o : Obj} (hk : w.heap[k]? = some o) (hn : k ∉ S) : w'.heap[k]? = some o := by
  rw [h.block k (lt_of_block hk) hn]; exact hk
theorem Only.cell {S : List Nat} {w w' : World} (h : Only S w w') {p : Addr} {v : Value} (hc : w.cell? p = some v) (hn : p.block ∉ S) : w'.cell? p = some v := by
  rw [World.cell?_of_block (w := w) (h.block p.block (World.block_lt_of_cell? w p hc) hn)]; exact hc
theorem below_heap {B : Nat} {w w' : World} (h : Below B w w') {k : Nat} {o : Obj} (hk : w.heap[k]? = some o) (hn : k < B) : w'.heap[k]? = some o := by
  rw [h.block k hn]; exact hk
theorem below_trans_only {S : List Nat} {B : Nat} {a b c : World} (h : Below B a b) (k : Only S b c) (hS : ∀ i ∈ S, B ≤ i) (hB : B ≤ a.heap.size) : Below B a c :=
  h.trans (k.below hS (Nat.le_trans hB h.size))

/-! ### A slice of bytes -/

/-- The slice value v reads as the bytes l. -/
def BS (w : World) (v : Value) (l : List UInt8) : Prop :=
  ∃ a cap, v = .slice a l.length cap ∧ l.length ≤ cap ∧ cap ≤ maxLen ∧ (a = none → cap = 0) ∧
    ∀ k (h : k < l.length), ∃ b off, a = some ⟨b, off, none⟩ ∧ w.cell? ⟨b, off + k, none⟩ = some (.int .u8 (l[k].toNat : Int))

theorem BS.lt {w : World} {v : Value} {l : List UInt8} (h : BS w v l) (hn : l ≠ []) {c : Nat} (hc : v.ownBlock = some c) : c < w.heap.size := by
  obtain ⟨a, cap, rfl, h1, h2, h3, h4⟩ := h
  obtain ⟨b, off, rfl, hcell⟩ := h4 0 (by cases l <;> simp_all)
  simp [Value.ownBlock] at hc
  subst hc
  exact World.block_lt_of_cell? w _ hcell
theorem BS.kept {w w' : World} {v : Value} {l : List UInt8} (h : BS w v l) (hk : ∀ p u, v.ownBlock = some p.block → l ≠ [] → w.cell? p = some u → w'.cell? p = some u) : BS w' v l := by
  obtain ⟨a, cap, rfl, h1, h2, h3, h4⟩ := h
  refine ⟨a, cap, rfl, h1, h2, h3, fun k hl => ?_⟩
  obtain ⟨b, off, rfl, hc⟩ := h4 k hl
  exact ⟨b, off, rfl, hk _ _ rfl (by intro e; subst e; simp at hl) hc⟩
theorem BS.only {S : List Nat} {w w' : World} {v : Value} {l : List UInt8} (h : BS w v l) (ho : Only S w w') (hn : ∀ b, v.ownBlock = some b → l ≠ [] → b ∉ S) : BS w' v l :=
  h.kept fun _ _ hb hne hc => ho.cell hc (hn _ hb hne)
theorem BS.below {w w' : World} {v : Value} {l : List UInt8} (h : BS w v l) (hb : Below w.heap.size w w') : BS w' v l :=
  h.kept fun p _ _ _ hc => by rw [hb.cell (World.block_lt_of_cell? w p hc)]; exact hc
theorem BS.nil (w : World) : BS w (.slice none 0 0) [] := ⟨none, 0, rfl, Nat.le_refl _, Nat.zero_le _, fun _ => rfl, fun k h => by simp at h⟩

theorem BS.lit (w : World) (cs : Array Value) (e : TypeId) (fr : Nat × Nat) (n : Nat) (l : List UInt8) (hcs : cs = (l.map fun u => Value.int .u8 (u.toNat : Int)).toArray) (hn : n = l.length) (hm : l.length ≤ maxLen) : BS (w.alloc (.cells cs e fr)) (.slice (some ⟨w.heap.size, 0, none⟩) n n) l := by
  subst hn
  refine ⟨some ⟨w.heap.size, 0, none⟩, l.length, rfl, Nat.le_refl _, hm, fun h => by simp at h, fun k h => ⟨w.heap.size, 0, rfl, ?_⟩⟩
  subst hcs
  have hh : (w.alloc (.cells (l.map fun u => Value.int .u8 (u.toNat : Int)).toArray e fr)).heap[w.heap.size]? = _ := heap_alloc_new w _
  unfold World.cell?
  rw [hh]
  simp [h]

/-! ### A block of bytes that the call itself made -/
def u8v (u : UInt8) : Value := .int .u8 (u.toNat : Int)
theorem u8_of {x : Int} (h0 : 0 ≤ x) (h1 : x < 256) : ∃ u : UInt8, Value.int .u8 x = u8v u ∧ (u.toNat : Int) = x := by
  refine ⟨UInt8.ofNat x.toNat, ?_, ?_⟩
  · unfold u8v; congr 1; simp; omega
  · simp; omega
/-- Block b holds just these bytes. -/
def Blk (w : World) (b : Nat) (e : TypeId) (L : List UInt8) : Prop := w.heap[b]? = some (.cells (L.map u8v).toArray e (0, 0))
theorem Blk.cell {w : World} {b : Nat} {e : TypeId} {L : List UInt8} (h : Blk w b e L) (k : Nat) (hk : k < L.length) : w.cell? ⟨b, k, none⟩ = some (.int .u8 (L[k].toNat : Int)) := by
  unfold Blk at h; simp [World.cell?, h, hk, u8v]
theorem Blk.free {w : World} {b : Nat} {e : TypeId} {L : List UInt8} (h : Blk w b e L) (k : Nat) : w.frozen? ⟨b, k, none⟩ = false := by
  unfold Blk at h; simp [World.frozen?, h]
theorem Blk.lt {w : World} {b : Nat} {e : TypeId} {L : List UInt8} (h : Blk w b e L) : b < w.heap.size := lt_of_block h
theorem Blk.only {S : List Nat} {w w' : World} {b : Nat} {e : TypeId} {L : List UInt8} (h : Blk w b e L) (ho : Only S w w') (hn : b ∉ S) : Blk w' b e L := ho.heap h hn
theorem heap_setCell_same {w : World} {b k : Nat} {c : Array Value} {e : TypeId} {fr : Nat × Nat} (h : w.heap[b]? = some (.cells c e fr)) (u : Value) : (w.setCell ⟨b, k, none⟩ u).heap[b]? = some (.cells (c.setIfInBounds k u) e fr) := by
  have hlt := lt_of_block h
  have h' : w.heap[b] = .cells c e fr := by simpa [Array.getElem?_eq_getElem hlt] using h
  show (w.heap.modify b _)[b]? = _
  rw [Array.getElem?_eq_getElem (by simpa using hlt), Array.getElem_modify_self, h']
  rfl
theorem Blk.set {w : World} {b : Nat} {e : TypeId} {L : List UInt8} (h : Blk w b e L) (k : Nat) (u : UInt8) : Blk (w.setCell ⟨b, k, none⟩ (u8v u)) b e (L.set k u) := by
  unfold Blk at *
  rw [heap_setCell_same h]
  congr 2
  apply Array.toList_inj.1
  simp
theorem Blk.bs {w : World} {b : Nat} {e : TypeId} {L : List UInt8} (h : Blk w b e L) (n cap : Nat) (hn : n = L.length) (h1 : n ≤ cap) (h2 : cap ≤ maxLen) : BS w (.slice (some ⟨b, 0, none⟩) n cap) L := by
  subst hn
  exact ⟨_, _, rfl, h1, h2, fun h => by simp at h, fun k hk => ⟨b, 0, rfl, by rw [Nat.zero_add]; exact h.cell k hk⟩⟩
theorem Blk.made (w : World) (e : TypeId) (n : Nat) : Blk (w.alloc (.cells (madeCells (Value.int .u8 0).cells n) e)) w.heap.size e (List.replicate n 0) := by
  unfold Blk
  rw [heap_alloc_new]
  congr 2
  apply Array.toList_inj.1
  rw [show (Value.int .u8 0).cells = #[Value.int .u8 0] by rfl, toList_madeCells_one]
  simp [u8v]

theorem addr_of_cell {w : World} {a : Addr} {u : Value} (h : w.cell? a = some u) : a = ⟨a.block, a.off, none⟩ := by
  obtain ⟨b, o, s⟩ := a
  cases s with
  | none => rfl
  | some s => simp [World.cell?] at h; split at h <;> simp at h
theorem add_none (b o k : Nat) : (⟨b, o, none⟩ : Addr).add k = ⟨b, o + k, none⟩ := by
  unfold Addr.add; split <;> simp_all

/-- The bytes of a list of numbers. -/
def ub (zs : List Int) : List UInt8 := zs.map fun n => UInt8.ofNat n.toNat
theorem wf_u8 {n : Int} (h : (Lit.int .u8 n).wf = true) : 0 ≤ n ∧ n ≤ 255 := by
  simpa [Lit.wf, IntKind.min, IntKind.max, IntKind.signed, IntKind.bits] using h

theorem wf_u16 {n : Int} (h : (Lit.int .u16 n).wf = true) : 0 ≤ n ∧ n ≤ 65535 := by
  simpa [Lit.wf, IntKind.min, IntKind.max, IntKind.signed, IntKind.bits] using h
theorem wf_u32 {n : Int} (h : (Lit.int .u32 n).wf = true) : 0 ≤ n ∧ n ≤ 4294967295 := by
  simpa [Lit.wf, IntKind.min, IntKind.max, IntKind.signed, IntKind.bits] using h
theorem wf_u64 {n : Int} (h : (Lit.int .u64 n).wf = true) : 0 ≤ n ∧ n ≤ 18446744073709551615 := by
  simpa [Lit.wf, IntKind.min, IntKind.max, IntKind.signed, IntKind.bits] using h
theorem wf_i64 {n : Int} (h : (Lit.int .i64 n).wf = true) : -9223372036854775808 ≤ n ∧ n ≤ 9223372036854775807 := by
  simpa [Lit.wf, IntKind.min, IntKind.max, IntKind.signed, IntKind.bits] using h

section
variable {H : Type} {enc : TypeId × Value → H} {P : Program}
/-- A cell that reads as a slice of integers, opened. -/
theorem ints_of_trod {W : World} {t e : TypeId} {kd : IntKind} {u : Value} {fuel base : Nat} {x : DataW H × List MemPlace} (ht : P.underlying t = some (.slice e)) (he : P.underlying e = some (.int kd)) (hc : P.cellsOf e = 1)
    (hf : DataW.trod enc P W base (fun _ => true) true fuel t [u] = some x) : ∃ a cap, ∃ zs : List Int, u = .slice a zs.length cap ∧ zs.length ≤ cap ∧ cap ≤ maxLen ∧ (a = none → cap = 0) ∧
      (∀ k (h : k < zs.length), ∃ b off, a = some ⟨b, off, none⟩ ∧ W.cell? ⟨b, off + k, none⟩ = some (.int kd zs[k])) ∧ ∀ z ∈ zs, (Lit.int kd z).wf = true := by
  rcases open_ints ht he hc hf with ⟨hcs, _⟩ | ⟨a, len, cap, zs, hcs, _, hl, hm, hz, _, hcell, hwf⟩
  · have : u = .slice none 0 0 := by simpa using hcs
    subst this
    exact ⟨none, 0, [], rfl, Nat.le_refl _, Nat.zero_le _, fun _ => rfl, fun k h => by simp at h, fun z h => by simp at h⟩
  · have : u = .slice (some a) len cap := by simpa using hcs
    subst this
    simp only [if_true] at hz
    have hlen : (zs.take len).length = len := by simp; omega
    refine ⟨some a, cap, zs.take len, by rw [hlen], by rw [hlen]; exact hl, hm, fun h => by simp at h, fun k hk => ?_, fun z hz => hwf z (List.mem_of_mem_take hz)⟩
    rw [hlen] at hk
    have h0 := hcell 0 (by omega)
    have hk' := hcell k (by omega)
    have ha : a = ⟨a.block, a.off, none⟩ := addr_of_cell (by simpa [Addr.add] using h0)
    refine ⟨a.block, a.off, by rw [← ha], ?_⟩
    rw [ha, add_none] at hk'
    rw [hk']
    simp [List.getD_eq_getElem?_getD, List.getElem?_eq_getElem (show k < zs.length by omega)]
theorem BS.of_ints {W : World} {a : Option Addr} {cap : Nat} {zs : List Int} (h1 : zs.length ≤ cap) (h2 : cap ≤ maxLen) (h3 : a = none → cap = 0)
    (h4 : ∀ k (h : k < zs.length), ∃ b off, a = some ⟨b, off, none⟩ ∧ W.cell? ⟨b, off + k, none⟩ = some (.int .u8 zs[k])) (h5 : ∀ z ∈ zs, (Lit.int .u8 z).wf = true) : BS W (.slice a zs.length cap) (ub zs) := by
  have hlen : (ub zs).length = zs.length := by simp [ub]
  refine ⟨a, cap, by rw [hlen], by rw [hlen]; exact h1, h2, h3, fun k hk => ?_⟩
  rw [hlen] at hk
  obtain ⟨b, off, rfl, hc⟩ := h4 k hk
  refine ⟨b, off, rfl, ?_⟩
  rw [hc]
  have hw := wf_u8 (h5 zs[k] (by simp))
  have e : (ub zs)[k]'(by rw [hlen]; exact hk) = UInt8.ofNat zs[k].toNat := by simp [ub]
  rw [e]
  generalize zs[k] = z at hw ⊢
  have : (UInt8.ofNat z.toNat).toNat = z.toNat := by simp; omega
  rw [this]
  congr 2
  omega
theorem BS.of_trod {W : World} {t e : TypeId} {u : Value} {fuel base : Nat} {x : DataW H × List MemPlace} (ht : P.underlying t = some (.slice e)) (he : P.underlying e = some (.int .u8)) (hc : P.cellsOf e = 1)
    (hf : DataW.trod enc P W base (fun _ => true) true fuel t [u] = some x) : ∃ l, BS W u l := by
  obtain ⟨a, cap, zs, rfl, h1, h2, h3, h4, h5⟩ := ints_of_trod ht he hc hf
  exact ⟨ub zs, BS.of_ints h1 h2 h3 h4 h5⟩
/-- An argument that is a slice of integers, opened. -/
theorem ints_opened {W : World} {t e : TypeId} {kd : IntKind} {v : Value} {d : DataW H} {ps : List MemPlace} (ht : P.underlying t = some (.slice e)) (he : P.underlying e = some (.int kd)) (hc : P.cellsOf e = 1)
    {base : Nat} (hv : Value.okWide P W .any base t v) (h : DataW.Trod enc P W 0 (fun _ => true) true t v d ps) : ∃ a cap, ∃ zs : List Int, v = .slice a zs.length cap ∧ zs.length ≤ cap ∧ cap ≤ maxLen ∧ (a = none → cap = 0) ∧
      (∀ k (h : k < zs.length), ∃ b off, a = some ⟨b, off, none⟩ ∧ W.cell? ⟨b, off + k, none⟩ = some (.int kd zs[k])) ∧ ∀ z ∈ zs, (Lit.int kd z).wf = true := by
  obtain ⟨a0, len, cap, rfl⟩ := okWide_slice ht hv
  obtain ⟨fuel, hf⟩ := h
  exact ints_of_trod ht he hc hf
/-- An argument that is a slice of bytes, opened. -/
theorem BS.opened {W : World} {t e : TypeId} {v : Value} {d : DataW H} {ps : List MemPlace} (ht : P.underlying t = some (.slice e)) (he : P.underlying e = some (.int .u8)) (hc : P.cellsOf e = 1)
    {base : Nat} (hv : Value.okWide P W .any base t v) (h : DataW.Trod enc P W 0 (fun _ => true) true t v d ps) : ∃ l, BS W v l := by
  obtain ⟨a0, len, cap, rfl⟩ := okWide_slice ht hv
  obtain ⟨fuel, hf⟩ := h
  exact BS.of_trod ht he hc hf

/-- The slice value v reads as slices of bytes. -/
def BSS (w : World) (v : Value) (ls : List (List UInt8)) : Prop :=
  ∃ a cap, v = .slice a ls.length cap ∧ ls.length ≤ cap ∧ cap ≤ maxLen ∧ ∀ k (h : k < ls.length), ∃ b off u, a = some ⟨b, off, none⟩ ∧ w.cell? ⟨b, off + k, none⟩ = some u ∧ BS w u ls[k]
theorem BSS.opened {W : World} {t e e2 : TypeId} {v : Value} {d : DataW H} {ps : List MemPlace} (ht : P.underlying t = some (.slice e)) (hce : P.cellsOf e = 1) (he : P.underlying e = some (.slice e2)) (he2 : P.underlying e2 = some (.int .u8)) (hc : P.cellsOf e2 = 1)
    {base : Nat} (hv : Value.okWide P W .any base t v) (h : DataW.Trod enc P W 0 (fun _ => true) true t v d ps) : ∃ ls, BSS W v ls := by
  obtain ⟨a0, len, cap, rfl⟩ := okWide_slice ht hv
  obtain ⟨fuel, hf⟩ := h
  rcases Deep.open_slice1 ht hce hf with ⟨hcs, _⟩ | ⟨a, len', cap', m, n, V, D, Pl, hcs, _, hl, hm, hmm, _, hel⟩
  · have : a0 = none ∧ len = 0 ∧ cap = 0 := by simpa [Value.cells] using hcs
    obtain ⟨rfl, rfl, rfl⟩ := this
    exact ⟨[], none, 0, rfl, Nat.le_refl _, Nat.zero_le _, fun k h => by simp at h⟩
  · have : a0 = some a ∧ len = len' ∧ cap = cap' := by simpa [Value.cells] using hcs
    obtain ⟨rfl, rfl, rfl⟩ := this
    simp only [if_true] at hmm
    obtain ⟨f, hf'⟩ := Deep.choose_lt (n := len) (p := fun i l => BS W (V i) l) (fun i hi => BS.of_trod he he2 hc (hel i (by omega)).2)
    refine ⟨(List.range len).map f, some a, cap, by simp, by simpa using hl, hm, fun k hk => ?_⟩
    simp only [List.length_map, List.length_range] at hk
    have h0 := (hel 0 (by omega)).1
    have hk' := (hel k (by omega)).1
    have ha : a = ⟨a.block, a.off, none⟩ := addr_of_cell (by simpa [Addr.add] using h0)
    refine ⟨a.block, a.off, V k, by rw [← ha], ?_, ?_⟩
    · rw [ha, add_none] at hk'; exact hk'
    · simpa using hf' k hk

theorem run_string_of_bytes {w : World} {v : Value} {l : List UInt8} {src e dst : TypeId} (hs : P.underlying src = some (.slice e)) (he : P.underlying e = some (.int .u8)) (hd : P.underlying dst = some .string)
    (h : BS w v l) : (convert src dst v).run P w = .ok (.string ⟨l.toArray⟩) w := by
  obtain ⟨a, cap, rfl, _, _, ha, hc⟩ := h
  cases a with
  | none =>
    cases l with
    | nil => exact run_convert_bytes_nil w src e hs he _ _ dst hd
    | cons x l => obtain ⟨_, _, h, _⟩ := hc 0 (by simp); simp at h
  | some a =>
    cases l with
    | nil =>
      rw [run_convert_bytes_string w src dst e _ _ _ hs he hd]
      exact run_bytesToString w a 0 cap [] (by simp [loadCells, loadCellsFrom])
    | cons x l =>
      obtain ⟨b, off, h, _⟩ := hc 0 (by simp)
      obtain rfl := Option.some.inj h
      have := run_convert_bytes_arg (P := P) w src e hs he b off (x :: l).length cap ((x :: l).map fun u => (u.toNat : Int)) (by simp) (fun i hi => by
        obtain ⟨b', off', h', hc'⟩ := hc i hi
        obtain ⟨rfl, rfl⟩ : b = b' ∧ off = off' := by simpa using h'
        rw [hc', List.getD_eq_getElem?_getD, List.getElem?_map, List.getElem?_eq_getElem hi]; rfl) dst hd
      rw [this]
      congr 2
      have e : ((x :: l).map fun u : UInt8 => (u.toNat : Int)).map (fun n => UInt8.ofNat n.toNat) = x :: l := by
        rw [List.map_map]
        conv => rhs; rw [← List.map_id (x :: l)]
        apply List.map_congr_left; intro u _; simp
      show ByteArray.mk _ = _
      rw [e]

/-! ### A law's row, closed -/

/-- One closed fact ('by kernel_rfl'): each parameter's type can be read and is a row of the table. -/
def paramsRowed (P : Program) (ts : List TypeId) : Bool := ts.all fun t => P.readableRec t && decide (t < P.types.size)

theorem trodAll_below (hl : laidOutB P = true) {W W' : World} (hb : Below W.heap.size W W') : ∀ {ts : List TypeId} {vs : List Value} {ds : List (DataW H)} {ps : List MemPlace}, paramsRowed P ts = true →
    DataW.TrodAll enc P W 0 (fun _ => true) true ts vs ds ps → DataW.TrodAll enc P W' 0 (fun b => decide (b < W.heap.size)) true ts vs ds ps
  | [], [], [], _, _, h => h
  | t :: ts, v :: vs, d :: ds, ps, hr, h => by
    simp only [paramsRowed, List.all_cons, Bool.and_eq_true, decide_eq_true_eq] at hr
    have hlt := h.lt
    obtain ⟨p, q, h1, h2, rfl⟩ := h
    exact ⟨p, q, hb.trod hl hr.1.1 hr.1.2 h1 (fun x hx => hlt x (by simp [hx])), trodAll_below hl hb hr.2 h2, rfl⟩
  | [], [], _ :: _, _, _, h => h.elim
  | [], _ :: _, _, _, _, h => h.elim
  | _ :: _, [], _, _, _, h => h.elim
  | _ :: _, _ :: _, [], _, _, h => h.elim

/-- A LAW's LAST STEP: it returned true, and below the old heap's size nothing has turned. -/
theorem law_post {f : Func} {s : ChangeSpec} {W W' : World} {args : Array Value} {ds gs : List (DataW H)} {before : List MemPlace} {tb : TypeId}
    (hl : laidOutB P = true) (hp : paramsRowed P f.params.toList = true) (hv : s.vars = []) (hr : f.resultTypes = #[tb]) (htb : P.underlying tb = some .bool)
    (hW : DataW.Whole enc P f.params.toList s.vars false W args.toList ds gs before) (hs : s.fn H (ds ++ gs) = { results := [.lit (.bool true)], args := ds }) (hb : Below W.heap.size W W') :
    s.post enc P f false true false false W args (.bool true) W' := by
  have hW' := hW
  obtain ⟨p, q, hA, hV, rfl, hfz, hnd⟩ := hW
  rw [hv] at hV
  refine ⟨ds, gs, p ++ q, [], p, [], hW', ?_, ?_, ?_, hb.frame _, fun h => by cases h⟩
  · rw [hs, hr]
    exact trodAll_mk1 ⟨1, by simp [DataW.trod, Value.cells, htb]⟩
  · rw [hs]; exact trodAll_below hl hb hp hA
  · rw [hs, hv]; exact rfl

/-! ### A region that draws its order, whose callees make memory, but turn nothing that was there (but for the blocks of S) -/
structure Later (S : List Nat) (w : World) where
  at' : World
  only : Only S w at'
instance (S : List Nat) (w : World) : Nonempty (Later S w) := ⟨⟨w, Only.refl S w⟩⟩
theorem Later.cell {S : List Nat} {w : World} {p : Addr} {v : Value} (hc : w.cell? p = some v) (hn : p.block ∉ S) (x : Later S w) : x.at'.cell? p = some v := x.only.cell hc hn

theorem wp_region_later (S : List Nat) {id : Nat} {Q : Exit → Act → World → Prop} {a : Act} {w : World} {l : List Oper} (hm : P.follows .mixedOrders = true) (hB : Region.lexB .any l.toArray = true)
    (h : wpQuiet P l.toArray (fun w' => ∃ x : Later S w, w' = x.at') (fun a' => ∀ w', (∃ x : Later S w, w' = x.at') → Q .normal a' w') l a) : (Code.region id l.toArray true).wp P Q a w :=
  wp_region_quiet (C := fun w' => ∃ x : Later S w, w' = x.at') hm hB ⟨⟨_, (Only.refl S w).drew⟩, rfl⟩ (by simpa using h)

theorem Calls.later {S : List Nat} {w : World} {x : Later S w} {f : FuncId} {args : Array Value} {v : Value} (h : Calls P f args x.at' fun e w' => e = .returned v ∧ Only S x.at' w') :
    Calls P f args x.at' fun e w' => e = .returned v ∧ ∃ y : Later S w, w' = y.at' :=
  h.mono fun _ w' ⟨he, ho⟩ => ⟨he, ⟨w', x.only.then ho⟩, rfl⟩
theorem Calls.later_nil {S : List Nat} {w : World} {x : Later S w} {f : FuncId} {args : Array Value} {v : Value} (h : Calls P f args x.at' fun e w' => e = .returned v ∧ Only [] x.at' w') :
    Calls P f args x.at' fun e w' => e = .returned v ∧ ∃ y : Later S w, w' = y.at' :=
  Calls.later (h.mono fun _ _ ⟨he, ho⟩ => ⟨he, ho.mono (by simp)⟩)
theorem Calls.later_same {S : List Nat} {w : World} {x : Later S w} {f : FuncId} {args : Array Value} {v : Value} (h : Calls P f args x.at' fun e w' => e = .returned v ∧ x.at' = w') :
    Calls P f args x.at' fun e w' => e = .returned v ∧ ∃ y : Later S w, w' = y.at' :=
  h.mono fun _ _ ⟨he, hw⟩ => ⟨he, x, hw.symm⟩
end
end Go.Lm
