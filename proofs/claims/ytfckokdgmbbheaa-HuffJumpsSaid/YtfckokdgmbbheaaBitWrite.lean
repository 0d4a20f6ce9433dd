/-
  THE WALKS of package bits: writers.
-/
import Derived.Test.YtfckokdgmbbheaaBitRead
import Derived.Test.YtfckokdgmbbheaaGen6
import Derived.Deep.RegionHeld3
set_option linter.unusedVariables false
set_option linter.unusedSimpArgs false
set_option maxRecDepth 20000
namespace Go.Proofs.Ytfckokdgmbbheaa.bit
open Go Go.RowKit Go.Lm

/-- A writer: how many bits, its bytes. -/
def WX (w : World) (B r : Nat) (n : Int) (D : List UInt8) : Prop :=
  B ≤ r ∧ ∃ v, w.heap[r]? = some (.cells #[v, .int .i64 n] 105 (0, 0)) ∧ OV w B 5 v (D.map u8v)
/-- A writer of bits. -/
def WB (w : World) (B r : Nat) (L : List Bool) : Prop := WX w B r (L.length : Int) (Bt.bytesOf L)

/-- The block that a writer's bytes lie in. -/
def wown (w : World) (r : Nat) : List Nat := match w.heap[r]? with | some (.cells cs _ _) => (cs.getD 0 undef).ownBlock.toList | _ => []
theorem wown_eq {w : World} {r : Nat} {v n : Value} {t : TypeId} {fr : Nat × Nat} (h : w.heap[r]? = some (.cells #[v, n] t fr)) : wown w r = v.ownBlock.toList := by
  unfold wown; rw [h]; rfl
/-- Only a writer's own blocks have turned; they are the same or new. -/
structure OW (w w' : World) (r : Nat) : Prop where
  only : Only (r :: wown w r) w w'
  own : ∀ g ∈ wown w' r, g ∈ wown w r ∨ w.heap.size ≤ g
theorem OW.refl (w : World) (r : Nat) : OW w w r := ⟨Only.refl _ _, fun g h => .inl h⟩
theorem OW.trans {a b c : World} {r : Nat} (h : OW a b r) (k : OW b c r) : OW a c r :=
  ⟨h.only.trans k.only (fun i hi => .inl hi) (fun i hi => by
    rcases List.mem_cons.1 hi with rfl | hi
    · exact .inl (by simp)
    · rcases h.own i hi with h1 | h1
      · exact .inl (List.mem_cons_of_mem _ h1)
      · exact .inr h1), fun g hg => by
    rcases k.own g hg with h1 | h1
    · exact h.own g h1
    · exact .inr (Nat.le_trans h.only.size h1)⟩
theorem OW.drew {a b : World} {r : Nat} (h : OW a b r) : OW a b.drew r := ⟨h.only.drew, h.own⟩
theorem OW.below {w w' : World} {B r : Nat} {n : Int} {D : List UInt8} (h : OW w w' r) (hw : WX w B r n D) : Below B w w' := by
  obtain ⟨h1, v, h2, h3⟩ := hw
  refine h.only.below (fun k hk => ?_) (by have := lt_of_block h2; omega)
  rcases List.mem_cons.1 hk with rfl | hk
  · exact h1
  · rw [wown_eq h2] at hk
    exact (h3.lt (c := k) (by simpa using hk)).1
theorem WX.lt {w : World} {B r : Nat} {n : Int} {D : List UInt8} (h : WX w B r n D) : r < w.heap.size := by
  obtain ⟨_, v, h2, _⟩ := h
  exact lt_of_block h2
theorem WX.only {w w' : World} {B r : Nat} {n : Int} {D : List UInt8} (h : WX w B r n D) (ho : Only [] w w') : WX w' B r n D := by
  obtain ⟨h1, v, h2, h3⟩ := h
  exact ⟨h1, v, ho.heap h2 (by simp), h3.only ho (by simp)⟩
theorem WX.only' {S : List Nat} {w w' : World} {B r : Nat} {n : Int} {D : List UInt8} (h : WX w B r n D) (ho : Only S w w') (hS : ∀ s ∈ S, s < B) : WX w' B r n D := by
  obtain ⟨h1, v, h2, h3⟩ := h
  exact ⟨h1, v, ho.heap h2 (fun hm => by have := hS r hm; omega), h3.only ho fun c hc hm => by
    have := (h3.lt hc).1
    have := hS c hm
    omega⟩
theorem OV.ne_pair {w : World} {B r : Nat} {e : TypeId} {v a b : Value} {l : List Value} {t : TypeId} {fr : Nat × Nat} (h : OV w B e v l) (hr : w.heap[r]? = some (.cells #[a, b] t fr)) (hte : t ≠ e) : ∀ c, v.ownBlock = some c → c ≠ r := by
  intro c hc he
  subst he
  rcases h.2 with ⟨h0, _⟩ | ⟨g, cap', cur, he, _, hg, _⟩
  · rw [h0] at hc; simp [Value.ownBlock] at hc
  · rw [he] at hc
    simp only [Value.ownBlock, Option.some.injEq] at hc
    subst hc
    rw [hr] at hg
    simp at hg
    exact hte hg.2.1
theorem WX.cells {w : World} {B r : Nat} {n : Int} {D : List UInt8} (h : WX w B r n D) : ∃ a cap, w.cell? ⟨r, 0, none⟩ = some (.slice a D.length cap) ∧ w.cell? ⟨r, 1, none⟩ = some (.int .i64 n) ∧ (∀ k, w.frozen? ⟨r, k, none⟩ = false) ∧ OV w B 5 (.slice a D.length cap) (D.map u8v) ∧
    w.heap[r]? = some (.cells #[.slice a D.length cap, .int .i64 n] 105 (0, 0)) ∧ (∀ c, (Value.slice a D.length cap).ownBlock = some c → c ≠ r) ∧ D.length ≤ cap ∧ cap ≤ maxLen := by
  obtain ⟨h1, v, h2, h3⟩ := h
  obtain ⟨a, cap, rfl, h4, h5⟩ := h3.slice
  rw [List.length_map] at h2 h3 h4
  exact ⟨a, cap, by rw [cell_of_row _ _ _ _ _ _ h2]; rfl, by rw [cell_of_row _ _ _ _ _ _ h2]; rfl, fun k => by simp [World.frozen?, h2], h3, h2, OV.ne_pair h3 h2 (by decide), h4, h5⟩
/-- A writer's slice has grown, and is laid. -/
theorem WX.grow {w w0 w' : World} {B r : Nat} {n : Int} {D' : List UInt8} {v v' : Value} (h1 : B ≤ r) (h2 : w.heap[r]? = some (.cells #[v, .int .i64 n] 105 (0, 0))) (hb : ∀ c, v.ownBlock = some c → B ≤ c) (hne : ∀ c, v.ownBlock = some c → c ≠ r) (h0 : Only [] w w0)
    (hov' : OV w' B 5 v' (D'.map u8v)) (hg : w0.grownBy w' v.ownBlock) (hnew : ∀ g, v'.ownBlock = some g → v.ownBlock = some g ∨ w.heap.size ≤ g) :
    w'.cell? ⟨r, 0, none⟩ = some v ∧ (∀ k, w'.frozen? ⟨r, k, none⟩ = false) ∧ WX (w'.setCell ⟨r, 0, none⟩ v') B r n D' ∧ OW w (w'.setCell ⟨r, 0, none⟩ v') r := by
  have hlt := lt_of_block h2
  have ho : Only v.ownBlock.toList w w' := h0.trans (Only.of_grown hg) (by simp) (fun i hi => .inl hi)
  have hr : w'.heap[r]? = some (.cells #[v, .int .i64 n] 105 (0, 0)) := ho.heap h2 (by
    intro hm
    exact hne r (by simpa using hm) rfl)
  have hov2 : OV (w'.setCell ⟨r, 0, none⟩ v') B 5 v' (D'.map u8v) := by
    refine hov'.only ((Only.refl [r] w').setCell (.inl (by simp)) _) fun c hc hm => ?_
    simp only [List.mem_singleton] at hm
    exact OV.ne_pair hov' hr (by decide) c hc hm
  refine ⟨by rw [cell_of_row _ _ _ _ _ _ hr]; rfl, fun k => by simp [World.frozen?, hr], ⟨h1, _, (Go.Lm.heap_setCell_same (k := 0) hr _).trans rfl, hov2⟩, ?_⟩
  have ho2 : Only (r :: v.ownBlock.toList) w (w'.setCell ⟨r, 0, none⟩ v') := (ho.mono (S' := r :: v.ownBlock.toList) (fun i hi => .inl (List.mem_cons_of_mem _ hi))).setCell (.inl (by simp)) _
  refine ⟨by rw [wown_eq h2]; exact ho2, fun g hg => ?_⟩
  rw [wown_eq h2]
  rw [wown_eq ((Go.Lm.heap_setCell_same (k := 0) hr _).trans rfl)] at hg
  have hgv : v'.ownBlock = some g := by simpa using hg
  rcases hnew g hgv with h1 | h1
  · exact .inl (by simp [h1])
  · exact .inr h1
/-- The number is laid. -/
theorem WX.put {w : World} {B r : Nat} {n : Int} {D : List UInt8} (h : WX w B r n D) (n' : Int) : WX (w.setCell ⟨r, 1, none⟩ (.int .i64 n')) B r n' D ∧ OW w (w.setCell ⟨r, 1, none⟩ (.int .i64 n')) r := by
  have hlt := h.lt
  obtain ⟨h1, v, h2, h3⟩ := h
  have ho : Only [r] w (w.setCell ⟨r, 1, none⟩ (.int .i64 n')) := (Only.refl [r] w).setCell (.inl (by simp)) _
  refine ⟨⟨h1, v, (Go.Lm.heap_setCell_same (k := 1) h2 _).trans rfl, h3.only ho fun c hc hm => ?_⟩, ⟨ho.mono (by simp), fun g hg => .inl ?_⟩⟩
  · simp only [List.mem_singleton] at hm
    exact OV.ne_pair h3 h2 (by decide) c hc hm
  · rw [wown_eq h2]
    rw [wown_eq ((Go.Lm.heap_setCell_same (k := 1) h2 _).trans rfl)] at hg
    exact hg
theorem set_u8 {w : World} {B g n cap : Nat} {l : List UInt8} (h : OV w B 5 (.slice (some ⟨g, 0, none⟩) n cap) (l.map u8v)) (hn : l.length = n) (j : Nat) (hj : j < n) :
    w.cell? ⟨g, j, none⟩ = some (u8v (l[j]'(by omega))) ∧ w.frozen? ⟨g, j, none⟩ = false ∧ ∀ u : UInt8, OV (w.setCell ⟨g, j, none⟩ (u8v u)) B 5 (.slice (some ⟨g, 0, none⟩) n cap) ((l.set j u).map u8v) := by
  unfold OV at *
  rw [List.length_map, hn] at h
  have h1 := h.cellAt j (by omega)
  refine ⟨by rw [h1]; simp [show j < l.length by omega], h.frozenAt j, fun u => ?_⟩
  have h2 := h.stored j (u8v u)
  rw [List.length_map, List.length_set, hn, List.map_set]
  exact h2.1
/-- A byte is laid. -/
theorem WX.byte {w : World} {B r : Nat} {n : Int} {D : List UInt8} {a : Option Addr} {cap : Nat} (h : WX w B r n D) (hr : w.heap[r]? = some (.cells #[.slice a D.length cap, .int .i64 n] 105 (0, 0))) (hov : OV w B 5 (.slice a D.length cap) (D.map u8v)) (q : Nat) (hq : q < D.length) :
    ∃ g, a = some ⟨g, 0, none⟩ ∧ g ≠ r ∧ w.cell? ⟨g, q, none⟩ = some (.int .u8 (D[q].toNat : Int)) ∧ w.frozen? ⟨g, q, none⟩ = false ∧
      ∀ u : UInt8, WX (w.setCell ⟨g, q, none⟩ (.int .u8 (u.toNat : Int))) B r n (D.set q u) ∧ OW w (w.setCell ⟨g, q, none⟩ (.int .u8 (u.toNat : Int))) r := by
  have hlt := h.lt
  have hne := OV.ne_pair hov hr (by decide)
  have hgg : ∃ g, a = some ⟨g, 0, none⟩ ∧ B ≤ g := by
    rcases hov.2 with ⟨he, _⟩ | ⟨g, cap', cur, he, hg, _⟩
    · simp only [Value.slice.injEq] at he; omega
    · simp only [Value.slice.injEq] at he
      exact ⟨g, he.1, hg⟩
  obtain ⟨g, rfl, hgB⟩ := hgg
  have hgr : g ≠ r := hne g rfl
  obtain ⟨h1, h2, h3⟩ := set_u8 hov rfl q hq
  refine ⟨g, rfl, hgr, h1, h2, fun u => ?_⟩
  have ho : Only [g] w (w.setCell ⟨g, q, none⟩ (u8v u)) := (Only.refl [g] w).setCell (.inl (by simp)) _
  refine ⟨⟨h.1, _, ho.heap hr (by simp; exact fun e => hgr e.symm), ?_⟩, ⟨ho.mono (by intro i hi; simp only [List.mem_singleton] at hi; subst hi; rw [wown_eq hr]; exact .inl (by simp [Value.ownBlock])), fun k hk => .inl ?_⟩⟩
  · exact h3 u
  · rw [wown_eq hr]
    have hr' := ho.heap hr (by simp; exact fun e => hgr e.symm)
    have hk' : k ∈ wown (w.setCell ⟨g, q, none⟩ (u8v u)) r := hk
    rw [wown_eq hr'] at hk'
    exact hk'

/-- What one bit more makes of the bytes. -/
theorem bit_step (L : List Bool) (b : Bool) (D : List UInt8) (hD : D = if L.length % 8 = 0 then Bt.bytesOf L ++ [0] else Bt.bytesOf L) :
    ∃ hq : L.length / 8 < D.length, D[L.length / 8].toNat < 2 ^ (L.length % 8) ∧ Bt.bytesOf (L ++ [b]) = D.set (L.length / 8) (UInt8.ofNat (D[L.length / 8].toNat + 2 ^ (L.length % 8) * b.toNat)) := by
  have hl := Bt.bytesOf_length L
  by_cases h0 : L.length % 8 = 0
  · rw [if_pos h0] at hD
    subst hD
    have hq : L.length / 8 = (Bt.bytesOf L).length := by omega
    refine ⟨by simp; omega, ?_, ?_⟩
    · simp [hq, h0]
    · rw [Bt.bytesOf_new L b h0]
      apply List.ext_getElem
      · simp
      · intro j h1 h2
        rw [List.getElem_set]
        by_cases hj : j < (Bt.bytesOf L).length
        · rw [if_neg (by omega), List.getElem_append_left hj, List.getElem_append_left hj]
        · have hj2 : j = (Bt.bytesOf L).length := by simp at h1; omega
          subst hj2
          rw [if_pos hq]
          simp [hq, h0]
  · rw [if_neg h0] at hD
    subst hD
    have hq : L.length / 8 < (Bt.bytesOf L).length := by omega
    refine ⟨hq, ?_, Bt.bytesOf_more L b h0 hq⟩
    rw [Bt.bytesOf_at]
    have h1 := Bt.num_lt ((L.drop (8 * (L.length / 8))).take 8)
    have h2 : 2 ^ ((L.drop (8 * (L.length / 8))).take 8).length ≤ 2 ^ (L.length % 8) := Nat.pow_le_pow_right (by decide) (by simp; omega)
    have h3 := Bt.num8_lt (L.drop (8 * (L.length / 8)))
    have : (UInt8.ofNat (Bt.num ((L.drop (8 * (L.length / 8))).take 8))).toNat = Bt.num ((L.drop (8 * (L.length / 8))).take 8) := by simp; omega
    rw [this]
    omega
theorem bit_step' (L : List Bool) (b : Bool) (D : List UInt8) (q rr : Nat) (h1 : L.length / 8 = q) (h2 : L.length % 8 = rr) (hD : D = if rr = 0 then Bt.bytesOf L ++ [0] else Bt.bytesOf L) :
    ∃ hq : q < D.length, D[q].toNat < 2 ^ rr ∧ Bt.bytesOf (L ++ [b]) = D.set q (UInt8.ofNat (D[q].toNat + 2 ^ rr * b.toNat)) := by
  subst h1 h2
  exact bit_step L b D hD
/-- A bit laid above, of a byte. -/
theorem or_bit8 (X B k : Nat) (hk : k < 8) (hx : X < 2 ^ k) (hb : B ≤ 1) : bits .or .u8 (X : Int) (IntKind.u8.wrap ((B : Int) * 2 ^ k)) = ((X + 2 ^ k * B : Nat) : Int) ∧ (UInt8.ofNat (X + 2 ^ k * B)).toNat = X + 2 ^ k * B := by
  have hp : 2 ^ k ≤ 2 ^ 7 := Nat.pow_le_pow_right (by decide) (by omega)
  have hm : 2 ^ k * B ≤ 2 ^ k * 1 := Nat.mul_le_mul_left _ hb
  have e : IntKind.u8.wrap ((B : Int) * 2 ^ k) = ((2 ^ k * B : Nat) : Int) := by
    have e1 : (B : Int) * 2 ^ k = ((2 ^ k * B : Nat) : Int) := by rw [Int.natCast_mul, Int.natCast_pow, Int.mul_comm]; rfl
    rw [e1, IntKind.wrap_u8]
    omega
  refine ⟨?_, by simp; omega⟩
  rw [e, or_u8_nat _ _ (by omega) (by omega), Nat.or_comm, ← Nat.two_pow_add_eq_or_of_lt hx, Nat.add_comm]

theorem newwriter_c (w : World) : Calls Try.prog 39 #[] w fun e w' => e = .returned (.pointer (some ⟨w.heap.size, 0, none⟩)) ∧ WB w' w.heap.size w.heap.size [] ∧ Only [] w w' := by
  go_enter Try.func39, Try.ntmps39
  go_wp2
  go_ret
  exact ⟨rfl, ⟨Nat.le_refl _, _, heap_alloc_new w _, OV.nil _ _ _⟩, (Only.refl _ _).alloc _⟩
theorem write_nil (x n : Int) (w : World) : Calls Try.prog 41 #[.pointer none, .int .u64 x, .int .i64 n] w fun x w' => x = .returned (.tuple #[]) ∧ w = w' := by
  go_enter Try.func41, Try.ntmps41
  go_wp2
  go_returns
  exact ⟨rfl, rfl⟩
theorem closed_nil (w : World) : Calls Try.prog 42 #[.pointer none] w fun x w' => x = .returned (.slice none 0 0) ∧ w = w' := by
  go_enter Try.func42, Try.ntmps42
  go_wp2
  go_ret
  exact ⟨rfl, rfl⟩
set_option maxRecDepth 100000 in
set_option maxHeartbeats 4000000 in
theorem write_o (w : World) (B r : Nat) (L : List Bool) (h : WB w B r L) (x : Nat) (n : Int) (hx : x < 18446744073709551616) (hl : L.length ≤ 100000000) : Calls Try.prog 41 #[.pointer (some ⟨r, 0, none⟩), .int .u64 x, .int .i64 n] w fun e w' =>
    e = .returned (.tuple #[]) ∧ WB w' B r (L ++ if 1 ≤ n ∧ n ≤ 56 then Bt.low x n.toNat else []) ∧ OW w w' r := by
  have H := Lib.hid h; clear h
  by_cases hn1 : 1 ≤ n
  · by_cases hn2 : n ≤ 56
    · rw [if_pos ⟨hn1, hn2⟩]
      obtain ⟨n, rfl⟩ := Int.eq_ofNat_of_zero_le (show 0 ≤ n by omega)
      rw [Int.toNat_natCast]
      obtain ⟨i0, hi, hz0, hz1, hz2⟩ := info_parts info_u8
      have HI := Lib.hid hi; have HZ0 := Lib.hid hz0; have HZ1 := Lib.hid hz1; have HZ2 := Lib.hid hz2
      clear hi hz0 hz1 hz2
      go_enter Try.func41, Try.ntmps41
      go_wp2
      go_loopw [18] (fun i wr => ∃ k : Nat, k ≤ n ∧ i = .int .i64 k ∧ WB wr B r (L ++ Bt.low x k) ∧ OW w wr r) (fun i _ => n - (intOf i).toNat)
      case atStart => exact ⟨0, Nat.zero_le _, rfl, by simpa [Bt.low] using H.out, OW.refl _ _⟩
      case round =>
        obtain ⟨k, hk, rfl, hwr, hbw⟩ := hrel
        have HBW := Lib.hid hbw; clear hbw
        by_cases hkn : k < n
        · have hls : (L ++ Bt.low x k).length = L.length + k := by rw [List.length_append, Bt.low_length]
          have hsn : L ++ Bt.low x (k + 1) = (L ++ Bt.low x k) ++ [x / 2 ^ k % 2 == 1] := by rw [Bt.low_snoc, List.append_assoc]
          have HSN := Lib.hid hsn; clear hsn
          obtain ⟨m, hm⟩ : ∃ m, L.length + k = m := ⟨_, rfl⟩
          rw [hm] at hls
          have hmb : m ≤ 100000056 := by omega
          generalize L ++ Bt.low x k = L' at *
          obtain ⟨b, hb⟩ : ∃ b, (x / 2 ^ k % 2 == 1) = b := ⟨_, rfl⟩
          rw [hb] at HSN
          have htb : x.testBit k = b := by rw [Nat.testBit_eq_decide_div_mod_eq, ← hb, Bool.eq_iff_iff]; simp
          have hand := and_one64 x k hx
          rw [htb] at hand
          have hB1 : b.toNat ≤ 1 := by cases b <;> simp
          have hm1 : (m : Int) % 8 = ((m % 8 : Nat) : Int) := by omega
          have hm2 : (m : Int) / 8 = ((m / 8 : Nat) : Int) := by omega
          have hm8 : m % 8 < 8 := by omega
          have hwm : IntKind.i64.wrap ((m : Int) + 1) = (m : Int) + 1 := by rw [IntKind.wrap_i64]; omega
          have hwb : IntKind.u8.wrap (b.toNat : Int) = (b.toNat : Int) := by rw [IntKind.wrap_u8]; omega
          have hwr' : WX wr B r (m : Int) (Bt.bytesOf L') := by have := hwr; unfold WB at this; rw [hls] at this; exact this
          have hbl := Bt.bytesOf_length L'
          rw [hls] at hbl
          obtain ⟨a, cap, hc0, hc1, hf, hov, hr, hne, hcap1, hcap2⟩ := hwr'.cells
          have hBr := hwr'.1
          have hrl := hwr'.lt
          unfold maxLen at hcap2
          clear hm htb hb hwr
          obtain ⟨q, hqq⟩ : ∃ q, m / 8 = q := ⟨_, rfl⟩
          rw [hqq] at hm2
          by_cases hm0 : m % 8 = 0
          · obtain ⟨v', w', hrun, hov', hg⟩ := run_append_one (P := Try.prog) (ty := 22) (T := 5) (fr := (0, 0)) (u := .int .u8 0) Try.underlying22 HI.out HZ0.out HZ1.out HZ2.out rfl hov rfl (by simp [maxLen, hbl]; omega) (by simp [hbl]; omega) (by omega)
            have hnb := append_block_one (P := Try.prog) Try.underlying22 HI.out HZ0.out HZ1.out HZ2.out rfl hov rfl (by simp [maxLen, hbl]; omega) (by simp [hbl]; omega) hrun
            obtain ⟨a', n', cap', rfl⟩ : ∃ a n c, v' = .slice a n c := by obtain ⟨a, c, h, _⟩ := hov'.slice; exact ⟨a, _, c, h⟩
            have e1 : List.map u8v (Bt.bytesOf L') ++ [Value.int .u8 0] = List.map u8v (Bt.bytesOf L' ++ [0]) := by rw [List.map_append]; rfl
            rw [e1] at hov'
            obtain ⟨hc', hf', hw', hb'⟩ := WX.grow hBr hr (fun c hc => (hov.lt hc).1) hne ((Only.refl [] wr).alloc _) hov' hg hnb
            obtain ⟨hq, hlt, hst⟩ := bit_step' L' b (Bt.bytesOf L' ++ [0]) q 0 (by rw [hls]; exact hqq) (by rw [hls]; exact hm0) (by rw [if_pos rfl])
            have HW := Lib.hid hw'; have HB := Lib.hid (HBW.out.trans hb'); have HRUN := Lib.hid hrun
            clear hg hov' hov hw' hb' hrun hr hne hwr' e1 hbl hcap1 hcap2 hnb
            generalize Bt.bytesOf L' ++ [0] = D at *
            rw [hm0] at hm1
            have HLT := Lib.hid hlt; have HST := Lib.hid hst
            clear hlt hst hqq hm0
            go_wp2_with (at_builtin; refine wpList_append_run rfl _ _ _ rfl rfl rfl HRUN.out ?_)
            clear hc' hf' hc0 hc1 hf
            have hw1 := HW.out; have hb1 := HB.out
            generalize (World.setCell _ _ _) = w1 at hw1 hb1 ⊢
            obtain ⟨a1, cap1, hc0, hc1, hf, hov1, hr1, hne1, hcap1, hcap2⟩ := hw1.cells
            obtain ⟨g, rfl, hgr, hcell, hfr, hset⟩ := hw1.byte hr1 hov1 q hq
            unfold maxLen at hcap2
            have hor := or_bit8 (D[q]'hq).toNat b.toNat 0 (by omega) HLT.out hB1
            obtain ⟨Z, hZ⟩ : ∃ Z, (D[q]'hq).toNat + 2 ^ 0 * b.toNat = Z := ⟨_, rfl⟩
            rw [hZ] at hor HST
            obtain ⟨hor, hZu⟩ := hor
            rw [Int.pow_zero, Int.mul_one, hwb] at hor
            obtain ⟨hs1, hs2⟩ := hset (UInt8.ofNat Z)
            rw [hZu] at hs1 hs2
            rw [← HST.out] at hs1
            generalize (D[q]'hq).toNat = c at *
            obtain ⟨a3, cap3, -, hd1, hf3, -, -, -, -, -⟩ := hs1.cells
            obtain ⟨hp1, hp2⟩ := hs1.put ((m : Int) + 1)
            have HP1 := Lib.hid hp1; have HP2 := Lib.hid ((hb1.trans hs2).trans hp2)
            have hq0 : (0 : Int) ≤ (q : Int) := by omega
            have hqI : (q : Int) < (D.length : Int) := by omega
            clear hp1 hp2 hs1 hs2 hset hov1 hr1 hne1 hw1 hb1 hZ hZu
            go_region
            all_goals
              go_wp2
              go_roundw
              case rel => exact ⟨k + 1, by omega, by go_num, by rw [HSN.out]; unfold WB; rw [List.length_append, hls]; exact (HP1.out.only (Only.drew (Only.refl [] _))), HP2.out.drew⟩
              case measure => simp [intOf]; omega
          · obtain ⟨rr, hrr⟩ : ∃ rr, m % 8 = rr := ⟨_, rfl⟩
            obtain ⟨hq, hlt, hst⟩ := bit_step' L' b (Bt.bytesOf L') q rr (by rw [hls]; exact hqq) (by rw [hls]; exact hrr) (by rw [← hrr, if_neg hm0])
            rw [hrr] at hm0 hm1 hm8
            have hm0' : (rr : Int) ≠ 0 := by omega
            have hz8 : ((rr : Int) == 0) = false := beq_eq_false_iff_ne.2 hm0'
            have hw1 := hwr'
            have hb1 := HBW.out
            clear hov hr hne hwr' hbl hcap1 hcap2 hm0 hm0'
            generalize hDD : Bt.bytesOf L' = D at *
            clear hDD
            clear hrr
            have HLT := Lib.hid hlt; have HST := Lib.hid hst
            have HW := Lib.hid hw1; have HB := Lib.hid hb1
            clear hlt hst hw1 hb1 hqq
            go_wp2_with fail
            clear hc0 hc1 hf hz8
            obtain ⟨w1, hw1e⟩ : ∃ w1, wr = w1 := ⟨_, rfl⟩
            subst hw1e
            have hw1 := HW.out; have hb1 := HB.out
            obtain ⟨w1, hw1e⟩ : ∃ w1, wr = w1 := ⟨_, rfl⟩
            rw [hw1e] at hw1 hb1 ⊢
            clear hw1e
            obtain ⟨a1, cap1, hc0, hc1, hf, hov1, hr1, hne1, hcap1, hcap2⟩ := hw1.cells
            obtain ⟨g, rfl, hgr, hcell, hfr, hset⟩ := hw1.byte hr1 hov1 q hq
            unfold maxLen at hcap2
            have hor := or_bit8 (D[q]'hq).toNat b.toNat rr (by omega) HLT.out hB1
            obtain ⟨Z, hZ⟩ : ∃ Z, (D[q]'hq).toNat + 2 ^ rr * b.toNat = Z := ⟨_, rfl⟩
            rw [hZ] at hor HST
            obtain ⟨hor, hZu⟩ := hor
            rw [IntKind.wrap_u8] at hor
            obtain ⟨hs1, hs2⟩ := hset (UInt8.ofNat Z)
            rw [hZu] at hs1 hs2
            rw [← HST.out] at hs1
            generalize (D[q]'hq).toNat = c at *
            obtain ⟨a3, cap3, -, hd1, hf3, -, -, -, -, -⟩ := hs1.cells
            obtain ⟨hp1, hp2⟩ := hs1.put ((m : Int) + 1)
            have HP1 := Lib.hid hp1; have HP2 := Lib.hid ((hb1.trans hs2).trans hp2)
            have hq0 : (0 : Int) ≤ (q : Int) := by omega
            have hqI : (q : Int) < (D.length : Int) := by omega
            clear hp1 hp2 hs1 hs2 hset hov1 hr1 hne1 hw1 hb1 hZ hZu
            go_region
            all_goals
              go_wp2
              go_roundw
              case rel => exact ⟨k + 1, by omega, by go_num, by rw [HSN.out]; unfold WB; rw [List.length_append, hls]; exact (HP1.out.only (Only.drew (Only.refl [] _))), HP2.out.drew⟩
              case measure => simp [intOf]; omega
        · obtain rfl : k = n := by omega
          have HW := Lib.hid hwr
          clear hwr
          go_wp2
          go_end0
          exact ⟨rfl, HW.out, HBW.out⟩
    · rw [if_neg (by omega), List.append_nil]
      go_enter Try.func41, Try.ntmps41
      go_wp2
      go_returns
      exact ⟨rfl, H.out, OW.refl _ _⟩
  · rw [if_neg (by omega), List.append_nil]
    go_enter Try.func41, Try.ntmps41
    go_wp2
    go_returns
    exact ⟨rfl, H.out, OW.refl _ _⟩
theorem write_c (w : World) (B r : Nat) (L : List Bool) (h : WB w B r L) (x : Nat) (n : Int) (hx : x < 18446744073709551616) (hl : L.length ≤ 100000000) : Calls Try.prog 41 #[.pointer (some ⟨r, 0, none⟩), .int .u64 x, .int .i64 n] w fun e w' =>
    e = .returned (.tuple #[]) ∧ WB w' B r (L ++ if 1 ≤ n ∧ n ≤ 56 then Bt.low x n.toNat else []) ∧ Below B w w' :=
  (write_o w B r L h x n hx hl).mono fun _ _ ⟨h1, h2, h3⟩ => ⟨h1, h2, h3.below h⟩
end Go.Proofs.Ytfckokdgmbbheaa.bit
