/-
  PLAIN: weights that are all 1.
-/
import Derived.Test.YtfckokdgmbbheaaHufTrip
set_option linter.unusedVariables false
set_option linter.unusedSimpArgs false
namespace Go.Lm.Huf
open Go.Lm
theorem worth_ones : ∀ n, worth (List.replicate n 1) = n
  | 0 => rfl
  | n + 1 => by
    rw [List.replicate_succ]
    show pw 1 + worth (List.replicate n 1) = n + 1
    rw [worth_ones n, show pw 1 = 1 by decide]
    omega
theorem getD_ones (n s : Nat) (h : s < n) : (List.replicate n 1).getD s 0 = 1 := by
  rw [List.getD_eq_getElem?_getD, List.getElem?_replicate, if_pos h]; rfl
theorem good_ones (k : Nat) (h1 : 1 ≤ k) (h2 : k ≤ 7) : Good (List.replicate (2 ^ k) 1) k := by
  have ha : 2 ^ 1 ≤ 2 ^ k := Nat.pow_le_pow_right (by decide) h1
  have hb : 2 ^ k ≤ 2 ^ 7 := Nat.pow_le_pow_right (by decide) h2
  refine ⟨by rw [List.length_replicate]; omega, by rw [List.length_replicate]; omega, ?_, ⟨worth_ones _, fun w hw => ?_⟩, h1, by omega⟩
  · obtain ⟨m, hm⟩ : ∃ m, 2 ^ k = m + 1 := ⟨2 ^ k - 1, by omega⟩
    rw [hm, List.replicate_succ']
    simp
  · rw [List.eq_of_mem_replicate hw]; exact h1
theorem ebits_ones (k N : Nat) : ∀ q : List Nat, (∀ s ∈ q, s < N) → (ebits (List.replicate N 1) k q).length = k * q.length
  | [], _ => rfl
  | s :: q, h => by
    have ih := ebits_ones k N q (fun x hx => h x (List.mem_cons_of_mem _ hx))
    have hs := h s (List.mem_cons_self ..)
    simp only [ebits, List.length_append, Bt.low_length, List.length_cons, ih]
    unfold nb
    rw [getD_ones N s hs, Nat.mul_add]
    omega
theorem ns_ones (N : Nat) : ns (List.replicate N 1) = List.replicate N 1 := by
  unfold ns; rw [List.map_replicate]; rfl
theorem and_u8_nat' (a b : Nat) (ha : a < 256) (hb : b < 256) : bits .and .u8 (a : Int) (b : Int) = ((a &&& b : Nat) : Int) := Go.Proofs.Ytfckokdgmbbheaa.bit.and_u8_nat a b ha hb
end Go.Lm.Huf
namespace Go.Proofs.Ytfckokdgmbbheaa.huf
open Go Go.RowKit Go.Lm Go.Proofs.Ytfckokdgmbbheaa.bit
/-- Symbols below a power of two. -/
def mq (M : Nat) (l : List UInt8) : List UInt8 := l.map fun u => UInt8.ofNat (u.toNat &&& M)
theorem mq_length (M : Nat) (l : List UInt8) : (mq M l).length = l.length := by simp [mq]
theorem mq_small (M : Nat) (hM : M < 256) (l : List UInt8) : ∀ s ∈ mq M l, s.toNat ≤ M := by
  intro s hs
  obtain ⟨u, -, rfl⟩ := List.mem_map.1 hs
  have h1 : u.toNat &&& M ≤ M := Nat.and_le_right
  rw [UInt8.toNat_ofNat', Nat.mod_eq_of_lt (by omega)]
  exact h1
theorem mq_snoc (M : Nat) (l : List UInt8) (i : Nat) (h : i < l.length) : mq M (l.take (i + 1)) = mq M (l.take i) ++ [UInt8.ofNat (l[i].toNat &&& M)] := by
  unfold mq
  rw [List.take_succ_eq_append_getElem h, List.map_append]
  rfl
theorem ones_facts (k N : Nat) (h1 : 1 ≤ k) (h2 : k ≤ 7) (hN : 2 ^ k = N) (q : List UInt8) (hq : ∀ s ∈ q, s.toNat < N) (hn : q.length ≤ 1000) :
    henc (List.replicate N 1) q = (sbyt (List.replicate N 1) k q, 0) ∧ hdec (List.replicate N 1) (sbyt (List.replicate N 1) k q) (q.length : Int) = (q, 0) ∧ (sbyt (List.replicate N 1) k q).length = (k * q.length + 8) / 8 := by
  subst hN
  have hg := Huf.good_ones k h1 h2
  have hd : Huf.dep (Huf.ns (List.replicate (2 ^ k) 1)) = k := by rw [Huf.ns_ones]; exact Huf.dep_eq hg
  have h0 : Huf.dep (Huf.ns (List.replicate (2 ^ k) 1)) ≠ 0 := by rw [hd]; omega
  have hok : ∀ s ∈ q, Huf.Okay (List.replicate (2 ^ k) 1) s.toNat := fun s hs => ⟨by rw [List.length_replicate]; exact hq s hs, by rw [Huf.getD_ones _ _ (hq s hs)]; decide⟩
  refine ⟨?_, ?_, ?_⟩
  · rw [henc_yes h0 (by rw [Huf.ns_ones]; exact hok), hd, Huf.ns_ones]
  · rw [hdec_in h0 hn, hd, Huf.ns_ones]; exact trip hg hok
  · unfold sbyt
    rw [Bt.bytesOf_length, List.length_append, List.length_singleton, Huf.ebits_ones k (2 ^ k) _ (fun s hs => ?_), List.length_reverse, Huf.ns_length]
    obtain ⟨u, hu, rfl⟩ := List.mem_map.1 (List.mem_reverse.1 hs)
    exact hq u hu
theorem make_ones (w : World) (n : Nat) (hn : n ≤ 1000000) : (Instr.makeSlice 22 (.int .i64 (n : Int)) (.int .i64 (n : Int))).run Try.prog w =
    .ok (.slice (some ⟨w.heap.size, 0, none⟩) n n) (w.alloc (.cells (madeCells (Value.int .u8 0).cells n) 5)) := by
  obtain ⟨i0, hi, hz0, hz1, hz2⟩ := info_parts info_u8
  have := run_make (P := Try.prog) w 22 5 i0 (.int .u8 0) Try.underlying22 hi hz0 .i64 .i64 n n (by omega) (by omega) (by rw [hz2]; omega) (by omega)
  simpa [hz1] using this
end Go.Proofs.Ytfckokdgmbbheaa.huf
