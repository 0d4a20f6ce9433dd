/-
  PLAIN: what encode makes, decode reads. No program in sight but for those two.
-/
import Derived.Test.YtfckokdgmbbheaaHufAwake
set_option linter.unusedVariables false
set_option linter.unusedSimpArgs false
namespace Go.Proofs.Ytfckokdgmbbheaa.huf
open Go Go.RowKit Go.Lm Go.Proofs.Ytfckokdgmbbheaa.bit

/-- Bits, closed: their last byte, their top, themselves. -/
theorem closed_facts (E : List Bool) : ((Bt.bytesOf (E ++ [true])).getLastD 0).toNat ≠ 0 ∧ Top (Bt.bitsOf (Bt.bytesOf (E ++ [true]))) E.length := by
  have hb := Bt.bitsOf_bytesOf (E ++ [true])
  have hlen := Bt.bytesOf_length (E ++ [true])
  simp only [List.length_append, List.length_singleton] at hlen
  have hl2 := Bt.bitsOf_length (Bt.bytesOf (E ++ [true]))
  have htop : Top (Bt.bitsOf (Bt.bytesOf (E ++ [true]))) E.length := by
    refine ⟨by rw [hl2, hlen]; omega, ?_, fun j hj => ?_⟩
    · rw [hb, List.append_assoc]
      simp [List.getD_eq_getElem?_getD]
    · rw [hb]
      rw [List.getD_eq_getElem?_getD, List.getElem?_append_right (by simp; omega), List.getElem?_replicate]
      split <;> rfl
  refine ⟨fun h0 => ?_, htop⟩
  have hne : Bt.bytesOf (E ++ [true]) ≠ [] := by
    intro e
    rw [e] at hlen
    simp at hlen
    omega
  have hon := htop.on
  have hk : E.length < 8 * (Bt.bytesOf (E ++ [true])).length := by rw [hlen]; omega
  rw [List.getD_eq_getElem?_getD, Bt.bitsOf_get _ _ hk] at hon
  have hi : E.length / 8 < (Bt.bytesOf (E ++ [true])).length := by omega
  rw [List.getElem?_eq_getElem hi] at hon
  rw [getLastD_of _ hne, List.getLast_eq_getElem] at h0
  have he : (Bt.bytesOf (E ++ [true])).length - 1 = E.length / 8 := by omega
  simp only [he] at h0
  simp only [Option.map_some, Option.getD_some] at hon
  rw [h0] at hon
  simp at hon
theorem closed_top (E : List Bool) : topOf (Bt.bytesOf (E ++ [true])) = E.length := (topOf_top (closed_facts E).1).inj (closed_facts E).2
theorem closed_bits (E : List Bool) : sbits (Bt.bytesOf (E ++ [true])) = E.reverse := by
  unfold sbits
  rw [closed_top, Bt.bitsOf_bytesOf, List.append_assoc, List.take_left]
/-- The bytes of symbols. -/
def sbyt (L : List Nat) (d : Nat) (q : List UInt8) : List UInt8 := Bt.bytesOf (Huf.ebits L d (Huf.ns q).reverse ++ [true])
theorem sbyt_facts (L : List Nat) (d : Nat) (q : List UInt8) : ((sbyt L d q).getLastD 0).toNat ≠ 0 ∧ topOf (sbyt L d q) = (Huf.enc L d (Huf.ns q)).length ∧ sbits (sbyt L d q) = Huf.enc L d (Huf.ns q) := by
  unfold sbyt
  rw [← Huf.enc_reverse]
  refine ⟨(closed_facts _).1, ?_, ?_⟩
  · rw [closed_top, List.length_reverse]
  · rw [closed_bits, List.reverse_reverse]
theorem sv_ns (q : List UInt8) : (Huf.ns q).map UInt8.ofNat = q := by
  unfold Huf.ns
  rw [List.map_map]
  conv => rhs; rw [← List.map_id q]
  apply List.map_congr_left
  intro u _
  simp
theorem okay_ns {L : List Nat} {q : List UInt8} (h : ∀ s ∈ q, Huf.Okay L s.toNat) : ∀ s ∈ Huf.ns q, Huf.Okay L s := by
  intro s hs
  obtain ⟨u, hu, rfl⟩ := List.mem_map.1 hs
  exact h u hu
theorem trip {L : List Nat} {d : Nat} (hg : Huf.Good L d) {q : List UInt8} (h : ∀ s ∈ q, Huf.Okay L s.toNat) : sdec L d (sbyt L d q) q.length = (q, 0) := by
  obtain ⟨h1, h2, h3⟩ := sbyt_facts L d q
  have hd := Huf.dec_enc hg.deep (Huf.ns q) (okay_ns h) q.length (by rw [Huf.ns_length]; exact Nat.le_refl _)
  have ht : (Huf.ns q).take q.length = Huf.ns q := List.take_of_length_le (by rw [Huf.ns_length]; exact Nat.le_refl _)
  rw [ht] at hd
  unfold sdec
  rw [if_neg h1, h2, h3, hd]
  simp only [Nat.lt_irrefl, if_false, sv_ns]
theorem trip_less {L : List Nat} {d : Nat} (hg : Huf.Good L d) {q : List UInt8} (h : ∀ s ∈ q, Huf.Okay L s.toNat) (n : Nat) (hn : n < q.length) : sdec L d (sbyt L d q) n = ([], 15) := by
  obtain ⟨h1, h2, h3⟩ := sbyt_facts L d q
  have hd := Huf.dec_enc hg.deep (Huf.ns q) (okay_ns h) n (by rw [Huf.ns_length]; omega)
  have hlt : (Huf.enc L d ((Huf.ns q).take n)).length < (Huf.enc L d (Huf.ns q)).length := by
    have h4 : n < (Huf.ns q).length := by rw [Huf.ns_length]; exact hn
    conv => rhs; rw [← List.take_append_drop n (Huf.ns q), Huf.enc_append, List.length_append, List.drop_eq_getElem_cons h4]
    have h5 := Huf.nb_pos hg.deep (Huf.ns q)[n]
    simp only [Huf.enc, List.length_append, List.length_reverse, Bt.low_length]
    omega
  unfold sdec
  rw [if_neg h1, h2, h3, hd]
  simp only []
  rw [if_neg (by omega), if_pos hlt]
theorem trip_more {L : List Nat} {d : Nat} (hg : Huf.Good L d) {q : List UInt8} (h : ∀ s ∈ q, Huf.Okay L s.toNat) : sdec L d (sbyt L d q) (q.length + 1) = ([], 11) := by
  obtain ⟨h1, h2, h3⟩ := sbyt_facts L d q
  have hd := Huf.dec_enc hg.deep (Huf.ns q) (okay_ns h) q.length (by rw [Huf.ns_length]; exact Nat.le_refl _)
  have ht : (Huf.ns q).take q.length = Huf.ns q := List.take_of_length_le (by rw [Huf.ns_length]; exact Nat.le_refl _)
  rw [ht] at hd
  have hd2 : (Huf.dec L d (Huf.enc L d (Huf.ns q)) (q.length + 1)).2 = (Huf.dec L d (Huf.enc L d (Huf.ns q)) q.length).2 + Huf.nb L d (Huf.sym L (Huf.msb (Huf.enc L d (Huf.ns q)) (Huf.dec L d (Huf.enc L d (Huf.ns q)) q.length).2 d)) := rfl
  rw [hd] at hd2
  unfold sdec
  rw [if_neg h1, h2, h3, if_pos (by rw [hd2]; exact Nat.lt_add_of_pos_right (Huf.nb_pos hg.deep _))]
theorem senc_sbyt {L : List Nat} {d : Nat} {q : List UInt8} (h : ∀ s ∈ q, Huf.Okay L s.toNat) : senc L d q = (sbyt L d q, 0) := by unfold senc sbyt; rw [if_pos h]
theorem sbyt_length (L : List Nat) (d : Nat) (hd : d ≤ 11) (q : List UInt8) : (sbyt L d q).length ≤ 2 * q.length + 1 := by
  have h1 := Huf.ebits_length L d hd (Huf.ns q).reverse
  rw [List.length_reverse, Huf.ns_length] at h1
  unfold sbyt
  simp only [Bt.bytesOf_length, List.length_append, List.length_singleton]
  omega
/-- Encode, Decode: by weights. -/
theorem henc_no {l q : List UInt8} (h : Huf.dep (Huf.ns l) = 0 ∨ ¬ ∀ s ∈ q, Huf.Okay (Huf.ns l) s.toNat) : henc l q = ([], 1) := by
  unfold henc
  by_cases h0 : Huf.dep (Huf.ns l) = 0
  · rw [if_pos h0]
  · rw [if_neg h0]
    exact senc_not (h.resolve_left h0)
theorem henc_yes {l q : List UInt8} (h0 : Huf.dep (Huf.ns l) ≠ 0) (h : ∀ s ∈ q, Huf.Okay (Huf.ns l) s.toNat) : henc l q = (sbyt (Huf.ns l) (Huf.dep (Huf.ns l)) q, 0) := by
  unfold henc
  rw [if_neg h0, senc_sbyt h]
theorem hdec_in {l b : List UInt8} {n : Nat} (h0 : Huf.dep (Huf.ns l) ≠ 0) (hn : n ≤ 1000) : hdec l b (n : Int) = sdec (Huf.ns l) (Huf.dep (Huf.ns l)) b n := by
  unfold hdec
  rw [if_neg h0, if_neg (by omega), Int.toNat_natCast]
theorem henc_len (l q : List UInt8) : (henc l q).1.length ≤ 2 * q.length + 1 := by
  by_cases h : Huf.dep (Huf.ns l) = 0 ∨ ¬ ∀ s ∈ q, Huf.Okay (Huf.ns l) s.toNat
  · rw [henc_no h]; simp
  · have h0 : Huf.dep (Huf.ns l) ≠ 0 := fun e => h (.inl e)
    have h1 : ∀ s ∈ q, Huf.Okay (Huf.ns l) s.toNat := Classical.not_not.1 (fun e => h (.inr e))
    rw [henc_yes h0 h1]
    exact sbyt_length _ _ (Huf.dep_le _) q

set_option maxRecDepth 20000 in
set_option maxHeartbeats 1000000 in
theorem coded_c (w : World) (v u : Value) (l q : List UInt8) (hv : BS w v l) (hl : l.length ≤ 1000) (hu : BS w u q) (hq : q.length ≤ 1000) : Calls Try.prog 17 #[v, u] w fun e w' => e = .returned (.bool (decide (∀ s ∈ q, Huf.Okay (Huf.ns l) s.toNat))) ∧ w = w' := by
  obtain ⟨a, cap, rfl, k1, k2, -, hc⟩ := hv
  obtain ⟨a2, cap2, rfl, k3, k4, -, hc2⟩ := hu
  unfold maxLen at k2 k4
  have hget := Huf.ns_getD l
  obtain ⟨R, hR⟩ : ∃ R, decide (∀ s ∈ q, Huf.Okay (Huf.ns l) s.toNat) = R := ⟨_, rfl⟩
  rw [hR]
  have HR := Lib.hid hR; have HC := Lib.hid hc; have HC2 := Lib.hid hc2; have HGET := Lib.hid hget
  clear hR hc hc2 hget
  go_enter Try.func17, Try.ntmps17
  go_wp2
  go_loop [5] (fun i => ∃ k : Nat, k ≤ q.length ∧ i = .int .i64 k ∧ ∀ j (h : j < q.length), j < k → Huf.Okay (Huf.ns l) q[j].toNat) (fun i => q.length - (intOf i).toNat)
  case atStart => exact ⟨0, Nat.zero_le _, rfl, fun j _ hj => absurd hj (Nat.not_lt_zero _)⟩
  case round =>
    obtain ⟨k, hk, rfl, hall⟩ := hrel
    by_cases hkq : k < q.length
    · obtain ⟨b2, off2, rfl, hcell2⟩ := HC2.out k hkq
      obtain ⟨s, hs⟩ : ∃ s, q[k].toNat = s := ⟨_, rfl⟩
      have hs256 : s < 256 := by rw [← hs]; exact UInt8.toNat_lt _
      rw [hs] at hcell2
      have hno : ¬ Huf.Okay (Huf.ns l) s → R = false := fun h => by
        rw [← HR.out, decide_eq_false_iff_not]
        intro hh
        exact h (by rw [← hs]; exact hh _ (List.getElem_mem _))
      have HNO := Lib.hid hno
      have HALL : Hid (Huf.Okay (Huf.ns l) s → ∀ j (h : j < q.length), j < k + 1 → Huf.Okay (Huf.ns l) q[j].toNat) := Lib.hid fun ho j h hj => by
        rcases Nat.lt_or_ge j k with h1 | h1
        · exact hall j h h1
        · obtain rfl : j = k := by omega
          rw [hs]; exact ho
      clear hno hall hs
      by_cases hsl : s < l.length
      · obtain ⟨b, off, rfl, hcell⟩ := HC.out s hsl
        have hg := HGET.out s hsl
        obtain ⟨y, hy⟩ : ∃ y, l[s].toNat = y := ⟨_, rfl⟩
        have hy256 : y < 256 := by rw [← hy]; exact UInt8.toNat_lt _
        rw [hy] at hcell hg
        by_cases hy0 : y = 0
        · subst hy0
          have hRf := HNO.out (fun h => by have := h.2; omega)
          subst hRf
          clear hg hy
          go_wp2
          go_ret
          exact ⟨rfl, rfl⟩
        · have hyb : ((y : Int) == 0) = false := by rw [beq_eq_false_iff_ne]; omega
          have HA2 := Lib.hid (HALL.out ⟨by rw [Huf.ns_length]; exact hsl, by omega⟩)
          clear hg hy
          go_wp2
          go_round
          case rel => exact ⟨k + 1, by omega, by go_num, HA2.out⟩
          case measure => simp [intOf]; omega
      · have hRf := HNO.out (fun h => by have := h.1; rw [Huf.ns_length] at this; omega)
        subst hRf
        go_wp2
        go_ret
        exact ⟨rfl, rfl⟩
    · obtain rfl : k = q.length := by omega
      have hRt : R = true := by
        rw [← HR.out, decide_eq_true_eq]
        intro s hs
        obtain ⟨j, hj, rfl⟩ := List.getElem_of_mem hs
        exact hall j hj hj
      subst hRt
      clear hall
      go_wp2
      go_ret
      exact ⟨rfl, rfl⟩
end Go.Proofs.Ytfckokdgmbbheaa.huf
