/-
  PLAIN: what Encode4 makes, Decode4 reads.
-/
import Derived.Test.YtfckokdgmbbheaaHufTrip
set_option linter.unusedVariables false
set_option linter.unusedSimpArgs false
namespace Go.Proofs.Ytfckokdgmbbheaa.huf
open Go Go.RowKit Go.Lm Go.Proofs.Ytfckokdgmbbheaa.bit

theorem rnum_put (x : Nat) (hx : x < 65536) (R : List UInt8) : Cur.rnum (Cur.put x 2 ++ R) 0 2 = (R, 0, x) := by
  have h2 : (Cur.put x 2).length = 2 := Cur.put_length x 2
  have hr : Cur.rtake (Cur.put x 2 ++ R) 0 2 true = (R, 0, Cur.put x 2) := by
    unfold Cur.rtake
    rw [if_neg (by decide), if_neg (by decide), if_neg (by rw [List.length_append, h2]; omega)]
    rw [show ((2 : Int)).toNat = (Cur.put x 2).length from h2.symm, List.drop_left, List.take_left]
  have hm : (decide ((1 : Int) ≤ 2) && decide ((2 : Int) ≤ 8)) = true := by decide
  unfold Cur.rnum
  rw [hm, hr]
  simp only []
  rw [Cur.le_put, Nat.mod_eq_of_lt (by omega)]
theorem hd4_three (L : List Nat) (d : Nat) (q : List UInt8) : hd4 L d q 3 = Cur.put (e4 L d q 0).length 2 ++ (Cur.put (e4 L d q 1).length 2 ++ Cur.put (e4 L d q 2).length 2) := by
  rw [hd4_succ, hd4_succ, hd4_succ]
  simp [hd4]
theorem nums_put (L : List Nat) (d : Nat) (q R : List UInt8) (h : ∀ i, i < 3 → (e4 L d q i).length < 65536) : nums (hd4 L d q 3 ++ R) = (R, 0, (e4 L d q 0).length, (e4 L d q 1).length, (e4 L d q 2).length) := by
  rw [hd4_three, List.append_assoc, List.append_assoc]
  unfold nums
  rw [rnum_put _ (h 0 (by omega))]
  simp only []
  rw [rnum_put _ (h 1 (by omega))]
  simp only []
  rw [rnum_put _ (h 2 (by omega))]
theorem bd4_four (L : List Nat) (d : Nat) (q : List UInt8) : bd4 L d q 4 = e4 L d q 0 ++ (e4 L d q 1 ++ (e4 L d q 2 ++ e4 L d q 3)) := by
  rw [bd4_succ, bd4_succ, bd4_succ, bd4_succ]
  simp [bd4]
theorem pc4_bd (a b c d : List UInt8) (i : Nat) (hi : i < 4) : pc4 (a ++ (b ++ (c ++ d))) a.length b.length c.length i = if i = 0 then a else if i = 1 then b else if i = 2 then c else d := by
  unfold pc4 off
  match i, hi with
  | 0, _ => simp
  | 1, _ => simp
  | 2, _ =>
    simp only [List.length_append]
    rw [show a ++ (b ++ (c ++ d)) = (a ++ b) ++ (c ++ d) by simp]
    simp only [show ¬ (2 : Nat) = 0 by decide, show ¬ (2 : Nat) = 1 by decide, if_false, if_true, show ¬ (2 + 1 : Nat) = 0 by decide, show ¬ (2 + 1 : Nat) = 1 by decide, show ¬ (2 + 1 : Nat) = 2 by decide, show (2 + 1 : Nat) = 3 by decide]
    rw [show a.length + b.length = (a ++ b).length by simp, List.drop_left, Nat.add_sub_cancel_left, List.take_left]
  | 3, _ =>
    rw [show a ++ (b ++ (c ++ d)) = (a ++ b ++ c) ++ d by simp]
    simp only [show ¬ (3 : Nat) = 0 by decide, show ¬ (3 : Nat) = 1 by decide, show ¬ (3 : Nat) = 2 by decide, if_false, if_true, show ¬ (3 + 1 : Nat) = 0 by decide, show ¬ (3 + 1 : Nat) = 1 by decide, show ¬ (3 + 1 : Nat) = 2 by decide, show ¬ (3 + 1 : Nat) = 3 by decide]
    rw [show a.length + b.length + c.length = (a ++ b ++ c).length by simp; omega, List.drop_left, List.length_append, Nat.add_sub_cancel_left, List.take_length]
theorem pc4_e4 (L : List Nat) (d : Nat) (q : List UInt8) (i : Nat) (hi : i < 4) : pc4 (bd4 L d q 4) (e4 L d q 0).length (e4 L d q 1).length (e4 L d q 2).length i = e4 L d q i := by
  rw [bd4_four, pc4_bd _ _ _ _ i hi]
  match i, hi with
  | 0, _ => rfl
  | 1, _ => rfl
  | 2, _ => rfl
  | 3, _ => rfl
theorem e4_sbyt {L : List Nat} {d : Nat} {q : List UInt8} (hk : 3 * qk q.length ≤ q.length) (h : ∀ s ∈ q, Huf.Okay L s.toNat) (i : Nat) (hi : i < 4) : e4 L d q i = sbyt L d (prt q i) := by
  unfold e4
  rw [senc_sbyt ((all_prt hk).1 h i hi)]
theorem e4_sdec {L : List Nat} {d : Nat} (hg : Huf.Good L d) {q : List UInt8} (hk : 3 * qk q.length ≤ q.length) (h : ∀ s ∈ q, Huf.Okay L s.toNat) (i : Nat) (hi : i < 4) : sdec L d (e4 L d q i) (cut q.length (i + 1) - cut q.length i) = (prt q i, 0) := by
  rw [e4_sbyt hk h i hi, ← prt_length hk hi]
  exact trip hg ((all_prt hk).1 h i hi)
theorem d4_trip {L : List Nat} {d : Nat} (hg : Huf.Good L d) {q : List UInt8} (hk : 3 * qk q.length ≤ q.length) (h : ∀ s ∈ q, Huf.Okay L s.toNat) : ∀ i, i ≤ 4 →
    d4 L d (bd4 L d q 4) (e4 L d q 0).length (e4 L d q 1).length (e4 L d q 2).length q.length i = (q.take (cut q.length i), 0)
  | 0, _ => by rw [cut_zero]; rfl
  | i + 1, hi => by
    have ih := d4_trip hg hk h i (by omega)
    have hs := e4_sdec hg hk h i (by omega)
    rw [d4_succ, ih, pc4_e4 L d q i (by omega), hs, take_cut hk (by omega)]
    simp
theorem e4_small {L : List Nat} {d : Nat} (hd : d ≤ 11) {q : List UInt8} (hk : 3 * qk q.length ≤ q.length) (hq : q.length ≤ 1000) (i : Nat) (hi : i < 4) : (e4 L d q i).length ≤ 2 * q.length + 1 ∧ (e4 L d q i).length < 65536 := by
  have h1 := e4_length L d hd q i
  rw [prt_length hk hi] at h1
  have h2 := cut_next hk hi
  omega
/-- Encode4, Decode4: by weights. -/
theorem henc4_no {l q : List UInt8} (h : Huf.dep (Huf.ns l) = 0 ∨ q.length < 3 * qk q.length ∨ ¬ ∀ s ∈ q, Huf.Okay (Huf.ns l) s.toNat) : henc4 l q = ([], 1) := by
  unfold henc4
  by_cases h0 : Huf.dep (Huf.ns l) = 0
  · rw [if_pos h0]
  · rw [if_neg h0, if_pos (h.resolve_left h0)]
theorem henc4_yes {l q : List UInt8} (h0 : Huf.dep (Huf.ns l) ≠ 0) (hk : 3 * qk q.length ≤ q.length) (h : ∀ s ∈ q, Huf.Okay (Huf.ns l) s.toNat) :
    henc4 l q = (hd4 (Huf.ns l) (Huf.dep (Huf.ns l)) q 3 ++ bd4 (Huf.ns l) (Huf.dep (Huf.ns l)) q 4, 0) := by
  unfold henc4
  rw [if_neg h0, if_neg]
  rintro (h1 | h1)
  · omega
  · exact h1 h
theorem bd4_sum (L : List Nat) (d : Nat) (q : List UInt8) : (bd4 L d q 4).length = (e4 L d q 0).length + (e4 L d q 1).length + (e4 L d q 2).length + (e4 L d q 3).length := by
  rw [bd4_four]; simp only [List.length_append]; omega
theorem hdec4_trip {l q : List UInt8} (h0 : Huf.dep (Huf.ns l) ≠ 0) (hk : 3 * qk q.length ≤ q.length) (h : ∀ s ∈ q, Huf.Okay (Huf.ns l) s.toNat) (hq : q.length ≤ 1000) :
    hdec4 l (hd4 (Huf.ns l) (Huf.dep (Huf.ns l)) q 3 ++ bd4 (Huf.ns l) (Huf.dep (Huf.ns l)) q 4) (q.length : Int) = (q, 0) := by
  have hn := nums_put (Huf.ns l) (Huf.dep (Huf.ns l)) q (bd4 (Huf.ns l) (Huf.dep (Huf.ns l)) q 4) (fun i hi => (e4_small (Huf.dep_le _) hk hq i (by omega)).2)
  have hb := bd4_sum (Huf.ns l) (Huf.dep (Huf.ns l)) q
  have ht := d4_trip (Huf.dep_good h0) hk h 4 (Nat.le_refl _)
  rw [cut_four, List.take_length] at ht
  unfold hdec4
  rw [hn]
  simp only []
  rw [if_neg h0, if_neg (by omega), Int.toNat_natCast, if_neg (by omega), if_neg (by rintro (h1 | h1); exact h1 rfl; omega), ht]
theorem henc4_len (l q : List UInt8) (hq : q.length ≤ 1000) : (henc4 l q).1.length ≤ 2 * q.length + 10 := by
  by_cases h : Huf.dep (Huf.ns l) = 0 ∨ q.length < 3 * qk q.length ∨ ¬ ∀ s ∈ q, Huf.Okay (Huf.ns l) s.toNat
  · rw [henc4_no h]; simp
  · have h0 : Huf.dep (Huf.ns l) ≠ 0 := fun e => h (.inl e)
    have hk : 3 * qk q.length ≤ q.length := Nat.le_of_not_lt fun e => h (.inr (.inl e))
    have h1 : ∀ s ∈ q, Huf.Okay (Huf.ns l) s.toNat := Classical.not_not.1 (fun e => h (.inr (.inr e)))
    rw [henc4_yes h0 hk h1]
    have h2 := bd4_length (Huf.ns l) (Huf.dep (Huf.ns l)) (Huf.dep_le _) q hk 4 (Nat.le_refl _)
    rw [cut_four] at h2
    simp only [List.length_append, hd4_length]
    omega
end Go.Proofs.Ytfckokdgmbbheaa.huf
