/-
  PLAIN: where the four streams lie.
-/
import Derived.Test.YtfckokdgmbbheaaHufTrip4
set_option linter.unusedVariables false
set_option linter.unusedSimpArgs false
namespace Go.Proofs.Ytfckokdgmbbheaa.huf
open Go Go.RowKit Go.Lm Go.Proofs.Ytfckokdgmbbheaa.bit

theorem mid (P E R : List UInt8) : ((P ++ (E ++ R)).take (P.length + E.length)).drop P.length = E := by
  rw [← List.append_assoc, ← List.length_append, List.take_left, List.drop_left]
theorem bd4_mid (L : List Nat) (d : Nat) (q : List UInt8) (i : Nat) (hi : i < 4) : ∃ R, bd4 L d q 4 = bd4 L d q i ++ (e4 L d q i ++ R) := by
  match i, hi with
  | 3, _ => exact ⟨[], by rw [bd4_succ L d q 3, List.append_nil]⟩
  | 2, _ => exact ⟨e4 L d q 3, by rw [bd4_succ L d q 3, bd4_succ L d q 2, List.append_assoc]⟩
  | 1, _ => exact ⟨e4 L d q 2 ++ e4 L d q 3, by rw [bd4_succ L d q 3, bd4_succ L d q 2, bd4_succ L d q 1]; simp only [List.append_assoc]⟩
  | 0, _ => exact ⟨e4 L d q 1 ++ (e4 L d q 2 ++ e4 L d q 3), by rw [bd4_succ L d q 3, bd4_succ L d q 2, bd4_succ L d q 1, bd4_succ L d q 0]; simp only [List.append_assoc]⟩
def jo (l q : List UInt8) (i : Nat) : Nat := 6 + (bd4 (Huf.ns l) (Huf.dep (Huf.ns l)) q i).length
def js (l q : List UInt8) (i : Nat) : Nat := (e4 (Huf.ns l) (Huf.dep (Huf.ns l)) q i).length
theorem jump_head (a b c : Nat) (ha : a < 65536) (hb : b < 65536) (hc : c < 65536) (R : List UInt8) :
    let B := Cur.put a 2 ++ (Cur.put b 2 ++ Cur.put c 2) ++ R
    ((B.getD 0 0).toNat + 256 * (B.getD 1 0).toNat = a) ∧ ((B.getD 2 0).toNat + 256 * (B.getD 3 0).toNat = b) ∧ ((B.getD 4 0).toNat + 256 * (B.getD 5 0).toNat = c) := by
  have h : ∀ x, x < 65536 → (UInt8.ofNat x).toNat + 256 * (UInt8.ofNat (x / 256)).toNat = x := fun x hx => by
    rw [UInt8.toNat_ofNat', UInt8.toNat_ofNat']; omega
  exact ⟨h a ha, h b hb, h c hc⟩
theorem jump_round {l q B : List UInt8} (h0 : Huf.dep (Huf.ns l) ≠ 0) (hk : 3 * qk q.length ≤ q.length) (h : ∀ s ∈ q, Huf.Okay (Huf.ns l) s.toNat) (hq : q.length ≤ 1000)
    (hB : hd4 (Huf.ns l) (Huf.dep (Huf.ns l)) q 3 ++ bd4 (Huf.ns l) (Huf.dep (Huf.ns l)) q 4 = B) (i : Nat) (hi : i < 4) :
    1 ≤ js l q i ∧ jo l q (i + 1) = jo l q i + js l q i ∧ jo l q (i + 1) ≤ B.length ∧ hdec l ((B.take (jo l q i + js l q i)).drop (jo l q i)) ((cut q.length (i + 1) - cut q.length i : Nat) : Int) = (prt q i, 0) ∧
    prt q i = (q.take (cut q.length (i + 1))).drop (cut q.length i) := by
  have hc := cut_next hk hi
  obtain ⟨R, hR⟩ := bd4_mid (Huf.ns l) (Huf.dep (Huf.ns l)) q i hi
  have hl := congrArg List.length hR
  simp only [List.length_append] at hl
  have hBl := congrArg List.length hB
  simp only [List.length_append, hd4_length] at hBl
  have hO : jo l q (i + 1) = jo l q i + js l q i := by unfold jo js; rw [bd4_succ, List.length_append]; omega
  have hP : (hd4 (Huf.ns l) (Huf.dep (Huf.ns l)) q 3 ++ bd4 (Huf.ns l) (Huf.dep (Huf.ns l)) q i).length = jo l q i := by unfold jo; rw [List.length_append, hd4_length]
  have hm := mid (hd4 (Huf.ns l) (Huf.dep (Huf.ns l)) q 3 ++ bd4 (Huf.ns l) (Huf.dep (Huf.ns l)) q i) (e4 (Huf.ns l) (Huf.dep (Huf.ns l)) q i) R
  rw [hP, List.append_assoc, ← hR, hB] at hm
  refine ⟨?_, hO, ?_, ?_, ?_⟩
  · unfold js
    rw [e4_sbyt hk h i hi]
    unfold sbyt
    simp only [Bt.bytesOf_length, List.length_append, List.length_singleton]
    omega
  · rw [hO]; unfold jo js; omega
  · show hdec l ((B.take (jo l q i + (e4 (Huf.ns l) (Huf.dep (Huf.ns l)) q i).length)).drop (jo l q i)) _ = _
    rw [hm, hdec_in h0 (by omega)]
    exact e4_sdec (Huf.dep_good h0) hk h i hi
  · unfold prt
    rw [List.drop_take]
theorem jump_heads {l q B : List UInt8} (hk : 3 * qk q.length ≤ q.length) (hq : q.length ≤ 1000)
    (hB : hd4 (Huf.ns l) (Huf.dep (Huf.ns l)) q 3 ++ bd4 (Huf.ns l) (Huf.dep (Huf.ns l)) q 4 = B) :
    ((B.getD 0 0).toNat + 256 * (B.getD 1 0).toNat = js l q 0) ∧ ((B.getD 2 0).toNat + 256 * (B.getD 3 0).toNat = js l q 1) ∧ ((B.getD 4 0).toNat + 256 * (B.getD 5 0).toNat = js l q 2) := by
  subst hB
  rw [hd4_three]
  exact jump_head _ _ _ (e4_small (Huf.dep_le _) hk hq 0 (by omega)).2 (e4_small (Huf.dep_le _) hk hq 1 (by omega)).2 (e4_small (Huf.dep_le _) hk hq 2 (by omega)).2 _
theorem BS.cells {w : World} {a : Option Addr} {n cap : Nat} {l : List UInt8} (h : BS w (.slice a n cap) l) (h0 : 0 < l.length) : ∃ b off, a = some ⟨b, off, none⟩ ∧ ∀ k (hk : k < l.length), w.cell? ⟨b, off + k, none⟩ = some (.int .u8 ((l.getD k 0).toNat : Int)) := by
  obtain ⟨a', cap', he, -, -, -, hc⟩ := h
  injection he with e1 e2 e3
  subst e1
  obtain ⟨b, off, rfl, -⟩ := hc 0 h0
  refine ⟨b, off, rfl, fun k hk => ?_⟩
  obtain ⟨b2, off2, e, hk2⟩ := hc k hk
  injection e with e
  injection e with e1 e2
  subst e1; subst e2
  rw [hk2]
  simp [List.getD_eq_getElem?_getD, hk]
end Go.Proofs.Ytfckokdgmbbheaa.huf
