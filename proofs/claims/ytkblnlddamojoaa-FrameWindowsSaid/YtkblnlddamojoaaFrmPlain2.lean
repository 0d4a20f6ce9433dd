/-
  PLAIN: what is written is read; the heads that the laws make. No program in sight.
-/
import Derived.Test.YtkblnlddamojoaaFrmPlain
namespace Go.Lm.Frm

theorem rnum_put (X k : Nat) (more : List UInt8) (h1 : 1 ≤ k) (h8 : k ≤ 8) (hX : X < 256 ^ k) : Cur.rnum (Cur.put X k ++ more) 0 (k : Int) = (more, 0, X) := by
  have hl := Cur.put_length X k
  have hn : ¬ (((Cur.put X k ++ more).length : Nat) : Int) < (k : Int) := by rw [List.length_append, hl]; omega
  have hm : (decide (1 ≤ (k : Int)) && decide ((k : Int) ≤ 8)) = true := by simp; omega
  simp only [Cur.rnum, Cur.rtake]
  rw [if_neg (by simp), hm, if_neg (by simp), if_neg hn]
  have e1 : (Cur.put X k ++ more).drop k = more := by have := List.drop_left (l₁ := Cur.put X k) (l₂ := more); rwa [hl] at this
  have e2 : (Cur.put X k ++ more).take k = Cur.put X k := by have := List.take_left (l₁ := Cur.put X k) (l₂ := more); rwa [hl] at this
  simp only [Int.toNat_natCast, e1, e2, Cur.le_put, Nat.mod_eq_of_lt hX]
theorem rnum_ok (l : List UInt8) (k : Nat) (h1 : 1 ≤ k) (h8 : k ≤ 8) (hl : k ≤ l.length) : Cur.rnum l 0 (k : Int) = (l.drop k, 0, Cur.le (l.take k)) := by
  have hn : ¬ ((l.length : Nat) : Int) < (k : Int) := by omega
  have hm : (decide (1 ≤ (k : Int)) && decide ((k : Int) ≤ 8)) = true := by simp; omega
  simp only [Cur.rnum, Cur.rtake]
  rw [if_neg (by simp), hm, if_neg (by simp), if_neg hn]
  simp

/-- The head that is written for a size, without the four first bytes. -/
def wf (size : Nat) (sum : Bool) : Nat := (if size < 256 then 32 else if size < 65792 then 96 else if size < 4294967296 then 160 else 224) + (if sum then 4 else 0)
def wn (size : Nat) : List UInt8 := if size < 256 then Cur.put size 1 else if size < 65792 then Cur.put (size - 256) 2 else if size < 4294967296 then Cur.put size 4 else Cur.put size 8
def wr (size : Nat) (sum : Bool) : List UInt8 := Cur.put (wf size sum) 1 ++ wn size
theorem wr_length (size : Nat) (sum : Bool) : (wr size sum).length ≤ 9 := by
  unfold wr wn
  rw [List.length_append, Cur.put_length]
  (repeat' split) <;> rw [Cur.put_length] <;> omega

theorem body_seg (F X k : Nat) (more : List UInt8) (h1 : one F = true) (h2 : dn F = 0) (h3 : nn F = k) (hk : 1 ≤ k) (h8 : k ≤ 8) (hX : X < 256 ^ k) :
    body F (Cur.put X k ++ more) = (⟨if k = 2 then X + 256 else X, if k = 2 then X + 256 else X, true, F / 4 % 2 == 1⟩, (k : Int) + 1, 0) := by
  have e2 : s2 F (Cur.put X k ++ more) = (Cur.put X k ++ more, 0, 0) := by unfold s2 step; rw [h1]; rfl
  have e3 : s3 F (Cur.put X k ++ more) = (Cur.put X k ++ more, 0, 0) := by unfold s3 step; rw [h2, e2]; rfl
  have e4 : s4 F (Cur.put X k ++ more) = (more, 0, X) := by
    unfold s4 step; rw [h3, e3, if_pos (by simp; omega)]; exact rnum_put X k more hk h8 hX
  have es : size F (Cur.put X k ++ more) = if k = 2 then X + 256 else X := by unfold size; rw [h3, e4]
  have ew : win F (Cur.put X k ++ more) = if k = 2 then X + 256 else X := by unfold win; rw [h1, if_pos rfl, es]
  unfold body
  rw [e3, e4, if_neg (by simp), if_neg (by simp), ew, es, h3]
  have hd : decide (0 < k) = true := by simp; omega
  rw [hd]
  simp only [Prod.mk.injEq, true_and, and_true, List.length_append, Cur.put_length]
  omega
theorem head_put (F : Nat) (hF : F < 256) (h8 : F / 8 % 2 ≠ 1) (l : List UInt8) : head (Cur.put F 1 ++ l) = body F l := by
  have e : (UInt8.ofNat F).toNat = F := by simp; omega
  show (if (UInt8.ofNat F).toNat / 8 % 2 = 1 then _ else body (UInt8.ofNat F).toNat l) = _
  rw [e, if_neg h8]
theorem head_wr (size : Nat) (hs : size < 18446744073709551616) (sum : Bool) (more : List UInt8) : head (wr size sum ++ more) = (⟨size, size, true, sum⟩, ((wr size sum).length : Int), 0) := by
  unfold wr wf wn
  by_cases c1 : size < 256
  · simp only [if_pos c1]
    rw [List.append_assoc, head_put _ (by cases sum <;> decide) (by cases sum <;> decide), body_seg _ size 1 more (by cases sum <;> decide) (by cases sum <;> decide) (by cases sum <;> decide) (by decide) (by decide) (by omega), List.length_append, Cur.put_length, Cur.put_length]
    cases sum <;> rfl
  · by_cases c2 : size < 65792
    · simp only [if_neg c1, if_pos c2]
      rw [List.append_assoc, head_put _ (by cases sum <;> decide) (by cases sum <;> decide), body_seg _ (size - 256) 2 more (by cases sum <;> decide) (by cases sum <;> decide) (by cases sum <;> decide) (by decide) (by decide) (by omega), List.length_append, Cur.put_length, Cur.put_length, if_pos rfl, show size - 256 + 256 = size by omega]
      cases sum <;> rfl
    · by_cases c3 : size < 4294967296
      · simp only [if_neg c1, if_neg c2, if_pos c3]
        rw [List.append_assoc, head_put _ (by cases sum <;> decide) (by cases sum <;> decide), body_seg _ size 4 more (by cases sum <;> decide) (by cases sum <;> decide) (by cases sum <;> decide) (by decide) (by decide) (by omega), List.length_append, Cur.put_length, Cur.put_length]
        cases sum <;> rfl
      · simp only [if_neg c1, if_neg c2, if_neg c3]
        rw [List.append_assoc, head_put _ (by cases sum <;> decide) (by cases sum <;> decide), body_seg _ size 8 more (by cases sum <;> decide) (by cases sum <;> decide) (by cases sum <;> decide) (by decide) (by decide) (by omega), List.length_append, Cur.put_length, Cur.put_length]
        cases sum <;> rfl

theorem window_ge (w : Nat) : 1024 ≤ window w := by
  unfold window
  have h : 2 ^ 10 ≤ 2 ^ (10 + w / 8) := Nat.pow_le_pow_right (by decide) (by omega)
  omega
/-- A head that isn't one segment, of a size of four bytes or eight. -/
theorem head_ten (c : UInt8) (l : List UInt8) (w : UInt8) (h8 : c.toNat / 8 % 2 = 0) (h1 : c.toNat / 32 % 2 = 0) (h4 : c.toNat % 4 = 0) (hz : 2 ≤ c.toNat / 64) (hl : 8 ≤ l.length) :
    ∃ W S n, head (c :: w :: l) = (⟨W, S, true, c.toNat / 4 % 2 == 1⟩, n, 0) ∧ 1024 ≤ W := by
  have e0 : head (c :: w :: l) = body c.toNat (w :: l) := if_neg (by omega)
  rw [e0]
  obtain ⟨d, hd⟩ : ∃ d, c.toNat = d := ⟨_, rfl⟩
  have hd2 := c.toNat_lt
  rw [hd] at h8 h1 h4 hz hd2 ⊢
  have o : one d = false := by unfold one; rw [h1]; rfl
  have e2 : s2 d (w :: l) = (l, 0, w.toNat) := by
    unfold s2 step; rw [o]; simp only [Bool.not_false, if_true]
    exact (rnum_ok (w :: l) 1 (by decide) (by decide) (by simp)).trans (by simp [Cur.le])
  have e3 : s3 d (w :: l) = (l, 0, 0) := by unfold s3 step; rw [e2, show dn d = 0 from if_pos h4]; rfl
  obtain ⟨k, hk, hk1, hk8⟩ : ∃ k, nn d = k ∧ 1 ≤ k ∧ k ≤ 8 := by
    refine ⟨_, rfl, ?_⟩
    unfold nn
    rw [o]
    simp only [Bool.false_and, Bool.false_eq_true, if_false]
    unfold zn
    rw [if_neg (by omega), if_neg (by omega)]
    split <;> omega
  have e4 : s4 d (w :: l) = (l.drop k, 0, Cur.le (l.take k)) := by
    unfold s4 step; rw [e3, hk, if_pos (by simp; omega)]
    exact rnum_ok l k hk1 hk8 (by omega)
  unfold body
  rw [e3, e4, if_neg (by simp), if_neg (by simp), hk]
  refine ⟨win d (w :: l), size d (w :: l), _, by rw [show decide (0 < k) = true by simp; omega], ?_⟩
  unfold win win2
  rw [o, e2]
  exact window_ge _

theorem head_bit8 (c : UInt8) (l : List UInt8) (h : c.toNat / 8 % 2 = 1) : head (c :: l) = (⟨0, 0, false, false⟩, 0, 11) := if_pos h
theorem body_16 (d : Nat) (l : List UInt8) (h : d / 16 % 2 = 0) : body (d + 16) l = body d l := by
  have o1 : one (d + 16) = one d := by unfold one; rw [show (d + 16) / 32 = d / 32 by omega]
  have o2 : dn (d + 16) = dn d := by unfold dn; rw [show (d + 16) % 4 = d % 4 by omega]
  have o3 : zn (d + 16) = zn d := by unfold zn; rw [show (d + 16) / 64 = d / 64 by omega]
  have o4 : nn (d + 16) = nn d := by unfold nn; rw [o1, o3]
  have a2 : s2 (d + 16) l = s2 d l := by unfold s2; rw [o1]
  have a3 : s3 (d + 16) l = s3 d l := by unfold s3; rw [o2, a2]
  have a4 : s4 (d + 16) l = s4 d l := by unfold s4; rw [o4, a3]
  have b1 : size (d + 16) l = size d l := by unfold size; rw [o4, a4]
  have b2 : win2 (d + 16) l = win2 d l := by unfold win2; rw [o1, a2]
  have b3 : win (d + 16) l = win d l := by unfold win; rw [o1, b1, b2]
  unfold body
  rw [a3, a4, b1, b3, o4, show (d + 16) / 4 % 2 = d / 4 % 2 by omega]
theorem head_bit16 (x y : UInt8) (l : List UInt8) (h8 : x.toNat / 8 % 2 = 0) (h16 : x.toNat / 16 % 2 = 0) (hy : y.toNat = x.toNat + 16) : head (y :: l) = head (x :: l) := by
  have e1 : head (x :: l) = body x.toNat l := if_neg (by omega)
  have e2 : head (y :: l) = body y.toNat l := if_neg (by omega)
  rw [e1, e2, hy, body_16 _ _ h16]
theorem head_not (c : UInt8) (l : List UInt8) (h : ¬ c.toNat / 8 % 2 = 1) : head (c :: l) = body c.toNat l := if_neg h
theorem head_dict (q : UInt8) (l : List UInt8) (hl : 1 ≤ l.length) : ((head (33 :: q :: l)).2.2 = 14 ↔ q ≠ 0) := by
  have e0 : head (33 :: q :: l) = body 33 (q :: l) := head_not 33 (q :: l) (by decide)
  rw [e0]
  have e2 : s2 33 (q :: l) = (q :: l, 0, 0) := rfl
  have e3 : s3 33 (q :: l) = (l, 0, q.toNat) := by
    unfold s3 step; rw [e2, show dn 33 = 1 from rfl]
    exact (rnum_ok (q :: l) 1 (by decide) (by decide) (by simp)).trans (by simp [Cur.le])
  have e4 : s4 33 (q :: l) = (l.drop 1, 0, Cur.le (l.take 1)) := by
    unfold s4 step; rw [e3, show nn 33 = 1 from rfl]
    exact rnum_ok l 1 (by decide) (by decide) hl
  unfold body
  rw [e3, e4, if_neg (by simp)]
  have hq : q.toNat ≠ 0 ↔ q ≠ 0 := not_congr ⟨fun h => UInt8.toNat_inj.1 h, fun h => by rw [h]; rfl⟩
  by_cases h : q.toNat = 0
  · rw [if_neg (by simpa using h)]; simp only [show ¬ ((0 : Int) = 14) by decide, false_iff]; rw [← hq]; simpa using h
  · rw [if_pos h]; simpa using hq.1 h
end Go.Lm.Frm
