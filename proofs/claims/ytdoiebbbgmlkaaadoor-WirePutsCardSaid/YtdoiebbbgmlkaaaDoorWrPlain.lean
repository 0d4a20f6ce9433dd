/-
  PLAIN: datagrams. No program in sight.
-/
import Derived.Test.YtdoiebbbgmlkaaaDoorCurPlain
import Derived.Test.YtdoiebbbgmlkaaaDoorCrcPlain
namespace Go.Lm.Cur
theorem put_le : ∀ (l : List UInt8), put (le l) l.length = l
  | [] => rfl
  | c :: l => by
    have ih := put_le l
    have hc := c.toNat_lt
    have h1 : (c.toNat + 256 * le l) / 256 = le l := by omega
    have h2 : UInt8.ofNat (c.toNat + 256 * le l) = c := by
      apply UInt8.toNat_inj.1
      rw [UInt8.toNat_ofNat']
      omega
    show UInt8.ofNat (c.toNat + 256 * le l) :: put ((c.toNat + 256 * le l) / 256) l.length = _
    rw [h1, h2, ih]
/-- A number is read. -/
theorem rnum_app (p t : List UInt8) (n : Nat) (h : p.length = n) (h1 : 1 ≤ n) (h8 : n ≤ 8) : rnum (p ++ t) 0 n = (t, 0, le p) := by
  have hl : ¬ (((p ++ t).length : Nat) : Int) < (n : Int) := by rw [List.length_append]; omega
  have hd : (decide ((1 : Int) ≤ (n : Int)) && decide ((n : Int) ≤ 8)) = true := by simp; omega
  simp only [rnum, rtake, hd]
  rw [if_neg (by simp), if_neg (by simp), if_neg hl]
  rw [Int.toNat_natCast, List.drop_left' h, List.take_left' h]
theorem rnum_bad (l : List UInt8) (e n : Int) (he : e ≠ 0) : rnum l e n = (l, e, 0) := by
  simp only [rnum, rtake]
  rw [if_pos he]
  rfl
theorem rnum_short (l : List UInt8) (n : Nat) (h : l.length < n) (h1 : 1 ≤ n) (h8 : n ≤ 8) : rnum l 0 n = (l, 10, 0) := by
  have hd : (decide ((1 : Int) ≤ (n : Int)) && decide ((n : Int) ≤ 8)) = true := by simp; omega
  simp only [rnum, rtake, hd]
  rw [if_neg (by simp), if_neg (by simp), if_pos (by omega)]
  rfl
/-- What a reader's step may be. -/
theorem rnum_cases (l : List UInt8) (n : Nat) (h1 : 1 ≤ n) (h8 : n ≤ 8) : (∃ p t, l = p ++ t ∧ p.length = n ∧ rnum l 0 n = (t, 0, le p)) ∨ rnum l 0 n = (l, 10, 0) := by
  by_cases h : l.length < n
  · exact .inr (rnum_short l n h h1 h8)
  · left
    have e : l = l.take n ++ l.drop n := (List.take_append_drop _ _).symm
    refine ⟨l.take n, l.drop n, e, by rw [List.length_take]; omega, ?_⟩
    have h2 := rnum_app (l.take n) (l.drop n) n (by rw [List.length_take]; omega) h1 h8
    rwa [← e] at h2
theorem rnum_lt (l : List UInt8) (e : Int) (n : Nat) (h1 : 1 ≤ n) (h8 : n ≤ 8) : (rnum l e n).2.2 < 256 ^ n := by
  by_cases he : e = 0
  · subst he
    rcases rnum_cases l n h1 h8 with ⟨p, t, _, hp, h⟩ | h
    · rw [h, ← hp]; exact le_lt p
    · rw [h]; exact Nat.pow_pos (by decide)
  · rw [rnum_bad l e n he]; exact Nat.pow_pos (by decide)
theorem rbytes_app (p t : List UInt8) (n : Nat) (h : p.length = n) : rbytes (p ++ t) 0 n = (t, 0, p) := by
  have hl : ¬ (((p ++ t).length : Nat) : Int) < (n : Int) := by rw [List.length_append]; omega
  have hd : decide ((0 : Int) ≤ (n : Int)) = true := by simp
  simp only [rbytes, rtake, hd]
  rw [if_neg (by simp), if_neg (by simp), if_neg hl]
  rw [Int.toNat_natCast, List.drop_left' h, List.take_left' h]
theorem rbytes_bad (l : List UInt8) (e n : Int) (he : e ≠ 0) : rbytes l e n = (l, e, []) := by
  simp only [rbytes, rtake]
  rw [if_pos he]
theorem rbytes_cases (l : List UInt8) (n : Nat) : (∃ p t, l = p ++ t ∧ p.length = n ∧ rbytes l 0 n = (t, 0, p)) ∨ rbytes l 0 n = (l, 10, []) := by
  by_cases h : l.length < n
  · right
    have hd : decide ((0 : Int) ≤ (n : Int)) = true := by simp
    simp only [rbytes, rtake, hd]
    rw [if_neg (by simp), if_neg (by simp), if_pos (by omega)]
  · left
    have e : l = l.take n ++ l.drop n := (List.take_append_drop _ _).symm
    refine ⟨l.take n, l.drop n, e, by rw [List.length_take]; omega, ?_⟩
    have h2 := rbytes_app (l.take n) (l.drop n) n (by rw [List.length_take]; omega)
    rwa [← e] at h2
theorem rend_bad (l : List UInt8) (e : Int) (he : e ≠ 0) : rend l e = e := by unfold rend; rw [if_pos (.inl he)]
end Go.Lm.Cur
namespace Go.Lm.Wr
open Go.Lm.Cur

/-- A message. -/
structure Msg where
  kind : Nat
  key : Nat
  epoch : Nat
  index : Nat
  a : Nat
  b : Nat
  bytes : List UInt8
def zero : Msg := ⟨0, 0, 0, 0, 0, 0, []⟩
structure Ok (m : Msg) : Prop where
  kind : m.kind < 256
  key : m.key < 18446744073709551616
  epoch : m.epoch < 18446744073709551616
  index : m.index < 4294967296
  a : m.a < 4294967296
  b : m.b < 4294967296
def may (m : Msg) : Bool := decide (1 ≤ m.kind) && decide (m.kind ≤ 6) && decide (m.bytes.length ≤ 1465)
def head (m : Msg) : List UInt8 := put m.kind 1 ++ put m.key 8 ++ put m.epoch 8 ++ put m.index 4 ++ put m.a 4 ++ put m.b 4 ++ put m.bytes.length 2
def body (m : Msg) : List UInt8 := head m ++ m.bytes
def dg (m : Msg) : List UInt8 := body m ++ put (Crc.sum (body m)) 4
theorem head_length (m : Msg) : (head m).length = 31 := by simp [head, put_length]
theorem body_length (m : Msg) : (body m).length = 31 + m.bytes.length := by rw [body, List.length_append, head_length]
theorem dg_length (m : Msg) : (dg m).length = 35 + m.bytes.length := by rw [dg, List.length_append, body_length, put_length]; omega

/-- What is read of bytes: a message, a sum, the error. -/
structure Raw where
  m : Msg
  n : Nat
  x : Nat
  e : Int
def raw (l : List UInt8) : Raw :=
  let s1 := rnum l 0 1
  let s2 := rnum s1.1 s1.2.1 8
  let s3 := rnum s2.1 s2.2.1 8
  let s4 := rnum s3.1 s3.2.1 4
  let s5 := rnum s4.1 s4.2.1 4
  let s6 := rnum s5.1 s5.2.1 4
  let s7 := rnum s6.1 s6.2.1 2
  let s8 := rbytes s7.1 s7.2.1 (s7.2.2 : Nat)
  let s9 := rnum s8.1 s8.2.1 4
  ⟨⟨s1.2.2, s2.2.2, s3.2.2, s4.2.2, s5.2.2, s6.2.2, s8.2.2⟩, s7.2.2, s9.2.2, rend s9.1 s9.2.1⟩
theorem raw_of {l l1 l2 l3 l4 l5 l6 l7 l8 l9 bs : List UInt8} {e1 e2 e3 e4 e5 e6 e7 e8 e9 : Int} {k y p i a b n x : Nat} (h1 : rnum l 0 1 = (l1, e1, k)) (h2 : rnum l1 e1 8 = (l2, e2, y)) (h3 : rnum l2 e2 8 = (l3, e3, p))
    (h4 : rnum l3 e3 4 = (l4, e4, i)) (h5 : rnum l4 e4 4 = (l5, e5, a)) (h6 : rnum l5 e5 4 = (l6, e6, b)) (h7 : rnum l6 e6 2 = (l7, e7, n)) (h8 : rbytes l7 e7 (n : Nat) = (l8, e8, bs)) (h9 : rnum l8 e8 4 = (l9, e9, x)) :
    raw l = ⟨⟨k, y, p, i, a, b, bs⟩, n, x, rend l9 e9⟩ := by
  simp only [raw, h1, h2, h3, h4, h5, h6, h7, h8, h9]
/-- What bytes tell: a message, or an error. -/
def get (l : List UInt8) : Msg × Int :=
  if (raw l).e ≠ 0 then (zero, (raw l).e) else if Crc.sum (l.take (l.length - 4)) ≠ (raw l).x then (zero, 13) else if may (raw l).m then ((raw l).m, 0) else (zero, 11)

/-- Whole bytes, read. -/
theorem raw_app (p1 p2 p3 p4 p5 p6 p7 bs p9 t : List UInt8) (h1 : p1.length = 1) (h2 : p2.length = 8) (h3 : p3.length = 8) (h4 : p4.length = 4) (h5 : p5.length = 4) (h6 : p6.length = 4) (h7 : p7.length = 2) (h8 : bs.length = le p7) (h9 : p9.length = 4) :
    raw (p1 ++ (p2 ++ (p3 ++ (p4 ++ (p5 ++ (p6 ++ (p7 ++ (bs ++ (p9 ++ t))))))))) = ⟨⟨le p1, le p2, le p3, le p4, le p5, le p6, bs⟩, le p7, le p9, rend t 0⟩ :=
  raw_of (rnum_app _ _ 1 h1 (by decide) (by decide)) (rnum_app _ _ 8 h2 (by decide) (by decide)) (rnum_app _ _ 8 h3 (by decide) (by decide)) (rnum_app _ _ 4 h4 (by decide) (by decide)) (rnum_app _ _ 4 h5 (by decide) (by decide)) (rnum_app _ _ 4 h6 (by decide) (by decide))
    (rnum_app _ _ 2 h7 (by decide) (by decide)) (rbytes_app _ _ _ h8) (rnum_app _ _ 4 h9 (by decide) (by decide))
theorem dg_parts (m : Msg) (t : List UInt8) : dg m ++ t = put m.kind 1 ++ (put m.key 8 ++ (put m.epoch 8 ++ (put m.index 4 ++ (put m.a 4 ++ (put m.b 4 ++ (put m.bytes.length 2 ++ (m.bytes ++ (put (Crc.sum (body m)) 4 ++ t)))))))) := by
  simp only [dg, body, head, List.append_assoc]
theorem sum_lt (l : List UInt8) : Crc.sum l < 4294967296 := by have : Crc.sum l ≤ 4294967295 := Nat.sub_le _ _; omega
theorem raw_dg (m : Msg) (h : Ok m) (hb : m.bytes.length < 65536) (t : List UInt8) : raw (dg m ++ t) = ⟨m, m.bytes.length, Crc.sum (body m), rend t 0⟩ := by
  have hs := sum_lt (body m)
  rw [dg_parts, raw_app _ _ _ _ _ _ _ _ _ _ (put_length _ _) (put_length _ _) (put_length _ _) (put_length _ _) (put_length _ _) (put_length _ _) (put_length _ _) (by rw [le_put]; omega) (put_length _ _)]
  simp only [le_put]
  have a1 := h.kind; have a2 := h.key; have a3 := h.epoch; have a4 := h.index; have a5 := h.a; have a6 := h.b
  obtain ⟨k, y, p, i, a, b, bs⟩ := m
  simp only at *
  rw [Nat.mod_eq_of_lt (by omega), Nat.mod_eq_of_lt (by omega), Nat.mod_eq_of_lt (by omega), Nat.mod_eq_of_lt (by omega), Nat.mod_eq_of_lt (by omega), Nat.mod_eq_of_lt (by omega), Nat.mod_eq_of_lt (by omega), Nat.mod_eq_of_lt (by omega)]
theorem get_dg (m : Msg) (h : Ok m) (hm : may m = true) : get (dg m) = (m, 0) := by
  have hb : m.bytes.length ≤ 1465 := by simp [may] at hm; omega
  have hr := raw_dg m h (by omega) []
  rw [List.append_nil] at hr
  have hbody : (dg m).take ((dg m).length - 4) = body m := by
    rw [dg_length]
    unfold dg
    exact List.take_left' (by rw [body_length]; omega)
  unfold get
  rw [hr, hbody]
  simp only [rend, hm]
  rw [if_neg (by simp), if_neg (by simp)]
  simp
theorem get_more (m : Msg) (h : Ok m) (hm : may m = true) (t : List UInt8) (ht : t ≠ []) : get (dg m ++ t) = (zero, 15) := by
  have hb : m.bytes.length ≤ 1465 := by simp [may] at hm; omega
  have hr := raw_dg m h (by omega) t
  unfold get
  rw [hr]
  have e : rend t 0 = 15 := by unfold rend; rw [if_neg (by simp [ht])]
  simp only [e]
  rw [if_pos (by decide)]
/-- What is read of bytes: whole, or an error. -/
theorem raw_cases (l : List UInt8) : (∃ p1 p2 p3 p4 p5 p6 p7 bs p9 t, l = p1 ++ (p2 ++ (p3 ++ (p4 ++ (p5 ++ (p6 ++ (p7 ++ (bs ++ (p9 ++ t)))))))) ∧ p1.length = 1 ∧ p2.length = 8 ∧ p3.length = 8 ∧ p4.length = 4 ∧ p5.length = 4 ∧ p6.length = 4 ∧ p7.length = 2 ∧ bs.length = le p7 ∧ p9.length = 4) ∨ (raw l).e = 10 := by
  rcases rnum_cases l 1 (by decide) (by decide) with ⟨p1, t1, rfl, h1, -⟩ | h
  · rcases rnum_cases t1 8 (by decide) (by decide) with ⟨p2, t2, rfl, h2, -⟩ | h
    · rcases rnum_cases t2 8 (by decide) (by decide) with ⟨p3, t3, rfl, h3, -⟩ | h
      · rcases rnum_cases t3 4 (by decide) (by decide) with ⟨p4, t4, rfl, h4, -⟩ | h
        · rcases rnum_cases t4 4 (by decide) (by decide) with ⟨p5, t5, rfl, h5, -⟩ | h
          · rcases rnum_cases t5 4 (by decide) (by decide) with ⟨p6, t6, rfl, h6, -⟩ | h
            · rcases rnum_cases t6 2 (by decide) (by decide) with ⟨p7, t7, rfl, h7, -⟩ | h
              · rcases rbytes_cases t7 (le p7) with ⟨bs, t8, rfl, h8, -⟩ | h
                · rcases rnum_cases t8 4 (by decide) (by decide) with ⟨p9, t9, rfl, h9, -⟩ | h
                  · exact .inl ⟨p1, p2, p3, p4, p5, p6, p7, bs, p9, t9, rfl, h1, h2, h3, h4, h5, h6, h7, h8, h9⟩
                  · right
                    rw [raw_of (rnum_app _ _ 1 h1 (by decide) (by decide)) (rnum_app _ _ 8 h2 (by decide) (by decide)) (rnum_app _ _ 8 h3 (by decide) (by decide)) (rnum_app _ _ 4 h4 (by decide) (by decide)) (rnum_app _ _ 4 h5 (by decide) (by decide)) (rnum_app _ _ 4 h6 (by decide) (by decide))
                      (rnum_app _ _ 2 h7 (by decide) (by decide)) (rbytes_app _ _ _ h8) h]
                    rfl
                · right
                  rw [raw_of (rnum_app _ _ 1 h1 (by decide) (by decide)) (rnum_app _ _ 8 h2 (by decide) (by decide)) (rnum_app _ _ 8 h3 (by decide) (by decide)) (rnum_app _ _ 4 h4 (by decide) (by decide)) (rnum_app _ _ 4 h5 (by decide) (by decide)) (rnum_app _ _ 4 h6 (by decide) (by decide))
                    (rnum_app _ _ 2 h7 (by decide) (by decide)) h (rnum_bad _ _ _ (by decide))]
                  rfl
              · right
                rw [raw_of (rnum_app _ _ 1 h1 (by decide) (by decide)) (rnum_app _ _ 8 h2 (by decide) (by decide)) (rnum_app _ _ 8 h3 (by decide) (by decide)) (rnum_app _ _ 4 h4 (by decide) (by decide)) (rnum_app _ _ 4 h5 (by decide) (by decide)) (rnum_app _ _ 4 h6 (by decide) (by decide))
                  h (rbytes_bad _ _ _ (by decide)) (rnum_bad _ _ _ (by decide))]
                rfl
            · right
              rw [raw_of (rnum_app _ _ 1 h1 (by decide) (by decide)) (rnum_app _ _ 8 h2 (by decide) (by decide)) (rnum_app _ _ 8 h3 (by decide) (by decide)) (rnum_app _ _ 4 h4 (by decide) (by decide)) (rnum_app _ _ 4 h5 (by decide) (by decide)) h
                (rnum_bad _ _ _ (by decide)) (rbytes_bad _ _ _ (by decide)) (rnum_bad _ _ _ (by decide))]
              rfl
          · right
            rw [raw_of (rnum_app _ _ 1 h1 (by decide) (by decide)) (rnum_app _ _ 8 h2 (by decide) (by decide)) (rnum_app _ _ 8 h3 (by decide) (by decide)) (rnum_app _ _ 4 h4 (by decide) (by decide)) h (rnum_bad _ _ _ (by decide))
              (rnum_bad _ _ _ (by decide)) (rbytes_bad _ _ _ (by decide)) (rnum_bad _ _ _ (by decide))]
            rfl
        · right
          rw [raw_of (rnum_app _ _ 1 h1 (by decide) (by decide)) (rnum_app _ _ 8 h2 (by decide) (by decide)) (rnum_app _ _ 8 h3 (by decide) (by decide)) h (rnum_bad _ _ _ (by decide)) (rnum_bad _ _ _ (by decide))
            (rnum_bad _ _ _ (by decide)) (rbytes_bad _ _ _ (by decide)) (rnum_bad _ _ _ (by decide))]
          rfl
      · right
        rw [raw_of (rnum_app _ _ 1 h1 (by decide) (by decide)) (rnum_app _ _ 8 h2 (by decide) (by decide)) h (rnum_bad _ _ _ (by decide)) (rnum_bad _ _ _ (by decide)) (rnum_bad _ _ _ (by decide))
          (rnum_bad _ _ _ (by decide)) (rbytes_bad _ _ _ (by decide)) (rnum_bad _ _ _ (by decide))]
        rfl
    · right
      rw [raw_of (rnum_app _ _ 1 h1 (by decide) (by decide)) h (rnum_bad _ _ _ (by decide)) (rnum_bad _ _ _ (by decide)) (rnum_bad _ _ _ (by decide)) (rnum_bad _ _ _ (by decide))
        (rnum_bad _ _ _ (by decide)) (rbytes_bad _ _ _ (by decide)) (rnum_bad _ _ _ (by decide))]
      rfl
  · right
    rw [raw_of h (rnum_bad _ _ _ (by decide)) (rnum_bad _ _ _ (by decide)) (rnum_bad _ _ _ (by decide)) (rnum_bad _ _ _ (by decide)) (rnum_bad _ _ _ (by decide))
      (rnum_bad _ _ _ (by decide)) (rbytes_bad _ _ _ (by decide)) (rnum_bad _ _ _ (by decide))]
    rfl
theorem raw_len (l : List UInt8) (h : (raw l).e = 0) : 35 ≤ l.length := by
  rcases raw_cases l with ⟨p1, p2, p3, p4, p5, p6, p7, bs, p9, t, rfl, h1, h2, h3, h4, h5, h6, h7, h8, h9⟩ | h10
  · simp only [List.length_append, h1, h2, h3, h4, h5, h6, h7, h9]
    omega
  · rw [h10] at h; omega
theorem put_of {p : List UInt8} {n : Nat} (h : p.length = n) : put (le p) n = p := by rw [← h]; exact put_le p
theorem put_mod (x n : Nat) : put (x % 256 ^ n) n = put x n := by
  have h := put_le (put x n)
  rwa [le_put, put_length] at h
/-- What was read, put again. -/
theorem dg_get {l : List UInt8} {m : Msg} (h : get l = (m, 0)) : Ok m ∧ may m = true ∧ dg m = l := by
  have h0 : (raw l).e = 0 := by
    by_cases h0 : (raw l).e = 0
    · exact h0
    · unfold get at h; rw [if_pos h0] at h; exact absurd (Prod.mk.inj h).2 h0
  rcases raw_cases l with ⟨p1, p2, p3, p4, p5, p6, p7, bs, p9, t, rfl, h1, h2, h3, h4, h5, h6, h7, h8, h9⟩ | h10
  · have hr := raw_app p1 p2 p3 p4 p5 p6 p7 bs p9 t h1 h2 h3 h4 h5 h6 h7 h8 h9
    obtain ⟨l, hl⟩ : ∃ l, p1 ++ (p2 ++ (p3 ++ (p4 ++ (p5 ++ (p6 ++ (p7 ++ (bs ++ (p9 ++ t)))))))) = l := ⟨_, rfl⟩
    rw [hl] at h h0 hr ⊢
    have ht : t = [] := by
      rw [hr] at h0
      by_cases ht : t = []
      · exact ht
      · have : rend t 0 = 15 := by unfold rend; rw [if_neg (by simp [ht])]
        simp only [this] at h0
        omega
    subst ht
    unfold get at h
    rw [if_neg (by simp [h0])] at h
    split at h
    · simp at h
    · rename_i hs
      split at h
      · rename_i hmay
        have hm : (raw l).m = m := (Prod.mk.inj h).1
        rw [hr] at hm hmay hs
        simp only [Decidable.not_not] at hm hmay hs
        subst hm
        have q1 := le_lt p1; have q2 := le_lt p2; have q3 := le_lt p3; have q4 := le_lt p4; have q5 := le_lt p5; have q6 := le_lt p6; have q7 := le_lt p7
        rw [h1] at q1; rw [h2] at q2; rw [h3] at q3; rw [h4] at q4; rw [h5] at q5; rw [h6] at q6; rw [h7] at q7
        have hhead : head ⟨le p1, le p2, le p3, le p4, le p5, le p6, bs⟩ = p1 ++ p2 ++ p3 ++ p4 ++ p5 ++ p6 ++ p7 := by
          unfold head
          simp only [h8, put_of h1, put_of h2, put_of h3, put_of h4, put_of h5, put_of h6, put_of h7]
        have hbody : body ⟨le p1, le p2, le p3, le p4, le p5, le p6, bs⟩ = l.take (l.length - 4) := by
          unfold body
          rw [hhead, ← hl]
          simp only [List.append_nil, ← List.append_assoc]
          rw [List.take_left' (by simp only [List.length_append]; omega)]
        refine ⟨⟨by omega, by omega, by omega, by omega, by omega, by omega⟩, hmay, ?_⟩
        unfold dg
        rw [hbody, hs, put_of h9, ← hbody]
        unfold body
        rw [hhead, ← hl]
        simp only [List.append_nil, List.append_assoc]
      · simp at h
  · rw [h10] at h0; omega
/-- A datagram that is cut. -/
theorem get_cut (m : Msg) (h : Ok m) (hm : may m = true) (k : Nat) (hk : k < 35 + m.bytes.length) : get ((dg m).take k) = (zero, 10) := by
  have hb : m.bytes.length ≤ 1465 := by simp [may] at hm; omega
  have hd : (dg m).take k ++ (dg m).drop k = dg m ++ [] := by rw [List.take_append_drop, List.append_nil]
  have hl : ((dg m).take k).length = k := by rw [List.length_take, dg_length]; omega
  obtain ⟨l, hle⟩ : ∃ l, (dg m).take k = l := ⟨_, rfl⟩
  rw [hle] at hd hl ⊢
  rcases raw_cases l with ⟨p1, p2, p3, p4, p5, p6, p7, bs, p9, t, rfl, h1, h2, h3, h4, h5, h6, h7, h8, h9⟩ | h10
  · exfalso
    simp only [List.length_append, h1, h2, h3, h4, h5, h6, h7, h9] at hl
    have hr := raw_app p1 p2 p3 p4 p5 p6 p7 bs p9 (t ++ (dg m).drop k) h1 h2 h3 h4 h5 h6 h7 h8 h9
    have hr2 := raw_dg m h (by omega) []
    rw [← hd] at hr2
    simp only [List.append_assoc] at hr2
    rw [hr] at hr2
    have : le p7 = m.bytes.length := congrArg Raw.n hr2
    omega
  · unfold get
    rw [h10, if_pos (by decide)]
end Go.Lm.Wr
