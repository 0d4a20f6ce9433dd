/-
  THE WALK of package huff: parts. Plain: the parts of symbols.
  PLAIN: four streams. No program in sight but for what encode makes.
  PLAIN: four streams, read. No program in sight but for what decode tells.
-/
import Derived.Test.YtfckokdgmbbheaaHufEncode
import Derived.Test.YtfckokdgmbbheaaHufCurW
import Derived.Test.YtfckokdgmbbheaaGen9
set_option linter.unusedVariables false
set_option linter.unusedSimpArgs false
set_option maxRecDepth 20000
namespace Go.Proofs.Ytfckokdgmbbheaa.huf
open Go Go.RowKit Go.Lm Go.Proofs.Ytfckokdgmbbheaa.bit

def qk (n : Nat) : Nat := (n + 3) / 4
/-- How many symbols part i has. -/
def pn (n i : Nat) : Int := if i < 3 then (qk n : Int) else (n : Int) - 3 * (qk n : Int)
def pnA (n : Nat) : Array Value := #[.int .i64 (qk n : Nat), .int .i64 (qk n : Nat), .int .i64 (qk n : Nat), .int .i64 ((n : Int) - 3 * (qk n : Int))]
theorem pnA_get (n i : Nat) (h : i < 4) : (pnA n)[i]? = some (.int .i64 (pn n i)) := by
  match i, h with
  | 0, _ => rfl
  | 1, _ => rfl
  | 2, _ => rfl
  | 3, _ => rfl

set_option maxHeartbeats 400000 in
theorem parts_c (w : World) (n : Nat) (hn : n ≤ 1000000) : Calls Try.prog 22 #[.int .i64 (n : Nat)] w fun e w' => e = .returned (.tuple #[.agg (pnA n), .bool (decide (3 * qk n ≤ n))]) ∧ Only [] w w' := by
  obtain ⟨k, hk⟩ : ∃ k, qk n = k := ⟨_, rfl⟩
  have hkI : ((n : Int) + 4 - 1) / 4 = (k : Int) := by unfold qk at hk; omega
  have hkb : k ≤ 1000000 := by unfold qk at hk; omega
  have hdec : decide (3 * (k : Int) ≤ (n : Int)) = decide (3 * k ≤ n) := by
    congr 1; exact propext ⟨fun h => by omega, fun h => by omega⟩
  unfold pnA
  rw [hk]
  clear hk
  go_enter Try.func22, Try.ntmps22
  go_wp2_with fail
  --@1
  have hb := heap_alloc_new w (.cells #[.int .i64 (k : Nat), .int .i64 (k : Nat), .int .i64 (k : Nat), .int .i64 ((n : Int) - 3 * (k : Int))] 45)
  have c0 := cell_of_row _ _ 0 _ _ _ hb
  have c1 := cell_of_row _ _ 1 _ _ _ hb
  have c2 := cell_of_row _ _ 2 _ _ _ hb
  have c3 := cell_of_row _ _ 3 _ _ _ hb
  refine bodyPost_ret (v := .tuple #[.agg #[.int .i64 (k : Nat), .int .i64 (k : Nat), .int .i64 (k : Nat), .int .i64 ((n : Int) - 3 * (k : Int))], .bool (decide (3 * k ≤ n))]) (by rw [results_cell_tmp rfl]; go_simp) rfl ⟨rfl, (Only.refl _ _).alloc _⟩
end Go.Proofs.Ytfckokdgmbbheaa.huf

set_option linter.unusedVariables false
set_option linter.unusedSimpArgs false
namespace Go.Proofs.Ytfckokdgmbbheaa.huf
open Go Go.RowKit Go.Lm Go.Proofs.Ytfckokdgmbbheaa.bit

/-- Where part i begins. -/
def cut (n i : Nat) : Nat := if i ≤ 3 then i * qk n else n
/-- Part i. -/
def prt (q : List UInt8) (i : Nat) : List UInt8 := (q.drop (cut q.length i)).take (cut q.length (i + 1) - cut q.length i)
theorem cut_zero (n : Nat) : cut n 0 = 0 := by simp [cut]
theorem cut_four (n : Nat) : cut n 4 = n := by simp [cut]
theorem cut_next {n i : Nat} (h : 3 * qk n ≤ n) (hi : i < 4) : cut n i ≤ cut n (i + 1) ∧ cut n (i + 1) ≤ n ∧ ((cut n (i + 1) - cut n i : Nat) : Int) = pn n i := by
  unfold cut pn
  match i, hi with
  | 0, _ => simp; omega
  | 1, _ => simp; omega
  | 2, _ => simp; omega
  | 3, _ => simp; omega
theorem prt_length {q : List UInt8} {i : Nat} (h : 3 * qk q.length ≤ q.length) (hi : i < 4) : (prt q i).length = cut q.length (i + 1) - cut q.length i := by
  have := cut_next h hi
  unfold prt
  rw [List.length_take, List.length_drop]
  omega
theorem take_cut {q : List UInt8} {i : Nat} (h : 3 * qk q.length ≤ q.length) (hi : i < 4) : q.take (cut q.length (i + 1)) = q.take (cut q.length i) ++ prt q i := by
  have := cut_next h hi
  unfold prt
  rw [← List.take_add]
  congr 1
  omega
theorem all_prt {P : UInt8 → Prop} {q : List UInt8} (h : 3 * qk q.length ≤ q.length) : (∀ s ∈ q, P s) ↔ ∀ i, i < 4 → ∀ s ∈ prt q i, P s := by
  constructor
  · intro hq i hi s hs
    exact hq s (List.mem_of_mem_drop (List.mem_of_mem_take hs))
  · intro hp
    have : ∀ i, i ≤ 4 → ∀ s ∈ q.take (cut q.length i), P s := by
      intro i
      induction i with
      | zero => intro _ s hs; rw [cut_zero] at hs; simp at hs
      | succ i ih =>
        intro hi s hs
        rw [take_cut h (by omega)] at hs
        rcases List.mem_append.1 hs with h1 | h1
        · exact ih (by omega) s h1
        · exact hp i (by omega) s h1
    have h4 := this 4 (Nat.le_refl _)
    rw [cut_four, List.take_length] at h4
    exact h4
/-- Stream j; the sizes; the streams. -/
def e4 (L : List Nat) (d : Nat) (q : List UInt8) (j : Nat) : List UInt8 := (senc L d (prt q j)).1
def hd4 (L : List Nat) (d : Nat) (q : List UInt8) (i : Nat) : List UInt8 := (List.range i).flatMap fun j => Cur.put (e4 L d q j).length 2
def bd4 (L : List Nat) (d : Nat) (q : List UInt8) (i : Nat) : List UInt8 := (List.range i).flatMap fun j => e4 L d q j
theorem hd4_succ (L : List Nat) (d : Nat) (q : List UInt8) (i : Nat) : hd4 L d q (i + 1) = hd4 L d q i ++ Cur.put (e4 L d q i).length 2 := by unfold hd4; rw [List.range_succ, List.flatMap_append]; simp
theorem bd4_succ (L : List Nat) (d : Nat) (q : List UInt8) (i : Nat) : bd4 L d q (i + 1) = bd4 L d q i ++ e4 L d q i := by unfold bd4; rw [List.range_succ, List.flatMap_append]; simp
theorem hd4_length (L : List Nat) (d : Nat) (q : List UInt8) : ∀ i, (hd4 L d q i).length = 2 * i
  | 0 => rfl
  | i + 1 => by rw [hd4_succ, List.length_append, hd4_length L d q i, Cur.put_length]; omega
theorem e4_length (L : List Nat) (d : Nat) (hd : d ≤ 11) (q : List UInt8) (j : Nat) : (e4 L d q j).length ≤ 2 * (prt q j).length + 1 := by
  unfold e4 senc
  split
  · have h1 := Huf.ebits_length L d hd (Huf.ns (prt q j)).reverse
    rw [List.length_reverse, Huf.ns_length] at h1
    simp only [Bt.bytesOf_length, List.length_append, List.length_singleton]
    omega
  · simp
theorem bd4_length (L : List Nat) (d : Nat) (hd : d ≤ 11) (q : List UInt8) (h : 3 * qk q.length ≤ q.length) : ∀ i, i ≤ 4 → (bd4 L d q i).length ≤ 2 * cut q.length i + i
  | 0, _ => by simp [bd4]
  | i + 1, hi => by
    have h1 := bd4_length L d hd q h i (by omega)
    have h2 := e4_length L d hd q i
    rw [prt_length h (by omega)] at h2
    have h3 := cut_next h (show i < 4 by omega)
    rw [bd4_succ, List.length_append]
    omega
/-- What Encode4 makes. -/
def henc4 (l q : List UInt8) : List UInt8 × Int :=
  if Huf.dep (Huf.ns l) = 0 then ([], 1)
  else if q.length < 3 * qk q.length ∨ ¬ (∀ s ∈ q, Huf.Okay (Huf.ns l) s.toNat) then ([], 1)
  else (hd4 (Huf.ns l) (Huf.dep (Huf.ns l)) q 3 ++ bd4 (Huf.ns l) (Huf.dep (Huf.ns l)) q 4, 0)
theorem senc_okay {L : List Nat} {d : Nat} {q : List UInt8} (h : ∀ s ∈ q, Huf.Okay L s.toNat) : (senc L d q).2 = 0 := by unfold senc; rw [if_pos h]
theorem senc_not {L : List Nat} {d : Nat} {q : List UInt8} (h : ¬ ∀ s ∈ q, Huf.Okay L s.toNat) : senc L d q = ([], 1) := by unfold senc; rw [if_neg h]
end Go.Proofs.Ytfckokdgmbbheaa.huf

set_option linter.unusedVariables false
set_option linter.unusedSimpArgs false
namespace Go.Proofs.Ytfckokdgmbbheaa.huf
open Go Go.RowKit Go.Lm Go.Proofs.Ytfckokdgmbbheaa.bit

/-- The three sizes, and what is behind them. -/
def nums (b : List UInt8) : List UInt8 × Int × Nat × Nat × Nat :=
  ((Cur.rnum (Cur.rnum (Cur.rnum b 0 2).1 (Cur.rnum b 0 2).2.1 2).1 (Cur.rnum (Cur.rnum b 0 2).1 (Cur.rnum b 0 2).2.1 2).2.1 2).1, (Cur.rnum (Cur.rnum (Cur.rnum b 0 2).1 (Cur.rnum b 0 2).2.1 2).1 (Cur.rnum (Cur.rnum b 0 2).1 (Cur.rnum b 0 2).2.1 2).2.1 2).2.1,
    (Cur.rnum b 0 2).2.2, (Cur.rnum (Cur.rnum b 0 2).1 (Cur.rnum b 0 2).2.1 2).2.2, (Cur.rnum (Cur.rnum (Cur.rnum b 0 2).1 (Cur.rnum b 0 2).2.1 2).1 (Cur.rnum (Cur.rnum b 0 2).1 (Cur.rnum b 0 2).2.1 2).2.1 2).2.2)
theorem rnum_cases (l : List UInt8) (e : Int) : (Cur.rnum l e 2).1.length ≤ l.length ∧ (Cur.rnum l e 2).2.2 < 65536 := by
  unfold Cur.rnum
  have h1 : ∀ t : List UInt8, t.length ≤ 2 → Cur.le t < 65536 := fun t ht => by
    have h := Cur.le_lt t
    have h2 : 256 ^ t.length ≤ 256 ^ 2 := Nat.pow_le_pow_right (by decide) ht
    omega
  refine ⟨?_, h1 _ (Cur.rtake_out l e 2 _)⟩
  simp only [Cur.rtake]
  split
  · exact Nat.le_refl _
  · split
    · exact Nat.le_refl _
    · split
      · exact Nat.le_refl _
      · simp only [List.length_drop]; omega
theorem nums_bound (b : List UInt8) : (nums b).1.length ≤ b.length ∧ (nums b).2.2.1 < 65536 ∧ (nums b).2.2.2.1 < 65536 ∧ (nums b).2.2.2.2 < 65536 := by
  have h1 := rnum_cases b 0
  have h2 := rnum_cases (Cur.rnum b 0 2).1 (Cur.rnum b 0 2).2.1
  have h3 := rnum_cases (Cur.rnum (Cur.rnum b 0 2).1 (Cur.rnum b 0 2).2.1 2).1 (Cur.rnum (Cur.rnum b 0 2).1 (Cur.rnum b 0 2).2.1 2).2.1
  unfold nums
  exact ⟨Nat.le_trans h3.1 (Nat.le_trans h2.1 h1.1), h1.2, h2.2, h3.2⟩
/-- Where stream i begins. -/
def off (a b c T i : Nat) : Nat := if i = 0 then 0 else if i = 1 then a else if i = 2 then a + b else if i = 3 then a + b + c else T
def pc4 (R : List UInt8) (a b c i : Nat) : List UInt8 := (R.drop (off a b c R.length i)).take (off a b c R.length (i + 1) - off a b c R.length i)
/-- The sizes of all four. -/
def ln (a b c T i : Nat) : Int := if i = 0 then a else if i = 1 then b else if i = 2 then c else (T : Int) - a - b - c
def lnA (a b c T : Nat) : Array Value := #[.int .i64 (a : Nat), .int .i64 (b : Nat), .int .i64 (c : Nat), .int .i64 ((T : Int) - a - b - c)]
theorem lnA_get (a b c T i : Nat) (h : i < 4) : (lnA a b c T)[i]? = some (.int .i64 (ln a b c T i)) := by
  match i, h with
  | 0, _ => rfl
  | 1, _ => rfl
  | 2, _ => rfl
  | 3, _ => rfl
theorem off_next {a b c T i : Nat} (h : a + b + c ≤ T) (hi : i < 4) : off a b c T i ≤ off a b c T (i + 1) ∧ off a b c T (i + 1) ≤ T ∧ ((off a b c T (i + 1) - off a b c T i : Nat) : Int) = ln a b c T i := by
  unfold off ln
  match i, hi with
  | 0, _ => simp; omega
  | 1, _ => simp; omega
  | 2, _ => simp; omega
  | 3, _ => simp; omega
/-- The symbols of the first i streams, or the first error. -/
def d4 (L : List Nat) (d : Nat) (R : List UInt8) (a b c n : Nat) : Nat → List UInt8 × Int
  | 0 => ([], 0)
  | i + 1 => if (d4 L d R a b c n i).2 ≠ 0 then d4 L d R a b c n i
    else if (sdec L d (pc4 R a b c i) (cut n (i + 1) - cut n i)).2 ≠ 0 then ([], (sdec L d (pc4 R a b c i) (cut n (i + 1) - cut n i)).2)
    else ((d4 L d R a b c n i).1 ++ (sdec L d (pc4 R a b c i) (cut n (i + 1) - cut n i)).1, 0)
theorem d4_succ (L : List Nat) (d : Nat) (R : List UInt8) (a b c n m : Nat) : d4 L d R a b c n (m + 1) = if (d4 L d R a b c n m).2 ≠ 0 then d4 L d R a b c n m
    else if (sdec L d (pc4 R a b c m) (cut n (m + 1) - cut n m)).2 ≠ 0 then ([], (sdec L d (pc4 R a b c m) (cut n (m + 1) - cut n m)).2)
    else ((d4 L d R a b c n m).1 ++ (sdec L d (pc4 R a b c m) (cut n (m + 1) - cut n m)).1, 0) := rfl
theorem d4_next {L : List Nat} {d : Nat} {R : List UInt8} {a b c n i : Nat} (h : (d4 L d R a b c n i).2 = 0) (h2 : (sdec L d (pc4 R a b c i) (cut n (i + 1) - cut n i)).2 = 0) :
    d4 L d R a b c n (i + 1) = ((d4 L d R a b c n i).1 ++ (sdec L d (pc4 R a b c i) (cut n (i + 1) - cut n i)).1, 0) := by
  show (if _ then _ else _) = _
  rw [if_neg (by simp [h]), if_neg (by simp [h2])]
theorem d4_stop {L : List Nat} {d : Nat} {R : List UInt8} {a b c n i : Nat} (h : (d4 L d R a b c n i).2 = 0) (h2 : (sdec L d (pc4 R a b c i) (cut n (i + 1) - cut n i)).2 ≠ 0) :
    ∀ j, d4 L d R a b c n (i + 1 + j) = ([], (sdec L d (pc4 R a b c i) (cut n (i + 1) - cut n i)).2)
  | 0 => by
    show (if _ then _ else _) = _
    rw [if_neg (by simp [h]), if_pos h2]
  | j + 1 => by
    have ih := d4_stop h h2 j
    rw [show i + 1 + (j + 1) = (i + 1 + j) + 1 from rfl, d4_succ, if_pos (by rw [ih]; exact h2)]
    exact ih
theorem sdec_len (L : List Nat) (d : Nat) (b : List UInt8) (n : Nat) : (sdec L d b n).1.length ≤ n := by
  unfold sdec
  split
  · simp
  · split
    · simp
    · split
      · simp
      · simp [Huf.dec_length]
theorem d4_len (L : List Nat) (d : Nat) (R : List UInt8) (a b c n : Nat) (h : 3 * qk n ≤ n) : ∀ i, i ≤ 4 → (d4 L d R a b c n i).1.length ≤ cut n i
  | 0, _ => by simp [d4]
  | i + 1, hi => by
    have ih := d4_len L d R a b c n h i (by omega)
    have h2 := cut_next h (show i < 4 by omega)
    have h3 := sdec_len L d (pc4 R a b c i) (cut n (i + 1) - cut n i)
    show (if _ then _ else _ : List UInt8 × Int).1.length ≤ _
    split
    · omega
    · split
      · simp
      · simp only [List.length_append]; omega
/-- What Decode4 tells. -/
def hdec4 (l b : List UInt8) (n : Int) : List UInt8 × Int :=
  if Huf.dep (Huf.ns l) = 0 then ([], 1)
  else if n < 0 ∨ 131072 < n then ([], 1)
  else if n.toNat < 3 * qk n.toNat then ([], 11)
  else if (nums b).2.1 ≠ 0 ∨ (nums b).1.length < (nums b).2.2.1 + (nums b).2.2.2.1 + (nums b).2.2.2.2 then ([], 10)
  else d4 (Huf.ns l) (Huf.dep (Huf.ns l)) (nums b).1 (nums b).2.2.1 (nums b).2.2.2.1 (nums b).2.2.2.2 n.toNat 4
end Go.Proofs.Ytfckokdgmbbheaa.huf

