/-
  PLAIN: SHA-256 by blocks. No program in sight.
-/
set_option linter.unusedVariables false
namespace Go.Lm.Sha

/-- What the rounds add. -/
def K : List Nat := [1116352408, 1899447441, 3049323471, 3921009573, 961987163, 1508970993, 2453635748, 2870763221, 3624381080, 310598401, 607225278, 1426881987, 1925078388, 2162078206, 2614888103, 3248222580, 3835390401, 4022224774, 264347078, 604807628, 770255983, 1249150122, 1555081692, 1996064986, 2554220882, 2821834349, 2952996808, 3210313671, 3336571891, 3584528711, 113926993, 338241895, 666307205, 773529912, 1294757372, 1396182291, 1695183700, 1986661051, 2177026350, 2456956037, 2730485921, 2820302411, 3259730800, 3345764771, 3516065817, 3600352804, 4094571909, 275423344, 430227734, 506948616, 659060556, 883997877, 958139571, 1322822218, 1537002063, 1747873779, 1955562222, 2024104815, 2227730452, 2361852424, 2428436474, 2756734187, 3204031479, 3329325298]
def H0 : List Nat := [1779033703, 3144134277, 1013904242, 2773480762, 1359893119, 2600822924, 528734635, 1541459225]
/-- A word, turned to the right. -/
def rr (n x : Nat) : Nat := x * 2 ^ (32 - n) % 4294967296 ||| x / 2 ^ n
def big (x a b c : Nat) : Nat := rr a x ^^^ rr b x ^^^ rr c x
def sml (x a b c : Nat) : Nat := rr a x ^^^ rr b x ^^^ x / 2 ^ c
def ch (e f g : Nat) : Nat := (e &&& f) ^^^ ((4294967295 - e) &&& g)
def maj (a b c : Nat) : Nat := (a &&& b) ^^^ (a &&& c) ^^^ (b &&& c)
def one (e f g h k w : Nat) : Nat := (h + big e 6 11 25 + ch e f g + k + w) % 4294967296
def two (a b c : Nat) : Nat := (big a 2 13 22 + maj a b c) % 4294967296
def rnd : List Nat → Nat → Nat → List Nat
  | [a, b, c, d, e, f, g, h], k, w => [(one e f g h k w + two a b c) % 4294967296, a, b, c, (d + one e f g h k w) % 4294967296, e, f, g]
  | l, _, _ => l
def rnds (ws h : List Nat) : Nat → List Nat
  | 0 => h
  | n + 1 => rnd (rnds ws h n) (K.getD n 0) (ws.getD n 0)
/-- A word of bytes. -/
def be (l : List UInt8) : Nat := l.foldl (fun x c => x * 256 + c.toNat) 0
def w16 (l : List UInt8) : List Nat := (List.range 16).map fun i => be ((l.drop (4 * i)).take 4)
def ext (ws : List Nat) : List Nat := ws ++ [(ws.getD (ws.length - 16) 0 + sml (ws.getD (ws.length - 15) 0) 7 18 3 + ws.getD (ws.length - 7) 0 + sml (ws.getD (ws.length - 2) 0) 17 19 10) % 4294967296]
def sch (l : List UInt8) : Nat → List Nat
  | 0 => w16 l
  | n + 1 => ext (sch l n)
def comp (h : List Nat) (l : List UInt8) : List Nat := List.zipWith (fun v s => (v + s) % 4294967296) (rnds (sch l 48) h 64) h
/-- The state behind so many whole blocks. -/
def hsN (l : List UInt8) : Nat → List Nat
  | 0 => H0
  | k + 1 => comp (hsN l k) ((l.drop (64 * k)).take 64)
def be8 (n : Nat) : List UInt8 := (List.range 8).map fun i => UInt8.ofNat (n / 2 ^ (56 - 8 * i))
def zs (n : Nat) : Nat := (119 - n % 64) % 64
def pad (l : List UInt8) : List UInt8 := l ++ [128] ++ List.replicate (zs l.length) 0 ++ be8 (8 * l.length % 18446744073709551616)
def dig (h : List Nat) : List UInt8 := (List.range 32).map fun i => UInt8.ofNat (h.getD (i / 4) 0 / 2 ^ (24 - 8 * (i % 4)))
/-- The digest of bytes. -/
def sum (l : List UInt8) : List UInt8 := dig (hsN (pad l) ((pad l).length / 64))

theorem sum_length (l : List UInt8) : (sum l).length = 32 := by simp [sum, dig]
theorem hsN_append (l m : List UInt8) : ∀ k, 64 * k ≤ l.length → hsN (l ++ m) k = hsN l k
  | 0, _ => rfl
  | k + 1, h => by
    have e : ((l ++ m).drop (64 * k)).take 64 = (l.drop (64 * k)).take 64 := by
      rw [List.drop_append_of_le_length (by omega), List.take_append_of_le_length (by simp; omega)]
    rw [hsN, hsN, hsN_append l m k (by omega), e]
theorem rr_lt {n x : Nat} (hx : x < 4294967296) : rr n x < 4294967296 :=
  Nat.or_lt_two_pow (n := 32) (Nat.mod_lt _ (by decide)) (Nat.lt_of_le_of_lt (Nat.div_le_self _ _) hx)
theorem big_lt {x a b c : Nat} (hx : x < 4294967296) : big x a b c < 4294967296 :=
  Nat.xor_lt_two_pow (n := 32) (Nat.xor_lt_two_pow (n := 32) (rr_lt hx) (rr_lt hx)) (rr_lt hx)
theorem sml_lt {x a b c : Nat} (hx : x < 4294967296) : sml x a b c < 4294967296 :=
  Nat.xor_lt_two_pow (n := 32) (Nat.xor_lt_two_pow (n := 32) (rr_lt hx) (rr_lt hx)) (Nat.lt_of_le_of_lt (Nat.div_le_self _ _) hx)
theorem ch_lt {e f g : Nat} (hf : f < 4294967296) (hg : g < 4294967296) : ch e f g < 4294967296 :=
  Nat.xor_lt_two_pow (n := 32) (Nat.and_lt_two_pow _ hf) (Nat.and_lt_two_pow _ hg)
theorem maj_lt {a b c : Nat} (hb : b < 4294967296) (hc : c < 4294967296) : maj a b c < 4294967296 :=
  Nat.xor_lt_two_pow (n := 32) (Nat.xor_lt_two_pow (n := 32) (Nat.and_lt_two_pow _ hb) (Nat.and_lt_two_pow _ hc)) (Nat.and_lt_two_pow _ hc)

/-- Eight words. -/
def W8 (h : List Nat) : Prop := h.length = 8 ∧ ∀ x ∈ h, x < 4294967296
theorem W8.parts {h : List Nat} (h8 : W8 h) : ∃ a b c d e f g i : Nat, h = [a, b, c, d, e, f, g, i] ∧ a < 4294967296 ∧ b < 4294967296 ∧ c < 4294967296 ∧ d < 4294967296 ∧ e < 4294967296 ∧ f < 4294967296 ∧ g < 4294967296 ∧ i < 4294967296 := by
  obtain ⟨hl, hx⟩ := h8
  match h, hl with
  | [a, b, c, d, e, f, g, i], _ =>
    simp only [List.mem_cons, List.not_mem_nil, or_false, forall_eq_or_imp, forall_eq] at hx
    exact ⟨a, b, c, d, e, f, g, i, rfl, hx⟩
theorem W8.H0 : W8 H0 := ⟨rfl, by decide⟩
theorem W8.rnd {h : List Nat} (h8 : W8 h) (k w : Nat) : W8 (rnd h k w) := by
  obtain ⟨a, b, c, d, e, f, g, i, rfl, h1⟩ := h8.parts
  refine ⟨rfl, ?_⟩
  intro x hx
  simp only [Sha.rnd, List.mem_cons, List.not_mem_nil, or_false] at hx
  have hm : ∀ n : Nat, n % 4294967296 < 4294967296 := fun n => Nat.mod_lt _ (by decide)
  rcases hx with rfl | rfl | rfl | rfl | rfl | rfl | rfl | rfl <;> first | exact hm _ | omega
theorem W8.rnds {h : List Nat} (h8 : W8 h) (ws : List Nat) : ∀ n, W8 (rnds ws h n)
  | 0 => h8
  | n + 1 => (W8.rnds h8 ws n).rnd _ _
theorem W8.comp {h : List Nat} (h8 : W8 h) (l : List UInt8) : W8 (comp h l) := by
  refine ⟨by simp [Sha.comp, h8.1, (W8.rnds h8 (sch l 48) 64).1], fun x hx => ?_⟩
  unfold Sha.comp at hx
  rw [List.mem_iff_getElem] at hx
  obtain ⟨i, hi, rfl⟩ := hx
  rw [List.getElem_zipWith]
  exact Nat.mod_lt _ (by decide)
theorem W8.hsN (l : List UInt8) : ∀ k, W8 (hsN l k)
  | 0 => W8.H0
  | k + 1 => (W8.hsN l k).comp _

theorem be_snoc (l : List UInt8) (c : UInt8) : be (l ++ [c]) = be l * 256 + c.toNat := by simp [be]
theorem be_lt : ∀ n (l : List UInt8), l.length = n → be l < 256 ^ n
  | 0, l, h => by have : l = [] := List.eq_nil_of_length_eq_zero h; subst this; decide
  | n + 1, l, h => by
    have hne : l ≠ [] := by intro e; subst e; simp at h
    rw [← List.dropLast_concat_getLast hne, be_snoc]
    have := be_lt n l.dropLast (by simp [h])
    have hc := (l.getLast hne).toNat_lt
    rw [Nat.pow_succ]; omega
theorem be_lt' (l : List UInt8) (n : Nat) (h : l.length ≤ n) : be l < 256 ^ n := Nat.lt_of_lt_of_le (be_lt _ l rfl) (Nat.pow_le_pow_right (by decide) h)
/-- One byte more, by bits. -/
theorem be_or (l : List UInt8) (c : UInt8) (h : l.length ≤ 3) : (be l * 256 % 4294967296) ||| c.toNat = be (l ++ [c]) := by
  have h1 := be_lt' l 3 h
  have hc := c.toNat_lt
  rw [be_snoc, Nat.mod_eq_of_lt (by omega)]
  have := Nat.two_pow_add_eq_or_of_lt (i := 8) (show c.toNat < 2 ^ 8 by omega) (be l)
  rw [show 2 ^ 8 = 256 from rfl, Nat.mul_comm] at this
  exact this.symm
/-- Four bytes at once, by bits. -/
theorem be_four (a b c d : UInt8) : (((a.toNat * 16777216 ||| b.toNat * 65536) ||| c.toNat * 256) ||| d.toNat) = be [a, b, c, d] := by
  have ha := a.toNat_lt; have hb := b.toNat_lt; have hc := c.toNat_lt; have hd := d.toNat_lt
  have e1 : a.toNat * 16777216 ||| b.toNat * 65536 = a.toNat * 16777216 + b.toNat * 65536 := by
    have := Nat.two_pow_add_eq_or_of_lt (i := 24) (show b.toNat * 65536 < 2 ^ 24 by omega) a.toNat
    rw [show 2 ^ 24 = 16777216 from rfl, Nat.mul_comm 16777216] at this; exact this.symm
  have e2 : (a.toNat * 16777216 + b.toNat * 65536) ||| c.toNat * 256 = a.toNat * 16777216 + b.toNat * 65536 + c.toNat * 256 := by
    have := Nat.two_pow_add_eq_or_of_lt (i := 16) (show c.toNat * 256 < 2 ^ 16 by omega) (a.toNat * 256 + b.toNat)
    rw [show 2 ^ 16 = 65536 from rfl, show 65536 * (a.toNat * 256 + b.toNat) = a.toNat * 16777216 + b.toNat * 65536 by omega] at this; exact this.symm
  have e3 : (a.toNat * 16777216 + b.toNat * 65536 + c.toNat * 256) ||| d.toNat = a.toNat * 16777216 + b.toNat * 65536 + c.toNat * 256 + d.toNat := by
    have := Nat.two_pow_add_eq_or_of_lt (i := 8) (show d.toNat < 2 ^ 8 by omega) (a.toNat * 65536 + b.toNat * 256 + c.toNat)
    rw [show 2 ^ 8 = 256 from rfl, show 256 * (a.toNat * 65536 + b.toNat * 256 + c.toNat) = a.toNat * 16777216 + b.toNat * 65536 + c.toNat * 256 by omega] at this; exact this.symm
  rw [e1, e2, e3]
  simp [be]; omega

theorem w16_length (l : List UInt8) : (w16 l).length = 16 := by simp [w16]
theorem sch_length (l : List UInt8) : ∀ n, (sch l n).length = 16 + n
  | 0 => w16_length l
  | n + 1 => by rw [sch, ext, List.length_append, sch_length l n]; simp; omega
theorem w16_lt (l : List UInt8) : ∀ x ∈ w16 l, x < 4294967296 := by
  intro x hx
  simp only [w16, List.mem_map] at hx
  obtain ⟨i, _, rfl⟩ := hx
  exact be_lt' _ 4 (by simp; omega)
theorem sch_lt (l : List UInt8) : ∀ n, ∀ x ∈ sch l n, x < 4294967296
  | 0 => w16_lt l
  | n + 1 => by
    intro x hx
    rw [sch, ext, List.mem_append] at hx
    rcases hx with hx | hx
    · exact sch_lt l n x hx
    · simp only [List.mem_singleton] at hx
      subst hx
      exact Nat.mod_lt _ (by decide)
theorem getD_lt {l : List Nat} (h : ∀ x ∈ l, x < 4294967296) (i : Nat) : l.getD i 0 < 4294967296 := by
  rw [List.getD_eq_getElem?_getD]
  by_cases hi : i < l.length
  · rw [List.getElem?_eq_getElem hi]; exact h _ (List.getElem_mem hi)
  · rw [List.getElem?_eq_none (by omega)]; decide

/-- The words so far, the others nought. -/
def wz (ws : List Nat) : List Nat := ws ++ List.replicate (64 - ws.length) 0
theorem wz_length (ws : List Nat) (h : ws.length ≤ 64) : (wz ws).length = 64 := by simp [wz]; omega
theorem wz_set (ws : List Nat) (x : Nat) (h : ws.length < 64) : (wz ws).set ws.length x = wz (ws ++ [x]) := by
  obtain ⟨k, hk⟩ : ∃ k, 64 - ws.length = k + 1 := ⟨63 - ws.length, by omega⟩
  have hk' : 64 - (ws ++ [x]).length = k := by simp; omega
  unfold wz
  rw [hk, hk', List.replicate_succ]
  simp
theorem wz_get (ws : List Nat) (i : Nat) (h : i < ws.length) : (wz ws).getD i 0 = ws.getD i 0 := by
  simp [wz, List.getD_eq_getElem?_getD, h, List.getElem?_append_left]
theorem wz_lt {ws : List Nat} (h : ∀ x ∈ ws, x < 4294967296) : ∀ x ∈ wz ws, x < 4294967296 := by
  intro x hx
  simp only [wz, List.mem_append, List.mem_replicate] at hx
  rcases hx with hx | ⟨_, rfl⟩
  · exact h x hx
  · decide
/-- The words of so many bytes. -/
def wb (l : List UInt8) (i : Nat) : List Nat := (List.range 64).map fun j => be (((l.take i).drop (4 * j)).take 4)
theorem wb_length (l : List UInt8) (i : Nat) : (wb l i).length = 64 := by simp [wb]
theorem wb_zero (l : List UInt8) : wb l 0 = List.replicate 64 0 := by
  apply List.ext_getElem (by simp [wb])
  intro j h1 h2
  simp [wb, be, -List.reduceReplicate]
theorem wb_all (l : List UInt8) (h : l.length = 64) : wb l 64 = wz (w16 l) := by
  apply List.ext_getElem (by simp [wb, wz, w16])
  intro j h1 h2
  simp only [wb, List.getElem_map, List.getElem_range, List.take_of_length_le (Nat.le_of_eq h)]
  by_cases hj : j < 16
  · simp [wz, w16, hj]
  · have : l.drop (4 * j) = [] := List.drop_eq_nil_of_le (by omega)
    rw [this]
    simp [wz, w16, List.getElem_append, hj, be, -List.reduceReplicate]
theorem wb_succ (l : List UInt8) (i : Nat) (h : i < l.length) (hi : i < 64) : wb l (i + 1) = (wb l i).set (i / 4) (((wb l i).getD (i / 4) 0 * 256 % 4294967296) ||| l[i].toNat) := by
  apply List.ext_getElem (by simp [wb])
  intro j h1 h2
  simp only [List.getElem_set]
  by_cases hj : i / 4 = j
  · subst hj
    rw [if_pos rfl]
    have hg : (wb l i).getD (i / 4) 0 = be (((l.take i).drop (4 * (i / 4))).take 4) := by
      rw [List.getD_eq_getElem?_getD, List.getElem?_eq_getElem (by simp [wb]; omega)]
      simp [wb]
    rw [hg]
    have e1 : ((l.take i).drop (4 * (i / 4))).take 4 = (l.take i).drop (4 * (i / 4)) := List.take_of_length_le (by simp; omega)
    have e2 : ((l.take (i + 1)).drop (4 * (i / 4))).take 4 = (l.take i).drop (4 * (i / 4)) ++ [l[i]] := by
      rw [List.take_of_length_le (by simp; omega), List.take_succ_eq_append_getElem h, List.drop_append_of_le_length (by simp; omega)]
    rw [e1, be_or _ _ (by simp; omega), ← e2]
    simp [wb]
  · rw [if_neg hj]
    simp only [wb, List.getElem_map, List.getElem_range]
    congr 1
    rcases Nat.lt_or_ge i (4 * j) with hlt | hge
    · rw [List.drop_eq_nil_of_le (by simp; omega), List.drop_eq_nil_of_le (by simp; omega)]
    · rw [List.take_succ_eq_append_getElem h, List.drop_append_of_le_length (by simp; omega), List.take_append_of_le_length (by simp; omega)]
theorem wb_lt (l : List UInt8) (i : Nat) : ∀ x ∈ wb l i, x < 4294967296 := by
  intro x hx
  simp only [wb, List.mem_map] at hx
  obtain ⟨j, _, rfl⟩ := hx
  exact be_lt' _ 4 (by simp; omega)
/-- The sum of two rows, so far. -/
def sumTo (R h : List Nat) (i : Nat) : List Nat := ((List.zipWith (fun v s => (v + s) % 4294967296) R h).take i) ++ R.drop i
theorem sumTo_zero (R h : List Nat) : sumTo R h 0 = R := by simp [sumTo]
theorem sumTo_all (R h : List Nat) (h1 : R.length = 8) (h2 : h.length = 8) : sumTo R h 8 = List.zipWith (fun v s => (v + s) % 4294967296) R h := by
  unfold sumTo
  rw [List.take_of_length_le (by simp; omega), List.drop_eq_nil_of_le (by omega), List.append_nil]
theorem sumTo_length (R h : List Nat) (i : Nat) (h1 : R.length = 8) (h2 : h.length = 8) (hi : i ≤ 8) : (sumTo R h i).length = 8 := by
  simp [sumTo]; omega
theorem sumTo_get (R h : List Nat) (i : Nat) (h1 : R.length = 8) (h2 : h.length = 8) (hi : i < 8) : (sumTo R h i).getD i 0 = R.getD i 0 := by
  unfold sumTo
  rw [List.getD_eq_getElem?_getD, List.getElem?_append_right (by simp; omega)]
  simp only [List.length_take, List.length_zipWith, h1, h2]
  rw [show i - min i (min 8 8) = 0 by omega, List.getElem?_drop, List.getD_eq_getElem?_getD]
  simp
theorem sumTo_succ (R h : List Nat) (i : Nat) (h1 : R.length = 8) (h2 : h.length = 8) (hi : i < 8) : (sumTo R h i).set i ((R.getD i 0 + h.getD i 0) % 4294967296) = sumTo R h (i + 1) := by
  unfold sumTo
  have hz : (List.zipWith (fun v s => (v + s) % 4294967296) R h).length = 8 := by simp [h1, h2]
  have e1 : (List.zipWith (fun v s => (v + s) % 4294967296) R h)[i]'(by omega) = (R.getD i 0 + h.getD i 0) % 4294967296 := by
    rw [List.getElem_zipWith]
    simp [List.getD_eq_getElem?_getD, List.getElem?_eq_getElem (show i < R.length by omega), List.getElem?_eq_getElem (show i < h.length by omega)]
  rw [List.take_succ_eq_append_getElem (by omega), e1, List.set_append_right _ _ (by simp; omega)]
  have : i - (List.take i (List.zipWith (fun v s => (v + s) % 4294967296) R h)).length = 0 := by simp; omega
  rw [this, List.drop_eq_getElem_cons (show i < R.length by omega), List.set_cons_zero, List.append_assoc]
  rfl
theorem part_more (L c : List UInt8) (h : L.length % 64 + c.length < 64) : (L ++ c).length / 64 = L.length / 64 ∧ (L ++ c).length % 64 = L.length % 64 + c.length := by
  rw [List.length_append]; omega
theorem part_full (L c : List UInt8) (h : L.length % 64 + c.length = 64) : (L ++ c).length / 64 = L.length / 64 + 1 ∧ (L ++ c).length % 64 = 0 := by
  rw [List.length_append]; omega
theorem drop_more (L c : List UInt8) : (L ++ c).drop (64 * (L.length / 64)) = L.drop (64 * (L.length / 64)) ++ c := by
  rw [List.drop_append_of_le_length (by omega)]
theorem hsN_full (L c K : List UInt8) (h : L.length % 64 + c.length = 64) (hK : K = L.drop (64 * (L.length / 64)) ++ c) : hsN (L ++ c) (L.length / 64 + 1) = comp (hsN L (L.length / 64)) K := by
  rw [hsN, hsN_append _ _ _ (by omega), drop_more, ← hK, List.take_of_length_le]
  rw [hK]; simp; omega
theorem zs_lt (n : Nat) : zs n < 64 := Nat.mod_lt _ (by decide)
theorem zs_go (n j : Nat) (h : j < zs n) : (n + 1 + j) % 64 ≠ 56 := by unfold zs at h; omega
theorem zs_end (n : Nat) : (n + 1 + zs n) % 64 = 56 := by unfold zs; omega
theorem be8_length (n : Nat) : (be8 n).length = 8 := by simp [be8]
theorem be8_get (n i : Nat) (h : i < 8) : (be8 n)[i]'(by rw [be8_length]; exact h) = UInt8.ofNat (n / 2 ^ (56 - 8 * i)) := by simp [be8]
theorem pad_length (l : List UInt8) : (pad l).length % 64 = 0 := by
  have := zs_end l.length
  simp only [pad, List.length_append, List.length_replicate, be8_length, List.length_cons, List.length_nil]; omega
theorem dig_length (h : List Nat) : (dig h).length = 32 := by simp [dig]
theorem dig_get (h : List Nat) (i : Nat) (hi : i < 32) : (dig h)[i]'(by rw [dig_length]; exact hi) = UInt8.ofNat (h.getD (i / 4) 0 / 2 ^ (24 - 8 * (i % 4))) := by simp [dig]
/-- The bytes so far, the others nought. -/
def dz (d : List UInt8) (i : Nat) : List UInt8 := d.take i ++ List.replicate (32 - i) 0
theorem dz_length (d : List UInt8) (i : Nat) (hd : d.length = 32) (hi : i ≤ 32) : (dz d i).length = 32 := by simp [dz, hd]; omega
theorem dz_zero (d : List UInt8) : dz d 0 = List.replicate 32 0 := by simp [dz]
theorem dz_all (d : List UInt8) (hd : d.length = 32) : dz d 32 = d := by unfold dz; rw [List.take_of_length_le (by omega)]; simp
theorem dz_succ (d : List UInt8) (i : Nat) (hd : d.length = 32) (hi : i < 32) : (dz d i).set i (d[i]'(by omega)) = dz d (i + 1) := by
  unfold dz
  rw [List.set_append_right _ _ (by simp; omega), List.take_succ_eq_append_getElem (by omega)]
  have e : i - (d.take i).length = 0 := by simp; omega
  obtain ⟨k, hk⟩ : ∃ k, 32 - i = k + 1 := ⟨31 - i, by omega⟩
  rw [e, hk, show 32 - (i + 1) = k by omega, List.replicate_succ, List.set_cons_zero, List.append_assoc]
  rfl
theorem rnd_eight (a b c d e f g i k w : Nat) : rnd [a, b, c, d, e, f, g, i] k w = [(one e f g i k w + two a b c) % 4294967296, a, b, c, (d + one e f g i k w) % 4294967296, e, f, g] := rfl
end Go.Lm.Sha
