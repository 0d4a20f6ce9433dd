/-
  THE WALKS of package bits: readers from the back.
-/
import Derived.Test.YtfckokdgmbbheaaBitRead
import Derived.Test.YtfckokdgmbbheaaBitRef3
import Derived.Test.YtfckokdgmbbheaaGenBits
import Derived.Test.YtfckokdgmbbheaaShelf
import Derived.Deep.RegionHeld3
set_option linter.unusedVariables false
set_option linter.unusedSimpArgs false
set_option maxRecDepth 20000
namespace Go.Proofs.Ytfckokdgmbbheaa.bit
open Go Go.RowKit Go.Lm

/-- The place of the highest bit that is set. -/
structure Top (L : List Bool) (t : Nat) : Prop where
  lt : t < L.length
  on : L.getD t false = true
  off : ∀ j, t < j → L.getD j false = false
theorem Top.inj {L : List Bool} {t s : Nat} (h : Top L t) (k : Top L s) : t = s := by
  rcases Nat.lt_trichotomy t s with hl | hl | hl
  · have := h.off s hl; rw [k.on] at this; cases this
  · exact hl
  · have := k.off t hl; rw [h.on] at this; cases this
theorem byte_top (l : List UInt8) (h : l ≠ []) (hz : (l.getLast h).toNat ≠ 0) : Top (Bt.bitsOf l) (8 * (l.length - 1) + Lib.bitLen (l.getLast h).toNat - 1) := by
  have hpos : 0 < l.length := List.length_pos_iff.2 h
  have hlt := (l.getLast h).toNat_lt
  obtain ⟨b1, b2, b3⟩ := bl_spec hz (by omega)
  have b8 : Lib.bitLen (l.getLast h).toNat ≤ 8 := bl_le hlt (by decide)
  have hbl := Bt.bitsOf_length l
  have hgl : l.getLast h = l[l.length - 1] := List.getLast_eq_getElem h
  have hget : ∀ k, 8 * (l.length - 1) ≤ k → k < 8 * l.length → (Bt.bitsOf l).getD k false = (l.getLast h).toNat.testBit (k - 8 * (l.length - 1)) := by
    intro k h1 h2
    rw [List.getD_eq_getElem?_getD, Bt.bitsOf_get l k h2, show k / 8 = l.length - 1 by omega, List.getElem?_eq_getElem (by omega), hgl, show k % 8 = k - 8 * (l.length - 1) by omega]
    rfl
  generalize (l.getLast h).toNat = c at *
  generalize Lib.bitLen c = m at *
  refine ⟨by omega, ?_, fun j hj => ?_⟩
  · rw [hget _ (by omega) (by omega), show 8 * (l.length - 1) + m - 1 - 8 * (l.length - 1) = m - 1 by omega, Nat.testBit_eq_decide_div_mod_eq]
    have h1 : c / 2 ^ (m - 1) = 1 := by
      have hp : 2 ^ m = 2 ^ (m - 1) * 2 := by rw [← Nat.pow_succ]; congr 1; omega
      rw [Nat.div_eq_iff (Nat.pow_pos (by decide))]
      omega
    rw [h1]; rfl
  · by_cases h8 : j < 8 * l.length
    · rw [hget _ (by omega) h8, Nat.testBit_lt_two_pow]
      exact Nat.lt_of_lt_of_le b3 (Nat.pow_le_pow_right (by decide) (by omega))
    · rw [List.getD_eq_getElem?_getD, List.getElem?_eq_none (by omega)]; rfl

theorem OV.isSlice {w : World} {B : Nat} {e : TypeId} {v : Value} {l : List Value} (h : OV w B e v l) : ∃ a n c, v = .slice a n c := by
  obtain ⟨a, c, h, _⟩ := h.slice
  exact ⟨a, _, c, h⟩
theorem len8_c (w : World) (c : UInt8) : Calls Try.prog 56 #[.int .u8 (c.toNat : Int)] w fun e w' => e = .returned (.int .i64 (Lib.bitLen c.toNat : Nat)) ∧ w = w' :=
  (Try.bits_Len8 (c.toNat : Int) w (by omega) (by have := c.toNat_lt; omega)).mono fun _ _ ⟨h1, h2⟩ => ⟨by rw [h1]; simp, h2.symm⟩

set_option maxHeartbeats 1000000 in
theorem newback_no (w : World) (v : Value) (l : List UInt8) (hv : BS w v l) (hz : ∀ h : l ≠ [], (l.getLast h).toNat = 0) (hl : l.length ≤ 1000000) : Calls Try.prog 43 #[v] w fun e w' => e = .returned (.tuple #[.pointer none, .int .i64 11]) ∧ w = w' := by
  obtain ⟨a, cap, rfl, h1, h2, h3, h4⟩ := hv
  have HC := Lib.hid h4; clear h4 h3
  unfold maxLen at h2
  rcases Nat.eq_zero_or_pos l.length with h0 | h0
  · rw [h0] at *
    clear hz HC
    go_enter Try.func43, Try.ntmps43
    go_wp2
    go_ret2
    exact ⟨rfl, rfl⟩
  · have hne : l ≠ [] := List.length_pos_iff.1 h0
    have hlast := hz hne
    rw [List.getLast_eq_getElem hne] at hlast
    obtain ⟨b, off, rfl, hcell⟩ := HC.out (l.length - 1) (by omega)
    rw [hlast] at hcell
    have hcell : w.cell? ⟨b, off + (l.length - 1), none⟩ = some (.int .u8 0) := hcell
    have hz1 : ((l.length : Int) == 0) = false := by rw [beq_eq_false_iff_ne]; omega
    clear hz hlast HC
    obtain ⟨m, hm⟩ : ∃ m, l.length = m + 1 := ⟨l.length - 1, by omega⟩
    have hm1 : l.length - 1 = m := by omega
    rw [hm1] at hcell
    rw [hm] at h1 ⊢
    have hz2 : ((m : Int) + 1 == 0) = false := by rw [beq_eq_false_iff_ne]; omega
    have hmb : m ≤ 1000000 := by omega
    clear hm hm1 hz1 hl
    go_enter Try.func43, Try.ntmps43
    go_wp2
    go_ret2
    exact ⟨rfl, rfl⟩

set_option maxHeartbeats 1000000 in
theorem newback_yes (w : World) (v : Value) (l : List UInt8) (hv : BS w v l) (hne : l ≠ []) (hz : (l.getLast hne).toNat ≠ 0) (hl : l.length ≤ 1000000) : Calls Try.prog 43 #[v] w fun e w' => ∃ r t, e = .returned (.tuple #[.pointer (some ⟨r, 0, none⟩), .int .i64 0]) ∧ Top (Bt.bitsOf l) t ∧ BW w' w.heap.size w'.heap.size r (t : Int) l ∧ Only [] w w' := by
  have htop := byte_top l hne hz
  have HV := Lib.hid hv
  obtain ⟨a, cap, rfl, h1, h2, h3, h4⟩ := hv
  have HC := Lib.hid h4; clear h4 h3
  unfold maxLen at h2
  have h0 : 0 < l.length := List.length_pos_iff.2 hne
  rw [List.getLast_eq_getElem hne] at hz htop
  obtain ⟨b, off, rfl, hcell⟩ := HC.out (l.length - 1) (by omega)
  obtain ⟨c, hc⟩ : ∃ c, l[l.length - 1] = c := ⟨_, rfl⟩
  rw [hc] at hz htop
  simp only [hc] at hcell
  obtain ⟨m, hm⟩ : ∃ m, l.length = m + 1 := ⟨l.length - 1, by omega⟩
  have hm1 : l.length - 1 = m := by omega
  rw [hm1] at hcell htop
  have hz1 : ((c.toNat : Int) == 0) = false := by rw [beq_eq_false_iff_ne]; omega
  have hz2 : ((m : Int) + 1 == 0) = false := by rw [beq_eq_false_iff_ne]; omega
  have hmb : m ≤ 1000000 := by omega
  have hbl := (bl_spec hz (by have := c.toNat_lt; omega)).1
  have hbl8 : Lib.bitLen c.toNat ≤ 8 := bl_le c.toNat_lt (by decide)
  obtain ⟨t, ht⟩ : ∃ t, 8 * m + Lib.bitLen c.toNat - 1 = t := ⟨_, rfl⟩
  rw [ht] at htop
  have htv : 8 * (m : Int) + (Lib.bitLen c.toNat : Int) - 1 = (t : Int) := by omega
  have HTOP := Lib.hid htop; have HM := Lib.hid hm; have HTV := Lib.hid htv
  have hw1 : IntKind.i64.wrap (8 * (m : Int) + (Lib.bitLen c.toNat : Int)) = 8 * (m : Int) + (Lib.bitLen c.toNat : Int) := by rw [IntKind.wrap_i64]; omega
  have hw2 : IntKind.i64.wrap (8 * (m : Int) + (Lib.bitLen c.toNat : Int) - 1) = (t : Int) := by rw [IntKind.wrap_i64]; omega
  rw [hm] at h1 ⊢
  rw [hm] at HV
  clear htop htv hm hm1 hz hc hl ht h0
  have n5 := World.new_ne w _ hcell
  have q1 : IntKind.i64.wrap (m : Int) = (m : Int) := by rw [IntKind.wrap_i64]; omega
  have q2 : IntKind.i64.wrap ((m : Int) + 1 - 1) = (m : Int) := by rw [IntKind.wrap_i64]; omega
  have q3 : (0 : Int) ≤ (m : Int) := by omega
  have q4 : (m : Int) < (m : Int) + 1 := by omega
  have q5 : IntKind.i64.wrap (8 * (m : Int)) = 8 * (m : Int) := by rw [IntKind.wrap_i64]; omega
  go_enter Try.func43, Try.ntmps43
  go_wp2_with fail
  go_region_held3 (fun w' => w'.cell? ⟨b, off + m, none⟩ = some (.int .u8 (c.toNat : Int))) (go_keep)
    (first
      | (go_at_call 46; refine (clone_c _ _ l (HV.out.only (Only.drew (Only.refl [] w)) (by simp)) (by have := HM.out; omega)).mono ?_; rintro e w4 ⟨v', rfl, hov, ho4⟩; obtain ⟨a', n', c', rfl⟩ := OV.isSlice hov; have g0 := ho4.cell (p := ⟨b, off + m, none⟩) (v := .int .u8 (c.toNat : Int)) (by go_simp) (by simp))
      | (go_at_call 56; refine (len8_c _ c).mono ?_; rintro e w5 ⟨rfl, rfl⟩))
  all_goals
    have ho : Only [] w w4 := (Only.drew (Only.refl [] w)).then ho4
    have hov' : OV w4 w.heap.size 5 (.slice a' n' c') (l.map u8v) := hov
    have HO := Lib.hid ho; have HOV := Lib.hid hov'
    clear ho ho4 hov hov' g0 n5
    go_wp2
    go_ret2
    refine ⟨_, t, rfl, HTOP.out, ?_, HO.out.alloc _⟩
    refine ⟨HO.out.size, by simp, _, heap_alloc_new _ _, ?_⟩
    exact (BO.of_ov HOV.out (Nat.le_refl _)).only ((Only.refl [] _).alloc _) (by simp) |> fun h => ⟨h.1, fun c hc hl => by
      obtain ⟨h1, h2, h3⟩ := h.2 c hc hl
      exact ⟨h1, by simp; omega, h3⟩⟩

theorem bleft_c (w : World) (B C r : Nat) (t : Int) (l : List UInt8) (h : BW w B C r t l) : Calls Try.prog 45 #[.pointer (some ⟨r, 0, none⟩)] w fun x w' => x = .returned (.int .i64 t) ∧ w = w' := by
  obtain ⟨a, cap, hc0, hc1, hfz, hcap, hcm, hr, hb⟩ := h.cells
  clear hr hb h
  go_enter Try.func45, Try.ntmps45
  go_wp2
  go_ret
  exact ⟨rfl, rfl⟩
theorem bleft_nil (w : World) : Calls Try.prog 45 #[.pointer none] w fun x w' => x = .returned (.int .i64 0) ∧ w = w' := by
  go_enter Try.func45, Try.ntmps45
  go_wp2
  go_ret
  exact ⟨rfl, rfl⟩
theorem bread_nil (n : Int) (w : World) : Calls Try.prog 44 #[.pointer none, .int .i64 n] w fun x w' => x = .returned (.int .u64 0) ∧ w = w' := by
  go_enter Try.func44, Try.ntmps44
  go_wp2
  go_ret
  exact ⟨rfl, rfl⟩

/-- What is left behind a read. -/
def bgo (t n : Int) : Int := if n < 1 ∨ 56 < n then t else t - n
theorem shl64 (X k m : Nat) (hx : X < 2 ^ k) (hk : k + m ≤ 56) : IntKind.u64.wrap ((X : Int) * 2 ^ m) = ((X * 2 ^ m : Nat) : Int) := by
  have h1 : X * 2 ^ m < 2 ^ 56 := by
    have h1 : X * 2 ^ m < 2 ^ k * 2 ^ m := Nat.mul_lt_mul_of_pos_right hx (Nat.pow_pos (by decide))
    rw [← Nat.pow_add] at h1
    have h2 : 2 ^ (k + m) ≤ 2 ^ 56 := Nat.pow_le_pow_right (by decide) hk
    omega
  have e1 : (X : Int) * 2 ^ m = ((X * 2 ^ m : Nat) : Int) := by rw [Int.natCast_mul, Int.natCast_pow]; rfl
  rw [e1, IntKind.wrap_u64]
  omega

set_option maxHeartbeats 2000000 in
theorem bread_c (w : World) (B C r x : Nat) (t n : Int) (l : List UInt8) (h : BW w B C r t l) (hC : C ≤ w.heap.size) (ht : t.toNat ≤ 8 * l.length) (ht0 : -1000000 ≤ t) (hl : l.length ≤ 1000000) : Calls Try.prog 44 #[.pointer (some ⟨r, 0, none⟩), .int .i64 n] w fun e w' =>
    e = .returned (.int .u64 ((last ((Bt.bitsOf l).take t.toNat) x n).2.2 : Nat)) ∧ BW w' B C r (bgo t n) l ∧ Only [r] w w' := by
  have H := Lib.hid h; clear h
  by_cases h0 : n < 1
  · have e : last ((Bt.bitsOf l).take t.toNat) x n = ((Bt.bitsOf l).take t.toNat, x, 0) := by unfold last; rw [if_pos (.inl h0)]
    have e2 : bgo t n = t := by unfold bgo; rw [if_pos (.inl h0)]
    rw [e, e2]; clear e e2
    go_enter Try.func44, Try.ntmps44
    go_wp2
    go_ret
    exact ⟨rfl, H.out, Only.refl _ _⟩
  by_cases h56 : 56 < n
  · have e : last ((Bt.bitsOf l).take t.toNat) x n = ((Bt.bitsOf l).take t.toNat, x, 0) := by unfold last; rw [if_pos (.inr h56)]
    have e2 : bgo t n = t := by unfold bgo; rw [if_pos (.inr h56)]
    rw [e, e2]; clear e e2
    go_enter Try.func44, Try.ntmps44
    go_wp2
    go_ret
    exact ⟨rfl, H.out, Only.refl _ _⟩
  obtain ⟨n, rfl⟩ := Int.eq_ofNat_of_zero_le (show 0 ≤ n by omega)
  obtain ⟨d, hd⟩ : ∃ d, t.toNat = d := ⟨_, rfl⟩
  rw [hd] at ht ⊢
  obtain ⟨k, hk⟩ : ∃ k, min n d = k := ⟨_, rfl⟩
  have hbl := Bt.bitsOf_length l
  have hll : ((Bt.bitsOf l).take d).length = d := by rw [List.length_take]; omega
  obtain ⟨X, hX⟩ : ∃ X, Bt.num (((Bt.bitsOf l).drop (d - k)).take k) = X := ⟨_, rfl⟩
  have e : (last ((Bt.bitsOf l).take d) x n).2.2 = X * 2 ^ (n - k) := by
    unfold last; rw [if_neg (by omega)]; simp only [Int.toNat_natCast, hll, hk]
    rw [List.drop_take, show d - (d - k) = k by omega, hX]
  have e2 : bgo t n = t - n := by unfold bgo; rw [if_neg (by omega)]
  have hXb : X < 2 ^ k := by rw [← hX]; exact Nat.lt_of_lt_of_le (Bt.num_lt _) (Nat.pow_le_pow_right (by decide) (by rw [List.length_take]; omega))
  have hsh := shl64 X k (n - k) hXb (by omega)
  obtain ⟨Y, hY⟩ : ∃ Y, X * 2 ^ (n - k) = Y := ⟨_, rfl⟩
  rw [hY] at e hsh
  rw [e, e2]
  obtain ⟨m, hm⟩ : ∃ m, n - k = m := ⟨_, rfl⟩
  rw [hm] at hsh
  have hnk : (n : Int) - (k : Int) = (m : Int) := by omega
  obtain ⟨a, cap, hc0, hc1, hfz, hcap, hcm, hr, hb⟩ := H.out.cells
  have hfin := fun w1 (h1 : BW w1 B C r t l) => h1.put (t - (n : Int))
  have HFIN := Lib.hid hfin
  have HX := Lib.hid hX
  have hn56 : n ≤ 56 := by omega
  have hn1 : 1 ≤ n := by omega
  have HB : Hid (BS w (.slice a l.length cap) l) := hb.1
  obtain ⟨q, hq⟩ : ∃ q, d - k = q := ⟨_, rfl⟩
  rw [hq] at HX
  have hdk : (d : Int) - (k : Int) = (q : Int) := by omega
  have hqk : q + k ≤ 8 * l.length := by omega
  have hw1 : IntKind.i64.wrap ((d : Int) - (k : Int)) = (q : Int) := by rw [IntKind.wrap_i64]; omega
  have hw2 : IntKind.i64.wrap ((n : Int) - (k : Int)) = (m : Int) := by rw [IntKind.wrap_i64]; omega
  have hw3 : IntKind.i64.wrap (t - (n : Int)) = t - (n : Int) := by rw [IntKind.wrap_i64]; omega
  unfold maxLen at hcm
  have hm64 : m ≤ 64 := by omega
  have hcase : (t < 0 ∧ d = 0 ∧ k = 0) ∨ (t = (d : Int) ∧ d ≤ n ∧ k = d) ∨ (t = (d : Int) ∧ n < d ∧ k = n) := by omega
  clear hr hb hX hfin e e2 hY hq hbl hll hXb hk hd
  rcases hcase with ⟨ht1, rfl, rfl⟩ | ⟨rfl, hdn, rfl⟩ | ⟨rfl, hdn, rfl⟩
  · obtain rfl : q = 0 := by omega
    obtain rfl : m = n := by omega
    have hmx : max t 0 = 0 := by omega
    have hmn : min (0 : Int) (m : Int) = 0 := by omega
    have HL : Hid (∀ x : Later [] w, BS x.at' (.slice a l.length cap) l) := fun x => HB.out.only x.only (by simp)
    have HT : Hid (∀ x : Later [] w, Calls Try.prog 57 #[.slice a l.length cap, .int .i64 0, .int .i64 0] x.at' fun e w' => e = .returned (.int .u64 (X : Nat)) ∧ x.at' = w') := fun x => by
      have := take_c x.at' _ l (HL.out x) 0 0 (by omega) (by omega) (by omega)
      rw [HX.out] at this
      exact this
    go_enter Try.func44, Try.ntmps44
    go_wp2_with fail
    have l0 := fun x : Later [] w => Later.cell hc0 (by simp) x
    have l1 := fun x : Later [] w => Later.cell hc1 (by simp) x
    clear hc0 hc1 hfz
    refine wp_region_later [] (by kernel_rfl) (by kernel_rfl) ?_
    repeat (go_big_quiet_step (((go_at_call 57; with_reducible exact Calls.later_same (HT.out _)))))
    refine wpQuiet_nil ?_
    rintro _ ⟨x', rfl⟩
    have hx := x'.only
    have hr2 := H.out.only hx (by omega)
    clear l0 l1 HL HT
    generalize x'.at' = w2 at *
    obtain ⟨a2, cap2, hc0, hc1, hfz, _, _, _, _⟩ := hr2.cells
    have hfin := HFIN.out w2 hr2
    have HF := Lib.hid hfin; have HO2 := Lib.hid hx
    clear hfin hx hr2 HFIN
    go_wp2
    go_ret
    exact ⟨rfl, HF.out.1, (HO2.out.mono (by simp)).then HF.out.2⟩
  · obtain rfl : q = 0 := by omega
    have hmx : max (k : Int) 0 = (k : Int) := by omega
    have hmn : min (k : Int) (n : Int) = (k : Int) := by omega
    have HL : Hid (∀ x : Later [] w, BS x.at' (.slice a l.length cap) l) := fun x => HB.out.only x.only (by simp)
    have HT : Hid (∀ x : Later [] w, Calls Try.prog 57 #[.slice a l.length cap, .int .i64 0, .int .i64 k] x.at' fun e w' => e = .returned (.int .u64 (X : Nat)) ∧ x.at' = w') := fun x => by
      have := take_c x.at' _ l (HL.out x) 0 k (by omega) (by omega) (by omega)
      rw [HX.out] at this
      exact this
    go_enter Try.func44, Try.ntmps44
    go_wp2_with fail
    have l0 := fun x : Later [] w => Later.cell hc0 (by simp) x
    have l1 := fun x : Later [] w => Later.cell hc1 (by simp) x
    clear hc0 hc1 hfz
    refine wp_region_later [] (by kernel_rfl) (by kernel_rfl) ?_
    repeat (go_big_quiet_step (((go_at_call 57; with_reducible exact Calls.later_same (HT.out _)))))
    refine wpQuiet_nil ?_
    rintro _ ⟨x', rfl⟩
    have hx := x'.only
    have hr2 := H.out.only hx (by omega)
    clear l0 l1 HL HT
    generalize x'.at' = w2 at *
    obtain ⟨a2, cap2, hc0, hc1, hfz, _, _, _, _⟩ := hr2.cells
    have hfin := HFIN.out w2 hr2
    have HF := Lib.hid hfin; have HO2 := Lib.hid hx
    clear hfin hx hr2 HFIN
    go_wp2
    go_ret
    exact ⟨rfl, HF.out.1, (HO2.out.mono (by simp)).then HF.out.2⟩
  · rw [hdk] at HFIN ⊢
    have hmx : max (d : Int) 0 = (d : Int) := by omega
    have hmn : min (d : Int) (k : Int) = (k : Int) := by omega
    have HL : Hid (∀ x : Later [] w, BS x.at' (.slice a l.length cap) l) := fun x => HB.out.only x.only (by simp)
    have HT : Hid (∀ x : Later [] w, Calls Try.prog 57 #[.slice a l.length cap, .int .i64 q, .int .i64 k] x.at' fun e w' => e = .returned (.int .u64 (X : Nat)) ∧ x.at' = w') := fun x => by
      have := take_c x.at' _ l (HL.out x) q k (by omega) (by omega) (by omega)
      rw [HX.out] at this
      exact this
    go_enter Try.func44, Try.ntmps44
    go_wp2_with fail
    have l0 := fun x : Later [] w => Later.cell hc0 (by simp) x
    have l1 := fun x : Later [] w => Later.cell hc1 (by simp) x
    clear hc0 hc1 hfz
    refine wp_region_later [] (by kernel_rfl) (by kernel_rfl) ?_
    repeat (go_big_quiet_step (((go_at_call 57; with_reducible exact Calls.later_same (HT.out _)))))
    refine wpQuiet_nil ?_
    rintro _ ⟨x', rfl⟩
    have hx := x'.only
    have hr2 := H.out.only hx (by omega)
    clear l0 l1 HL HT
    generalize x'.at' = w2 at *
    obtain ⟨a2, cap2, hc0, hc1, hfz, _, _, _, _⟩ := hr2.cells
    have hfin := HFIN.out w2 hr2
    have HF := Lib.hid hfin; have HO2 := Lib.hid hx
    clear hfin hx hr2 HFIN
    go_wp2
    go_ret
    exact ⟨rfl, HF.out.1, (HO2.out.mono (by simp)).then HF.out.2⟩
end Go.Proofs.Ytfckokdgmbbheaa.bit
