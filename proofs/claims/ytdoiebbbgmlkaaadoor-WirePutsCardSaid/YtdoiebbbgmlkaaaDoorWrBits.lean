/-
  THE WALKS of wire.Bitmap and wire.Bits.
-/
import Derived.Test.YtdoiebbbgmlkaaaDoorWrPut
import Derived.Test.YtdoiebbbgmlkaaaDoorBitRef2
import Derived.StillTailTactics
set_option linter.unusedVariables false
set_option linter.unusedSimpArgs false
namespace Go.Lm.Bt
theorem num_bit8 (l : List Bool) (h : l.length ≤ 8) : (UInt8.ofNat (num l)).toNat = num l := by
  have h1 := num_lt l
  have h2 : 2 ^ l.length ≤ 2 ^ 8 := Nat.pow_le_pow_right (by decide) h
  rw [UInt8.toNat_ofNat']
  exact Nat.mod_eq_of_lt (by omega)
theorem bytesOf_len (l : List Bool) : (bytesOf l).length = (l.length + 7) / 8 := by simp [bytesOf]
theorem byte_num (l : List Bool) (j : Nat) (h : j < (bytesOf l).length) : ((bytesOf l)[j]).toNat = num ((l.drop (8 * j)).take 8) := by
  have e : (bytesOf l)[j] = UInt8.ofNat (num ((l.drop (8 * j)).take 8)) := by simp [bytesOf]
  rw [e, num_bit8 _ (by rw [List.length_take]; omega)]
theorem byte_bit (l : List Bool) (j i : Nat) (h : j < (bytesOf l).length) : ((bytesOf l)[j]).toNat.testBit i = (decide (i < 8) && l.getD (8 * j + i) false) := by
  rw [byte_num l j h, num_testBit]
  by_cases hi : i < 8
  · rw [decide_eq_true hi, Bool.true_and, List.getD_eq_getElem?_getD, List.getElem?_take_of_lt hi, List.getElem?_drop, ← List.getD_eq_getElem?_getD]
  · rw [decide_eq_false hi, Bool.false_and, List.getD_eq_getElem?_getD, List.getElem?_eq_none (by rw [List.length_take]; omega)]
    rfl
/-- Bits so far, the others not set. -/
def part (l : List Bool) (k : Nat) : List Bool := l.take k ++ List.replicate (l.length - k) false
theorem part_length (l : List Bool) (k : Nat) (h : k ≤ l.length) : (part l k).length = l.length := by simp [part]; omega
theorem part_getD (l : List Bool) (k x : Nat) : (part l k).getD x false = (decide (x < k) && l.getD x false) := by
  unfold part
  rw [List.getD_eq_getElem?_getD]
  by_cases hx : x < k
  · by_cases hl : x < l.length
    · rw [List.getElem?_append_left (by rw [List.length_take]; omega), List.getElem?_take_of_lt hx, decide_eq_true hx, Bool.true_and, ← List.getD_eq_getElem?_getD]
    · rw [List.getElem?_eq_none (by simp; omega), decide_eq_true hx, Bool.true_and, List.getD_eq_getElem?_getD, List.getElem?_eq_none (by omega)]
  · rw [decide_eq_false hx, Bool.false_and]
    by_cases hl : x < (l.take k ++ List.replicate (l.length - k) false).length
    · rw [List.getElem?_append_right (by rw [List.length_take]; omega), List.getElem?_replicate]
      split <;> rfl
    · rw [List.getElem?_eq_none (by omega)]; rfl
theorem part_zero (l : List Bool) : bytesOf (part l 0) = List.replicate ((l.length + 7) / 8) 0 := by
  apply List.ext_getElem
  · rw [bytesOf_len, part_length _ _ (Nat.zero_le _), List.length_replicate]
  · intro j h1 h2
    rw [List.getElem_replicate]
    apply UInt8.toNat_inj.1
    apply Nat.eq_of_testBit_eq
    intro i
    rw [byte_bit, part_getD]
    simp
theorem part_full (l : List Bool) : part l l.length = l := by simp [part]
theorem part_off (l : List Bool) (k : Nat) (h : k < l.length) (hk : l[k] = false) : part l (k + 1) = part l k := by
  apply List.ext_getElem?
  intro x
  have e1 := part_getD l (k + 1) x
  have e2 := part_getD l k x
  have h1 := part_length l (k + 1) (by omega)
  have h2 := part_length l k (by omega)
  by_cases hx : x < l.length
  · have e : (part l (k + 1)).getD x false = (part l k).getD x false := by
      rw [e1, e2]
      by_cases hxk : x = k
      · subst hxk
        rw [List.getD_eq_getElem?_getD, List.getElem?_eq_getElem h, hk]; simp
      · have : decide (x < k + 1) = decide (x < k) := by rw [Bool.eq_iff_iff]; simp; omega
        rw [this]
    rw [List.getElem?_eq_getElem (by omega), List.getElem?_eq_getElem (by omega)]
    rw [List.getD_eq_getElem?_getD, List.getD_eq_getElem?_getD, List.getElem?_eq_getElem (by omega), List.getElem?_eq_getElem (by omega)] at e
    exact congrArg some e
  · rw [List.getElem?_eq_none (by omega), List.getElem?_eq_none (by omega)]
theorem part_on (l : List Bool) (k : Nat) (h : k < l.length) (hk : l[k] = true) (hj : k / 8 < (bytesOf (part l k)).length) (u : UInt8) (hu : u.toNat = ((bytesOf (part l k))[k / 8]).toNat ||| 2 ^ (k % 8)) : bytesOf (part l (k + 1)) = (bytesOf (part l k)).set (k / 8) u := by
  have h1 := part_length l (k + 1) (by omega)
  have h2 := part_length l k (by omega)
  apply List.ext_getElem
  · rw [List.length_set, bytesOf_len, bytesOf_len, h1, h2]
  · intro j a1 a2
    apply UInt8.toNat_inj.1
    apply Nat.eq_of_testBit_eq
    intro i
    rw [byte_bit, part_getD, List.getElem_set]
    by_cases hjk : k / 8 = j
    · rw [if_pos hjk, hu, Nat.testBit_or, Nat.testBit_two_pow, byte_bit, part_getD]
      by_cases hi : i < 8
      · by_cases hx : 8 * j + i = k
        · have e1 : k % 8 = i := by omega
          have e2 : 8 * (k / 8) + i = k := by omega
          rw [e2, hx]
          rw [List.getD_eq_getElem?_getD, List.getElem?_eq_getElem h, hk]
          simp [hi, e1]
        · have e1 : ¬ k % 8 = i := by omega
          have e3 : decide (8 * j + i < k + 1) = decide (8 * (k / 8) + i < k) := by rw [Bool.eq_iff_iff]; simp; omega
          have e4 : 8 * (k / 8) + i = 8 * j + i := by omega
          rw [e3, e4]
          simp [e1]
      · have e1 : ¬ k % 8 = i := by omega
        simp [hi, e1]
    · rw [if_neg hjk, byte_bit, part_getD]
      by_cases hi : i < 8
      · have : decide (8 * j + i < k + 1) = decide (8 * j + i < k) := by rw [Bool.eq_iff_iff]; simp; omega
        rw [this]
      · simp [hi]
/-- So many bits of bytes. -/
def some (l : List UInt8) (n : Nat) : List Bool := (bitsOf l).take n ++ List.replicate (n - 8 * l.length) false
end Go.Lm.Bt
namespace Go.Proofs.YtdoiebbbgmlkaaaDoor.wr
open Go Go.RowKit Go.Lm Go.Proofs.YtdoiebbbgmlkaaaDoor.cur Go.Proofs.YtdoiebbbgmlkaaaDoor.crc Go.Proofs.YtdoiebbbgmlkaaaDoor.bit

theorem or_bit8 (x r : Nat) (hx : x < 256) (hr : r < 8) : bits .or .u8 (x : Int) ((2 ^ r : Nat) : Int) = ((x ||| 2 ^ r : Nat) : Int) := by
  have hp : 2 ^ r ≤ 2 ^ 7 := Nat.pow_le_pow_right (by decide) (by omega)
  exact or_u8_nat x (2 ^ r) hx (by omega)

theorem make_bytes (w : World) (n : Nat) (hn : n ≤ 1000000) : (Instr.makeSlice 24 (.int .i64 (n : Int)) (.int .i64 (n : Int))).run Tryd.prog w =
    .ok (.slice (some ⟨w.heap.size, 0, none⟩) n n) (w.alloc (.cells (madeCells (Value.int .u8 0).cells n) 5)) := by
  obtain ⟨i0, hi, hz0, hz1, hz2⟩ := info_parts cur.info_u8
  have := run_make (P := Tryd.prog) w 24 5 i0 (.int .u8 0) Tryd.underlying24 hi hz0 .i64 .i64 n n (by omega) (by omega) (by rw [hz2]; omega) (by omega)
  simpa [hz1] using this
theorem make_bools (w : World) (n : Nat) (hn : n ≤ 1000000) : (Instr.makeSlice 45 (.int .i64 (n : Int)) (.int .i64 (n : Int))).run Tryd.prog w =
    .ok (.slice (some ⟨w.heap.size, 0, none⟩) n n) (w.alloc (.cells (madeCells (Value.bool false).cells n) 4)) := by
  obtain ⟨i0, hi, hz0, hz1, hz2⟩ := info_parts info_bool
  have := run_make (P := Tryd.prog) w 45 4 i0 (.bool false) Tryd.underlying45 hi hz0 .i64 .i64 n n (by omega) (by omega) (by rw [hz2]; omega) (by omega)
  simpa [hz1] using this
/-- Block b holds just these bits. -/
def BB (w : World) (b : Nat) (L : List Bool) : Prop := w.heap[b]? = some (.cells (bl L).toArray 4 (0, 0))
theorem BB.free {w : World} {b : Nat} {L : List Bool} (h : BB w b L) (k : Nat) : w.frozen? ⟨b, k, none⟩ = false := by
  unfold BB at h; simp [World.frozen?, h]
theorem BB.cell {w : World} {b : Nat} {L : List Bool} (h : BB w b L) (k : Nat) (hk : k < L.length) : w.cell? ⟨b, k, none⟩ = some (.bool L[k]) := by
  unfold BB at h; simp [World.cell?, h, hk, bl]
theorem BB.set {w : World} {b : Nat} {L : List Bool} (h : BB w b L) (k : Nat) (x : Bool) : BB (w.setCell ⟨b, k, none⟩ (.bool x)) b (L.set k x) := by
  unfold BB at *
  rw [Lm.heap_setCell_same h]
  congr 2
  apply Array.toList_inj.1
  simp [bl]
theorem BB.made (w : World) (n : Nat) : BB (w.alloc (.cells (madeCells (Value.bool false).cells n) 4)) w.heap.size (List.replicate n false) := by
  unfold BB
  rw [heap_alloc_new]
  congr 2
  apply Array.toList_inj.1
  rw [show (Value.bool false).cells = #[Value.bool false] by rfl, toList_madeCells_one]
  simp [bl]
theorem vs_bit {w : World} {a : Option Addr} {n cap : Nat} {l : List Bool} (h : VS w (.slice a n cap) (bl l)) (k : Nat) (hk : k < l.length) : ∃ b off, a = some ⟨b, off, none⟩ ∧ w.cell? ⟨b, off + k, none⟩ = some (.bool l[k]) := by
  obtain ⟨a', cap', he, _, _, _, hc⟩ := h
  simp only [Value.slice.injEq] at he
  obtain ⟨rfl, rfl, rfl⟩ := he
  obtain ⟨b, off, rfl, hcell⟩ := hc k (by rw [bl_length]; exact hk)
  refine ⟨b, off, rfl, ?_⟩
  rw [hcell]
  simp [bl]
theorem bs_cell {w : World} {a : Option Addr} {n cap : Nat} {l : List UInt8} (h : BS w (.slice a n cap) l) (k : Nat) (hk : k < l.length) : ∃ b off, a = some ⟨b, off, none⟩ ∧ w.cell? ⟨b, off + k, none⟩ = some (.int .u8 (l[k].toNat : Int)) := by
  obtain ⟨a', cap', he, _, _, _, hc⟩ := h
  simp only [Value.slice.injEq] at he
  obtain ⟨rfl, rfl, rfl⟩ := he
  obtain ⟨b, off, rfl, hcell⟩ := hc k hk
  exact ⟨b, off, rfl, hcell⟩

set_option maxHeartbeats 2000000 in
theorem bitmap_c (w : World) (v : Value) (l : List Bool) (hv : VS w v (bl l)) (hl : l.length ≤ 1000000) : Calls Tryd.prog 15 #[v] w fun e w' => ∃ u, e = .returned u ∧ BS w' u (Bt.bytesOf l) ∧ Only [] w w' := by
  have HV := Lib.hid hv
  obtain ⟨a, cap, rfl, h1, h2, -, -⟩ := hv
  rw [bl_length] at h1 HV ⊢
  unfold maxLen at h2
  obtain ⟨m, hm⟩ : ∃ m, l.length = m := ⟨_, rfl⟩
  rw [hm] at h1 hl HV ⊢
  have HM := Lib.hid hm
  obtain ⟨n, hn⟩ : ∃ n, (m + 7) / 8 = n := ⟨_, rfl⟩
  have hq : ((m : Int) + 7) / 8 = (n : Int) := by omega
  have hqt : ((m : Int) + 7).tdiv 8 = (n : Int) := by rw [Int.tdiv_eq_ediv_of_nonneg (by omega)]; exact hq
  have hnl : n ≤ 200000 := by omega
  have hmk := fun w => make_bytes w n (by omega)
  have hz := Bt.part_zero l
  rw [hm, hn] at hz
  have HZ := Lib.hid hz
  have HNN := Lib.hid hn
  clear hm hz hn
  go_enter Tryd.func15, Tryd.ntmps15
  go_wp2_with fail
  have hblk := Blk.made w 5 n
  have HO1 : Hid (Only [] w (w.alloc (.cells (madeCells (Value.int .u8 0).cells n) 5))) := Lib.hid ((Only.refl [] w).alloc _)
  rw [← HZ.out] at hblk
  change Blk (w.alloc (.cells (madeCells #[Value.int .u8 0] n) 5)) _ _ _ at hblk
  change Hid (Only [] w (w.alloc (.cells (madeCells #[Value.int .u8 0] n) 5))) at HO1
  generalize World.alloc w _ = w1 at *
  obtain ⟨q, hq2⟩ : ∃ q, w.heap.size = q := ⟨_, rfl⟩
  rw [hq2] at hblk ⊢
  have HB1 := Lib.hid hblk; have HQ := Lib.hid hq2
  clear hblk hmk hq2
  --@1
  go_loopw [13] (fun i wr => ∃ k : Nat, k ≤ m ∧ i = .int .i64 (k : Nat) ∧ Blk wr q 5 (Bt.bytesOf (Bt.part l k)) ∧ Only [] w wr) (fun i _ => m - (intOf i).toNat)
  case atStart => exact ⟨0, Nat.zero_le _, rfl, HB1.out, HO1.out⟩
  case round =>
    obtain ⟨k, hk, rfl, hb, ho⟩ := hrel
    have HB := Lib.hid hb; have HO := Lib.hid ho
    clear hb ho
    by_cases hlt : k < m
    · have hkl : k < l.length := by rw [HM.out]; exact hlt
      obtain ⟨b, off, rfl, hc⟩ := vs_bit (HV.out.only HO.out (by simp)) k hkl
      cases hx : l[k] with
      | false =>
        have hoff := Bt.part_off l k hkl hx
        rw [hx] at hc
        have HOFF := Lib.hid hoff
        clear hoff hx hkl
        --@2
        go_wp2
        go_roundw
        case rel => exact ⟨k + 1, by omega, by go_num, by rw [HOFF.out]; exact HB.out, HO.out⟩
        case measure => simp [intOf]; omega
      | true =>
        have hbl : (Bt.bytesOf (Bt.part l k)).length = n := by rw [Bt.bytesOf_len, Bt.part_length _ _ (by omega), HM.out, HNN.out]
        have hj : k / 8 < (Bt.bytesOf (Bt.part l k)).length := by rw [hbl]; have := HNN.out; omega
        have hon := Bt.part_on l k hkl hx hj
        rw [hx] at hc
        obtain ⟨j, hjk⟩ : ∃ j, k / 8 = j := ⟨_, rfl⟩
        obtain ⟨r, hr⟩ : ∃ r, k % 8 = r := ⟨_, rfl⟩
        have hr8 : r < 8 := by omega
        simp only [hjk, hr] at hon hj
        have hc2 := HB.out.cell j hj
        obtain ⟨y, hy⟩ : ∃ y, ((Bt.bytesOf (Bt.part l k))[j]).toNat = y := ⟨_, rfl⟩
        have hy8 : y < 256 := by rw [← hy]; exact UInt8.toNat_lt _
        rw [hy] at hc2 hon
        have hor : bits .or .u8 (y : Int) ((2 : Int) ^ r % 256) = ((y ||| 2 ^ r : Nat) : Int) := by
          have hp : 2 ^ r ≤ 2 ^ 7 := Nat.pow_le_pow_right (by decide) (by omega)
          have e : ((2 : Int) ^ r % 256) = ((2 ^ r : Nat) : Int) := by
            rw [show (2 : Int) ^ r = ((2 ^ r : Nat) : Int) by rw [Int.natCast_pow]; rfl]
            have hgen : ∀ p : Nat, p ≤ 128 → ((p : Int) % 256) = (p : Int) := fun p hp => by omega
            exact hgen _ hp
          rw [e, or_bit8 y r hy8 hr8]
        have hzz : y ||| 2 ^ r < 2 ^ 8 := Nat.or_lt_two_pow (by omega) (Nat.pow_lt_pow_right (by decide) hr8)
        obtain ⟨z, hz⟩ : ∃ z, y ||| 2 ^ r = z := ⟨_, rfl⟩
        rw [hz] at hor hon hzz
        have hon2 := hon (UInt8.ofNat z) (by simp; omega)
        have huz : (UInt8.ofNat z).toNat = z := by simp; omega
        have HON := Lib.hid hon2; have HUZ := Lib.hid huz
        have hjn : j < n := by rw [← hbl]; exact hj
        have hjI : (k : Int) / 8 = (j : Int) := by omega
        have hjT : (k : Int).tdiv 8 = (j : Int) := by rw [Int.tdiv_eq_ediv_of_nonneg (by omega)]; exact hjI
        have hrI : (k : Int) % 8 = (r : Int) := by omega
        have hrT : (k : Int).tmod 8 = (r : Int) := by rw [Int.tmod_eq_emod_of_nonneg (by omega)]; exact hrI
        have hf := HB.out.free j
        have hnjI : (j : Int) < (n : Int) := by omega
        have hkkI : (k : Int) < (m : Int) := by omega
        clear hon hon2 hj hx hkl hbl hz huz hy hjk hr
        --@3
        go_upto_region 6 with fail
        --@4
        go_region
        (try rw [hor])
        have hset := HB.out.set j (UInt8.ofNat z)
        rw [← HON.out] at hset
        unfold u8v at hset
        rw [HUZ.out] at hset
        have hos : Only [] w (wr.setCell ⟨q, j, none⟩ (.int .u8 (z : Int))).drew := (HO.out.setCell (.inr (by have := HQ.out; show w.heap.size ≤ q; omega)) _).drew
        have hset2 : Blk (wr.setCell ⟨q, j, none⟩ (.int .u8 (z : Int))).drew q 5 (Bt.bytesOf (Bt.part l (k + 1))) := hset
        generalize (wr.setCell ⟨q, j, none⟩ (.int .u8 (z : Int))).drew = w2 at *
        have HS := Lib.hid hset2; have HO2 := Lib.hid hos
        clear hset hset2 hos hc2 hf
        --@5
        go_wp2
        go_roundw
        case rel => exact ⟨k + 1, by omega, by go_num, HS.out, HO2.out⟩
        case measure => simp [intOf]; omega
    · obtain rfl : k = m := by omega
      have hbl : (Bt.bytesOf l).length = n := by rw [Bt.bytesOf_len, HM.out, HNN.out]
      have HBL := Lib.hid hbl
      clear hbl
      go_wp2
      go_ret
      refine ⟨_, rfl, ?_, HO.out⟩
      have h := HB.out
      rw [← HM.out, Bt.part_full] at h
      exact h.bs n n HBL.out.symm (Nat.le_refl _) (by unfold maxLen; omega)

theorem bit_of (x r : Nat) (hx : x < 256) : (bits .and .u8 ((x : Int) / 2 ^ r) 1 == 1) = x.testBit r := by
  rw [and_one x r hx]
  cases x.testBit r <;> rfl

set_option maxHeartbeats 2000000 in
theorem bits_no (w : World) (v : Value) (l : List UInt8) (n : Int) (hn : n < 0 ∨ 65536 < n) : Calls Tryd.prog 16 #[v, .int .i64 n] w fun e w' => e = .returned (.slice none 0 0) ∧ Only [] w w' := by
  have hc : n < 0 ∨ (¬ n < 0 ∧ 65536 < n) := by omega
  rcases hc with h1 | ⟨h1, h2⟩
  all_goals
    clear hn
    go_enter Tryd.func16, Tryd.ntmps16
    go_wp2
    go_ret
    exact ⟨rfl, Only.refl _ _⟩

set_option maxHeartbeats 2000000 in
theorem bits_c (w : World) (v : Value) (l : List UInt8) (hv : BS w v l) (hl : l.length ≤ 1000000) (n : Nat) (hn : n ≤ 65536) : Calls Tryd.prog 16 #[v, .int .i64 (n : Nat)] w fun e w' => ∃ u, e = .returned u ∧ VS w' u (bl (Bt.some l n)) ∧ Only [] w w' := by
  have HV := Lib.hid hv
  obtain ⟨a, cap, rfl, h1, h2, -, -⟩ := hv
  unfold maxLen at h2
  obtain ⟨m, hm⟩ : ∃ m, l.length = m := ⟨_, rfl⟩
  rw [hm] at h1 hl HV ⊢
  have HM := Lib.hid hm
  clear hm
  have hmk := fun w => make_bools w n (by omega)
  obtain ⟨t, ht⟩ : ∃ t, min n (8 * m) = t := ⟨_, rfl⟩
  have htI : min (n : Int) (8 * (m : Int)) = (t : Int) := by omega
  have hti : (if (n : Int) < 8 * (m : Int) then (n : Int) else 8 * (m : Int)) = (t : Int) := by split <;> omega
  have htj : (if 8 * (m : Int) < (n : Int) then 8 * (m : Int) else (n : Int)) = (t : Int) := by split <;> omega
  have htn : t ≤ n := by omega
  have htm : t ≤ 8 * m := by omega
  have hn1 : ¬ ((n : Int) < 0) := by omega
  have hn2 : ¬ ((65536 : Int) < (n : Int)) := by omega
  have HTN := Lib.hid ht
  clear ht
  go_enter Tryd.func16, Tryd.ntmps16
  go_upto_region 4 with fail
  have hblk := BB.made w n
  have HO1 : Hid (Only [] w (w.alloc (.cells (madeCells (Value.bool false).cells n) 4))) := Lib.hid ((Only.refl [] w).alloc _)
  change BB (w.alloc (.cells (madeCells #[Value.bool false] n) 4)) _ _ at hblk
  change Hid (Only [] w (w.alloc (.cells (madeCells #[Value.bool false] n) 4))) at HO1
  generalize World.alloc w _ = w1 at *
  obtain ⟨q, hq2⟩ : ∃ q, w.heap.size = q := ⟨_, rfl⟩
  rw [hq2] at hblk ⊢
  have HB1 := Lib.hid hblk; have HQ := Lib.hid hq2
  clear hblk hmk hq2
  --@6
  go_wp2_with fail
  --@7
  go_loopw [20] (fun i wr => ∃ k : Nat, k ≤ t ∧ i = .int .i64 (k : Nat) ∧ BB wr q ((Bt.bitsOf l).take k ++ List.replicate (n - k) false) ∧ Only [] w wr) (fun i _ => t - (intOf i).toNat)
  case atStart => exact ⟨0, Nat.zero_le _, rfl, HB1.out, HO1.out⟩
  case round =>
    obtain ⟨k, hk, rfl, hb, ho⟩ := hrel
    have HB := Lib.hid hb; have HO := Lib.hid ho
    clear hb ho
    have hbl := Bt.bitsOf_length l
    by_cases hlt : k < t
    · obtain ⟨j, hjk⟩ : ∃ j, k / 8 = j := ⟨_, rfl⟩
      obtain ⟨r, hr⟩ : ∃ r, k % 8 = r := ⟨_, rfl⟩
      have hjm : j < l.length := by rw [HM.out]; omega
      have hkb : k < (Bt.bitsOf l).length := by rw [hbl, HM.out]; omega
      have hat := Bt.bitsOf_at l k (by rw [HM.out]; omega) (by rw [hjk]; exact hjm) hkb
      simp only [hjk, hr] at hat
      obtain ⟨b, off, rfl, hc⟩ := bs_cell (HV.out.only HO.out (by simp)) j hjm
      obtain ⟨y, hy⟩ : ∃ y, (l[j]).toNat = y := ⟨_, rfl⟩
      have hy8 : y < 256 := by rw [← hy]; exact UInt8.toNat_lt _
      rw [hy] at hc hat
      have hbit := bit_of y r hy8
      have hstep : ((Bt.bitsOf l).take k ++ List.replicate (n - k) false).set k (y.testBit r) = (Bt.bitsOf l).take (k + 1) ++ List.replicate (n - (k + 1)) false := by
        rw [List.take_succ_eq_append_getElem hkb, hat, List.append_assoc, List.set_append_right _ _ (by rw [List.length_take]; omega)]
        congr 1
        rw [List.length_take, Nat.min_eq_left (by omega), Nat.sub_self, show n - k = (n - (k + 1)) + 1 by omega, List.replicate_succ, List.set_cons_zero]
        rfl
      have hset := HB.out.set k (y.testBit r)
      rw [hstep] at hset
      have hcq := HB.out.cell k (by simp; rw [hbl, HM.out]; omega)
      have hf := HB.out.free k
      obtain ⟨x, hx⟩ : ∃ x, y.testBit r = x := ⟨_, rfl⟩
      rw [hx] at hbit hset
      generalize (((Bt.bitsOf l).take k ++ List.replicate (n - k) false)[k]'_) = x0 at hcq
      have HSET := Lib.hid hset
      have HO2 : Hid (Only [] w (wr.setCell ⟨q, k, none⟩ (.bool x))) := Lib.hid (HO.out.setCell (.inr (by have := HQ.out; show w.heap.size ≤ q; omega)) _)
      have hjm2 : j < m := by omega
      have hjI : (k : Int) / 8 = (j : Int) := by omega
      have hjT : (k : Int).tdiv 8 = (j : Int) := by rw [Int.tdiv_eq_ediv_of_nonneg (by omega)]; exact hjI
      have hrI : (k : Int) % 8 = (r : Int) := by omega
      have hrT : (k : Int).tmod 8 = (r : Int) := by rw [Int.tmod_eq_emod_of_nonneg (by omega)]; exact hrI
      have hr8 : r < 8 := by omega
      have hkn : k < n := by omega
      clear hset hstep hat hkb hjm hy hx hjk hr
      --@8
      go_wp2_with fail
      --@9
      go_roundw
      case rel => exact ⟨k + 1, by omega, by go_num, HSET.out, HO2.out⟩
      case measure => simp [intOf]; omega
    · obtain rfl : k = t := by omega
      have hL : (Bt.bitsOf l).take k ++ List.replicate (n - k) false = Bt.some l n := by
        unfold Bt.some
        rw [HM.out]
        have h := HTN.out
        by_cases hc : n ≤ 8 * m
        · rw [show k = n by omega, show n - 8 * m = 0 by omega, Nat.sub_self]
        · rw [show k = 8 * m by omega, List.take_of_length_le (by rw [hbl, HM.out]; omega), List.take_of_length_le (by rw [hbl, HM.out]; omega)]
      rw [hL] at HB
      have HSL : Hid ((Bt.some l n).length = n) := Lib.hid (by unfold Bt.some; rw [List.length_append, List.length_take, List.length_replicate, hbl, HM.out]; omega)
      clear hL hbl
      go_wp2
      go_ret
      exact ⟨_, rfl, VS.of_block HB.out n n (bl (Bt.some l n)) (by rw [bl_length, HSL.out]) (by simp only []; rw [List.take_of_length_le (by rw [bl_length, HSL.out]; omega)]) (Nat.le_refl _) (by unfold maxLen; omega), HO.out⟩
end Go.Proofs.YtdoiebbbgmlkaaaDoor.wr
