/-
  THE WALKS of the reference's reader and of Put.
-/
import Derived.Test.YtfckokdgmbbheaaCurWalks
import Derived.Handy
import Derived.Laws.ResultCell
set_option linter.unusedVariables false
set_option maxRecDepth 20000
namespace Go.Proofs.Ytfckokdgmbbheaa.cur
open Go Go.RowKit Go.Lm

def RV (s : ByteArray) (e : Int) : Value := .agg #[.string s, .int .i64 e]

set_option maxHeartbeats 400000 in
theorem reftake_c (w : World) (s : ByteArray) (e n : Int) (hs : s.size ≤ 140737488355328) : Calls Try.prog 35 #[RV s e, .int .i64 n] w fun x w' => ∃ s' o, x = .returned (.tuple #[RV s' (Cur.rbytes s.data.toList e n).2.1, .string o]) ∧
    s'.data.toList = (Cur.rbytes s.data.toList e n).1 ∧ o.data.toList = (Cur.rbytes s.data.toList e n).2.2 ∧ Only [] w w' := by
  have hls : s.data.toList.length = s.size := len_data s
  unfold RV Cur.rbytes
  by_cases he : e = 0
  · subst he
    by_cases hn : n < 0
    · have ht : Cur.rtake s.data.toList 0 n (decide (0 ≤ n)) = (s.data.toList, 1, []) := by simp [Cur.rtake, hn]
      rw [ht]
      clear ht
      go_enter Try.func35, Try.ntmps35
      go_wp2
      (try simp only [Exit.inBlock, Exit.then])
      refine bodyPost_ret (v := .tuple #[.agg #[.string s, .int .i64 1], .string ⟨#[]⟩]) (by rw [results_cell_tmp rfl]; go_simp) rfl ⟨_, _, rfl, rfl, rfl, ((Only.refl [] w).alloc _).alloc _⟩
    · obtain ⟨k, rfl⟩ := Int.eq_ofNat_of_zero_le (show 0 ≤ n by omega)
      by_cases hk : s.size < k
      · have ht : Cur.rtake s.data.toList 0 k (decide (0 ≤ (k : Int))) = (s.data.toList, 10, []) := by simp [Cur.rtake, hk]
        rw [ht]
        clear ht
        go_enter Try.func35, Try.ntmps35
        go_wp2
        (try simp only [Exit.inBlock, Exit.then])
        refine bodyPost_ret (v := .tuple #[.agg #[.string s, .int .i64 10], .string ⟨#[]⟩]) (by rw [results_cell_tmp rfl]; go_simp) rfl ⟨_, _, rfl, rfl, rfl, ((Only.refl [] w).alloc _).alloc _⟩
      · have ht : Cur.rtake s.data.toList 0 k (decide (0 ≤ (k : Int))) = (s.data.toList.drop k, 0, s.data.toList.take k) := by simp [Cur.rtake]; omega
        rw [ht]
        clear ht
        go_enter Try.func35, Try.ntmps35
        go_wp2
        (try simp only [Exit.inBlock, Exit.then])
        refine bodyPost_ret (v := .tuple #[.agg #[.string (s.extract k s.size), .int .i64 0], .string (s.extract 0 k)]) (by rw [results_cell_tmp rfl]; go_simp) rfl ⟨_, _, rfl, ?_, ?_, ((Only.refl [] w).alloc _).alloc _⟩
        · simp only [ByteArray.data_extract, Array.toList_extract, List.extract_eq_take_drop]
          rw [List.take_of_length_le (by simp)]
        · simp [ByteArray.data_extract]
  · have ht : Cur.rtake s.data.toList e n (decide (0 ≤ n)) = (s.data.toList, e, []) := by simp [Cur.rtake, he]
    have hz : (e == 0) = false := beq_eq_false_iff_ne.2 he
    have hz2 : (e != 0) = true := bne_iff_ne.2 he
    rw [ht]
    clear ht
    go_enter Try.func35, Try.ntmps35
    go_wp2
    (try simp only [Exit.inBlock, Exit.then])
    refine bodyPost_ret (v := .tuple #[.agg #[.string s, .int .i64 e], .string ⟨#[]⟩]) (by rw [results_cell_tmp rfl]; go_simp) rfl ⟨_, _, rfl, rfl, rfl, ((Only.refl [] w).alloc _).alloc _⟩

/-- A power of 256, wrapped. -/
theorem le_mod (X U k : Nat) (hk : k < 8) (hx : X < 256 ^ k) (hu : U < 256) : ((X : Int) + (U : Int) * ((256 ^ k : Nat) : Int) % 18446744073709551616) % 18446744073709551616 = ((X + U * 256 ^ k : Nat) : Int) := by
  have h3 : 256 ^ k ≤ 256 ^ 7 := Nat.pow_le_pow_right (by decide) (by omega)
  have h4 : U * 256 ^ k ≤ 255 * 256 ^ k := Nat.mul_le_mul_right _ (by omega)
  have e1 : (U : Int) * ((256 ^ k : Nat) : Int) = ((U * 256 ^ k : Nat) : Int) := by rw [Int.natCast_mul]
  rw [e1]
  omega

set_option maxHeartbeats 1000000 in
theorem refnumber_c (w : World) (s : ByteArray) (e n : Int) (hs : s.size ≤ 140737488355328) : Calls Try.prog 34 #[RV s e, .int .i64 n] w fun x w' => ∃ s', x = .returned (.tuple #[RV s' (Cur.rnum s.data.toList e n).2.1, .int .u64 ((Cur.rnum s.data.toList e n).2.2 : Nat)]) ∧
    s'.data.toList = (Cur.rnum s.data.toList e n).1 ∧ Only [] w w' := by
  have hls : s.data.toList.length = s.size := len_data s
  obtain ⟨e1, he1⟩ : ∃ e1, (if e = 0 ∧ (n < 1 ∨ 8 < n) then 1 else e) = e1 := ⟨_, rfl⟩
  have hrn : Cur.rnum s.data.toList e n = ((Cur.rbytes s.data.toList e1 n).1, (Cur.rbytes s.data.toList e1 n).2.1, Cur.le (Cur.rbytes s.data.toList e1 n).2.2) ∧ (Cur.rbytes s.data.toList e1 n).2.2.length ≤ 8 := by
    subst he1
    unfold Cur.rnum Cur.rbytes Cur.rtake
    by_cases he : e = 0
    · subst he
      by_cases hn : n < 1 ∨ 8 < n
      · have h1 : (decide (1 ≤ n) && decide (n ≤ 8)) = false := by simp; omega
        simp [hn, h1]
      · have h1 : (decide (1 ≤ n) && decide (n ≤ 8)) = true := by simp; omega
        have h2 : decide (0 ≤ n) = true := by simp; omega
        simp only [hn, h1, h2, and_false, if_false]
        by_cases hl : (s.size : Int) < n
        · simp [hl]
        · simp [hl]; omega
    · simp [he]
  rw [hrn.1]
  have hlen := hrn.2
  obtain ⟨t, ht⟩ : ∃ t, Cur.rbytes s.data.toList e1 n = t := ⟨_, rfl⟩
  rw [ht] at hlen ⊢
  have HT := Lib.hid ht
  clear hrn ht
  have hsz : (Try.prog.info? 65).map (·.size) = some 2 := by kernel_rfl
  have HSZ := Lib.hid hsz; clear hsz
  have hc : (e = 0 ∧ n < 1 ∧ e1 = 1) ∨ (e = 0 ∧ 1 ≤ n ∧ 8 < n ∧ e1 = 1) ∨ (e = 0 ∧ 1 ≤ n ∧ n ≤ 8 ∧ e1 = 0) ∨ ((e == 0) = false ∧ e1 = e) := by
    by_cases he : e = 0
    · simp only [he, true_and] at he1 ⊢
      by_cases hn : n < 1 ∨ 8 < n
      · rw [if_pos hn] at he1; omega
      · rw [if_neg hn] at he1; omega
    · simp only [he, false_and, if_false] at he1
      exact .inr (.inr (.inr ⟨beq_eq_false_iff_ne.2 he, he1.symm⟩))
  clear he1
  unfold RV
  rcases hc with ⟨rfl, hn1, rfl⟩ | ⟨rfl, hn1, hn2, rfl⟩ | ⟨rfl, hn1, hn2, rfl⟩ | ⟨hz, rfl⟩
  all_goals
    go_enter Try.func34, Try.ntmps34
    go_wp2_with fail
    refine (reftake_c _ s _ n hs).mono ?_
    rintro x w1 ⟨s', o, rfl, h1, h2, h3⟩
    rw [HT.out] at h1 h2 ⊢
    unfold RV
    have hb0 := h3.heap ((heap_alloc_old _ _ (by simp)).trans (heap_alloc_new w _)) (by simp)
    have hb1 := h3.heap (heap_alloc2_new w _ _) (by simp)
    have HB0 := Lib.hid hb0; have HB1 := Lib.hid hb1; have H1 := Lib.hid h1; have H2 := Lib.hid h2
    have HO : Hid (Only [] w w1) := (((Only.refl [] w).alloc _).alloc _).then h3
    have hol : o.size = t.2.2.length := by rw [← h2, len_data]
    clear hb0 hb1 h1 h2 h3
    obtain ⟨E, hE⟩ : ∃ E, t.2.1 = E := ⟨_, rfl⟩
    rw [hE]
    have HE := Lib.hid hE; clear hE
    have c0 := cell_of_row _ _ 0 _ _ _ HB0.out
    have c1 := cell_of_row _ _ 1 _ _ _ HB0.out
    have hfz : ∀ k, w1.frozen? ⟨w.heap.size, k, none⟩ = false := fun k => by simp [World.frozen?, HB0.out]
    simp only [List.getElem?_toArray, List.getElem?_cons_zero, List.getElem?_cons_succ] at c0 c1
    go_wp2_with fail
    have hb0' : ((w1.setCell ⟨w.heap.size, 0, none⟩ (.string s')).setCell ⟨w.heap.size, 1, none⟩ (.int .i64 E)).heap[w.heap.size]? = some (.cells #[.string s', .int .i64 E] 65 (0, 0)) :=
      (Go.Lm.heap_setCell_same (k := 1) (Go.Lm.heap_setCell_same (k := 0) HB0.out _) _).trans rfl
    have ho' : Only [] w ((w1.setCell ⟨w.heap.size, 0, none⟩ (.string s')).setCell ⟨w.heap.size, 1, none⟩ (.int .i64 E)) := (HO.out.setCell (.inr (Nat.le_refl _)) _).setCell (.inr (Nat.le_refl _)) _
    have ho1 : Only [w.heap.size] w1 ((w1.setCell ⟨w.heap.size, 0, none⟩ (.string s')).setCell ⟨w.heap.size, 1, none⟩ (.int .i64 E)) := ((Only.refl _ w1).setCell (.inl (by simp)) _).setCell (.inl (by simp)) _
    have hb1' := ho1.heap HB1.out (by simp)
    generalize (w1.setCell ⟨w.heap.size, 0, none⟩ (.string s')).setCell ⟨w.heap.size, 1, none⟩ (.int .i64 E) = w2 at hb0' ho' hb1' ⊢
    clear ho1 hfz c0 c1 HB0 HB1 HO
    have HB0 := Lib.hid hb0'; have HB1 := Lib.hid hb1'; have HO := Lib.hid ho'
    clear hb0' hb1' ho'
    go_loop [7, 8, 9] (fun x m i => ∃ k : Nat, k ≤ o.size ∧ i = .int .i64 k ∧ x = .int .u64 (Cur.le (t.2.2.take k) : Nat) ∧ m = .int .u64 ((256 ^ k % 18446744073709551616 : Nat) : Int)) (fun _ _ i => o.size - (intOf i).toNat)
    case atStart => exact ⟨0, Nat.zero_le _, rfl, rfl, rfl⟩
    case round =>
      obtain ⟨k, hk, rfl, rfl, rfl⟩ := hrel
      by_cases hkl : k < o.size
      · have hkt : k < t.2.2.length := by omega
        have hle := Cur.le_take t.2.2 k hkt
        have hlt := Cur.le_take_lt t.2.2 k (by omega)
        have hue : o[k].toNat = (t.2.2[k]).toNat := by
          have h2 := H2.out
          have : o[k] = t.2.2[k] := by
            rw [show o[k] = o.data[k] from rfl]
            simp [← h2]
          rw [this]
        have hu := (o[k]).toNat_lt
        rw [← hue] at hle
        clear hue
        generalize Cur.le (t.2.2.take k) = X at hle hlt
        have hm := le_mod X (o[k]).toNat k (by omega) hlt hu
        have h7 : 256 ^ k ≤ 256 ^ 7 := Nat.pow_le_pow_right (by decide) (by omega)
        have hpk : 256 ^ k % 18446744073709551616 = 256 ^ k := Nat.mod_eq_of_lt (by omega)
        rw [hpk]
        have hps : (((256 ^ k : Nat) : Int) * 256) % 18446744073709551616 = ((256 ^ (k + 1) % 18446744073709551616 : Nat) : Int) := by
          rw [Nat.pow_succ]; omega
        have hP0 : 0 < 256 ^ k := Nat.pow_pos (by decide)
        generalize 256 ^ k = P at hm hps h7 hP0 hlt hle ⊢
        have HLE := Lib.hid hle; have HM := Lib.hid hm; have HPS := Lib.hid hps
        clear hle hm hps hpk
        go_wp2
        go_round
        case rel => exact ⟨k + 1, by omega, by go_num, by rw [HLE.out, ← HM.out]; go_num, by rw [← HPS.out]; go_num⟩
        case measure => simp [intOf]; omega
      · have hkk : k = t.2.2.length := by omega
        have et : t.2.2.take k = t.2.2 := List.take_of_length_le (by omega)
        rw [et]
        have c0 := cell_of_row _ _ 0 _ _ _ HB0.out
        have c1 := cell_of_row _ _ 1 _ _ _ HB0.out
        have d0 := cell_of_row _ _ 0 _ _ _ HB1.out
        have d1 := cell_of_row _ _ 1 _ _ _ HB1.out
        have hfz : ∀ k, w2.frozen? ⟨w.heap.size + 1, k, none⟩ = false := fun k => by simp [World.frozen?, HB1.out]
        simp only [List.getElem?_toArray, List.getElem?_cons_zero, List.getElem?_cons_succ] at c0 c1 d0 d1
        have HO2 : Hid (Only [] w ((w2.setCell ⟨w.heap.size + 1, 0, none⟩ (.string s')).setCell ⟨w.heap.size + 1, 1, none⟩ (.int .i64 E))) := (HO.out.setCell (.inr (by simp)) _).setCell (.inr (by simp)) _
        go_wp2
        (try simp only [Exit.inBlock, Exit.then])
        refine bodyPost_ret (v := .tuple #[.agg #[.string s', .int .i64 E], .int .u64 (Cur.le t.2.2 : Nat)]) (by rw [results_cell_tmp rfl]; go_simp) rfl ⟨_, by rw [HE.out], H1.out, HO2.out⟩
end Go.Proofs.Ytfckokdgmbbheaa.cur
