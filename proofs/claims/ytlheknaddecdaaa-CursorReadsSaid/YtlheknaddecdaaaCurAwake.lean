/-
  Readers and writers that are none; the laws' awake.
-/
import Derived.Test.YtlheknaddecdaaaCurNums
import Derived.Lib.SlBytesConst
set_option linter.unusedVariables false
namespace Go.Proofs.Ytlheknaddecdaaa.cur
open Go Go.RowKit Go.Lm

theorem only_below {w a b : World} {D : Nat} (h : Only [] w a) (k : Below D a b) (hD : w.heap.size ≤ D) : Only [] w b :=
  ⟨k.os.trans h.os, k.tape.trans h.tape, k.output.trans h.output, Nat.le_trans h.size k.size, fun i hi hn => (k.block i (by omega)).trans (h.block i hi hn)⟩
theorem only_own {w a b : World} {r : Nat} (h : Only [] w a) (k : Only [r] a b) (hr : w.heap.size ≤ r) : Only [] w b := h.trans k (by simp) (by simp; omega)

theorem number_nil (n : Int) (w : World) : Calls Try.prog 10 #[.pointer none, .int .i64 n] w fun x w' => x = .returned (.int .u64 0) ∧ w = w' := by
  go_enter Try.func10, Try.ntmps10
  go_wp2
  go_ret
  exact ⟨rfl, rfl⟩
theorem bytes_nil (n : Int) (w : World) : Calls Try.prog 12 #[.pointer none, .int .i64 n] w fun x w' => x = .returned (.slice none 0 0) ∧ w = w' := by
  go_enter Try.func12, Try.ntmps12
  go_wp2
  go_ret
  exact ⟨rfl, rfl⟩
theorem left_nil (w : World) : Calls Try.prog 15 #[.pointer none] w fun x w' => x = .returned (.int .i64 0) ∧ w = w' := by
  go_enter Try.func15, Try.ntmps15
  go_wp2
  go_ret
  exact ⟨rfl, rfl⟩
theorem err_nil (w : World) : Calls Try.prog 14 #[.pointer none] w fun x w' => x = .returned (.int .i64 1) ∧ w = w' := by
  go_enter Try.func14, Try.ntmps14
  go_wp2
  go_ret
  exact ⟨rfl, rfl⟩
theorem end_nil (w : World) : Calls Try.prog 16 #[.pointer none] w fun x w' => x = .returned (.int .i64 1) ∧ w = w' := by
  go_enter Try.func16, Try.ntmps16
  go_wp2_with fail
  refine (err_nil w).mono ?_
  rintro x w1 ⟨rfl, rfl⟩
  go_wp2
  go_ret
  exact ⟨rfl, rfl⟩
theorem wnumber_nil (x n : Int) (w : World) : Calls Try.prog 19 #[.pointer none, .int .u64 x, .int .i64 n] w fun x w' => x = .returned (.tuple #[]) ∧ w = w' := by
  go_enter Try.func19, Try.ntmps19
  go_wp2
  go_returns
  exact ⟨rfl, rfl⟩
theorem wbytes_nil (v : Value) (w : World) : Calls Try.prog 21 #[.pointer none, v] w fun x w' => x = .returned (.tuple #[]) ∧ w = w' := by
  go_enter Try.func21, Try.ntmps21
  go_wp2
  go_returns
  exact ⟨rfl, rfl⟩
theorem out_nil (w : World) : Calls Try.prog 22 #[.pointer none] w fun x w' => x = .returned (.slice none 0 0) ∧ w = w' := by
  go_enter Try.func22, Try.ntmps22
  go_wp2
  go_ret
  exact ⟨rfl, rfl⟩

set_option maxHeartbeats 1000000 in
theorem awake_c (w : World) : Calls Try.prog 8 #[] w fun e w' => e = .returned (.bool true) ∧ Only [] w w' := by
  have e1 : Cur.rnum [1, 2, 3] 0 2 = ([3], 0, 513) := by decide
  have e2 : Cur.rend [3] 0 = 15 := by decide
  have e3 : Cur.rbytes [3] 0 1 = ([], 0, [3]) := by decide
  have e4 : Cur.put 513 2 = [1, 2] := by decide
  have E1 := Lib.hid e1; have E2 := Lib.hid e2; have E3 := Lib.hid e3; have E4 := Lib.hid e4
  clear e1 e2 e3 e4
  go_enter Try.func8, Try.ntmps8
  go_wp2_with fail
  refine (newreader_c _ _ [1, 2, 3] (BS.lit _ _ _ _ _ _ rfl rfl (by decide)) (by decide)).mono ?_
  rintro e w1 ⟨r, rfl, hr, ho1⟩
  have hB : w.heap.size ≤ r := by have := hr.1; simp at this; omega
  have HO1 : Hid (Only [] w w1) := ((Only.refl [] w).alloc _).then ho1
  have HR := Lib.hid hr
  clear ho1 hr
  generalize (World.alloc w _).heap.size = B at HR
  go_wp2_with fail
  refine (number_c w1 B _ r 0 2 _ HR.out).mono ?_
  rintro e w2 ⟨rfl, hr, ho2⟩
  rw [E1.out] at hr ⊢
  have HO2 : Hid (Only [] w w2) := only_own HO1.out ho2 hB
  have HR2 := Lib.hid hr
  have hC : w1.heap.size ≤ w2.heap.size := ho2.size
  clear hr ho2 HR HO1
  go_wp2_with fail
  refine (left_c w2 B _ r 0 _ HR2.out).mono ?_
  rintro e w' ⟨rfl, rfl⟩
  go_wp2_with fail
  refine (end_c w2 B _ r 0 _ HR2.out).mono ?_
  rintro e w' ⟨rfl, rfl⟩
  rw [E2.out]
  go_wp2_with fail
  refine (bytes_c w2 B _ r 0 1 _ HR2.out).mono ?_
  rintro e w3 ⟨v, rfl, hr, hb, ho3⟩
  rw [E3.out] at hr hb
  have HO3 : Hid (Only [] w w3) := only_own HO2.out ho3 hB
  have HR3 := Lib.hid hr
  have HB3 := Lib.hid hb
  have hC3 : w1.heap.size ≤ w3.heap.size := Nat.le_trans hC ho3.size
  clear hr ho3 HR2 HO2 hb
  go_wp2_with fail
  refine (newwriter_c w3).mono ?_
  rintro e w4 ⟨rfl, hw4, ho4⟩
  have HO4 : Hid (Only [] w w4) := HO3.out.then ho4
  have HR4 := Lib.hid (HR3.out.only ho4 hC3)
  have HB4 := Lib.hid (HB3.out.kept fun k _ hk => ho4.block k (by omega) (by simp))
  have HW4 := Lib.hid hw4
  have hD : w.heap.size ≤ w3.heap.size := HO3.out.size
  clear ho4 hw4 HR3 HB3 HO3
  generalize w3.heap.size = D at HW4 hC3 hD ⊢
  go_wp2_with fail
  refine (wnumber_c w4 D D [] HW4.out 513 2 (by decide) (by decide)).mono ?_
  rintro e w5 ⟨rfl, hw5, hb5⟩
  rw [if_pos (by decide), List.nil_append] at hw5
  have HO5 : Hid (Only [] w w5) := only_below HO4.out hb5 hD
  have HR5 := Lib.hid (HR4.out.below hb5 hC3)
  have HB5 := Lib.hid (HB4.out.kept fun k _ hk => hb5.block k (by omega))
  have HW5 := Lib.hid hw5
  clear hb5 hw5 HR4 HB4 HO4 HW4
  go_wp2_with fail
  refine (wbytes_c (w5.alloc _) D D _ [9] (HW5.out.only ((Only.refl [] w5).alloc _)) _ (BS.lit _ _ _ _ _ _ rfl rfl (by decide)) (by simp [Cur.put_length])).mono ?_
  rintro e w6 ⟨rfl, hw6, hb6⟩
  have hb6 := hb6
  have HO6 : Hid (Only [] w w6) := only_below (HO5.out.alloc _) hb6 hD
  have hs5 := HO5.out.size
  have HW6 := Lib.hid hw6
  have hD5 : D ≤ w5.heap.size := by have := HW5.out.lt; omega
  have hk6 : ∀ k, k < D → w6.heap[k]? = w5.heap[k]? := fun k hk => (hb6.block k hk).trans (((Only.refl [] w5).alloc _).block k (by omega) (by simp))
  have HR6 := Lib.hid (HR5.out.kept fun k _ hk => hk6 k (by omega))
  have HB6 := Lib.hid (HB5.out.kept fun k _ hk => hk6 k (by omega))
  clear hb6 hw6 hk6 HR5 HB5 HO5 HW5
  obtain ⟨a, cap, rfl, h1, h2, h3, h4⟩ := HB6.out.1
  obtain ⟨b, off, rfl, hcell⟩ := h4 0 (by decide)
  have hcell : w6.cell? ⟨b, off, none⟩ = some (.int .u8 3) := hcell
  clear h3 h4
  simp only [List.length_cons, List.length_nil] at h1 ⊢
  unfold maxLen at h2
  go_wp2_with fail
  refine (err_c w6 B _ r 0 _ HR6.out).mono ?_
  rintro e w' ⟨rfl, rfl⟩
  go_wp2_with fail
  refine (out_c w6 D D _ HW6.out (by simp [Cur.put_length])).mono ?_
  rintro e w7 ⟨v, rfl, hov, ho7⟩
  rw [show Int.toNat 2 = 2 from rfl, E4.out] at hov
  have hstr := run_string_of_bytes (P := Try.prog) Try.underlying22 Try.underlying5 Try.underlying9 (BS.of_vs hov.vs)
  have HO7 : Hid (Only [] w w7) := HO6.out.then ho7
  clear hov ho7
  go_wp2
  go_ret
  exact ⟨rfl, HO7.out⟩
end Go.Proofs.Ytlheknaddecdaaa.cur
