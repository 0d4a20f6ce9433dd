/-
  THE WALKS of the blocks' heads.
-/
import Derived.Test.YtkblnlddamojoaaFrmRead
import Derived.RegionTactic
import Derived.Laws.ResultCell
set_option linter.unusedVariables false
set_option linter.unusedSimpArgs false
namespace Go.Proofs.Ytkblnlddamojoaa.frm
open Go Go.RowKit Go.Lm Go.Proofs.Ytkblnlddamojoaa.cur

theorem and_i64_nat (a b : Nat) (ha : a < 9223372036854775808) (hb : b < 9223372036854775808) : bits .and .i64 (a : Int) (b : Int) = ((a &&& b : Nat) : Int) := by
  have hx : a &&& b < 2 ^ 63 := Nat.and_lt_two_pow _ (by omega)
  have h1 : (BitVec.ofInt 64 (a : Int)).toNat = a := by
    rw [BitVec.ofInt_natCast, BitVec.toNat_ofNat]; exact Nat.mod_eq_of_lt (by omega)
  have h2 : (BitVec.ofInt 64 (b : Int)).toNat = b := by
    rw [BitVec.ofInt_natCast, BitVec.toNat_ofNat]; exact Nat.mod_eq_of_lt (by omega)
  show IntKind.i64.wrap ((BitVec.ofInt 64 (a : Int) &&& BitVec.ofInt 64 (b : Int)).toNat : Int) = _
  rw [BitVec.toNat_and, h1, h2, IntKind.wrap_i64]
  omega
theorem or_i64_nat (a b : Nat) (ha : a < 4294967296) (hb : b < 4294967296) : bits .or .i64 (a : Int) (b : Int) = ((a ||| b : Nat) : Int) := by
  have hx : a ||| b < 2 ^ 32 := Nat.or_lt_two_pow (by omega) (by omega)
  have h1 : (BitVec.ofInt 64 (a : Int)).toNat = a := by
    rw [BitVec.ofInt_natCast, BitVec.toNat_ofNat]; exact Nat.mod_eq_of_lt (by omega)
  have h2 : (BitVec.ofInt 64 (b : Int)).toNat = b := by
    rw [BitVec.ofInt_natCast, BitVec.toNat_ofNat]; exact Nat.mod_eq_of_lt (by omega)
  show IntKind.i64.wrap ((BitVec.ofInt 64 (a : Int) ||| BitVec.ofInt 64 (b : Int)).toNat : Int) = _
  rw [BitVec.toNat_or, h1, h2, IntKind.wrap_i64]
  omega

def bkV (l : Bool) (k s : Nat) : Value := .agg #[.bool l, .int .i64 (k : Int), .int .i64 (s : Int)]
/-- What three bytes tell. -/
def blk (l : List UInt8) : (Bool × Nat × Nat) × Int :=
  let t := Cur.rnum l 0 3
  if t.2.1 ≠ 0 then ((false, 0, 0), t.2.1) else if t.2.2 / 2 % 4 = 3 then ((false, 0, 0), 11) else ((t.2.2 % 2 == 1, t.2.2 / 2 % 4, t.2.2 / 8), 0)

set_option maxHeartbeats 2000000 in
theorem readblock_c (w : World) (v : Value) (l : List UInt8) (hv : BS w v l) (hl : l.length ≤ 1000000) : Calls Try.prog 13 #[v] w fun e w' => e = .returned (.tuple #[bkV (blk l).1.1 (blk l).1.2.1 (blk l).1.2.2, .int .i64 (blk l).2]) ∧ Only [] w w' := by
  have HV := Lib.hid hv
  obtain ⟨a, cap, rfl, -⟩ := hv
  have hx := Frm.rnum_lt l 0 3
  obtain ⟨⟨L', E, X⟩, hT⟩ : ∃ t, Cur.rnum l 0 3 = t := ⟨_, rfl⟩
  rw [show ((3 : Nat) : Int) = 3 from rfl, hT] at hx
  have hx : X < 16777216 := hx
  obtain ⟨⟨⟨bl, bk⟩, be⟩, hb⟩ : ∃ t, blk l = t := ⟨_, rfl⟩
  have hbe : ((bl, bk), be) = if E ≠ 0 then ((false, 0, 0), E) else if X / 2 % 4 = 3 then ((false, 0, 0), 11) else ((X % 2 == 1, X / 2 % 4, X / 8), 0) := by
    rw [← hb]; unfold blk; rw [hT]
  rw [hb]
  have a1 := and_i64_nat (X / 2) 3 (by omega) (by decide)
  have a2 := and_i64_nat X 1 (by omega) (by decide)
  rw [show (3 : Nat) = 2 ^ 2 - 1 from rfl, Nat.and_two_pow_sub_one_eq_mod] at a1
  rw [Nat.and_one_is_mod] at a2
  have e1 : (X : Int) / 2 = ((X / 2 : Nat) : Int) := by omega
  have e2 : (X : Int) / 8 = ((X / 8 : Nat) : Int) := by omega
  have a1 : bits .and .i64 ((X / 2 : Nat) : Int) 3 = ((X / 2 % 4 : Nat) : Int) := a1
  have a2 : bits .and .i64 (X : Int) 1 = ((X % 2 : Nat) : Int) := a2
  obtain ⟨K, hK⟩ : ∃ K, X / 2 % 4 = K := ⟨_, rfl⟩
  obtain ⟨O, hO⟩ : ∃ O, X % 2 = O := ⟨_, rfl⟩
  obtain ⟨H, hH⟩ : ∃ H, X / 2 = H := ⟨_, rfl⟩
  obtain ⟨G, hG⟩ : ∃ G, X / 8 = G := ⟨_, rfl⟩
  rw [hH] at a1 e1 hK
  rw [hG] at e2
  rw [hK] at a1
  rw [hO] at a2
  rw [hH, hK, hO, hG] at hbe
  have hO1 : ((O : Int) == 1) = (O == 1) := by rw [Bool.eq_iff_iff]; simp; omega
  have hK3 : K ≤ 3 := by omega
  have HT := Lib.hid hT
  clear hT hb hK hO hH hG
  by_cases hE : E = 0
  · subst hE
    rw [if_neg (by simp)] at hbe
    by_cases hk : K = 3
    · rw [if_pos hk] at hbe
      simp only [Prod.mk.injEq] at hbe
      obtain ⟨⟨rfl, rfl⟩, rfl⟩ := hbe
      have hk2 : (2 : Int) < (K : Int) := by omega
      clear hk
      go_enter Try.func13, Try.ntmps13
      go_wp2_with fail
      refine (newreader_c _ _ l (HV.out.only ((Only.refl [] w).alloc _) (by simp)) (by omega)).mono ?_
      rintro e w1 ⟨r, rfl, hr, ho1⟩
      have hB : w.heap.size < r := by have := hr.1; simp at this; omega
      have HO1 : Hid (Only [] w w1) := ((Only.refl [] w).alloc _).then ho1
      have hres := ho1.heap (heap_alloc_new w _) (by simp)
      have HR := Lib.hid hr; have HRES := Lib.hid hres
      clear ho1 hr hres
      generalize (World.alloc w _).heap.size = B at HR
      go_wp2_with fail
      refine (number_c w1 B _ r 0 3 _ HR.out).mono ?_
      rintro e w2 ⟨rfl, hr2, ho2⟩
      rw [HT.out] at hr2 ⊢
      have HR2 := Lib.hid hr2
      have HO2 := Lib.hid (only_own HO1.out ho2 (by omega))
      have hres2 := ho2.heap HRES.out (by simp; omega)
      clear hr2 ho2 HRES HO1 HR
      have c0 := cell_of_row _ _ 0 _ _ _ hres2
      have c1 := cell_of_row _ _ 1 _ _ _ hres2
      have c2 := cell_of_row _ _ 2 _ _ _ hres2
      have hf : ∀ i, w2.frozen? ⟨w.heap.size, i, none⟩ = false := fun i => by simp [World.frozen?, hres2]
      simp only [List.getElem?_toArray, List.getElem?_cons_zero, List.getElem?_cons_succ] at c0 c1 c2
      clear hres2
      go_wp2_with (go_at_call 19; refine (err_c w2 B _ r 0 _ HR2.out).mono ?_; rintro e w' ⟨rfl, rfl⟩)
      (try simp only [Exit.inBlock, Exit.then])
      refine bodyPost_ret (v := .tuple #[.agg #[.bool false, .int .i64 0, .int .i64 0], .int .i64 11]) (by rw [results_cell_tmp rfl]; go_simp) rfl ⟨rfl, ?_⟩
      repeat (first | exact HO2.out | refine Only.setCell ?_ (.inr (by simp)) _)
    · rw [if_neg hk] at hbe
      simp only [Prod.mk.injEq] at hbe
      obtain ⟨⟨rfl, rfl, rfl⟩, rfl⟩ := hbe
      have hk2 : ¬ (2 : Int) < (K : Int) := by omega
      clear hk
      go_enter Try.func13, Try.ntmps13
      go_wp2_with fail
      refine (newreader_c _ _ l (HV.out.only ((Only.refl [] w).alloc _) (by simp)) (by omega)).mono ?_
      rintro e w1 ⟨r, rfl, hr, ho1⟩
      have hB : w.heap.size < r := by have := hr.1; simp at this; omega
      have HO1 : Hid (Only [] w w1) := ((Only.refl [] w).alloc _).then ho1
      have hres := ho1.heap (heap_alloc_new w _) (by simp)
      have HR := Lib.hid hr; have HRES := Lib.hid hres
      clear ho1 hr hres
      generalize (World.alloc w _).heap.size = B at HR
      go_wp2_with fail
      refine (number_c w1 B _ r 0 3 _ HR.out).mono ?_
      rintro e w2 ⟨rfl, hr2, ho2⟩
      rw [HT.out] at hr2 ⊢
      have HR2 := Lib.hid hr2
      have HO2 := Lib.hid (only_own HO1.out ho2 (by omega))
      have hres2 := ho2.heap HRES.out (by simp; omega)
      clear hr2 ho2 HRES HO1 HR
      have c0 := cell_of_row _ _ 0 _ _ _ hres2
      have c1 := cell_of_row _ _ 1 _ _ _ hres2
      have c2 := cell_of_row _ _ 2 _ _ _ hres2
      have hf : ∀ i, w2.frozen? ⟨w.heap.size, i, none⟩ = false := fun i => by simp [World.frozen?, hres2]
      simp only [List.getElem?_toArray, List.getElem?_cons_zero, List.getElem?_cons_succ] at c0 c1 c2
      clear hres2
      go_wp2_with (go_at_call 19; refine (err_c w2 B _ r 0 _ HR2.out).mono ?_; rintro e w' ⟨rfl, rfl⟩)
      (try simp only [Exit.inBlock, Exit.then])
      refine bodyPost_ret (v := .tuple #[.agg #[.bool (O == 1), .int .i64 (K : Int), .int .i64 (G : Int)], .int .i64 0]) (by rw [results_cell_tmp rfl]; go_simp) rfl ⟨rfl, ?_⟩
      repeat (first | exact HO2.out | refine Only.setCell ?_ (.inr (by simp)) _)
  · rw [if_pos hE] at hbe
    simp only [Prod.mk.injEq] at hbe
    obtain ⟨⟨rfl, rfl⟩, rfl⟩ := hbe
    have hEI : (be != 0) = true := bne_iff_ne.2 hE
    clear hE
    go_enter Try.func13, Try.ntmps13
    go_wp2_with fail
    refine (newreader_c _ _ l (HV.out.only ((Only.refl [] w).alloc _) (by simp)) (by omega)).mono ?_
    rintro e w1 ⟨r, rfl, hr, ho1⟩
    have hB : w.heap.size < r := by have := hr.1; simp at this; omega
    have HO1 : Hid (Only [] w w1) := ((Only.refl [] w).alloc _).then ho1
    have hres := ho1.heap (heap_alloc_new w _) (by simp)
    have HR := Lib.hid hr; have HRES := Lib.hid hres
    clear ho1 hr hres
    generalize (World.alloc w _).heap.size = B at HR
    go_wp2_with fail
    refine (number_c w1 B _ r 0 3 _ HR.out).mono ?_
    rintro e w2 ⟨rfl, hr2, ho2⟩
    rw [HT.out] at hr2 ⊢
    have HR2 := Lib.hid hr2
    have HO2 := Lib.hid (only_own HO1.out ho2 (by omega))
    have hres2 := ho2.heap HRES.out (by simp; omega)
    clear hr2 ho2 HRES HO1 HR
    have c0 := cell_of_row _ _ 0 _ _ _ hres2
    have c1 := cell_of_row _ _ 1 _ _ _ hres2
    have c2 := cell_of_row _ _ 2 _ _ _ hres2
    have hf : ∀ i, w2.frozen? ⟨w.heap.size, i, none⟩ = false := fun i => by simp [World.frozen?, hres2]
    simp only [List.getElem?_toArray, List.getElem?_cons_zero, List.getElem?_cons_succ] at c0 c1 c2
    clear hres2
    go_wp2_with (go_at_call 19; refine (err_c w2 B _ r be _ HR2.out).mono ?_; rintro e w' ⟨rfl, rfl⟩)
    (try simp only [Exit.inBlock, Exit.then])
    refine bodyPost_ret (v := .tuple #[.agg #[.bool false, .int .i64 0, .int .i64 0], .int .i64 be]) (by rw [results_cell_tmp rfl]; go_simp) rfl ⟨rfl, ?_⟩
    repeat (first | exact HO2.out | refine Only.setCell ?_ (.inr (by simp)) _)

set_option maxHeartbeats 1000000 in
theorem writeblock_no (w : World) (b : Bool) (k s : Int) (h : k < 0 ∨ 2 < k ∨ s < 0 ∨ 2097151 < s) : Calls Try.prog 15 #[.agg #[.bool b, .int .i64 k, .int .i64 s]] w fun e w' => e = .returned (.tuple #[.slice none 0 0, .int .i64 1]) ∧ Only [] w w' := by
  have hc : k < 0 ∨ (0 ≤ k ∧ 2 < k) ∨ (0 ≤ k ∧ k ≤ 2 ∧ s < 0) ∨ (0 ≤ k ∧ k ≤ 2 ∧ 0 ≤ s ∧ 2097152 ≤ s) := by omega
  clear h
  rcases hc with h1 | ⟨h1, h2⟩ | ⟨h1, h2, h3⟩ | ⟨h1, h2, h3, h4⟩
  all_goals
    go_enter Try.func15, Try.ntmps15
    go_wp2
    go_ret2
    exact ⟨rfl, (Only.refl [] w).alloc _⟩

end Go.Proofs.Ytkblnlddamojoaa.frm
