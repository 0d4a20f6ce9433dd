/-
  THE WALK of the reference's ReadBlock.
-/
import Derived.Test.YtkblnlddamojoaaFrmRefR
import Derived.Test.YtkblnlddamojoaaFrmBlk2
set_option linter.unusedVariables false
set_option linter.unusedSimpArgs false
namespace Go.Proofs.Ytkblnlddamojoaa.frm
open Go Go.RowKit Go.Lm Go.Proofs.Ytkblnlddamojoaa.cur

set_option maxRecDepth 100000 in
set_option maxHeartbeats 4000000 in
theorem refreadblock_c (w : World) (s : ByteArray) (l : List UInt8) (hs : s.data.toList = l) (hl : l.length ≤ 1000000) : Calls Try.prog 14 #[.string s] w fun e w' => e = .returned (.tuple #[bkV (blk l).1.1 (blk l).1.2.1 (blk l).1.2.2, .int .i64 (blk l).2]) ∧ Only [] w w' := by
  have HS := Lib.hid hs
  have hsz0 : s.size ≤ 140737488355328 := by have := len_data s; rw [hs] at this; omega
  have HSZ0 := Lib.hid hsz0
  clear hs hsz0
  have hx := Frm.rnum_lt l 0 3
  obtain ⟨⟨L', E, X⟩, hT⟩ : ∃ t, Cur.rnum l 0 3 = t := ⟨_, rfl⟩
  rw [show ((3 : Nat) : Int) = 3 from rfl, hT] at hx
  have hx : X < 16777216 := hx
  obtain ⟨⟨⟨bl, bk⟩, be⟩, hb⟩ : ∃ t, blk l = t := ⟨_, rfl⟩
  have hbe : ((bl, bk), be) = if E ≠ 0 then ((false, 0, 0), E) else if X / 2 % 4 = 3 then ((false, 0, 0), 11) else ((X % 2 == 1, X / 2 % 4, X / 8), 0) := by
    rw [← hb]; unfold blk; rw [hT]
  rw [hb]
  have e1 : (X : Int) / 2 = ((X / 2 : Nat) : Int) := by omega
  have e2 : (X : Int) / 8 = ((X / 8 : Nat) : Int) := by omega
  have e3 : (X : Int) % 2 = ((X % 2 : Nat) : Int) := by omega
  have e4 : ((X / 2 : Nat) : Int) % 4 = ((X / 2 % 4 : Nat) : Int) := by omega
  obtain ⟨K, hK⟩ : ∃ K, X / 2 % 4 = K := ⟨_, rfl⟩
  obtain ⟨O, hO⟩ : ∃ O, X % 2 = O := ⟨_, rfl⟩
  obtain ⟨H, hH⟩ : ∃ H, X / 2 = H := ⟨_, rfl⟩
  obtain ⟨G, hG⟩ : ∃ G, X / 8 = G := ⟨_, rfl⟩
  rw [hH] at e1 e4 hK
  rw [hG] at e2
  rw [hK] at e4
  rw [hO] at e3
  rw [hH, hK, hO, hG] at hbe
  have hO1 : ((O : Int) == 1) = (O == 1) := by rw [Bool.eq_iff_iff]; simp; omega
  have hK3 : (K : Int) ≤ 3 := by omega
  have hG3 : (G : Int) ≤ 16777216 := by omega
  have HT := Lib.hid hT
  clear hT hb hK hO hH hG
  go_enter Try.func14, Try.ntmps14
  go_upto_region 1 with fail
  have hres : (w.alloc (.cells #[.bool false, .int .i64 0, .int .i64 0] 41 (0, 0))).heap[w.heap.size]? = some (.cells #[.bool false, .int .i64 0, .int .i64 0] 41 (0, 0)) := heap_alloc_new w _
  have HO : Hid (Only [] w (w.alloc (.cells #[.bool false, .int .i64 0, .int .i64 0] 41 (0, 0)))) := (Only.refl [] w).alloc _
  have HSZ : Hid ((w.alloc (.cells #[.bool false, .int .i64 0, .int .i64 0] 41 (0, 0))).heap.size = w.heap.size + 1) := by show _ = _; simp
  have HRES := Lib.hid hres; clear hres
  generalize World.alloc w _ = W at *
  go_wp2_with fail
  refine (refnumber_c W s 0 3 HSZ0.out).mono ?_
  rintro e w2 ⟨s1, rfl, hs1, ho2⟩
  rw [HS.out, HT.out] at hs1 ⊢
  rw [show RV s1 (L', E, X).2.1 = .agg #[.string s1, .int .i64 E] from rfl]
  go_upto_region 2 with fail
  have hal : Only [] w2 (w2.alloc (.cells #[.string s1, .int .i64 E] 60 (0, 0))) := (Only.refl [] w2).alloc _
  have hrb : RB (w2.alloc (.cells #[.string s1, .int .i64 E] 60 (0, 0))) w2.heap.size s1 E := P2.new w2 _ _ _
  have hres2 := ho2.heap HRES.out (by simp)
  have hres3 := hal.heap hres2 (by simp)
  have HO2 := Lib.hid ((HO.out.then ho2).then hal)
  have hr0 : w.heap.size < w2.heap.size := by have := HSZ.out; have := ho2.size; omega
  clear hs1 hal ho2 hres2
  generalize World.alloc w2 _ = w3 at *
  generalize w2.heap.size = r at *
  obtain ⟨r0, r1, rf⟩ := P2.cells hrb
  have c0 := cell_of_row _ _ 0 _ _ _ hres3
  have c1 := cell_of_row _ _ 1 _ _ _ hres3
  have c2 := cell_of_row _ _ 2 _ _ _ hres3
  have hf : ∀ i, w3.frozen? ⟨w.heap.size, i, none⟩ = false := fun i => by simp [World.frozen?, hres3]
  simp only [List.getElem?_toArray, List.getElem?_cons_zero, List.getElem?_cons_succ] at c0 c1 c2
  have hne1 : ¬ r = w.heap.size := by omega
  have hne2 : ¬ w.heap.size = r := by omega
  clear hr0 hres3 hrb HRES HSZ HO
  by_cases hE : E = 0
  · subst hE
    rw [if_neg (by simp)] at hbe
    by_cases hk : K = 3
    · rw [if_pos hk] at hbe
      simp only [Prod.mk.injEq] at hbe
      obtain ⟨⟨rfl, rfl⟩, rfl⟩ := hbe
      have hk2 : ((K : Int) == 3) = true := by rw [beq_iff_eq]; omega
      clear hk
      go_upto_region 5 with fail
      iterate 24 (try (first | go_step | go_simp))
      (try simp only [Exit.inBlock, Exit.then])
      refine bodyPost_ret (v := .tuple #[.agg #[.bool false, .int .i64 0, .int .i64 0], .int .i64 11]) (by rw [results_cell_tmp rfl]; go_simp) rfl ⟨rfl, ?_⟩
      repeat (first | exact HO2.out | refine Only.setCell ?_ (.inr (by simp)) _ | refine Only.drew ?_)
    · rw [if_neg hk] at hbe
      simp only [Prod.mk.injEq] at hbe
      obtain ⟨⟨rfl, rfl, rfl⟩, rfl⟩ := hbe
      have hk2 : ((K : Int) == 3) = false := by rw [beq_eq_false_iff_ne]; omega
      clear hk
      go_wp2_with fail
      (try simp only [Exit.inBlock, Exit.then])
      refine bodyPost_ret (v := .tuple #[.agg #[.bool (O == 1), .int .i64 (K : Int), .int .i64 (G : Int)], .int .i64 0]) (by rw [results_cell_tmp rfl]; go_simp) rfl ⟨rfl, ?_⟩
      repeat (first | exact HO2.out | refine Only.setCell ?_ (.inr (by simp)) _ | refine Only.drew ?_)
  · rw [if_pos hE] at hbe
    simp only [Prod.mk.injEq] at hbe
    obtain ⟨⟨rfl, rfl⟩, rfl⟩ := hbe
    have hEI : (be != 0) = true := bne_iff_ne.2 hE
    clear hE
    go_upto_region 3 with fail
    go_region
    all_goals
      iterate 24 (try (first | go_step | go_simp))
      (try simp only [Exit.inBlock, Exit.then])
      refine bodyPost_ret (v := .tuple #[.agg #[.bool false, .int .i64 0, .int .i64 0], .int .i64 be]) (by rw [results_cell_tmp rfl]; go_simp) rfl ⟨rfl, ?_⟩
      repeat (first | exact HO2.out | refine Only.setCell ?_ (.inr (by simp)) _ | refine Only.drew ?_)
end Go.Proofs.Ytkblnlddamojoaa.frm
