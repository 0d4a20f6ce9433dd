/-
  THE WALK of the reference's Read.
-/
import Derived.Test.YtkblnlddamojoaaFrmBlk
set_option linter.unusedVariables false
set_option linter.unusedSimpArgs false
namespace Go.Proofs.Ytkblnlddamojoaa.frm
open Go Go.RowKit Go.Lm Go.Proofs.Ytkblnlddamojoaa.cur

/-- Block r is the reference's reader. -/
def RB (w : World) (r : Nat) (s : ByteArray) (e : Int) : Prop := P2 w r 60 (.string s) (.int .i64 e)
theorem RB.only {S : List Nat} {w w' : World} {r : Nat} {s : ByteArray} {e : Int} (h : RB w r s e) (ho : Only S w w') (hn : r ∉ S) : RB w' r s e := P2.only h ho hn
theorem RB.lt {w : World} {r : Nat} {s : ByteArray} {e : Int} (h : RB w r s e) : r < w.heap.size := P2.lt h
theorem HC.alloc2 (w : World) (t : TypeId) : ∀ W, (w.alloc (.cells (hdC 0 0 false false) t (0, 0))).alloc (.cells (hdC 0 0 false false) t (0, 0)) = W → HC W w.heap.size t 0 0 false false ∧ HC W (w.heap.size + 1) t 0 0 false false ∧ Only [] w W ∧ W.heap.size = w.heap.size + 1 + 1 := by
  rintro W rfl
  refine ⟨?_, ?_, ((Only.refl [] w).alloc _).alloc _, by simp⟩
  · unfold HC; rw [Below.heap_alloc _ _ _ (by simp)]; exact heap_alloc_new w _
  · unfold HC; simpa using heap_alloc_new (w.alloc (.cells (hdC 0 0 false false) t (0, 0))) _
theorem rnum_len (l : List UInt8) (e n : Int) : (Cur.rnum l e n).1.length ≤ l.length := Cur.rtake_left _ _ _ _

set_option maxRecDepth 100000 in
set_option maxHeartbeats 4000000 in
theorem refread_nil (w : World) (s : ByteArray) (hs : s.data.toList = []) : Calls Try.prog 10 #[.string s] w fun e w' => e = .returned (.tuple #[hdV ⟨0, 0, false, false⟩, .int .i64 0, .int .i64 10]) ∧ Only [] w w' := by
  have HS := Lib.hid hs; clear hs
  have hR := rnum_nil
  have HRN := Lib.hid hR; clear hR
  go_enter Try.func10, Try.ntmps10
  go_upto_region 2 with fail
  generalize hW : World.alloc (World.alloc w _) _ = W
  obtain ⟨hres, hh, ho, hsz⟩ := HC.alloc2 w 30 W hW
  have HRES := Lib.hid hres; have HH := Lib.hid hh; have HO := Lib.hid ho; have HSZ := Lib.hid hsz
  clear hW hres hh ho hsz
  go_wp2_with fail
  refine (refnumber_c W s 0 1 (by have := len_data s; rw [HS.out] at this; simp at this; omega)).mono ?_
  rintro e w2 ⟨s1, rfl, hs1, ho2⟩
  rw [HS.out, HRN.out] at hs1 ⊢
  rw [show RV s1 ([], (10 : Int), (0 : Nat)).2.1 = .agg #[.string s1, .int .i64 10] from rfl]
  go_upto_region 3 with fail
  have hal : Only [] w2 (w2.alloc (.cells #[.string s1, .int .i64 10] 60 (0, 0))) := (Only.refl [] w2).alloc _
  have hrb : RB (w2.alloc (.cells #[.string s1, .int .i64 10] 60 (0, 0))) w2.heap.size s1 10 := P2.new w2 _ _ _
  obtain ⟨c0, c1, c2, c3, cf⟩ := ((HH.out.only ho2 (by simp)).only hal (by simp)).cells
  obtain ⟨d0, d1, d2, d3, df⟩ := ((HRES.out.only ho2 (by simp)).only hal (by simp)).cells
  obtain ⟨r0, r1, rf⟩ := P2.cells hrb
  have HO2 := Lib.hid ((HO.out.then ho2).then hal)
  clear hs1 hal hrb
  generalize World.alloc w2 _ = w3 at *
  have hr0 : w.heap.size < w2.heap.size := by have := HSZ.out; have := ho2.size; omega
  clear ho2
  generalize w2.heap.size = r at *
  have hne1 : ¬ r = w.heap.size := by omega
  have hne2 : ¬ w.heap.size = r := by omega
  clear hr0
  go_upto_region 4 with fail
  go_region
  all_goals
    iterate 24 (try (first | go_step | go_simp))
    (try simp only [Exit.inBlock, Exit.then])
    refine bodyPost_ret (v := .tuple #[.agg #[.int .u64 0, .int .u64 0, .bool false, .bool false], .int .i64 0, .int .i64 10]) (by rw [results_cell_tmp2 rfl]; go_simp) rfl ⟨rfl, ?_⟩
    repeat (first | exact HO2.out | refine Only.setCell ?_ (.inr (by simp)) _ | refine Only.drew ?_)

set_option maxRecDepth 100000 in
set_option maxHeartbeats 4000000 in
theorem refread_res (w : World) (s : ByteArray) (c : UInt8) (l : List UInt8) (hs : s.data.toList = c :: l) (hl : l.length ≤ 1000000) (hc : c.toNat / 8 % 2 = 1) : Calls Try.prog 10 #[.string s] w fun e w' => e = .returned (.tuple #[hdV ⟨0, 0, false, false⟩, .int .i64 0, .int .i64 11]) ∧ Only [] w w' := by
  have HRN := Lib.hid (rnum_cons c l)
  have HL := Lib.hid hs
  have hcu := c.toNat_lt
  have hsz0 : s.size ≤ 140737488355328 := by have := len_data s; rw [hs] at this; simp at this; omega
  have HSZ0 := Lib.hid hsz0
  have hss : s.size = l.length + 1 := by have := len_data s; rw [hs] at this; simpa using this.symm
  have HSS0 := Lib.hid hss
  obtain ⟨d, hd⟩ : ∃ d, c.toNat = d := ⟨_, rfl⟩
  rw [hd] at HRN hcu hc
  try rw [hd]
  clear hs hsz0 hss
  go_enter Try.func10, Try.ntmps10
  go_upto_region 2 with fail
  generalize hW : World.alloc (World.alloc w _) _ = W
  obtain ⟨hres, hh, ho, hsz⟩ := HC.alloc2 w 30 W hW
  have HRES := Lib.hid hres; have HH := Lib.hid hh; have HO := Lib.hid ho; have HSZ := Lib.hid hsz
  clear hW hres hh ho hsz
  go_wp2_with fail
  refine (refnumber_c W s 0 1 HSZ0.out).mono ?_
  rintro e w2 ⟨s1, rfl, hs1, ho2⟩
  rw [HL.out, HRN.out] at hs1 ⊢
  rw [show RV s1 (l, (0 : Int), d).2.1 = .agg #[.string s1, .int .i64 0] from rfl]
  have hs1' : s1.data.toList = l := hs1
  go_upto_region 3 with fail
  have hal : Only [] w2 (w2.alloc (.cells #[.string s1, .int .i64 0] 60 (0, 0))) := (Only.refl [] w2).alloc _
  have hrb : RB (w2.alloc (.cells #[.string s1, .int .i64 0] 60 (0, 0))) w2.heap.size s1 0 := P2.new w2 _ _ _
  have hh3 := ((HH.out.only ho2 (by simp)).only hal (by simp))
  have hres3 := ((HRES.out.only ho2 (by simp)).only hal (by simp))
  have ho3 := (HO.out.then ho2).then hal
  generalize World.alloc w2 _ = w3 at *
  have hr0 : w.heap.size + 1 < w2.heap.size := by have := HSZ.out; have := ho2.size; omega
  clear ho2 hal hs1 HH HRES HO HSZ
  obtain ⟨r, hr⟩ : ∃ r, w2.heap.size = r := ⟨_, rfl⟩
  rw [hr] at hrb hr0 ⊢
  obtain ⟨N, hN⟩ : ∃ N, w.heap.size + 1 = N := ⟨_, rfl⟩
  rw [hN] at hh3 hr0 ⊢
  have hNw : w.heap.size < N := by omega
  have HRB := Lib.hid hrb; have HH := Lib.hid hh3; have HRES := Lib.hid hres3; have HO := Lib.hid ho3; have HS1 := Lib.hid hs1'; have HR0 := Lib.hid hr0; have HNW := Lib.hid hNw
  obtain ⟨r0, r1, rf⟩ := P2.cells hrb
  clear hrb hh3 hres3 ho3 hs1' hr hN
  have t1 : ((d : Int) / 8 % 2 == 1) = true := by rw [beq_iff_eq]; omega
  obtain ⟨d0, d1, d2, d3, df⟩ := HH.out.cells
  obtain ⟨e0, e1, e2, e3, ef⟩ := HRES.out.cells
  clear hc hr0 hNw
  go_wp2_with fail
  iterate 24 (try (first | go_step | go_simp))
  (try simp only [Exit.inBlock, Exit.then])
  refine bodyPost_ret (v := .tuple #[.agg #[.int .u64 0, .int .u64 0, .bool false, .bool false], .int .i64 0, .int .i64 11]) (by rw [results_cell_tmp2 rfl]; go_simp) rfl ⟨rfl, ?_⟩
  repeat (first | exact HO.out | refine Only.setCell ?_ (.inr (by simp)) _ | refine Only.drew ?_)

set_option maxRecDepth 100000 in
set_option maxHeartbeats 8000000 in
theorem refread_body (w : World) (s : ByteArray) (c : UInt8) (l : List UInt8) (hs : s.data.toList = c :: l) (hl : l.length ≤ 1000000) (hc : c.toNat / 8 % 2 ≠ 1) : Calls Try.prog 10 #[.string s] w fun e w' => e = .returned (.tuple #[hdV (Frm.body c.toNat l).1, .int .i64 (Frm.body c.toNat l).2.1, .int .i64 (Frm.body c.toNat l).2.2]) ∧ Only [] w w' := by
  have HRN := Lib.hid (rnum_cons c l)
  have HL := Lib.hid hs
  have hcu := c.toNat_lt
  have hsz0 : s.size ≤ 140737488355328 := by have := len_data s; rw [hs] at this; simp at this; omega
  have HSZ0 := Lib.hid hsz0
  have hss : s.size = l.length + 1 := by have := len_data s; rw [hs] at this; simpa using this.symm
  have HSS0 := Lib.hid hss
  obtain ⟨d, hd⟩ : ∃ d, c.toNat = d := ⟨_, rfl⟩
  rw [hd] at HRN hcu hc
  try rw [hd]
  obtain ⟨⟨hdv, mv, ev⟩, hbd⟩ : ∃ t, Frm.body d l = t := ⟨_, rfl⟩
  rw [hbd]
  have HBD := Lib.hid hbd; clear hbd
  clear hs hsz0 hss
  go_enter Try.func10, Try.ntmps10
  go_upto_region 2 with fail
  generalize hW : World.alloc (World.alloc w _) _ = W
  obtain ⟨hres, hh, ho, hsz⟩ := HC.alloc2 w 30 W hW
  have HRES := Lib.hid hres; have HH := Lib.hid hh; have HO := Lib.hid ho; have HSZ := Lib.hid hsz
  clear hW hres hh ho hsz
  go_wp2_with fail
  refine (refnumber_c W s 0 1 HSZ0.out).mono ?_
  rintro e w2 ⟨s1, rfl, hs1, ho2⟩
  rw [HL.out, HRN.out] at hs1 ⊢
  rw [show RV s1 (l, (0 : Int), d).2.1 = .agg #[.string s1, .int .i64 0] from rfl]
  have hs1' : s1.data.toList = l := hs1
  go_upto_region 3 with fail
  have hal : Only [] w2 (w2.alloc (.cells #[.string s1, .int .i64 0] 60 (0, 0))) := (Only.refl [] w2).alloc _
  have hrb : RB (w2.alloc (.cells #[.string s1, .int .i64 0] 60 (0, 0))) w2.heap.size s1 0 := P2.new w2 _ _ _
  have hh3 := ((HH.out.only ho2 (by simp)).only hal (by simp))
  have hres3 := ((HRES.out.only ho2 (by simp)).only hal (by simp))
  have ho3 := (HO.out.then ho2).then hal
  generalize World.alloc w2 _ = w3 at *
  have hr0 : w.heap.size + 1 < w2.heap.size := by have := HSZ.out; have := ho2.size; omega
  clear ho2 hal hs1 HH HRES HO HSZ
  obtain ⟨r, hr⟩ : ∃ r, w2.heap.size = r := ⟨_, rfl⟩
  rw [hr] at hrb hr0 ⊢
  obtain ⟨N, hN⟩ : ∃ N, w.heap.size + 1 = N := ⟨_, rfl⟩
  rw [hN] at hh3 hr0 ⊢
  have hNw : w.heap.size < N := by omega
  have HRB := Lib.hid hrb; have HH := Lib.hid hh3; have HRES := Lib.hid hres3; have HO := Lib.hid ho3; have HS1 := Lib.hid hs1'; have HR0 := Lib.hid hr0; have HNW := Lib.hid hNw
  obtain ⟨r0, r1, rf⟩ := P2.cells hrb
  clear hrb hh3 hres3 ho3 hs1' hr hN
  have t1 : ((d : Int) / 8 % 2 == 1) = false := by rw [beq_eq_false_iff_ne]; omega
  obtain ⟨sb, hsb⟩ : ∃ sb, (d / 4 % 2 == 1) = sb := ⟨_, rfl⟩
  have t2 : ((d : Int) / 4 % 2 == 1) = sb := by rw [← hsb, Bool.eq_iff_iff]; simp; omega
  obtain ⟨ob, hob⟩ : ∃ ob, Frm.one d = ob := ⟨_, rfl⟩
  have t3 : ((d : Int) / 32 % 2 == 1) = ob := by rw [← hob, Bool.eq_iff_iff]; unfold Frm.one; simp; omega
  have HOB := Lib.hid hob; have HSB := Lib.hid hsb
  obtain ⟨d0, d1, d2, d3, df⟩ := HH.out.cells
  clear hc hob hsb
  go_upto_region 8 with fail
  have hh4 : HC (w3.setCell ⟨N, 3, none⟩ (.bool sb)) N 30 0 0 false sb := (Go.Lm.heap_setCell_same (k := 3) HH.out _).trans rfl
  have hos : Only [N] w3 (w3.setCell ⟨N, 3, none⟩ (.bool sb)) := (Only.refl [N] w3).setCell (.inl (by simp)) _
  have hrb4 := HRB.out.only hos (by simp; omega)
  have hre4 := HRES.out.only hos (by simp; omega)
  have hoo4 := only_own HO.out hos (by omega)
  generalize World.setCell w3 _ _ = w4 at *
  have HRB4 := Lib.hid hrb4; have HH4 := Lib.hid hh4; have HRES4 := Lib.hid hre4; have HO4 := Lib.hid hoo4
  clear hh4 hos hrb4 hre4 hoo4 HRB HH HRES HO d0 d1 d2 d3 df r0 r1 rf t1 t2
  go_upto_if 44 with fail
  clear t3
  obtain ⟨L2, E2, X2, hs2⟩ : ∃ a b c, Frm.s2 d l = (a, b, c) := ⟨_, _, _, rfl⟩
  have hst2 : (L2, E2, X2) = Frm.step (!ob) l 0 1 := by rw [← hs2]; unfold Frm.s2; rw [HOB.out]
  have hle2 : L2.length ≤ l.length := by have h := Frm.step_left (!ob) l 0 1; rw [← hst2] at h; exact h
  obtain ⟨WN, hWN⟩ : ∃ WN, Frm.win2 d l = WN := ⟨_, rfl⟩
  have hwn : WN = if ob then 0 else Frm.window X2 := by rw [← hWN]; unfold Frm.win2; rw [HOB.out, hs2]
  have HS2 := Lib.hid hs2; have HST2 := Lib.hid hst2; have HLE2 := Lib.hid hle2; have HWN := Lib.hid hWN; have HWNE := Lib.hid hwn; have HSL1 : Hid (s1.size ≤ 1000000) := by have h1 := len_data s1; rw [HS1.out] at h1; show _ ≤ _; omega
  clear hs2 hst2 hle2 hWN hwn
  go_cut [] (fun wx => ∃ sX : ByteArray, RB wx r sX E2 ∧ sX.data.toList = L2 ∧ HC wx N 30 WN 0 false sb ∧ HC wx w.heap.size 30 0 0 false false ∧ Only [] w wx)
  case first =>
    cases ob with
    | true =>
      have e1 : (L2, E2, X2) = (l, 0, 0) := HST2.out
      simp only [Prod.mk.injEq] at e1
      obtain ⟨rfl, rfl, rfl⟩ := e1
      have e2 : WN = 0 := by rw [HWNE.out]; rfl
      subst e2
      go_wp2_with fail
      go_meet
      exact ⟨s1, HRB4.out, HS1.out, HH4.out, HRES4.out, HO4.out⟩
    | false =>
      have e1 : (L2, E2, X2) = Cur.rnum l 0 1 := HST2.out
      have e2 : WN = Frm.window X2 := by rw [HWNE.out]; rfl
      have e3 : X2 < 256 := by have h := Frm.rnum_lt l 0 1; rw [show ((1 : Nat) : Int) = 1 from rfl, ← e1] at h; exact h
      have E1 := Lib.hid e1; have E2' := Lib.hid e2; have E3 := Lib.hid e3
      clear e1 e2 e3
      obtain ⟨r0, r1, rf⟩ := P2.cells HRB4.out
      go_wp2_with fail
      clear r0 r1 rf
      refine (refnumber_c w4 s1 0 1 (by have := HSL1.out; omega)).mono ?_
      rintro e w5 ⟨sB, rfl, hsB, ho5⟩
      rw [HS1.out, ← E1.out] at hsB ⊢
      rw [show RV sB (L2, E2, X2).2.1 = .agg #[.string sB, .int .i64 E2] from rfl]
      have HSB' : Hid (sB.data.toList = L2) := hsB
      have HRB5 := Lib.hid (HRB4.out.only ho5 (by simp)); have HH5 := Lib.hid (HH4.out.only ho5 (by simp)); have HRES5 := Lib.hid (HRES4.out.only ho5 (by simp)); have HO5 := Lib.hid (HO4.out.then ho5)
      have hrl5 := HRB5.out.lt
      clear hsB ho5
      go_upto_region 11 with fail
      have hal : Only [] w5 (w5.alloc (.cells #[.string sB, .int .i64 E2] 60 (0, 0))) := (Only.refl [] w5).alloc _
      have hq : RB (w5.alloc (.cells #[.string sB, .int .i64 E2] 60 (0, 0))) w5.heap.size sB E2 := P2.new w5 _ _ _
      generalize World.alloc w5 _ = w6 at *
      obtain ⟨q0, q1, qf⟩ := P2.cells hq
      have hrb6 := HRB5.out.only hal (by simp)
      obtain ⟨r0, r1, rf⟩ := P2.cells hrb6
      have HRB6 := Lib.hid hrb6; have HH6 := Lib.hid (HH5.out.only hal (by simp)); have HRES6 := Lib.hid (HRES5.out.only hal (by simp)); have HO6 := Lib.hid (HO5.out.then hal)
      clear hal hq hrb6
      go_upto_region 12 with fail
      have hrb7 : RB ((w6.setCell ⟨r, 0, none⟩ (.string sB)).setCell ⟨r, 1, none⟩ (.int .i64 E2)) r sB E2 := P2.set HRB6.out _ _
      have hos := only_set w6 r (.string sB) (.int .i64 E2)
      generalize World.setCell (World.setCell w6 _ _) _ _ = w7 at *
      have hh7 := HH6.out.only hos (by simp; omega)
      have HRB7 := Lib.hid hrb7; have HH7 := Lib.hid hh7; have HRES7 := Lib.hid (HRES6.out.only hos (by simp; omega)); have HO7 := Lib.hid (only_own HO6.out hos (by omega))
      clear hos hrb7 q0 q1 qf r0 r1 rf
      obtain ⟨d0, d1, d2, d3, df⟩ := hh7.cells
      clear hh7
      go_wp2_with fail
      refine (refwindow_c w7 _ E3.out).mono ?_
      rintro e w' ⟨rfl, rfl⟩
      rw [← E2'.out]
      have hs := HH7.out.set0 WN
      have hos : Only [N] w7 (w7.setCell ⟨N, 0, none⟩ (.int .u64 (WN : Nat))) := (Only.refl [N] w7).setCell (.inl (by simp)) _
      have hrr := HRB7.out.only hos (by simp; omega)
      have hre := HRES7.out.only hos (by simp; omega)
      have hoo := only_own HO7.out hos (by omega)
      have HS := Lib.hid hs; have HRR := Lib.hid hrr; have HRE := Lib.hid hre; have HOO := Lib.hid hoo
      clear hs hos hrr hre hoo
      go_wp2_with fail
      go_meet
      exact ⟨sB, HRR.out, HSB'.out, HS.out, HRE.out, HOO.out⟩
  case rest =>
    obtain ⟨sA, hr4, hsA, hh4, hre4, ho4⟩ := hcut
    have HRA := Lib.hid hr4; have HSA := Lib.hid hsA; have HHA := Lib.hid hh4; have HREA := Lib.hid hre4; have HOA := Lib.hid ho4
    obtain ⟨wA, hwA⟩ : ∃ wA, wA = wc := ⟨_, rfl⟩
    subst hwA
    clear hr4 hsA hh4 hre4 ho4 HRB4 HH4 HRES4 HO4 HSL1 HS1
    go_upto_region 14 with fail
    have hm4 : d % 4 = 0 ∨ d % 4 = 1 ∨ d % 4 = 2 ∨ d % 4 = 3 := by omega
    obtain ⟨D, hD⟩ : ∃ D, Frm.dn d = D := ⟨_, rfl⟩
    have HD := Lib.hid hD
    clear hD
    go_cut [12] (fun s12 wx => s12 = .int .i64 (D : Int) ∧ RB wx r sA E2 ∧ HC wx N 30 WN 0 false sb ∧ HC wx w.heap.size 30 0 0 false false ∧ Only [] w wx)
    case first =>
      rcases hm4 with hm | hm | hm | hm
      · have hDv : D = 0 := by rw [← HD.out]; unfold Frm.dn; rw [hm]; rfl
        subst hDv
        have hmi : (d : Int) % 4 = 0 := by omega
        have hal : ∀ o, Only [] wA (wA.alloc o) := fun o => (Only.refl [] wA).alloc o
        have hr := fun o => HRA.out.only (hal o) (by simp)
        have hx := fun o => HHA.out.only (hal o) (by simp)
        have he := fun o => HREA.out.only (hal o) (by simp)
        have ho := fun o => HOA.out.then (hal o)
        have HR := Lib.hid hr; have HX := Lib.hid hx; have HE := Lib.hid he; have HO := Lib.hid ho
        clear hal hr hx he ho hm
        go_wp2_with fail
        go_meet
        exact ⟨rfl, HR.out _, HX.out _, HE.out _, HO.out _⟩
      · have hDv : D = 1 := by rw [← HD.out]; unfold Frm.dn; rw [hm]; rfl
        subst hDv
        have hmi : (d : Int) % 4 = 1 := by omega
        have hal : ∀ o, Only [] wA (wA.alloc o) := fun o => (Only.refl [] wA).alloc o
        have hr := fun o => HRA.out.only (hal o) (by simp)
        have hx := fun o => HHA.out.only (hal o) (by simp)
        have he := fun o => HREA.out.only (hal o) (by simp)
        have ho := fun o => HOA.out.then (hal o)
        have HR := Lib.hid hr; have HX := Lib.hid hx; have HE := Lib.hid he; have HO := Lib.hid ho
        clear hal hr hx he ho hm
        go_wp2_with fail
        go_meet
        exact ⟨rfl, HR.out _, HX.out _, HE.out _, HO.out _⟩
      · have hDv : D = 2 := by rw [← HD.out]; unfold Frm.dn; rw [hm]; rfl
        subst hDv
        have hmi : (d : Int) % 4 = 2 := by omega
        have hal : ∀ o, Only [] wA (wA.alloc o) := fun o => (Only.refl [] wA).alloc o
        have hr := fun o => HRA.out.only (hal o) (by simp)
        have hx := fun o => HHA.out.only (hal o) (by simp)
        have he := fun o => HREA.out.only (hal o) (by simp)
        have ho := fun o => HOA.out.then (hal o)
        have HR := Lib.hid hr; have HX := Lib.hid hx; have HE := Lib.hid he; have HO := Lib.hid ho
        clear hal hr hx he ho hm
        go_wp2_with fail
        go_meet
        exact ⟨rfl, HR.out _, HX.out _, HE.out _, HO.out _⟩
      · have hDv : D = 4 := by rw [← HD.out]; unfold Frm.dn; rw [hm]; rfl
        subst hDv
        have hmi : (d : Int) % 4 = 3 := by omega
        have hal : ∀ o, Only [] wA (wA.alloc o) := fun o => (Only.refl [] wA).alloc o
        have hr := fun o => HRA.out.only (hal o) (by simp)
        have hx := fun o => HHA.out.only (hal o) (by simp)
        have he := fun o => HREA.out.only (hal o) (by simp)
        have ho := fun o => HOA.out.then (hal o)
        have HR := Lib.hid hr; have HX := Lib.hid hx; have HE := Lib.hid he; have HO := Lib.hid ho
        clear hal hr hx he ho hm
        go_wp2_with fail
        go_meet
        exact ⟨rfl, HR.out _, HX.out _, HE.out _, HO.out _⟩
    case rest =>
      obtain ⟨rfl, hr5, hh5, hre5, ho5⟩ := hcut
      obtain ⟨wB, hwB⟩ : ∃ wB, wB = wc := ⟨_, rfl⟩
      subst hwB
      have HRBb := Lib.hid hr5; have HHB := Lib.hid hh5; have HREB := Lib.hid hre5; have HOB' := Lib.hid ho5
      clear hr5 hh5 hre5 ho5 HRA HHA HREA HOA hm4
      obtain ⟨L3, E3, X3, hs3⟩ : ∃ a b c, Frm.s3 d l = (a, b, c) := ⟨_, _, _, rfl⟩
      have hst3 : (L3, E3, X3) = Frm.step (0 < D) L2 E2 D := by rw [← hs3]; unfold Frm.s3; rw [HD.out, HS2.out]
      have hle3 : L3.length ≤ L2.length := by have h := Frm.step_left (0 < D) L2 E2 D; rw [← hst3] at h; exact h
      have hDc := Frm.dn_cases d
      rw [HD.out] at hDc
      have hDle : D ≤ 4 := by omega
      have HS3 := Lib.hid hs3; have HST3 := Lib.hid hst3; have HLE3 := Lib.hid hle3
      clear hs3 hst3 hle3 hDc
      go_upto_if 60 with fail
      go_cut [11] (fun s11 wx => s11 = .int .u64 (X3 : Int) ∧ ∃ sX : ByteArray, RB wx r sX E3 ∧ sX.data.toList = L3 ∧ HC wx N 30 WN 0 false sb ∧ HC wx w.heap.size 30 0 0 false false ∧ Only [] w wx)
      case first =>
        rcases Nat.eq_zero_or_pos D with hD0 | hDp
        · subst hD0
          have e1 : (L3, E3, X3) = (L2, E2, 0) := HST3.out
          simp only [Prod.mk.injEq] at e1
          obtain ⟨rfl, rfl, rfl⟩ := e1
          go_wp2_with fail
          go_meet
          exact ⟨rfl, sA, HRBb.out, HSA.out, HHB.out, HREB.out, HOB'.out⟩
        · have e1 : (L3, E3, X3) = Cur.rnum L2 E2 D := by have := HST3.out; unfold Frm.step at this; rw [if_pos (by simpa using hDp)] at this; exact this
          have E1 := Lib.hid e1; clear e1
          have hDI : (0 : Int) < (D : Int) := by omega
          obtain ⟨r0, r1, rf⟩ := P2.cells HRBb.out
          go_wp2_with fail
          clear r0 r1 rf
          refine (refnumber_c wB sA E2 D (by have h1 := len_data sA; rw [HSA.out] at h1; have := HLE2.out; omega)).mono ?_
          rintro e wa3 ⟨sB, rfl, hsB, hoa⟩
          rw [HSA.out, ← E1.out] at hsB ⊢
          rw [show RV sB (L3, E3, X3).2.1 = .agg #[.string sB, .int .i64 E3] from rfl]
          have HSB : Hid (sB.data.toList = L3) := hsB
          have HRa := Lib.hid (HRBb.out.only hoa (by simp)); have HHa := Lib.hid (HHB.out.only hoa (by simp)); have HEa := Lib.hid (HREB.out.only hoa (by simp)); have HOa := Lib.hid (HOB'.out.then hoa)
          have hrla := HRa.out.lt
          clear hsB hoa
          go_upto_region 17 with fail
          have hal : Only [] wa3 (wa3.alloc (.cells #[.string sB, .int .i64 E3] 60 (0, 0))) := (Only.refl [] wa3).alloc _
          have hq : RB (wa3.alloc (.cells #[.string sB, .int .i64 E3] 60 (0, 0))) wa3.heap.size sB E3 := P2.new wa3 _ _ _
          generalize World.alloc wa3 _ = wb3 at *
          obtain ⟨q0, q1, qf⟩ := P2.cells hq
          have hrb := HRa.out.only hal (by simp)
          obtain ⟨r0, r1, rf⟩ := P2.cells hrb
          have HRb := Lib.hid hrb; have HHb := Lib.hid (HHa.out.only hal (by simp)); have HEb := Lib.hid (HEa.out.only hal (by simp)); have HOb := Lib.hid (HOa.out.then hal)
          clear hal hq hrb
          go_upto_region 18 with fail
          have hrc : RB ((wb3.setCell ⟨r, 0, none⟩ (.string sB)).setCell ⟨r, 1, none⟩ (.int .i64 E3)) r sB E3 := P2.set HRb.out _ _
          have hos := only_set wb3 r (.string sB) (.int .i64 E3)
          generalize World.setCell (World.setCell wb3 _ _) _ _ = wc3 at *
          have HRc := Lib.hid hrc; have HHc := Lib.hid (HHb.out.only hos (by simp; omega)); have HEc := Lib.hid (HEb.out.only hos (by simp; omega)); have HOc := Lib.hid (only_own HOb.out hos (by omega))
          clear hos hrc q0 q1 qf r0 r1 rf
          go_wp2_with fail
          go_meet
          exact ⟨rfl, sB, HRc.out, HSB.out, HHc.out, HEc.out, HOc.out⟩
      case rest =>
        obtain ⟨rfl, sC, hr6, hsC, hh6, hre6, ho6⟩ := hcut
        obtain ⟨wC, hwC⟩ : ∃ wC, wC = wc := ⟨_, rfl⟩
        subst hwC
        have HRC := Lib.hid hr6; have HSC := Lib.hid hsC; have HHC := Lib.hid hh6; have HREC := Lib.hid hre6; have HOC := Lib.hid ho6
        clear hr6 hsC hh6 hre6 ho6 HRBb HHB HREB HOB' HSA
        go_upto_region 19 with fail
        have hm64 : d / 64 = 0 ∨ d / 64 = 1 ∨ d / 64 = 2 ∨ d / 64 = 3 := by omega
        obtain ⟨Z, hZ⟩ : ∃ Z, Frm.zn d = Z := ⟨_, rfl⟩
        have HZ := Lib.hid hZ
        clear hZ
        go_cut [12] (fun s12 wx => s12 = .int .i64 (Z : Int) ∧ RB wx r sC E3 ∧ HC wx N 30 WN 0 false sb ∧ HC wx w.heap.size 30 0 0 false false ∧ Only [] w wx)
        case first =>
          rcases hm64 with hm | hm | hm | hm
          · have hZv : Z = 0 := by rw [← HZ.out]; unfold Frm.zn; rw [hm]; rfl
            subst hZv
            have hmi : (d : Int) / 64 = 0 := by omega
            have hal : ∀ o, Only [] wC (wC.alloc o) := fun o => (Only.refl [] wC).alloc o
            have hr := fun o => HRC.out.only (hal o) (by simp)
            have hx := fun o => HHC.out.only (hal o) (by simp)
            have he := fun o => HREC.out.only (hal o) (by simp)
            have ho := fun o => HOC.out.then (hal o)
            have HR := Lib.hid hr; have HX := Lib.hid hx; have HE := Lib.hid he; have HO := Lib.hid ho
            clear hal hr hx he ho hm
            go_wp2_with fail
            go_meet
            exact ⟨rfl, HR.out _, HX.out _, HE.out _, HO.out _⟩
          · have hZv : Z = 2 := by rw [← HZ.out]; unfold Frm.zn; rw [hm]; rfl
            subst hZv
            have hmi : (d : Int) / 64 = 1 := by omega
            have hal : ∀ o, Only [] wC (wC.alloc o) := fun o => (Only.refl [] wC).alloc o
            have hr := fun o => HRC.out.only (hal o) (by simp)
            have hx := fun o => HHC.out.only (hal o) (by simp)
            have he := fun o => HREC.out.only (hal o) (by simp)
            have ho := fun o => HOC.out.then (hal o)
            have HR := Lib.hid hr; have HX := Lib.hid hx; have HE := Lib.hid he; have HO := Lib.hid ho
            clear hal hr hx he ho hm
            go_wp2_with fail
            go_meet
            exact ⟨rfl, HR.out _, HX.out _, HE.out _, HO.out _⟩
          · have hZv : Z = 4 := by rw [← HZ.out]; unfold Frm.zn; rw [hm]; rfl
            subst hZv
            have hmi : (d : Int) / 64 = 2 := by omega
            have hal : ∀ o, Only [] wC (wC.alloc o) := fun o => (Only.refl [] wC).alloc o
            have hr := fun o => HRC.out.only (hal o) (by simp)
            have hx := fun o => HHC.out.only (hal o) (by simp)
            have he := fun o => HREC.out.only (hal o) (by simp)
            have ho := fun o => HOC.out.then (hal o)
            have HR := Lib.hid hr; have HX := Lib.hid hx; have HE := Lib.hid he; have HO := Lib.hid ho
            clear hal hr hx he ho hm
            go_wp2_with fail
            go_meet
            exact ⟨rfl, HR.out _, HX.out _, HE.out _, HO.out _⟩
          · have hZv : Z = 8 := by rw [← HZ.out]; unfold Frm.zn; rw [hm]; rfl
            subst hZv
            have hmi : (d : Int) / 64 = 3 := by omega
            have hal : ∀ o, Only [] wC (wC.alloc o) := fun o => (Only.refl [] wC).alloc o
            have hr := fun o => HRC.out.only (hal o) (by simp)
            have hx := fun o => HHC.out.only (hal o) (by simp)
            have he := fun o => HREC.out.only (hal o) (by simp)
            have ho := fun o => HOC.out.then (hal o)
            have HR := Lib.hid hr; have HX := Lib.hid hx; have HE := Lib.hid he; have HO := Lib.hid ho
            clear hal hr hx he ho hm
            go_wp2_with fail
            go_meet
            exact ⟨rfl, HR.out _, HX.out _, HE.out _, HO.out _⟩
        case rest =>
          obtain ⟨rfl, hr7, hh7, hre7, ho7⟩ := hcut
          obtain ⟨wD, hwD⟩ : ∃ wD, wD = wc := ⟨_, rfl⟩
          subst hwD
          have HRD := Lib.hid hr7; have HHD := Lib.hid hh7; have HRED := Lib.hid hre7; have HOD := Lib.hid ho7
          clear hr7 hh7 hre7 ho7 HRC HHC HREC HOC hm64
          have hnn : Frm.nn d = if ob && (Z == 0) then 1 else Z := by unfold Frm.nn; rw [HOB.out, HZ.out]
          have hnc := Frm.nn_cases d
          have hZc := Frm.zn_cases d
          rw [HZ.out] at hZc
          have hZle : Z ≤ 8 := by omega
          obtain ⟨n, hn⟩ : ∃ n, Frm.nn d = n := ⟨_, rfl⟩
          rw [hn] at hnn hnc
          have HNN := Lib.hid hnn; have HN := Lib.hid hn; have HNC := Lib.hid hnc
          have hn8 : n ≤ 8 := by omega
          clear hnn hn hnc hZc
          obtain ⟨tb, htb⟩ : ∃ tb, (ob && (Z == 0)) = tb := ⟨_, rfl⟩
          have HTB := Lib.hid htb; clear htb
          go_upto_region 20 with fail
          go_cut [78] (fun s78 wx => s78 = .bool tb ∧ wD = wx)
          case first =>
            cases ob with
            | false =>
              have e : false = tb := by rw [← HTB.out]; rfl
              subst e
              by_cases hz0 : Z = 0
              · have hzb : ((Z : Int) == 0) = true := by rw [beq_iff_eq]; omega
                clear hz0
                go_wp2_with fail
                go_meet
                exact ⟨rfl, rfl⟩
              · have hzb : ((Z : Int) == 0) = false := by rw [beq_eq_false_iff_ne]; omega
                clear hz0
                go_wp2_with fail
                go_meet
                exact ⟨rfl, rfl⟩
            | true =>
              have e : (Z == 0) = tb := by rw [← HTB.out]; rfl
              by_cases hz0 : Z = 0
              · have hzb : ((Z : Int) == 0) = true := by rw [beq_iff_eq]; omega
                have et : tb = true := by rw [← e, hz0]; rfl
                subst et
                clear hz0 e
                go_wp2_with fail
                go_meet
                exact ⟨rfl, rfl⟩
              · have hzb : ((Z : Int) == 0) = false := by rw [beq_eq_false_iff_ne]; omega
                have et : tb = false := by rw [← e]; simpa using hz0
                subst et
                clear hz0 e
                go_wp2_with fail
                go_meet
                exact ⟨rfl, rfl⟩
          case rest =>
          obtain ⟨rfl, rfl⟩ := hcut
          go_upto_if 78 with fail
          go_cut [12] (fun s12 wx => s12 = .int .i64 (n : Int) ∧ wD = wx)
          case first =>
            cases tb with
            | false =>
              have hn : n = Z := by rw [HNN.out, HTB.out]; rfl
              subst hn
              go_wp2_with fail
              go_meet
              exact ⟨rfl, rfl⟩
            | true =>
              have hn : n = 1 := by rw [HNN.out, HTB.out]; rfl
              subst hn
              go_wp2_with fail
              go_meet
              exact ⟨rfl, rfl⟩
          case rest =>
            obtain ⟨rfl, rfl⟩ := hcut
            obtain ⟨L4, E4, X4, hs4⟩ : ∃ a b c, Frm.s4 d l = (a, b, c) := ⟨_, _, _, rfl⟩
            have hst4 : (L4, E4, X4) = Frm.step (0 < n) L3 E3 n := by rw [← hs4]; unfold Frm.s4; rw [HN.out, HS3.out]
            have hle4 : L4.length ≤ L3.length := by have h := Frm.step_left (0 < n) L3 E3 n; rw [← hst4] at h; exact h
            have hx4 : X4 < 18446744073709551616 := by
              have h := Frm.step_lt (0 < n) L3 E3 n
              rw [← hst4] at h
              have h2 : 256 ^ n ≤ 256 ^ 8 := Nat.pow_le_pow_right (by decide) hn8
              exact Nat.lt_of_lt_of_le h h2
            have hx16 : n = 2 → X4 < 65536 := by
              intro h2
              have h := Frm.step_lt (0 < n) L3 E3 n
              rw [← hst4, h2] at h
              exact h
            obtain ⟨S, hS⟩ : ∃ S, Frm.size d l = S := ⟨_, rfl⟩
            have hsz : S = if n = 2 then X4 + 256 else X4 := by rw [← hS]; unfold Frm.size; rw [HN.out, hs4]
            have HS4 := Lib.hid hs4; have HST4 := Lib.hid hst4; have HLE4 := Lib.hid hle4; have HX4 := Lib.hid hx4; have HX16 := Lib.hid hx16; have HSS := Lib.hid hS; have HSZ' := Lib.hid hsz
            clear hs4 hst4 hle4 hx4 hx16 hS hsz
            go_upto_if 80 with fail
            go_cut [] (fun wx => ∃ sX : ByteArray, RB wx r sX E4 ∧ sX.data.toList = L4 ∧ HC wx N 30 WN S (0 < n) sb ∧ HC wx w.heap.size 30 0 0 false false ∧ Only [] w wx)
            case first =>
              rcases Nat.eq_zero_or_pos n with hn0 | hnp
              · subst hn0
                have e1 : (L4, E4, X4) = (L3, E3, 0) := HST4.out
                simp only [Prod.mk.injEq] at e1
                obtain ⟨rfl, rfl, rfl⟩ := e1
                have e2 : S = 0 := HSZ'.out
                subst e2
                go_wp2_with fail
                go_meet
                exact ⟨sC, HRD.out, HSC.out, HHD.out, HRED.out, HOD.out⟩
              · have e1 : (L4, E4, X4) = Cur.rnum L3 E3 n := by have := HST4.out; unfold Frm.step at this; rw [if_pos (by simpa using hnp)] at this; exact this
                have E1 := Lib.hid e1; clear e1
                have hnI : (0 : Int) < (n : Int) := by omega
                have hdt : (decide (0 < n)) = true := by simpa using hnp
                have HDT := Lib.hid hdt; clear hdt
                have HLL : Hid (L3.length ≤ 1000000) := by have h1 := HLE2.out; have h2 := HLE3.out; show _ ≤ _; omega
                obtain ⟨r0, r1, rf⟩ := P2.cells HRD.out
                go_wp2_with fail
                clear r0 r1 rf
                refine (refnumber_c wD sC E3 n (by have h1 := len_data sC; rw [HSC.out] at h1; have := HLL.out; omega)).mono ?_
                rintro e wa4 ⟨sB, rfl, hsB, hoa⟩
                rw [HSC.out, ← E1.out] at hsB ⊢
                rw [show RV sB (L4, E4, X4).2.1 = .agg #[.string sB, .int .i64 E4] from rfl]
                have HSB : Hid (sB.data.toList = L4) := hsB
                have HRa := Lib.hid (HRD.out.only hoa (by simp)); have HHa := Lib.hid (HHD.out.only hoa (by simp)); have HEa := Lib.hid (HRED.out.only hoa (by simp)); have HOa := Lib.hid (HOD.out.then hoa)
                have hrla := HRa.out.lt
                clear hsB hoa
                go_upto_region 24 with fail
                have hal : Only [] wa4 (wa4.alloc (.cells #[.string sB, .int .i64 E4] 60 (0, 0))) := (Only.refl [] wa4).alloc _
                have hq : RB (wa4.alloc (.cells #[.string sB, .int .i64 E4] 60 (0, 0))) wa4.heap.size sB E4 := P2.new wa4 _ _ _
                generalize World.alloc wa4 _ = wb4 at *
                obtain ⟨q0, q1, qf⟩ := P2.cells hq
                have hrb := HRa.out.only hal (by simp)
                obtain ⟨r0, r1, rf⟩ := P2.cells hrb
                have HRb := Lib.hid hrb; have HHb := Lib.hid (HHa.out.only hal (by simp)); have HEb := Lib.hid (HEa.out.only hal (by simp)); have HOb := Lib.hid (HOa.out.then hal)
                clear hal hq hrb
                go_upto_region 25 with fail
                have hrc : RB ((wb4.setCell ⟨r, 0, none⟩ (.string sB)).setCell ⟨r, 1, none⟩ (.int .i64 E4)) r sB E4 := P2.set HRb.out _ _
                have hos := only_set wb4 r (.string sB) (.int .i64 E4)
                generalize World.setCell (World.setCell wb4 _ _) _ _ = wc4 at *
                have HRc := Lib.hid hrc; have HHc := Lib.hid (HHb.out.only hos (by simp; omega)); have HEc := Lib.hid (HEb.out.only hos (by simp; omega)); have HOc := Lib.hid (only_own HOb.out hos (by omega))
                clear hos hrc q0 q1 qf r0 r1 rf
                obtain ⟨k0, k1, k2, k3, kf⟩ := HHc.out.cells
                go_upto_region 27 with fail
                have hs := (HHc.out.set1 X4).set2 true
                have hos : Only [N] wc4 ((wc4.setCell ⟨N, 1, none⟩ (.int .u64 (X4 : Int))).setCell ⟨N, 2, none⟩ (.bool true)) := ((Only.refl [N] wc4).setCell (.inl (by simp)) _).setCell (.inl (by simp)) _
                generalize World.setCell (World.setCell wc4 _ _) _ _ = we at *
                have HRe := Lib.hid (HRc.out.only hos (by simp; omega)); have HHe := Lib.hid hs; have HEe := Lib.hid (HEc.out.only hos (by simp; omega)); have HOe := Lib.hid (only_own HOc.out hos (by omega))
                clear hs hos k0 k1 k2 k3 kf
                by_cases hn2 : n = 2
                · have hS : S = X4 + 256 := by rw [HSZ'.out, if_pos hn2]
                  have hx := HX16.out hn2
                  obtain ⟨k0, k1, k2, k3, kf⟩ := HHe.out.cells
                  have hs := HHe.out.set1 (X4 + 256)
                  have hos : Only [N] we (we.setCell ⟨N, 1, none⟩ (.int .u64 ((X4 + 256 : Nat) : Int))) := (Only.refl [N] we).setCell (.inl (by simp)) _
                  have hrr := HRe.out.only hos (by simp; omega)
                  have hre := HEe.out.only hos (by simp; omega)
                  have hoo := only_own HOe.out hos (by omega)
                  rw [← hS] at hs hrr hre hoo
                  have hcast : ((X4 : Int) + 256) = (S : Int) := by rw [hS]; simp
                  have hw2 : ((X4 : Int) + 256) % 18446744073709551616 = (S : Int) := by omega
                  have HS := Lib.hid hs; have HRR := Lib.hid hrr; have HRE := Lib.hid hre; have HOO := Lib.hid hoo
                  have hnI2 : ((n : Int) == 2) = true := by rw [hn2]; rfl
                  clear hs hos hrr hre hoo hS hn2
                  go_wp2_with fail
                  go_meet
                  rw [HDT.out]
                  exact ⟨sB, HRR.out, HSB.out, HS.out, HRE.out, HOO.out⟩
                · have hS : S = X4 := by rw [HSZ'.out, if_neg hn2]
                  subst hS
                  have hnI2 : ((n : Int) == 2) = false := by rw [beq_eq_false_iff_ne]; omega
                  clear hn2
                  go_wp2_with fail
                  go_meet
                  rw [HDT.out]
                  exact ⟨sB, HRe.out, HSB.out, HHe.out, HEe.out, HOe.out⟩
            case rest =>
              obtain ⟨sD, hr8, hsD, hh8, hre8, ho8⟩ := hcut
              obtain ⟨wE, hwE⟩ : ∃ wE, wE = wc := ⟨_, rfl⟩
              subst hwE
              obtain ⟨kb, hkb⟩ : ∃ kb, decide (0 < n) = kb := ⟨_, rfl⟩
              rw [hkb] at hh8
              have HKB := Lib.hid hkb
              have HRE' := Lib.hid hr8; have HSD := Lib.hid hsD; have HHE := Lib.hid hh8; have HREE := Lib.hid hre8; have HOE := Lib.hid ho8
              clear hkb hr8 hsD hh8 hre8 ho8 HRD HHD HRED HOD HSC
              go_upto_if 97 with fail
              go_cut [] (fun wx => RB wx r sD E4 ∧ HC wx N 30 (if ob then S else WN) S kb sb ∧ HC wx w.heap.size 30 0 0 false false ∧ Only [] w wx)
              case first =>
                cases ob with
                | true =>
                  obtain ⟨k0, k1, k2, k3, kf⟩ := HHE.out.cells
                  have hs := HHE.out.set0 S
                  have hos : Only [N] wE (wE.setCell ⟨N, 0, none⟩ (.int .u64 (S : Int))) := (Only.refl [N] wE).setCell (.inl (by simp)) _
                  have hrr := HRE'.out.only hos (by simp; omega)
                  have hre := HREE.out.only hos (by simp; omega)
                  have hoo := only_own HOE.out hos (by omega)
                  have HS := Lib.hid hs; have HRR := Lib.hid hrr; have HRE := Lib.hid hre; have HOO := Lib.hid hoo
                  clear hs hos hrr hre hoo
                  go_wp2_with fail
                  go_meet
                  exact ⟨HRR.out, HS.out, HRE.out, HOO.out⟩
                | false =>
                  go_wp2_with fail
                  go_meet
                  exact ⟨HRE'.out, HHE.out, HREE.out, HOE.out⟩
              case rest =>
                obtain ⟨hr9, hh9, hre9, ho9⟩ := hcut
                obtain ⟨wF, hwF⟩ : ∃ wF, wF = wc := ⟨_, rfl⟩
                subst hwF
                obtain ⟨Wn, hWn⟩ : ∃ W, (if ob then S else WN) = W := ⟨_, rfl⟩
                rw [hWn] at hh9
                have HRF := Lib.hid hr9; have HHF := Lib.hid hh9; have HREF := Lib.hid hre9; have HOF := Lib.hid ho9
                clear hr9 hh9 hre9 ho9 HRE' HHE HREE HOE
                have hbody : (hdv, mv, ev) = if E4 ≠ 0 then (⟨0, 0, false, false⟩, 0, E4) else if X3 ≠ 0 then (⟨0, 0, false, false⟩, 0, 14) else (⟨Wn, S, kb, sb⟩, (l.length : Int) + 1 - L4.length, 0) := by
                  rw [← HBD.out]
                  unfold Frm.body Frm.win
                  rw [HS4.out, HS3.out, HOB.out, HSS.out, HWN.out, HN.out, HSB.out, hWn]
                  simp only [HKB.out]
                clear hWn
                obtain ⟨r0, r1, rf⟩ := P2.cells HRF.out
                obtain ⟨k0, k1, k2, k3, kf⟩ := HHF.out.cells
                obtain ⟨d0, d1, d2, d3, df⟩ := HREF.out.cells
                have n1 : ¬ r = w.heap.size := by omega
                have n2 : ¬ w.heap.size = r := by omega
                have n3 : ¬ N = w.heap.size := by omega
                have n4 : ¬ w.heap.size = N := by omega
                by_cases hE : E4 = 0
                · subst hE
                  by_cases hX : X3 = 0
                  · subst hX
                    rw [if_neg (by simp), if_neg (by simp)] at hbody
                    simp only [Prod.mk.injEq] at hbody
                    obtain ⟨hb1, hb2, hb3⟩ := hbody
                    have HB1 := Lib.hid hb1; have HB2 := Lib.hid hb2; have HB3 := Lib.hid hb3
                    have hls : s.size = l.length + 1 := HSS0.out
                    have hsd : sD.size = L4.length := by rw [← len_data sD, HSD.out]
                    have hl4 : L4.length ≤ l.length := by have h1 := HLE2.out; have h2 := HLE3.out; have h3 := HLE4.out; omega
                    have hw1 : IntKind.i64.wrap ((s.size : Int) - (sD.size : Int)) = (l.length : Int) + 1 - (L4.length : Int) := by rw [IntKind.wrap_i64]; omega
                    have hw2 : (s.size : Int) - (sD.size : Int) = (l.length : Int) + 1 - (L4.length : Int) := by omega
                    have HW1 := Lib.hid hw1; have HW2 := Lib.hid hw2
                    have z1 : (s.size : Int) ≤ 1000001 := by omega
                    have z2 : (sD.size : Int) ≤ 1000001 := by omega
                    clear hb1 hb2 hb3 hls hsd hl4 hw1 hw2
                    go_upto_region 35 with fail
                    go_region
                    all_goals
                      iterate 24 (try (first | go_step | go_simp))
                      (try simp only [Exit.inBlock, Exit.then])
                      first
                        | rw [HW1.out]
                        | rw [HW2.out]
                        | skip
                      refine bodyPost_ret (v := .tuple #[.agg #[.int .u64 (Wn : Int), .int .u64 (S : Int), .bool kb, .bool sb], .int .i64 ((l.length : Int) + 1 - L4.length), .int .i64 0]) (by rw [results_cell_tmp2 rfl]; go_simp) rfl ⟨by rw [HB1.out, HB2.out, HB3.out]; rfl, ?_⟩
                      repeat (first | exact HOF.out | refine Only.setCell ?_ (.inr (by simp)) _ | refine Only.drew ?_)
                  · have hXI : (0 : Int) < (X3 : Int) := by omega
                    rw [if_neg (by simp), if_pos hX] at hbody
                    simp only [Prod.mk.injEq] at hbody
                    obtain ⟨hb1, hb2, hb3⟩ := hbody
                    have HB1 := Lib.hid hb1; have HB2 := Lib.hid hb2; have HB3 := Lib.hid hb3
                    clear hb1 hb2 hb3 hX
                    go_upto_region 34 with fail
                    iterate 24 (try (first | go_step | go_simp))
                    (try simp only [Exit.inBlock, Exit.then])
                    refine bodyPost_ret (v := .tuple #[.agg #[.int .u64 0, .int .u64 0, .bool false, .bool false], .int .i64 0, .int .i64 14]) (by rw [results_cell_tmp2 rfl]; go_simp) rfl ⟨by rw [HB1.out, HB2.out, HB3.out]; rfl, ?_⟩
                    repeat (first | exact HOF.out | refine Only.setCell ?_ (.inr (by simp)) _ | refine Only.drew ?_)
                · have hEI : (E4 != 0) = true := by rw [bne_iff_ne]; exact hE
                  have hEI2 : (E4 == 0) = false := by rw [beq_eq_false_iff_ne]; exact hE
                  rw [if_pos hE] at hbody
                  simp only [Prod.mk.injEq] at hbody
                  obtain ⟨hb1, hb2, hb3⟩ := hbody
                  have HB1 := Lib.hid hb1; have HB2 := Lib.hid hb2; have HB3 := Lib.hid hb3
                  clear hb1 hb2 hb3 hE
                  go_upto_region 32 with fail
                  go_region
                  all_goals
                    iterate 24 (try (first | go_step | go_simp))
                    (try simp only [Exit.inBlock, Exit.then])
                    refine bodyPost_ret (v := .tuple #[.agg #[.int .u64 0, .int .u64 0, .bool false, .bool false], .int .i64 0, .int .i64 E4]) (by rw [results_cell_tmp2 rfl]; go_simp) rfl ⟨by rw [HB1.out, HB2.out, HB3.out]; rfl, ?_⟩
                    repeat (first | exact HOF.out | refine Only.setCell ?_ (.inr (by simp)) _ | refine Only.drew ?_)

theorem refread_c (w : World) (s : ByteArray) (l : List UInt8) (hs : s.data.toList = l) (hl : l.length ≤ 1000000) : Calls Try.prog 10 #[.string s] w fun e w' => e = .returned (.tuple #[hdV (Frm.head l).1, .int .i64 (Frm.head l).2.1, .int .i64 (Frm.head l).2.2]) ∧ Only [] w w' := by
  cases l with
  | nil => exact refread_nil w s hs
  | cons c l =>
    simp only [List.length_cons] at hl
    by_cases hc : c.toNat / 8 % 2 = 1
    · have e : Frm.head (c :: l) = (⟨0, 0, false, false⟩, 0, 11) := if_pos hc
      rw [e]
      exact refread_res w s c l hs (by omega) hc
    · have e : Frm.head (c :: l) = Frm.body c.toNat l := if_neg hc
      rw [e]
      exact refread_body w s c l hs (by omega) hc
end Go.Proofs.Ytkblnlddamojoaa.frm
