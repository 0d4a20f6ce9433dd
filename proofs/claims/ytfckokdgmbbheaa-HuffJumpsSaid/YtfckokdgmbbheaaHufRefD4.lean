/-
  THE WALK of the reference's Decode4.
-/
import Derived.Test.YtfckokdgmbbheaaHufDec4
import Derived.Test.YtfckokdgmbbheaaHufRefDec
set_option linter.unusedVariables false
set_option linter.unusedSimpArgs false
set_option maxRecDepth 20000
namespace Go.Proofs.Ytfckokdgmbbheaa.huf
open Go Go.RowKit Go.Lm Go.Proofs.Ytfckokdgmbbheaa Go.Proofs.Ytfckokdgmbbheaa.bit

theorem refn_c (w : World) (s : ByteArray) (b : List UInt8) (j : Nat) (hs : s.data.toList = (st b j).1) (hl : s.size ≤ 100000) : Calls Try.prog 34 #[.agg #[.string s, .int .i64 (st b j).2.1], .int .i64 2] w fun x w' => ∃ s', x = .returned (.tuple #[.agg #[.string s', .int .i64 (st b (j + 1)).2.1], .int .u64 ((st b (j + 1)).2.2 : Nat)]) ∧
    s'.data.toList = (st b (j + 1)).1 ∧ Only [] w w' := by
  have h := cur.refnumber_c w s (st b j).2.1 2 (by omega)
  rw [hs] at h
  exact h
theorem ba_of (s : ByteArray) (l : List UInt8) (h : s.data.toList = l) : s = ⟨l.toArray⟩ := by subst h; cases s; simp

set_option maxRecDepth 100000 in
set_option maxHeartbeats 8000000 in
theorem refdecode4_c (w : World) (l s : ByteArray) (hl : l.size ≤ 1000) (hs : s.size ≤ 100000) (n : Int) (hn : NOk n) : Calls Try.prog 15 #[.string l, .string s, .int .i64 n] w fun e w' =>
    e = .returned (.tuple #[.string ⟨(hdec4 l.data.toList s.data.toList n).1.toArray⟩, .int .i64 (hdec4 l.data.toList s.data.toList n).2]) ∧ Only [] w w' := by
  by_cases h0 : Huf.dep (Huf.ns l.data.toList) = 0
  · have hS : hdec4 l.data.toList s.data.toList n = ([], 1) := by unfold hdec4; rw [if_pos h0]
    rw [hS]
    have HT := Lib.hid (refcodes_no w l hl h0)
    clear h0 hS
    go_enter Try.func15, Try.ntmps15
    go_wp2_with fail
    refine HT.out.mono ?_
    rintro e w2 ⟨rfl, rfl⟩
    go_wp2_with fail
    go_ret2
    exact ⟨rfl, Only.refl _ _⟩
  obtain ⟨d, hd⟩ : ∃ d, Huf.dep (Huf.ns l.data.toList) = d := ⟨_, rfl⟩
  have hg := Huf.dep_some hd (by omega)
  have HT := Lib.hid (refcodes_yes w l hl d hd (by omega))
  have hLl : (Huf.ns l.data.toList).length = l.size := by rw [Huf.ns_length, len_data]
  obtain ⟨S, hS⟩ : ∃ S, hdec4 l.data.toList s.data.toList n = S := ⟨_, rfl⟩
  rw [hS]
  unfold hdec4 at hS
  rw [if_neg h0, hd] at hS
  obtain ⟨L, hL⟩ : ∃ L, Huf.ns l.data.toList = L := ⟨_, rfl⟩
  simp only [hL] at hS hg HT hLl
  obtain ⟨b, hb⟩ : ∃ b, s.data.toList = b := ⟨_, rfl⟩
  rw [hb] at hS
  have hbl : b.length ≤ 100000 := by rw [← hb, len_data]; exact hs
  have HS := Lib.hid hS; have HG := Lib.hid hg; have HLL := Lib.hid hLl; have HL0 : Hid (s.data.toList = (st b 0).1) := Lib.hid hb; have HBL := Lib.hid hbl
  have HLEN0 : Hid (s.size ≤ 100000) := Lib.hid hs
  clear h0 hd hL hS hg hLl hb hbl
  go_enter Try.func15, Try.ntmps15
  go_wp2_with fail
  refine HT.out.mono ?_
  rintro e w1 ⟨g, cap, rfl, hpb, hF, hcap, hcm, ho⟩
  have HPB := Lib.hid hpb; have HO := Lib.hid ho; have HCM := Lib.hid (And.intro hcap hcm)
  clear hpb ho HT hcap hcm
  by_cases h1 : n < 0
  · have hS := HS.out
    rw [if_pos (.inl h1)] at hS
    subst hS
    go_wp2_with fail
    go_ret2
    exact ⟨rfl, HO.out⟩
  by_cases h2 : 131072 < n
  · have hS := HS.out
    rw [if_pos (.inr h2)] at hS
    subst hS
    go_wp2_with fail
    go_ret2
    exact ⟨rfl, HO.out⟩
  obtain ⟨n, rfl⟩ := Int.eq_ofNat_of_zero_le (show 0 ≤ n by omega)
  have hS := HS.out
  rw [if_neg (by omega), Int.toNat_natCast] at hS
  have hn2 : n ≤ 1000 := by unfold NOk at hn; omega
  have hcn := fun i (h : 3 * qk n ≤ n) (hi : i < 4) => cut_next h hi
  obtain ⟨k, hk⟩ : ∃ k, qk n = k := ⟨_, rfl⟩
  simp only [hk] at hcn hS
  have hkI : ((n : Int) + 3) / 4 = (k : Int) := by unfold qk at hk; omega
  have hkn : k ≤ 1000 := by unfold qk at hk; omega
  have HK := Lib.hid hk; have HCN := Lib.hid hcn; have HS2 := Lib.hid hS
  clear HS hS hn h1 h2 hcn hk
  by_cases hmay : 3 * k ≤ n
  · have hmayI : ¬ ((n : Int) < 3 * (k : Int)) := by omega
    have hS := HS2.out
    rw [if_neg (by omega)] at hS
    have HS3 := Lib.hid hS
    clear hS HS2
    have hoa : Only [] w1 (w1.alloc (.cells #[.string s, .int .i64 0] 65)) := (Only.refl [] w1).alloc _
    have hpa := P2.new w1 65 (.string s) (.int .i64 0)
    have HON0 := Lib.hid (HO.out.then hoa); have HPB0 := Lib.hid (HPB.out.only hoa (by simp))
    have hgr := HPB.out.lt
    have hRb := HO.out.size
    --@1
    go_upto_region 10 with fail
    --@2
    obtain ⟨X0, hX0⟩ : ∃ X0, (w1.alloc (.cells #[.string s, .int .i64 0] 65)) = X0 := ⟨_, rfl⟩
    obtain ⟨Rb, hRbe⟩ : ∃ Rb, w1.heap.size = Rb := ⟨_, rfl⟩
    rw [hX0] at hpa HON0 HPB0 ⊢
    rw [hRbe] at hpa hgr hRb ⊢
    have HP0 : Hid (P2 X0 Rb 65 (.string s) (.int .i64 (st b 0).2.1)) := Lib.hid hpa
    have HGR := Lib.hid hgr; have HRB := Lib.hid hRb
    clear hoa hpa hgr hRb hX0 hRbe HO HPB
    have hst0 : (st b 0).2.1 = 0 := rfl
    --<A
    obtain ⟨d0, d1, df⟩ := P2.cells HP0.out
    go_wp2_with fail
    --@n0
    have hnum0 := refn_c X0 s b 0 HL0.out (by have := HLEN0.out; omega)
    refine hnum0.mono ?_
    clear hnum0
    rintro e y0 ⟨s1, rfl, hl, ho⟩
    have HL1 := Lib.hid hl
    have HLEN1 : Hid (s1.size ≤ 100000) := Lib.hid (by rw [← len_data, hl]; exact Nat.le_trans (st_len b 1) HBL.out)
    have hp := HP0.out.only ho (by simp)
    obtain ⟨d0, d1, df⟩ := P2.cells hp
    go_upto_region 11 with fail
    have hos := only_set y0 Rb (.string s1) (.int .i64 (st b 1).2.1)
    have hps := hp.set (.string s1) (.int .i64 (st b 1).2.1)
    have hon := (HON0.out.then ho).trans (S := []) hos (by simp) (by have := HRB.out; simp; omega)
    have hpb := (HPB0.out.only ho (by simp)).only hos (by have := HGR.out; simp; omega)
    obtain ⟨X1, hX⟩ : ∃ X, ((y0.setCell ⟨Rb, 0, none⟩ (.string s1)).setCell ⟨Rb, 1, none⟩ (.int .i64 (st b 1).2.1)) = X := ⟨_, rfl⟩
    rw [hX] at hps hon hpb ⊢
    have HP1 := Lib.hid hps; have HON1 := Lib.hid hon; have HPB1 := Lib.hid hpb
    clear hl ho hp d0 d1 df hos hps hon hpb hX HP0 HON0 HPB0
    obtain ⟨d0, d1, df⟩ := P2.cells HP1.out
    go_wp2_with fail
    --@n1
    have hnum1 := refn_c X1 s1 b 1 HL1.out (by have := HLEN1.out; omega)
    refine hnum1.mono ?_
    clear hnum1
    rintro e y1 ⟨s2, rfl, hl, ho⟩
    have HL2 := Lib.hid hl
    have HLEN2 : Hid (s2.size ≤ 100000) := Lib.hid (by rw [← len_data, hl]; exact Nat.le_trans (st_len b 2) HBL.out)
    have hp := HP1.out.only ho (by simp)
    obtain ⟨d0, d1, df⟩ := P2.cells hp
    go_upto_region 12 with fail
    have hos := only_set y1 Rb (.string s2) (.int .i64 (st b 2).2.1)
    have hps := hp.set (.string s2) (.int .i64 (st b 2).2.1)
    have hon := (HON1.out.then ho).trans (S := []) hos (by simp) (by have := HRB.out; simp; omega)
    have hpb := (HPB1.out.only ho (by simp)).only hos (by have := HGR.out; simp; omega)
    obtain ⟨X2, hX⟩ : ∃ X, ((y1.setCell ⟨Rb, 0, none⟩ (.string s2)).setCell ⟨Rb, 1, none⟩ (.int .i64 (st b 2).2.1)) = X := ⟨_, rfl⟩
    rw [hX] at hps hon hpb ⊢
    have HP2 := Lib.hid hps; have HON2 := Lib.hid hon; have HPB2 := Lib.hid hpb
    clear hl ho hp d0 d1 df hos hps hon hpb hX HP1 HON1 HPB1
    obtain ⟨d0, d1, df⟩ := P2.cells HP2.out
    go_wp2_with fail
    --@n2
    have hnum2 := refn_c X2 s2 b 2 HL2.out (by have := HLEN2.out; omega)
    refine hnum2.mono ?_
    clear hnum2
    rintro e y2 ⟨s3, rfl, hl, ho⟩
    have HL3 := Lib.hid hl
    have HLEN3 : Hid (s3.size ≤ 100000) := Lib.hid (by rw [← len_data, hl]; exact Nat.le_trans (st_len b 3) HBL.out)
    have hp := HP2.out.only ho (by simp)
    obtain ⟨d0, d1, df⟩ := P2.cells hp
    go_upto_region 13 with fail
    have hos := only_set y2 Rb (.string s3) (.int .i64 (st b 3).2.1)
    have hps := hp.set (.string s3) (.int .i64 (st b 3).2.1)
    have hon := (HON2.out.then ho).trans (S := []) hos (by simp) (by have := HRB.out; simp; omega)
    have hpb := (HPB2.out.only ho (by simp)).only hos (by have := HGR.out; simp; omega)
    obtain ⟨X3, hX⟩ : ∃ X, ((y2.setCell ⟨Rb, 0, none⟩ (.string s3)).setCell ⟨Rb, 1, none⟩ (.int .i64 (st b 3).2.1)) = X := ⟨_, rfl⟩
    rw [hX] at hps hon hpb ⊢
    have HP3 := Lib.hid hps; have HON3 := Lib.hid hon; have HPB3 := Lib.hid hpb
    clear hl ho hp d0 d1 df hos hps hon hpb hX HP2 HON2 HPB2
    --A>
    --@3
    have hS := HS3.out
    simp only [nums_st] at hS
    have ha := st_bound b 1; have hb' := st_bound b 2; have hc := st_bound b 3
    have hp := HP3.out
    have hsl3 := HL3.out
    have hlen3 := HLEN3.out
    obtain ⟨A, hA⟩ : ∃ A, (st b 1).2.2 = A := ⟨_, rfl⟩
    obtain ⟨B, hB⟩ : ∃ B, (st b 2).2.2 = B := ⟨_, rfl⟩
    obtain ⟨C, hC⟩ : ∃ C, (st b 3).2.2 = C := ⟨_, rfl⟩
    obtain ⟨E, hE⟩ : ∃ E, (st b 3).2.1 = E := ⟨_, rfl⟩
    obtain ⟨R, hR⟩ : ∃ R, (st b 3).1 = R := ⟨_, rfl⟩
    rw [hA] at ha
    rw [hB] at hb'
    rw [hC] at hc
    rw [hE] at hp
    rw [hR] at hsl3
    simp only [hA, hB, hC, hE, hR] at hS ⊢
    obtain ⟨T, hT⟩ : ∃ T, R.length = T := ⟨_, rfl⟩
    rw [hT] at hS
    have hs3T : s3.size = T := by rw [← len_data, hsl3, hT]
    have HT := Lib.hid hT; have HS4 := Lib.hid hS; have HP4 := Lib.hid hp; have HSL3 := Lib.hid hsl3
    have hT5 : T ≤ 100000 := by omega
    clear hS HS3 hp hsl3 hlen3 hA hB hC hE hR hT HP3
    obtain ⟨d0, d1, df⟩ := P2.cells HP4.out
    have u0 : IntKind.u64.wrap (T : Int) = (T : Int) := by rw [IntKind.wrap_u64]; omega
    have u1 : IntKind.u64.wrap ((A : Int) + (B : Int)) = (A : Int) + (B : Int) := by rw [IntKind.wrap_u64]; omega
    have u2 : IntKind.u64.wrap ((A : Int) + (B : Int) + (C : Int)) = (A : Int) + (B : Int) + (C : Int) := by rw [IntKind.wrap_u64]; omega
    by_cases hE0 : E = 0
    · subst hE0
      by_cases hsum : T < A + B + C
      · have hS := HS4.out
        rw [if_pos (.inr hsum)] at hS
        subst hS
        have hsI : (T : Int) < (A : Int) + (B : Int) + (C : Int) := by omega
        --@5
        go_wp2_with fail
        go_ret2
        exact ⟨rfl, HON3.out⟩
      · have hS := HS4.out
        rw [if_neg (by rintro (h | h); exact h rfl; exact hsum h)] at hS
        have HS5 := Lib.hid hS
        have hsI : ¬ ((T : Int) < (A : Int) + (B : Int) + (C : Int)) := by omega
        clear hS HS4
        --@6
        go_wp2_with fail
        --@7
        clear d0 d1 df u0 u1 u2 hsI
        go_loopw [15, 16, 17, 18, 19, 20, 21, 22] (fun so i _ _ _ _ _ _ wr => ∃ (j : Nat) (sj so' : ByteArray), j ≤ 4 ∧ i = .int .i64 (j : Int) ∧ so = .string so' ∧ so'.data.toList = (d4 L d R A B C n j).1 ∧ (d4 L d R A B C n j).2 = 0 ∧ sj.data.toList = R.drop (off A B C T j) ∧ P2 wr Rb 65 (.string sj) (.int .i64 0) ∧ Only [] w wr ∧ PB wr g 88 ((Huf.cods L d).map cv)) (fun _ i _ _ _ _ _ _ _ => 4 - (intOf i).toNat)
        case atStart => exact ⟨0, s3, ⟨#[]⟩, by omega, rfl, rfl, rfl, rfl, HSL3.out, HP4.out, HON3.out, HPB3.out⟩
        case round =>
          obtain ⟨j, sj, so, hj, rfl, rfl, hso, hd0, hsl, hp, hon, hpb⟩ := hrel
          have hj4 : j = 0 ∨ j = 1 ∨ j = 2 ∨ j = 3 ∨ j = 4 := by omega
          clear hj HP4 HON3 HPB3
          rcases hj4 with rfl | rfl | rfl | rfl | rfl
          --<B
          · --@r
            rw [show ((0 : Nat) : Int) = 0 from rfl]
            obtain ⟨hf1, hf2, hf3⟩ := off_next (a := A) (b := B) (c := C) (T := T) (i := 0) (by omega) (by decide)
            obtain ⟨hc1, hc2, hc3⟩ := HCN.out 0 hmay (by decide)
            obtain ⟨lj, hlj⟩ : ∃ lj, off A B C T (0 + 1) - off A B C T 0 = lj := ⟨_, rfl⟩
            obtain ⟨mj, hmj⟩ : ∃ mj, cut n (0 + 1) - cut n 0 = mj := ⟨_, rfl⟩
            rw [hlj] at hf3
            rw [hmj] at hc3
            have hlI : (lj : Int) = (A : Int) := hf3
            have hmI : (mj : Int) = (k : Int) := by rw [hc3]; simp [pn, HK.out]
            have hrl : (R.drop (off A B C T 0)).length = T - off A B C T 0 := by rw [List.length_drop, HT.out]
            have hpe : (R.drop (off A B C T 0)).take lj = pc4 R A B C 0 := by unfold pc4; rw [HT.out, hlj]
            have hpl : (pc4 R A B C 0).length ≤ 100000 := by rw [← hpe, List.length_take]; omega
            have hrb : Cur.rbytes (R.drop (off A B C T 0)) 0 (lj : Int) = (R.drop (off A B C T (0 + 1)), 0, pc4 R A B C 0) := by
              simp only [Cur.rbytes, Cur.rtake]
              rw [if_neg (by simp), if_neg (by simp), if_neg (by omega), Int.toNat_natCast, hpe, List.drop_drop]
              congr 2; omega
            have hmj2 : mj ≤ 1000 := by omega
            obtain ⟨X, hX⟩ : ∃ X, sdec L d (pc4 R A B C 0) mj = X := ⟨_, rfl⟩
            have hnext := fun h => d4_next (L := L) (d := d) (R := R) (a := A) (b := B) (c := C) (n := n) (i := 0) hd0 h
            have hstop := fun h => d4_stop (L := L) (d := d) (R := R) (a := A) (b := B) (c := C) (n := n) (i := 0) hd0 h (3 - 0)
            rw [show 0 + 1 + (3 - 0) = 4 from rfl] at hstop
            simp only [hmj, hX] at hnext hstop
            have hsz : so.size ≤ 1000 := by
              have h := d4_len L d R A B C n (by rw [HK.out]; exact hmay) 0 (by decide)
              rw [← hso, len_data] at h
              omega
            have hsjs : sj.size = T - off A B C T 0 := by rw [← len_data, hsl, hrl]
            have htk := fun wx => cur.reftake_c wx sj 0 (lj : Int) (by rw [← len_data, hsl, hrl]; omega)
            simp only [hsl, hrb] at htk
            have hlI2 := hlI
            simp only [hlI2] at htk
            unfold cur.RV at htk
            have hxl : X.1.length ≤ 1000 := by rw [← hX]; have := sdec_len L d (pc4 R A B C 0) mj; omega
            have HTK := Lib.hid htk; have HX := Lib.hid hX; have HPCL := Lib.hid hpl; have HNEXT := Lib.hid hnext; have HSTOP := Lib.hid hstop; have HSO := Lib.hid hso; have HSZ := Lib.hid hsz; have HXL := Lib.hid hxl
            obtain ⟨d0, d1, df⟩ := P2.cells hp
            have HPr := Lib.hid hp; have HONr := Lib.hid hon; have HPBr := Lib.hid hpb
            have hwA : IntKind.i64.wrap (A : Int) = (A : Int) := by rw [IntKind.wrap_i64]; omega
            have hwB : IntKind.i64.wrap (B : Int) = (B : Int) := by rw [IntKind.wrap_i64]; omega
            have hwC : IntKind.i64.wrap (C : Int) = (C : Int) := by rw [IntKind.wrap_i64]; omega
            have hnop := trivial
            have hsjb : sj.size ≤ 100000 := by omega
            clear hsjs
            clear htk hX hpl hnext hstop hso hsl hp hon hpb hd0 hf1 hf2 hf3 hc1 hc2 hc3 hrl hpe hrb hlj hmj hsz hxl
            have hob : Only [] wr (wr.alloc (.cells #[.int .u64 (A : Nat), .int .u64 (B : Nat), .int .u64 (C : Nat), .int .u64 0] 51)) := (Only.refl [] wr).alloc _
            have hpz := HPr.out.only hob (by simp)
            have honz := HONr.out.then hob
            have hpbz := HPBr.out.only hob (by simp)
            obtain ⟨q0, q1, qf⟩ := P2.cells hpz
            --@s
            go_upto_region 24 with fail
            clear q0 q1 qf
            --@t
            skip
            obtain ⟨wz, hwz⟩ : ∃ wz, (wr.alloc (.cells #[.int .u64 (A : Nat), .int .u64 (B : Nat), .int .u64 (C : Nat), .int .u64 0] 51)) = wz := ⟨_, rfl⟩
            rw [hwz] at hpz honz hpbz ⊢
            clear d0 d1 df
            obtain ⟨d0, d1, df⟩ := P2.cells hpz
            go_wp2_with fail
            refine (HTK.out wz).mono ?_
            rintro e w7 ⟨sk, oj, rfl, hsk, hoj, ho7⟩
            have hp7 := hpz.only ho7 (by simp)
            have hor : Only [] w7 (w7.alloc (.cells #[.string sk, .int .i64 0] 65)) := (Only.refl [] w7).alloc _
            have hn := P2.new w7 65 (.string sk) (.int .i64 0)
            have hp8 := hp7.only hor (by simp)
            obtain ⟨n0, n1, nf⟩ := P2.cells hn
            obtain ⟨e0, e1, ef⟩ := P2.cells hp8
            have hne : Rb ≠ w7.heap.size := by have := hp7.lt; omega
            go_upto_region 26 with fail
            --@u
            have hos := only_set (w7.alloc (.cells #[.string sk, .int .i64 0] 65)) Rb (.string sk) (.int .i64 0)
            have hp9 := hp8.set (.string sk) (.int .i64 0)
            have hon9 := ((honz.then ho7).then hor).trans (S := []) hos (by simp) (by have := HRB.out; simp; omega)
            have hpb9 := ((hpbz.only ho7 (by simp)).only hor (by simp)).only hos (by have := HGR.out; simp; omega)
            obtain ⟨w9, hw9⟩ : ∃ w9, (((w7.alloc (.cells #[.string sk, .int .i64 0] 65)).setCell ⟨Rb, 0, none⟩ (.string sk)).setCell ⟨Rb, 1, none⟩ (.int .i64 0)) = w9 := ⟨_, rfl⟩
            rw [hw9] at hp9 hon9 hpb9 ⊢
            have hst := refstream_c w9 L d HG.out g l.size cap HLL.out hpb9 HCM.out.1 HCM.out.2 oj (by rw [← len_data, hoj]; exact HPCL.out) mj hmj2
            rw [hoj, HX.out, hmI] at hst
            have HST := Lib.hid hst; have HP9 := Lib.hid hp9; have HON9 := Lib.hid hon9; have HPB9 := Lib.hid hpb9; have HSK := Lib.hid hsk
            clear hst hp9 hon9 hpb9 hsk hos hor hn hp8 hp7 n0 n1 nf e0 e1 ef hne d0 d1 df hw9 hwz hob hpz honz hpbz hoj ho7 HPr HONr HPBr HTK
            obtain ⟨X1, X2⟩ := X
            by_cases hX2 : X2 = 0
            · subst hX2
              have hnx := HNEXT.out rfl
              simp only [] at hnx
              have HNX := Lib.hid hnx
              obtain ⟨xs, hxs⟩ : ∃ xs : ByteArray, (⟨X1.toArray⟩ : ByteArray) = xs := ⟨_, rfl⟩
              have hxsz : xs.size ≤ 1000 := by rw [← hxs, ← len_data]; simpa using HXL.out
              have hxd : xs.data.toList = X1 := by rw [← hxs]
              have hsum : (so ++ xs).data.toList = (d4 L d R A B C n (0 + 1)).1 := by
                rw [hnx]; simp only [ByteArray.data_append, Array.toList_append, HSO.out, hxd]
              have HSUM := Lib.hid hsum
              have hsz := HSZ.out
              simp only [hxs] at HST
              clear hnx hsum hxd hxs HNEXT HSTOP HX HXL
              --@v
              go_wp2_with fail
              refine HST.out.mono ?_
              rintro e w10 ⟨rfl, ho10⟩
              have HP10 := Lib.hid (HP9.out.only ho10 (by simp)); have HON10 := Lib.hid (HON9.out.then ho10); have HPB10 := Lib.hid (HPB9.out.only ho10 (by simp))
              clear ho10 HP9 HON9 HPB9 HST
              go_wp2_with fail
              go_roundw
              case rel => exact ⟨1, sk, so ++ xs, by decide, rfl, rfl, HSUM.out, by rw [HNX.out], HSK.out, HP10.out, HON10.out, HPB10.out⟩
              case measure => simp [intOf]
            · have hst4 := HSTOP.out hX2
              have hS := HS5.out
              rw [hst4] at hS
              subst hS
              have hXb : ((X2 : Int) != 0) = true := by rw [bne_iff_ne]; exact hX2
              clear HNEXT HSTOP HX HXL hst4
              --@w
              go_wp2_with fail
              refine HST.out.mono ?_
              rintro e w10 ⟨rfl, ho10⟩
              have HON10 := Lib.hid (HON9.out.then ho10)
              clear ho10
              go_wp2_with fail
              go_ret2
              exact ⟨rfl, HON10.out⟩
          · --@r
            rw [show ((1 : Nat) : Int) = 1 from rfl]
            obtain ⟨hf1, hf2, hf3⟩ := off_next (a := A) (b := B) (c := C) (T := T) (i := 1) (by omega) (by decide)
            obtain ⟨hc1, hc2, hc3⟩ := HCN.out 1 hmay (by decide)
            obtain ⟨lj, hlj⟩ : ∃ lj, off A B C T (1 + 1) - off A B C T 1 = lj := ⟨_, rfl⟩
            obtain ⟨mj, hmj⟩ : ∃ mj, cut n (1 + 1) - cut n 1 = mj := ⟨_, rfl⟩
            rw [hlj] at hf3
            rw [hmj] at hc3
            have hlI : (lj : Int) = (B : Int) := hf3
            have hmI : (mj : Int) = (k : Int) := by rw [hc3]; simp [pn, HK.out]
            have hrl : (R.drop (off A B C T 1)).length = T - off A B C T 1 := by rw [List.length_drop, HT.out]
            have hpe : (R.drop (off A B C T 1)).take lj = pc4 R A B C 1 := by unfold pc4; rw [HT.out, hlj]
            have hpl : (pc4 R A B C 1).length ≤ 100000 := by rw [← hpe, List.length_take]; omega
            have hrb : Cur.rbytes (R.drop (off A B C T 1)) 0 (lj : Int) = (R.drop (off A B C T (1 + 1)), 0, pc4 R A B C 1) := by
              simp only [Cur.rbytes, Cur.rtake]
              rw [if_neg (by simp), if_neg (by simp), if_neg (by omega), Int.toNat_natCast, hpe, List.drop_drop]
              congr 2; omega
            have hmj2 : mj ≤ 1000 := by omega
            obtain ⟨X, hX⟩ : ∃ X, sdec L d (pc4 R A B C 1) mj = X := ⟨_, rfl⟩
            have hnext := fun h => d4_next (L := L) (d := d) (R := R) (a := A) (b := B) (c := C) (n := n) (i := 1) hd0 h
            have hstop := fun h => d4_stop (L := L) (d := d) (R := R) (a := A) (b := B) (c := C) (n := n) (i := 1) hd0 h (3 - 1)
            rw [show 1 + 1 + (3 - 1) = 4 from rfl] at hstop
            simp only [hmj, hX] at hnext hstop
            have hsz : so.size ≤ 1000 := by
              have h := d4_len L d R A B C n (by rw [HK.out]; exact hmay) 1 (by decide)
              rw [← hso, len_data] at h
              omega
            have hsjs : sj.size = T - off A B C T 1 := by rw [← len_data, hsl, hrl]
            have htk := fun wx => cur.reftake_c wx sj 0 (lj : Int) (by rw [← len_data, hsl, hrl]; omega)
            simp only [hsl, hrb] at htk
            have hlI2 := hlI
            simp only [hlI2] at htk
            unfold cur.RV at htk
            have hxl : X.1.length ≤ 1000 := by rw [← hX]; have := sdec_len L d (pc4 R A B C 1) mj; omega
            have HTK := Lib.hid htk; have HX := Lib.hid hX; have HPCL := Lib.hid hpl; have HNEXT := Lib.hid hnext; have HSTOP := Lib.hid hstop; have HSO := Lib.hid hso; have HSZ := Lib.hid hsz; have HXL := Lib.hid hxl
            obtain ⟨d0, d1, df⟩ := P2.cells hp
            have HPr := Lib.hid hp; have HONr := Lib.hid hon; have HPBr := Lib.hid hpb
            have hwA : IntKind.i64.wrap (A : Int) = (A : Int) := by rw [IntKind.wrap_i64]; omega
            have hwB : IntKind.i64.wrap (B : Int) = (B : Int) := by rw [IntKind.wrap_i64]; omega
            have hwC : IntKind.i64.wrap (C : Int) = (C : Int) := by rw [IntKind.wrap_i64]; omega
            have hnop := trivial
            have hsjb : sj.size ≤ 100000 := by omega
            clear hsjs
            clear htk hX hpl hnext hstop hso hsl hp hon hpb hd0 hf1 hf2 hf3 hc1 hc2 hc3 hrl hpe hrb hlj hmj hsz hxl
            have hob : Only [] wr (wr.alloc (.cells #[.int .u64 (A : Nat), .int .u64 (B : Nat), .int .u64 (C : Nat), .int .u64 0] 51)) := (Only.refl [] wr).alloc _
            have hpz := HPr.out.only hob (by simp)
            have honz := HONr.out.then hob
            have hpbz := HPBr.out.only hob (by simp)
            obtain ⟨q0, q1, qf⟩ := P2.cells hpz
            --@s
            go_upto_region 24 with fail
            clear q0 q1 qf
            --@t
            skip
            obtain ⟨wz, hwz⟩ : ∃ wz, (wr.alloc (.cells #[.int .u64 (A : Nat), .int .u64 (B : Nat), .int .u64 (C : Nat), .int .u64 0] 51)) = wz := ⟨_, rfl⟩
            rw [hwz] at hpz honz hpbz ⊢
            clear d0 d1 df
            obtain ⟨d0, d1, df⟩ := P2.cells hpz
            go_wp2_with fail
            refine (HTK.out wz).mono ?_
            rintro e w7 ⟨sk, oj, rfl, hsk, hoj, ho7⟩
            have hp7 := hpz.only ho7 (by simp)
            have hor : Only [] w7 (w7.alloc (.cells #[.string sk, .int .i64 0] 65)) := (Only.refl [] w7).alloc _
            have hn := P2.new w7 65 (.string sk) (.int .i64 0)
            have hp8 := hp7.only hor (by simp)
            obtain ⟨n0, n1, nf⟩ := P2.cells hn
            obtain ⟨e0, e1, ef⟩ := P2.cells hp8
            have hne : Rb ≠ w7.heap.size := by have := hp7.lt; omega
            go_upto_region 26 with fail
            --@u
            have hos := only_set (w7.alloc (.cells #[.string sk, .int .i64 0] 65)) Rb (.string sk) (.int .i64 0)
            have hp9 := hp8.set (.string sk) (.int .i64 0)
            have hon9 := ((honz.then ho7).then hor).trans (S := []) hos (by simp) (by have := HRB.out; simp; omega)
            have hpb9 := ((hpbz.only ho7 (by simp)).only hor (by simp)).only hos (by have := HGR.out; simp; omega)
            obtain ⟨w9, hw9⟩ : ∃ w9, (((w7.alloc (.cells #[.string sk, .int .i64 0] 65)).setCell ⟨Rb, 0, none⟩ (.string sk)).setCell ⟨Rb, 1, none⟩ (.int .i64 0)) = w9 := ⟨_, rfl⟩
            rw [hw9] at hp9 hon9 hpb9 ⊢
            have hst := refstream_c w9 L d HG.out g l.size cap HLL.out hpb9 HCM.out.1 HCM.out.2 oj (by rw [← len_data, hoj]; exact HPCL.out) mj hmj2
            rw [hoj, HX.out, hmI] at hst
            have HST := Lib.hid hst; have HP9 := Lib.hid hp9; have HON9 := Lib.hid hon9; have HPB9 := Lib.hid hpb9; have HSK := Lib.hid hsk
            clear hst hp9 hon9 hpb9 hsk hos hor hn hp8 hp7 n0 n1 nf e0 e1 ef hne d0 d1 df hw9 hwz hob hpz honz hpbz hoj ho7 HPr HONr HPBr HTK
            obtain ⟨X1, X2⟩ := X
            by_cases hX2 : X2 = 0
            · subst hX2
              have hnx := HNEXT.out rfl
              simp only [] at hnx
              have HNX := Lib.hid hnx
              obtain ⟨xs, hxs⟩ : ∃ xs : ByteArray, (⟨X1.toArray⟩ : ByteArray) = xs := ⟨_, rfl⟩
              have hxsz : xs.size ≤ 1000 := by rw [← hxs, ← len_data]; simpa using HXL.out
              have hxd : xs.data.toList = X1 := by rw [← hxs]
              have hsum : (so ++ xs).data.toList = (d4 L d R A B C n (1 + 1)).1 := by
                rw [hnx]; simp only [ByteArray.data_append, Array.toList_append, HSO.out, hxd]
              have HSUM := Lib.hid hsum
              have hsz := HSZ.out
              simp only [hxs] at HST
              clear hnx hsum hxd hxs HNEXT HSTOP HX HXL
              --@v
              go_wp2_with fail
              refine HST.out.mono ?_
              rintro e w10 ⟨rfl, ho10⟩
              have HP10 := Lib.hid (HP9.out.only ho10 (by simp)); have HON10 := Lib.hid (HON9.out.then ho10); have HPB10 := Lib.hid (HPB9.out.only ho10 (by simp))
              clear ho10 HP9 HON9 HPB9 HST
              go_wp2_with fail
              go_roundw
              case rel => exact ⟨2, sk, so ++ xs, by decide, rfl, rfl, HSUM.out, by rw [HNX.out], HSK.out, HP10.out, HON10.out, HPB10.out⟩
              case measure => simp [intOf]
            · have hst4 := HSTOP.out hX2
              have hS := HS5.out
              rw [hst4] at hS
              subst hS
              have hXb : ((X2 : Int) != 0) = true := by rw [bne_iff_ne]; exact hX2
              clear HNEXT HSTOP HX HXL hst4
              --@w
              go_wp2_with fail
              refine HST.out.mono ?_
              rintro e w10 ⟨rfl, ho10⟩
              have HON10 := Lib.hid (HON9.out.then ho10)
              clear ho10
              go_wp2_with fail
              go_ret2
              exact ⟨rfl, HON10.out⟩
          · --@r
            rw [show ((2 : Nat) : Int) = 2 from rfl]
            obtain ⟨hf1, hf2, hf3⟩ := off_next (a := A) (b := B) (c := C) (T := T) (i := 2) (by omega) (by decide)
            obtain ⟨hc1, hc2, hc3⟩ := HCN.out 2 hmay (by decide)
            obtain ⟨lj, hlj⟩ : ∃ lj, off A B C T (2 + 1) - off A B C T 2 = lj := ⟨_, rfl⟩
            obtain ⟨mj, hmj⟩ : ∃ mj, cut n (2 + 1) - cut n 2 = mj := ⟨_, rfl⟩
            rw [hlj] at hf3
            rw [hmj] at hc3
            have hlI : (lj : Int) = (C : Int) := hf3
            have hmI : (mj : Int) = (k : Int) := by rw [hc3]; simp [pn, HK.out]
            have hrl : (R.drop (off A B C T 2)).length = T - off A B C T 2 := by rw [List.length_drop, HT.out]
            have hpe : (R.drop (off A B C T 2)).take lj = pc4 R A B C 2 := by unfold pc4; rw [HT.out, hlj]
            have hpl : (pc4 R A B C 2).length ≤ 100000 := by rw [← hpe, List.length_take]; omega
            have hrb : Cur.rbytes (R.drop (off A B C T 2)) 0 (lj : Int) = (R.drop (off A B C T (2 + 1)), 0, pc4 R A B C 2) := by
              simp only [Cur.rbytes, Cur.rtake]
              rw [if_neg (by simp), if_neg (by simp), if_neg (by omega), Int.toNat_natCast, hpe, List.drop_drop]
              congr 2; omega
            have hmj2 : mj ≤ 1000 := by omega
            obtain ⟨X, hX⟩ : ∃ X, sdec L d (pc4 R A B C 2) mj = X := ⟨_, rfl⟩
            have hnext := fun h => d4_next (L := L) (d := d) (R := R) (a := A) (b := B) (c := C) (n := n) (i := 2) hd0 h
            have hstop := fun h => d4_stop (L := L) (d := d) (R := R) (a := A) (b := B) (c := C) (n := n) (i := 2) hd0 h (3 - 2)
            rw [show 2 + 1 + (3 - 2) = 4 from rfl] at hstop
            simp only [hmj, hX] at hnext hstop
            have hsz : so.size ≤ 1000 := by
              have h := d4_len L d R A B C n (by rw [HK.out]; exact hmay) 2 (by decide)
              rw [← hso, len_data] at h
              omega
            have hsjs : sj.size = T - off A B C T 2 := by rw [← len_data, hsl, hrl]
            have htk := fun wx => cur.reftake_c wx sj 0 (lj : Int) (by rw [← len_data, hsl, hrl]; omega)
            simp only [hsl, hrb] at htk
            have hlI2 := hlI
            simp only [hlI2] at htk
            unfold cur.RV at htk
            have hxl : X.1.length ≤ 1000 := by rw [← hX]; have := sdec_len L d (pc4 R A B C 2) mj; omega
            have HTK := Lib.hid htk; have HX := Lib.hid hX; have HPCL := Lib.hid hpl; have HNEXT := Lib.hid hnext; have HSTOP := Lib.hid hstop; have HSO := Lib.hid hso; have HSZ := Lib.hid hsz; have HXL := Lib.hid hxl
            obtain ⟨d0, d1, df⟩ := P2.cells hp
            have HPr := Lib.hid hp; have HONr := Lib.hid hon; have HPBr := Lib.hid hpb
            have hwA : IntKind.i64.wrap (A : Int) = (A : Int) := by rw [IntKind.wrap_i64]; omega
            have hwB : IntKind.i64.wrap (B : Int) = (B : Int) := by rw [IntKind.wrap_i64]; omega
            have hwC : IntKind.i64.wrap (C : Int) = (C : Int) := by rw [IntKind.wrap_i64]; omega
            have hnop := trivial
            have hsjb : sj.size ≤ 100000 := by omega
            clear hsjs
            clear htk hX hpl hnext hstop hso hsl hp hon hpb hd0 hf1 hf2 hf3 hc1 hc2 hc3 hrl hpe hrb hlj hmj hsz hxl
            have hob : Only [] wr (wr.alloc (.cells #[.int .u64 (A : Nat), .int .u64 (B : Nat), .int .u64 (C : Nat), .int .u64 0] 51)) := (Only.refl [] wr).alloc _
            have hpz := HPr.out.only hob (by simp)
            have honz := HONr.out.then hob
            have hpbz := HPBr.out.only hob (by simp)
            obtain ⟨q0, q1, qf⟩ := P2.cells hpz
            --@s
            go_upto_region 24 with fail
            clear q0 q1 qf
            --@t
            skip
            obtain ⟨wz, hwz⟩ : ∃ wz, (wr.alloc (.cells #[.int .u64 (A : Nat), .int .u64 (B : Nat), .int .u64 (C : Nat), .int .u64 0] 51)) = wz := ⟨_, rfl⟩
            rw [hwz] at hpz honz hpbz ⊢
            clear d0 d1 df
            obtain ⟨d0, d1, df⟩ := P2.cells hpz
            go_wp2_with fail
            refine (HTK.out wz).mono ?_
            rintro e w7 ⟨sk, oj, rfl, hsk, hoj, ho7⟩
            have hp7 := hpz.only ho7 (by simp)
            have hor : Only [] w7 (w7.alloc (.cells #[.string sk, .int .i64 0] 65)) := (Only.refl [] w7).alloc _
            have hn := P2.new w7 65 (.string sk) (.int .i64 0)
            have hp8 := hp7.only hor (by simp)
            obtain ⟨n0, n1, nf⟩ := P2.cells hn
            obtain ⟨e0, e1, ef⟩ := P2.cells hp8
            have hne : Rb ≠ w7.heap.size := by have := hp7.lt; omega
            go_upto_region 26 with fail
            --@u
            have hos := only_set (w7.alloc (.cells #[.string sk, .int .i64 0] 65)) Rb (.string sk) (.int .i64 0)
            have hp9 := hp8.set (.string sk) (.int .i64 0)
            have hon9 := ((honz.then ho7).then hor).trans (S := []) hos (by simp) (by have := HRB.out; simp; omega)
            have hpb9 := ((hpbz.only ho7 (by simp)).only hor (by simp)).only hos (by have := HGR.out; simp; omega)
            obtain ⟨w9, hw9⟩ : ∃ w9, (((w7.alloc (.cells #[.string sk, .int .i64 0] 65)).setCell ⟨Rb, 0, none⟩ (.string sk)).setCell ⟨Rb, 1, none⟩ (.int .i64 0)) = w9 := ⟨_, rfl⟩
            rw [hw9] at hp9 hon9 hpb9 ⊢
            have hst := refstream_c w9 L d HG.out g l.size cap HLL.out hpb9 HCM.out.1 HCM.out.2 oj (by rw [← len_data, hoj]; exact HPCL.out) mj hmj2
            rw [hoj, HX.out, hmI] at hst
            have HST := Lib.hid hst; have HP9 := Lib.hid hp9; have HON9 := Lib.hid hon9; have HPB9 := Lib.hid hpb9; have HSK := Lib.hid hsk
            clear hst hp9 hon9 hpb9 hsk hos hor hn hp8 hp7 n0 n1 nf e0 e1 ef hne d0 d1 df hw9 hwz hob hpz honz hpbz hoj ho7 HPr HONr HPBr HTK
            obtain ⟨X1, X2⟩ := X
            by_cases hX2 : X2 = 0
            · subst hX2
              have hnx := HNEXT.out rfl
              simp only [] at hnx
              have HNX := Lib.hid hnx
              obtain ⟨xs, hxs⟩ : ∃ xs : ByteArray, (⟨X1.toArray⟩ : ByteArray) = xs := ⟨_, rfl⟩
              have hxsz : xs.size ≤ 1000 := by rw [← hxs, ← len_data]; simpa using HXL.out
              have hxd : xs.data.toList = X1 := by rw [← hxs]
              have hsum : (so ++ xs).data.toList = (d4 L d R A B C n (2 + 1)).1 := by
                rw [hnx]; simp only [ByteArray.data_append, Array.toList_append, HSO.out, hxd]
              have HSUM := Lib.hid hsum
              have hsz := HSZ.out
              simp only [hxs] at HST
              clear hnx hsum hxd hxs HNEXT HSTOP HX HXL
              --@v
              go_wp2_with fail
              refine HST.out.mono ?_
              rintro e w10 ⟨rfl, ho10⟩
              have HP10 := Lib.hid (HP9.out.only ho10 (by simp)); have HON10 := Lib.hid (HON9.out.then ho10); have HPB10 := Lib.hid (HPB9.out.only ho10 (by simp))
              clear ho10 HP9 HON9 HPB9 HST
              go_wp2_with fail
              go_roundw
              case rel => exact ⟨3, sk, so ++ xs, by decide, rfl, rfl, HSUM.out, by rw [HNX.out], HSK.out, HP10.out, HON10.out, HPB10.out⟩
              case measure => simp [intOf]
            · have hst4 := HSTOP.out hX2
              have hS := HS5.out
              rw [hst4] at hS
              subst hS
              have hXb : ((X2 : Int) != 0) = true := by rw [bne_iff_ne]; exact hX2
              clear HNEXT HSTOP HX HXL hst4
              --@w
              go_wp2_with fail
              refine HST.out.mono ?_
              rintro e w10 ⟨rfl, ho10⟩
              have HON10 := Lib.hid (HON9.out.then ho10)
              clear ho10
              go_wp2_with fail
              go_ret2
              exact ⟨rfl, HON10.out⟩
          · --@r
            rw [show ((3 : Nat) : Int) = 3 from rfl]
            obtain ⟨hf1, hf2, hf3⟩ := off_next (a := A) (b := B) (c := C) (T := T) (i := 3) (by omega) (by decide)
            obtain ⟨hc1, hc2, hc3⟩ := HCN.out 3 hmay (by decide)
            obtain ⟨lj, hlj⟩ : ∃ lj, off A B C T (3 + 1) - off A B C T 3 = lj := ⟨_, rfl⟩
            obtain ⟨mj, hmj⟩ : ∃ mj, cut n (3 + 1) - cut n 3 = mj := ⟨_, rfl⟩
            rw [hlj] at hf3
            rw [hmj] at hc3
            have hlI : (lj : Int) = (T : Int) - (A : Int) - (B : Int) - (C : Int) := hf3
            have hmI : (mj : Int) = (n : Int) - 3 * (k : Int) := by rw [hc3]; simp [pn, HK.out]
            have hrl : (R.drop (off A B C T 3)).length = T - off A B C T 3 := by rw [List.length_drop, HT.out]
            have hpe : (R.drop (off A B C T 3)).take lj = pc4 R A B C 3 := by unfold pc4; rw [HT.out, hlj]
            have hpl : (pc4 R A B C 3).length ≤ 100000 := by rw [← hpe, List.length_take]; omega
            have hrb : Cur.rbytes (R.drop (off A B C T 3)) 0 (lj : Int) = (R.drop (off A B C T (3 + 1)), 0, pc4 R A B C 3) := by
              simp only [Cur.rbytes, Cur.rtake]
              rw [if_neg (by simp), if_neg (by simp), if_neg (by omega), Int.toNat_natCast, hpe, List.drop_drop]
              congr 2; omega
            have hmj2 : mj ≤ 1000 := by omega
            obtain ⟨X, hX⟩ : ∃ X, sdec L d (pc4 R A B C 3) mj = X := ⟨_, rfl⟩
            have hnext := fun h => d4_next (L := L) (d := d) (R := R) (a := A) (b := B) (c := C) (n := n) (i := 3) hd0 h
            have hstop := fun h => d4_stop (L := L) (d := d) (R := R) (a := A) (b := B) (c := C) (n := n) (i := 3) hd0 h (3 - 3)
            rw [show 3 + 1 + (3 - 3) = 4 from rfl] at hstop
            simp only [hmj, hX] at hnext hstop
            have hsz : so.size ≤ 1000 := by
              have h := d4_len L d R A B C n (by rw [HK.out]; exact hmay) 3 (by decide)
              rw [← hso, len_data] at h
              omega
            have hsjs : sj.size = T - off A B C T 3 := by rw [← len_data, hsl, hrl]
            have htk := fun wx => cur.reftake_c wx sj 0 (lj : Int) (by rw [← len_data, hsl, hrl]; omega)
            simp only [hsl, hrb] at htk
            have hlI2 : (lj : Int) = (sj.size : Int) := by rw [hsjs, hlI]; simp only [off]; simp; omega
            simp only [hlI2] at htk
            unfold cur.RV at htk
            have hxl : X.1.length ≤ 1000 := by rw [← hX]; have := sdec_len L d (pc4 R A B C 3) mj; omega
            have HTK := Lib.hid htk; have HX := Lib.hid hX; have HPCL := Lib.hid hpl; have HNEXT := Lib.hid hnext; have HSTOP := Lib.hid hstop; have HSO := Lib.hid hso; have HSZ := Lib.hid hsz; have HXL := Lib.hid hxl
            obtain ⟨d0, d1, df⟩ := P2.cells hp
            have HPr := Lib.hid hp; have HONr := Lib.hid hon; have HPBr := Lib.hid hpb
            have hwA : IntKind.i64.wrap (A : Int) = (A : Int) := by rw [IntKind.wrap_i64]; omega
            have hwB : IntKind.i64.wrap (B : Int) = (B : Int) := by rw [IntKind.wrap_i64]; omega
            have hwC : IntKind.i64.wrap (C : Int) = (C : Int) := by rw [IntKind.wrap_i64]; omega
            have hnop := trivial
            have hsjb : sj.size ≤ 100000 := by omega
            clear hsjs
            clear htk hX hpl hnext hstop hso hsl hp hon hpb hd0 hf1 hf2 hf3 hc1 hc2 hc3 hrl hpe hrb hlj hmj hsz hxl
            have hob : Only [] wr (wr.alloc (.cells #[.int .u64 (A : Nat), .int .u64 (B : Nat), .int .u64 (C : Nat), .int .u64 0] 51)) := (Only.refl [] wr).alloc _
            have hpz := HPr.out.only hob (by simp)
            have honz := HONr.out.then hob
            have hpbz := HPBr.out.only hob (by simp)
            obtain ⟨q0, q1, qf⟩ := P2.cells hpz
            --@s
            go_upto_region 24 with fail
            clear q0 q1 qf
            --@t
            skip
            obtain ⟨wz, hwz⟩ : ∃ wz, (wr.alloc (.cells #[.int .u64 (A : Nat), .int .u64 (B : Nat), .int .u64 (C : Nat), .int .u64 0] 51)) = wz := ⟨_, rfl⟩
            rw [hwz] at hpz honz hpbz ⊢
            clear d0 d1 df
            obtain ⟨d0, d1, df⟩ := P2.cells hpz
            go_wp2_with fail
            refine (HTK.out wz).mono ?_
            rintro e w7 ⟨sk, oj, rfl, hsk, hoj, ho7⟩
            have hp7 := hpz.only ho7 (by simp)
            have hor : Only [] w7 (w7.alloc (.cells #[.string sk, .int .i64 0] 65)) := (Only.refl [] w7).alloc _
            have hn := P2.new w7 65 (.string sk) (.int .i64 0)
            have hp8 := hp7.only hor (by simp)
            obtain ⟨n0, n1, nf⟩ := P2.cells hn
            obtain ⟨e0, e1, ef⟩ := P2.cells hp8
            have hne : Rb ≠ w7.heap.size := by have := hp7.lt; omega
            go_upto_region 26 with fail
            --@u
            have hos := only_set (w7.alloc (.cells #[.string sk, .int .i64 0] 65)) Rb (.string sk) (.int .i64 0)
            have hp9 := hp8.set (.string sk) (.int .i64 0)
            have hon9 := ((honz.then ho7).then hor).trans (S := []) hos (by simp) (by have := HRB.out; simp; omega)
            have hpb9 := ((hpbz.only ho7 (by simp)).only hor (by simp)).only hos (by have := HGR.out; simp; omega)
            obtain ⟨w9, hw9⟩ : ∃ w9, (((w7.alloc (.cells #[.string sk, .int .i64 0] 65)).setCell ⟨Rb, 0, none⟩ (.string sk)).setCell ⟨Rb, 1, none⟩ (.int .i64 0)) = w9 := ⟨_, rfl⟩
            rw [hw9] at hp9 hon9 hpb9 ⊢
            have hst := refstream_c w9 L d HG.out g l.size cap HLL.out hpb9 HCM.out.1 HCM.out.2 oj (by rw [← len_data, hoj]; exact HPCL.out) mj hmj2
            rw [hoj, HX.out, hmI] at hst
            have HST := Lib.hid hst; have HP9 := Lib.hid hp9; have HON9 := Lib.hid hon9; have HPB9 := Lib.hid hpb9; have HSK := Lib.hid hsk
            clear hst hp9 hon9 hpb9 hsk hos hor hn hp8 hp7 n0 n1 nf e0 e1 ef hne d0 d1 df hw9 hwz hob hpz honz hpbz hoj ho7 HPr HONr HPBr HTK
            obtain ⟨X1, X2⟩ := X
            by_cases hX2 : X2 = 0
            · subst hX2
              have hnx := HNEXT.out rfl
              simp only [] at hnx
              have HNX := Lib.hid hnx
              obtain ⟨xs, hxs⟩ : ∃ xs : ByteArray, (⟨X1.toArray⟩ : ByteArray) = xs := ⟨_, rfl⟩
              have hxsz : xs.size ≤ 1000 := by rw [← hxs, ← len_data]; simpa using HXL.out
              have hxd : xs.data.toList = X1 := by rw [← hxs]
              have hsum : (so ++ xs).data.toList = (d4 L d R A B C n (3 + 1)).1 := by
                rw [hnx]; simp only [ByteArray.data_append, Array.toList_append, HSO.out, hxd]
              have HSUM := Lib.hid hsum
              have hsz := HSZ.out
              simp only [hxs] at HST
              clear hnx hsum hxd hxs HNEXT HSTOP HX HXL
              --@v
              go_wp2_with fail
              refine HST.out.mono ?_
              rintro e w10 ⟨rfl, ho10⟩
              have HP10 := Lib.hid (HP9.out.only ho10 (by simp)); have HON10 := Lib.hid (HON9.out.then ho10); have HPB10 := Lib.hid (HPB9.out.only ho10 (by simp))
              clear ho10 HP9 HON9 HPB9 HST
              go_wp2_with fail
              go_roundw
              case rel => exact ⟨4, sk, so ++ xs, by decide, rfl, rfl, HSUM.out, by rw [HNX.out], HSK.out, HP10.out, HON10.out, HPB10.out⟩
              case measure => simp [intOf]
            · have hst4 := HSTOP.out hX2
              have hS := HS5.out
              rw [hst4] at hS
              subst hS
              have hXb : ((X2 : Int) != 0) = true := by rw [bne_iff_ne]; exact hX2
              clear HNEXT HSTOP HX HXL hst4
              --@w
              go_wp2_with fail
              refine HST.out.mono ?_
              rintro e w10 ⟨rfl, ho10⟩
              have HON10 := Lib.hid (HON9.out.then ho10)
              clear ho10
              go_wp2_with fail
              go_ret2
              exact ⟨rfl, HON10.out⟩
          --B>
          · have hS := HS5.out
            have hS2 : S = ((d4 L d R A B C n 4).1, 0) := by rw [← hS, ← hd0]
            subst hS2
            rw [ba_of so _ hso]
            have HONf := Lib.hid hon
            clear hso hd0 hsl hp hon hpb hS
            --@8
            go_wp2_with fail
            go_ret2
            exact ⟨rfl, HONf.out⟩
    · have hS := HS4.out
      rw [if_pos (.inl hE0)] at hS
      subst hS
      have hEb : ((E : Int) != 0) = true := by rw [bne_iff_ne]; exact hE0
      --@9
      go_wp2_with fail
      go_ret2
      exact ⟨rfl, HON3.out⟩
  · have hmayI : (n : Int) < 3 * (k : Int) := by omega
    have hS := HS2.out
    rw [if_pos (by omega)] at hS
    subst hS
    --@4
    go_wp2_with fail
    go_ret2
    exact ⟨rfl, HO.out⟩
end Go.Proofs.Ytfckokdgmbbheaa.huf
