/-
  THE WALKS of the reference's Get and of the laws' modelOf.
-/
import Derived.Test.YtdoiebbbgmlkaaaDoorWrGet
import Derived.Test.YtdoiebbbgmlkaaaDoorCurRef
set_option linter.unusedVariables false
set_option linter.unusedSimpArgs false
namespace Go.Proofs.YtdoiebbbgmlkaaaDoor.wr
open Go Go.RowKit Go.Lm Go.Proofs.YtdoiebbbgmlkaaaDoor.cur Go.Proofs.YtdoiebbbgmlkaaaDoor.crc

theorem refput_d (w : World) (x : Nat) (n : Nat) (h1 : 1 ≤ n) (h8 : n ≤ 8) (hx : x < 18446744073709551616) : Calls Tryd.prog 25 #[.int .u64 x, .int .i64 n] w fun e w' => e = .returned (.string ⟨(Cur.put x n).toArray⟩) ∧ Only [] w w' := by
  refine (refput_c w x n hx (by omega)).mono ?_
  rintro e w' ⟨s, rfl, hs, ho⟩
  obtain ⟨d⟩ := s
  rw [if_pos (by omega)] at hs
  have hs : d.toList = Cur.put x n := hs
  have : d = (Cur.put x n).toArray := by rw [← hs]
  exact ⟨by rw [this], ho⟩

theorem results_cell {fn : Func} {p : Tmp} {ty : TypeId} (h : fn.results = #[.cell p ty]) (tmps : Array Value) (P : Program) (w : World) :
    (results fn tmps).run P w =
      ((asAddr (tmps.getD p undef)).run P w).andThen fun a w₁ => (loadVar ty a).run P w₁ := by
  simp only [results, h]
  simp [Sem.run_bind, Result.andThen]

set_option maxHeartbeats 1000000 in
theorem model_c (w : World) (m : Wr.Msg) (v : Value) (hv : BS w v m.bytes) : Calls Tryd.prog 11 #[msgV m v] w fun e w' => e = .returned (msgV m (.string ⟨m.bytes.toArray⟩)) ∧ Only [] w w' := by
  have HV := Lib.hid hv
  obtain ⟨a, cap, hve, h1, h2, -, -⟩ := hv
  obtain ⟨n, hn⟩ : ∃ n, m.bytes.length = n := ⟨_, rfl⟩
  rw [hn] at hve h1
  subst hve
  clear hn
  obtain ⟨S, hS⟩ : ∃ S : ByteArray, (⟨m.bytes.toArray⟩ : ByteArray) = S := ⟨_, rfl⟩
  rw [hS]
  unfold msgV
  go_enter Tryd.func11, Tryd.ntmps11
  go_upto_region 1 with fail
  have hB : MB (w.alloc (.cells #[.int .u8 (m.kind : Int), .int .u64 (m.key : Int), .int .u64 (m.epoch : Int), .int .u32 (m.index : Int), .int .u32 (m.a : Int), .int .u32 (m.b : Int), .slice a n cap] 26 (0, 0))) w.heap.size 26 m (.slice a n cap) := MB.new w _ _ _
  have HO0 : Hid (Only [] w (w.alloc (.cells #[.int .u8 (m.kind : Int), .int .u64 (m.key : Int), .int .u64 (m.epoch : Int), .int .u32 (m.index : Int), .int .u32 (m.a : Int), .int .u32 (m.b : Int), .slice a n cap] 26 (0, 0)))) := Lib.hid ((Only.refl [] w).alloc _)
  have hsz : (w.alloc (.cells #[.int .u8 (m.kind : Int), .int .u64 (m.key : Int), .int .u64 (m.epoch : Int), .int .u32 (m.index : Int), .int .u32 (m.a : Int), .int .u32 (m.b : Int), .slice a n cap] 26 (0, 0))).heap.size = w.heap.size + 1 := by simp
  generalize World.alloc w _ = w1 at *
  have hB2 : MB (w1.alloc (.cells #[.int .u8 0, .int .u64 0, .int .u64 0, .int .u32 0, .int .u32 0, .int .u32 0, .string ⟨#[]⟩] 35 (0, 0))) w.heap.size 26 m (.slice a n cap) := hB.only ((Only.refl [] w1).alloc _) (by simp)
  have hM2 : MB (w1.alloc (.cells #[.int .u8 0, .int .u64 0, .int .u64 0, .int .u32 0, .int .u32 0, .int .u32 0, .string ⟨#[]⟩] 35 (0, 0))) (w.heap.size + 1) 35 Wr.zero (.string ⟨#[]⟩) := by
    have h := MB.new w1 35 Wr.zero (.string ⟨#[]⟩)
    rw [hsz] at h
    exact h
  have HO2 : Hid (Only [] w (w1.alloc (.cells #[.int .u8 0, .int .u64 0, .int .u64 0, .int .u32 0, .int .u32 0, .int .u32 0, .string ⟨#[]⟩] 35 (0, 0)))) := Lib.hid (HO0.out.alloc _)
  have hstr := run_string_of_bytes (P := Tryd.prog) Tryd.underlying24 Tryd.underlying5 Tryd.underlying9 (HV.out.only HO2.out (by simp))
  rw [hS] at hstr
  generalize World.alloc w1 _ = w2 at *
  obtain ⟨q, hq⟩ : ∃ q, w.heap.size = q := ⟨_, rfl⟩
  rw [hq] at hB2 hM2 ⊢
  obtain ⟨c0, c1, c2, c3, c4, c5, c6, cf⟩ := MB.cells hB2
  obtain ⟨d0, d1, d2, d3, d4, d5, d6, df⟩ := MB.cells hM2
  have HQ := Lib.hid hq
  clear hB hB2 hM2 hsz hq
  --@1
  go_wp2
  (try simp only [Exit.inBlock, Exit.then])
  refine bodyPost_ret (v := .agg #[.int .u8 (m.kind : Int), .int .u64 (m.key : Int), .int .u64 (m.epoch : Int), .int .u32 (m.index : Int), .int .u32 (m.a : Int), .int .u32 (m.b : Int), .string S]) (by rw [results_cell rfl]; go_simp) rfl ⟨rfl, only_set7 HO2.out (by have := HQ.out; omega) m (.string S)⟩

set_option maxRecDepth 100000 in
set_option maxHeartbeats 8000000 in
theorem rget_c (w : World) (s : ByteArray) (hs : s.size ≤ 1000000) : Calls Tryd.prog 14 #[.string s] w fun e w' => (∃ sb, e = .returned (.tuple #[msgV (Wr.get s.data.toList).1 (.string sb), .int .i64 (Wr.get s.data.toList).2]) ∧ sb.data.toList = (Wr.get s.data.toList).1.bytes) ∧ Only [] w w' := by
  have hls : s.data.toList.length = s.size := len_data s
  obtain ⟨l, hle⟩ : ∃ l, s.data.toList = l := ⟨_, rfl⟩
  rw [hle] at hls ⊢
  have HL := Lib.hid hle
  clear hle
  obtain ⟨⟨L1, E1, K⟩, h1⟩ : ∃ t, Cur.rnum l 0 1 = t := ⟨_, rfl⟩
  obtain ⟨⟨L2, E2, Y⟩, h2⟩ : ∃ t, Cur.rnum L1 E1 8 = t := ⟨_, rfl⟩
  obtain ⟨⟨L3, E3, P⟩, h3⟩ : ∃ t, Cur.rnum L2 E2 8 = t := ⟨_, rfl⟩
  obtain ⟨⟨L4, E4, I⟩, h4⟩ : ∃ t, Cur.rnum L3 E3 4 = t := ⟨_, rfl⟩
  obtain ⟨⟨L5, E5, A⟩, h5⟩ : ∃ t, Cur.rnum L4 E4 4 = t := ⟨_, rfl⟩
  obtain ⟨⟨L6, E6, Z⟩, h6⟩ : ∃ t, Cur.rnum L5 E5 4 = t := ⟨_, rfl⟩
  obtain ⟨⟨L7, E7, N⟩, h7⟩ : ∃ t, Cur.rnum L6 E6 2 = t := ⟨_, rfl⟩
  obtain ⟨⟨L8, E8, bs⟩, h8⟩ : ∃ t, Cur.rbytes L7 E7 (N : Nat) = t := ⟨_, rfl⟩
  obtain ⟨⟨L9, E9, X⟩, h9⟩ : ∃ t, Cur.rnum L8 E8 4 = t := ⟨_, rfl⟩
  have hraw := Wr.raw_of h1 h2 h3 h4 h5 h6 h7 h8 h9
  have k1 := Cur.rnum_lt l 0 1 (by decide) (by decide)
  have k4 := Cur.rnum_lt L3 E3 4 (by decide) (by decide)
  have k5 := Cur.rnum_lt L4 E4 4 (by decide) (by decide)
  have k6 := Cur.rnum_lt L5 E5 4 (by decide) (by decide)
  have k7 := Cur.rnum_lt L6 E6 2 (by decide) (by decide)
  have k9 := Cur.rnum_lt L8 E8 4 (by decide) (by decide)
  have k1 : K < 256 := by have e := congrArg (fun t => t.2.2) h1; simp only at e; rw [← e]; exact k1
  have k4 : I < 4294967296 := by have e := congrArg (fun t => t.2.2) h4; simp only at e; rw [← e]; exact k4
  have k5 : A < 4294967296 := by have e := congrArg (fun t => t.2.2) h5; simp only at e; rw [← e]; exact k5
  have k6 : Z < 4294967296 := by have e := congrArg (fun t => t.2.2) h6; simp only at e; rw [← e]; exact k6
  have k7 : N < 65536 := by have e := congrArg (fun t => t.2.2) h7; simp only at e; rw [← e]; exact k7
  have k9 : X < 4294967296 := by have e := congrArg (fun t => t.2.2) h9; simp only at e; rw [← e]; exact k9
  have HRAW := Lib.hid hraw
  have nc : ∀ (l : List UInt8) (e : Int) (n : Int) (l' : List UInt8) (e' : Int) (x : Nat), Cur.rnum l e n = (l', e', x) → ∀ (W : World) (s : ByteArray), s.data.toList = l → s.size ≤ 1000000 → Calls Tryd.prog 31 #[.agg #[.string s, .int .i64 e], .int .i64 n] W fun z w' =>
      ∃ s', z = .returned (.tuple #[.agg #[.string s', .int .i64 e'], .int .u64 (x : Nat)]) ∧ (s'.data.toList = l' ∧ s'.size ≤ 1000000) ∧ Only [] W w' := by
    intro l e n l' e' x h W s hs hz
    have h2 := refnumber_c W s e n (by omega)
    rw [hs, h] at h2
    refine h2.mono ?_
    rintro z w' ⟨s', rfl, h3, ho⟩
    have h3 : s'.data.toList = l' := h3
    refine ⟨s', rfl, ⟨h3, ?_⟩, ho⟩
    have h4 := Cur.rtake_left l e n (decide (1 ≤ n) && decide (n ≤ 8))
    have h5 : l'.length ≤ l.length := by
      have : (Cur.rnum l e n).1.length ≤ l.length := h4
      rw [h] at this
      exact this
    rw [← len_data, h3]
    rw [← len_data, hs] at hz
    omega
  have HN1 := Lib.hid (nc _ _ _ _ _ _ h1)
  have HN2 := Lib.hid (nc _ _ _ _ _ _ h2)
  have HN3 := Lib.hid (nc _ _ _ _ _ _ h3)
  have HN4 := Lib.hid (nc _ _ _ _ _ _ h4)
  have HN5 := Lib.hid (nc _ _ _ _ _ _ h5)
  have HN6 := Lib.hid (nc _ _ _ _ _ _ h6)
  have HN7 := Lib.hid (nc _ _ _ _ _ _ h7)
  have HN9 := Lib.hid (nc _ _ _ _ _ _ h9)
  have H8 := Lib.hid h8
  clear h1 h2 h3 h4 h5 h6 h7 h8 h9 hraw nc
  go_enter Tryd.func14, Tryd.ntmps14
  go_upto_region 1 with fail
  have hz : MB (w.alloc (.cells #[.int .u8 0, .int .u64 0, .int .u64 0, .int .u32 0, .int .u32 0, .int .u32 0, .string ⟨#[]⟩] 35 (0, 0))) w.heap.size 35 Wr.zero (.string ⟨#[]⟩) := MB.new w _ Wr.zero _
  have ho1 : Only [] w (w.alloc (.cells #[.int .u8 0, .int .u64 0, .int .u64 0, .int .u32 0, .int .u32 0, .int .u32 0, .string ⟨#[]⟩] 35 (0, 0))) := (Only.refl [] w).alloc _
  generalize World.alloc w _ = w1 at *
  obtain ⟨q, hq⟩ : ∃ q, w.heap.size = q := ⟨_, rfl⟩
  rw [hq] at hz ⊢
  have HQ := Lib.hid hq
  have HZ1 := Lib.hid hz; have HO1 := Lib.hid ho1
  clear hz ho1 hq
  go_wp2_with fail
  refine (HN1.out w1 s HL.out hs).mono ?_
  rintro e w2 ⟨s1, rfl, hs1, ho2⟩
  have HO2 := Lib.hid (HO1.out.then ho2); have HZ2 := Lib.hid (HZ1.out.only ho2 (by simp)); have HS1 := Lib.hid hs1
  clear ho2 hs1 HO1 HZ1
  go_upto_region 2 with fail
  have hp := P2.new w2 68 (.string s1) (.int .i64 E1)
  have ho3 : Only [] w2 (w2.alloc (.cells #[.string s1, .int .i64 E1] 68 (0, 0))) := (Only.refl [] w2).alloc _
  have hqw : q < w2.heap.size := HZ2.out.lt
  generalize World.alloc w2 _ = w3 at *
  generalize w2.heap.size = D at *
  have HO3 := Lib.hid (HO2.out.then ho3); have HZ3 := Lib.hid (HZ2.out.only ho3 (by simp)); have HP3 := Lib.hid hp
  have HSZ : Hid (w.heap.size ≤ D) := Lib.hid (by have := HQ.out; omega)
  clear ho3 hp HO2 HZ2
  --@2
  have ht8 : ∀ (W : World) (s : ByteArray), s.data.toList = L7 → s.size ≤ 1000000 → Calls Tryd.prog 32 #[.agg #[.string s, .int .i64 E7], .int .i64 (N : Nat)] W fun z w' =>
      ∃ s' o, z = .returned (.tuple #[.agg #[.string s', .int .i64 E8], .string o]) ∧ (s'.data.toList = L8 ∧ s'.size ≤ 1000000) ∧ o.data.toList = bs ∧ Only [] W w' := by
    intro W s hs hz
    have h2 := reftake_c W s E7 (N : Nat) (by omega)
    rw [hs, H8.out] at h2
    refine h2.mono ?_
    rintro z w' ⟨s', o, rfl, h3, h4, ho⟩
    have h3 : s'.data.toList = L8 := h3
    refine ⟨s', o, rfl, ⟨h3, ?_⟩, h4, ho⟩
    have h4 := Cur.rtake_left L7 E7 (N : Nat) (decide (0 ≤ (N : Int)))
    have h5 : L8.length ≤ L7.length := by
      have : (Cur.rbytes L7 E7 (N : Nat)).1.length ≤ L7.length := h4
      rw [H8.out] at this
      exact this
    rw [← len_data, h3]
    rw [← len_data, hs] at hz
    omega
  obtain ⟨c0, c1, cf⟩ := P2.cells HP3.out
  go_wp2_with fail
  refine (HN2.out w3 s1 HS1.out.1 HS1.out.2).mono ?_
  rintro e w4 ⟨s2, rfl, hs2, ho⟩
  have hp := HP3.out.only ho (by simp)
  have HO4 := Lib.hid (HO3.out.then ho); have HZ4 := Lib.hid (HZ3.out.only ho (by simp)); have HS2 := Lib.hid hs2
  clear ho hs2 c0 c1 cf HO3 HZ3 HP3
  obtain ⟨c0, c1, cf⟩ := P2.cells hp
  go_upto_region 3 with fail
  have hp2 := hp.set (.string s2) (.int .i64 E2)
  have ho2 : Only [] w ((w4.setCell ⟨D, 0, none⟩ (.string s2)).setCell ⟨D, 1, none⟩ (.int .i64 E2)) := (HO4.out.setCell (.inr (by have := HSZ.out; show w.heap.size ≤ D; omega)) _).setCell (.inr (by have := HSZ.out; show w.heap.size ≤ D; omega)) _
  have hz2 : MB ((w4.setCell ⟨D, 0, none⟩ (.string s2)).setCell ⟨D, 1, none⟩ (.int .i64 E2)) q 35 Wr.zero (.string ⟨#[]⟩) := by
    unfold MB
    rw [Below.heap_setCell _ _ _ _ (by simp; omega), Below.heap_setCell _ _ _ _ (by simp; omega)]
    exact HZ4.out
  generalize World.setCell (World.setCell _ _ _) _ _ = w5 at *
  have HP5 := Lib.hid hp2; have HO5 := Lib.hid ho2; have HZ5 := Lib.hid hz2
  clear hp hp2 ho2 hz2 c0 c1 cf HO4 HZ4
  obtain ⟨c0, c1, cf⟩ := P2.cells HP5.out
  go_wp2_with fail
  refine (HN3.out w5 s2 HS2.out.1 HS2.out.2).mono ?_
  rintro e w6 ⟨s3, rfl, hs3, ho⟩
  have hp := HP5.out.only ho (by simp)
  have HO6 := Lib.hid (HO5.out.then ho); have HZ6 := Lib.hid (HZ5.out.only ho (by simp)); have HS3 := Lib.hid hs3
  clear ho hs3 c0 c1 cf HO5 HZ5 HP5
  obtain ⟨c0, c1, cf⟩ := P2.cells hp
  go_upto_region 4 with fail
  have hp2 := hp.set (.string s3) (.int .i64 E3)
  have ho2 : Only [] w ((w6.setCell ⟨D, 0, none⟩ (.string s3)).setCell ⟨D, 1, none⟩ (.int .i64 E3)) := (HO6.out.setCell (.inr (by have := HSZ.out; show w.heap.size ≤ D; omega)) _).setCell (.inr (by have := HSZ.out; show w.heap.size ≤ D; omega)) _
  have hz2 : MB ((w6.setCell ⟨D, 0, none⟩ (.string s3)).setCell ⟨D, 1, none⟩ (.int .i64 E3)) q 35 Wr.zero (.string ⟨#[]⟩) := by
    unfold MB
    rw [Below.heap_setCell _ _ _ _ (by simp; omega), Below.heap_setCell _ _ _ _ (by simp; omega)]
    exact HZ6.out
  generalize World.setCell (World.setCell _ _ _) _ _ = w7 at *
  have HP7 := Lib.hid hp2; have HO7 := Lib.hid ho2; have HZ7 := Lib.hid hz2
  clear hp hp2 ho2 hz2 c0 c1 cf HO6 HZ6
  obtain ⟨c0, c1, cf⟩ := P2.cells HP7.out
  go_wp2_with fail
  refine (HN4.out w7 s3 HS3.out.1 HS3.out.2).mono ?_
  rintro e w8 ⟨s4, rfl, hs4, ho⟩
  have hp := HP7.out.only ho (by simp)
  have HO8 := Lib.hid (HO7.out.then ho); have HZ8 := Lib.hid (HZ7.out.only ho (by simp)); have HS4 := Lib.hid hs4
  clear ho hs4 c0 c1 cf HO7 HZ7 HP7
  obtain ⟨c0, c1, cf⟩ := P2.cells hp
  go_upto_region 5 with fail
  have hp2 := hp.set (.string s4) (.int .i64 E4)
  have ho2 : Only [] w ((w8.setCell ⟨D, 0, none⟩ (.string s4)).setCell ⟨D, 1, none⟩ (.int .i64 E4)) := (HO8.out.setCell (.inr (by have := HSZ.out; show w.heap.size ≤ D; omega)) _).setCell (.inr (by have := HSZ.out; show w.heap.size ≤ D; omega)) _
  have hz2 : MB ((w8.setCell ⟨D, 0, none⟩ (.string s4)).setCell ⟨D, 1, none⟩ (.int .i64 E4)) q 35 Wr.zero (.string ⟨#[]⟩) := by
    unfold MB
    rw [Below.heap_setCell _ _ _ _ (by simp; omega), Below.heap_setCell _ _ _ _ (by simp; omega)]
    exact HZ8.out
  generalize World.setCell (World.setCell _ _ _) _ _ = w9 at *
  have HP9 := Lib.hid hp2; have HO9 := Lib.hid ho2; have HZ9 := Lib.hid hz2
  clear hp hp2 ho2 hz2 c0 c1 cf HO8 HZ8
  obtain ⟨c0, c1, cf⟩ := P2.cells HP9.out
  go_wp2_with fail
  refine (HN5.out w9 s4 HS4.out.1 HS4.out.2).mono ?_
  rintro e w10 ⟨s5, rfl, hs5, ho⟩
  have hp := HP9.out.only ho (by simp)
  have HO10 := Lib.hid (HO9.out.then ho); have HZ10 := Lib.hid (HZ9.out.only ho (by simp)); have HS5 := Lib.hid hs5
  clear ho hs5 c0 c1 cf HO9 HZ9 HP9
  obtain ⟨c0, c1, cf⟩ := P2.cells hp
  go_upto_region 6 with fail
  have hp2 := hp.set (.string s5) (.int .i64 E5)
  have ho2 : Only [] w ((w10.setCell ⟨D, 0, none⟩ (.string s5)).setCell ⟨D, 1, none⟩ (.int .i64 E5)) := (HO10.out.setCell (.inr (by have := HSZ.out; show w.heap.size ≤ D; omega)) _).setCell (.inr (by have := HSZ.out; show w.heap.size ≤ D; omega)) _
  have hz2 : MB ((w10.setCell ⟨D, 0, none⟩ (.string s5)).setCell ⟨D, 1, none⟩ (.int .i64 E5)) q 35 Wr.zero (.string ⟨#[]⟩) := by
    unfold MB
    rw [Below.heap_setCell _ _ _ _ (by simp; omega), Below.heap_setCell _ _ _ _ (by simp; omega)]
    exact HZ10.out
  generalize World.setCell (World.setCell _ _ _) _ _ = w11 at *
  have HP11 := Lib.hid hp2; have HO11 := Lib.hid ho2; have HZ11 := Lib.hid hz2
  clear hp hp2 ho2 hz2 c0 c1 cf HO10 HZ10
  obtain ⟨c0, c1, cf⟩ := P2.cells HP11.out
  go_wp2_with fail
  refine (HN6.out w11 s5 HS5.out.1 HS5.out.2).mono ?_
  rintro e w12 ⟨s6, rfl, hs6, ho⟩
  have hp := HP11.out.only ho (by simp)
  have HO12 := Lib.hid (HO11.out.then ho); have HZ12 := Lib.hid (HZ11.out.only ho (by simp)); have HS6 := Lib.hid hs6
  clear ho hs6 c0 c1 cf HO11 HZ11 HP11
  obtain ⟨c0, c1, cf⟩ := P2.cells hp
  go_upto_region 7 with fail
  have hp2 := hp.set (.string s6) (.int .i64 E6)
  have ho2 : Only [] w ((w12.setCell ⟨D, 0, none⟩ (.string s6)).setCell ⟨D, 1, none⟩ (.int .i64 E6)) := (HO12.out.setCell (.inr (by have := HSZ.out; show w.heap.size ≤ D; omega)) _).setCell (.inr (by have := HSZ.out; show w.heap.size ≤ D; omega)) _
  have hz2 : MB ((w12.setCell ⟨D, 0, none⟩ (.string s6)).setCell ⟨D, 1, none⟩ (.int .i64 E6)) q 35 Wr.zero (.string ⟨#[]⟩) := by
    unfold MB
    rw [Below.heap_setCell _ _ _ _ (by simp; omega), Below.heap_setCell _ _ _ _ (by simp; omega)]
    exact HZ12.out
  generalize World.setCell (World.setCell _ _ _) _ _ = w13 at *
  have HP13 := Lib.hid hp2; have HO13 := Lib.hid ho2; have HZ13 := Lib.hid hz2
  clear hp hp2 ho2 hz2 c0 c1 cf HO12 HZ12
  obtain ⟨c0, c1, cf⟩ := P2.cells HP13.out
  go_wp2_with fail
  refine (HN7.out w13 s6 HS6.out.1 HS6.out.2).mono ?_
  rintro e w14 ⟨s7, rfl, hs7, ho⟩
  have hp := HP13.out.only ho (by simp)
  have HO14 := Lib.hid (HO13.out.then ho); have HZ14 := Lib.hid (HZ13.out.only ho (by simp)); have HS7 := Lib.hid hs7
  clear ho hs7 c0 c1 cf HO13 HZ13 HP13
  obtain ⟨c0, c1, cf⟩ := P2.cells hp
  go_upto_region 8 with fail
  have hp2 := hp.set (.string s7) (.int .i64 E7)
  have ho2 : Only [] w ((w14.setCell ⟨D, 0, none⟩ (.string s7)).setCell ⟨D, 1, none⟩ (.int .i64 E7)) := (HO14.out.setCell (.inr (by have := HSZ.out; show w.heap.size ≤ D; omega)) _).setCell (.inr (by have := HSZ.out; show w.heap.size ≤ D; omega)) _
  have hz2 : MB ((w14.setCell ⟨D, 0, none⟩ (.string s7)).setCell ⟨D, 1, none⟩ (.int .i64 E7)) q 35 Wr.zero (.string ⟨#[]⟩) := by
    unfold MB
    rw [Below.heap_setCell _ _ _ _ (by simp; omega), Below.heap_setCell _ _ _ _ (by simp; omega)]
    exact HZ14.out
  generalize World.setCell (World.setCell _ _ _) _ _ = w15 at *
  have HP15 := Lib.hid hp2; have HO15 := Lib.hid ho2; have HZ15 := Lib.hid hz2
  clear hp hp2 ho2 hz2 c0 c1 cf HO14 HZ14
  obtain ⟨c0, c1, cf⟩ := P2.cells HP15.out
  go_wp2_with fail
  refine (ht8 w15 s7 HS7.out.1 HS7.out.2).mono ?_
  rintro e w16 ⟨s8, o8, rfl, hs8, hob, ho⟩
  have HOB := Lib.hid hob
  clear hob
  have hp := HP15.out.only ho (by simp)
  have HO16 := Lib.hid (HO15.out.then ho); have HZ16 := Lib.hid (HZ15.out.only ho (by simp)); have HS8 := Lib.hid hs8
  clear ho hs8 c0 c1 cf HO15 HZ15 HP15
  obtain ⟨c0, c1, cf⟩ := P2.cells hp
  go_upto_region 9 with fail
  have hp2 := hp.set (.string s8) (.int .i64 E8)
  have ho2 : Only [] w ((w16.setCell ⟨D, 0, none⟩ (.string s8)).setCell ⟨D, 1, none⟩ (.int .i64 E8)) := (HO16.out.setCell (.inr (by have := HSZ.out; show w.heap.size ≤ D; omega)) _).setCell (.inr (by have := HSZ.out; show w.heap.size ≤ D; omega)) _
  have hz2 : MB ((w16.setCell ⟨D, 0, none⟩ (.string s8)).setCell ⟨D, 1, none⟩ (.int .i64 E8)) q 35 Wr.zero (.string ⟨#[]⟩) := by
    unfold MB
    rw [Below.heap_setCell _ _ _ _ (by simp; omega), Below.heap_setCell _ _ _ _ (by simp; omega)]
    exact HZ16.out
  generalize World.setCell (World.setCell _ _ _) _ _ = w17 at *
  have HP17 := Lib.hid hp2; have HO17 := Lib.hid ho2; have HZ17 := Lib.hid hz2
  clear hp hp2 ho2 hz2 c0 c1 cf HO16 HZ16
  obtain ⟨c0, c1, cf⟩ := P2.cells HP17.out
  go_wp2_with fail
  refine (HN9.out w17 s8 HS8.out.1 HS8.out.2).mono ?_
  rintro e w18 ⟨s9, rfl, hs9, ho⟩
  have hp := HP17.out.only ho (by simp)
  have HO18 := Lib.hid (HO17.out.then ho); have HZ18 := Lib.hid (HZ17.out.only ho (by simp)); have HS9 := Lib.hid hs9
  clear ho hs9 c0 c1 cf HO17 HZ17 HP17
  obtain ⟨c0, c1, cf⟩ := P2.cells hp
  go_upto_region 10 with fail
  have hp2 := hp.set (.string s9) (.int .i64 E9)
  have ho2 : Only [] w ((w18.setCell ⟨D, 0, none⟩ (.string s9)).setCell ⟨D, 1, none⟩ (.int .i64 E9)) := (HO18.out.setCell (.inr (by have := HSZ.out; show w.heap.size ≤ D; omega)) _).setCell (.inr (by have := HSZ.out; show w.heap.size ≤ D; omega)) _
  have hz2 : MB ((w18.setCell ⟨D, 0, none⟩ (.string s9)).setCell ⟨D, 1, none⟩ (.int .i64 E9)) q 35 Wr.zero (.string ⟨#[]⟩) := by
    unfold MB
    rw [Below.heap_setCell _ _ _ _ (by simp; omega), Below.heap_setCell _ _ _ _ (by simp; omega)]
    exact HZ18.out
  generalize World.setCell (World.setCell _ _ _) _ _ = w19 at *
  have HP19 := Lib.hid hp2; have HO19 := Lib.hid ho2; have HZ19 := Lib.hid hz2
  clear hp hp2 ho2 hz2 c0 c1 cf HO18 HZ18
  --@3
  obtain ⟨c0, c1, cf⟩ := P2.cells HP19.out
  go_wp2_with fail
  refine (refend_c w19 s9 E9 (by have := HS9.out.2; omega)).mono ?_
  rintro e w20 ⟨rfl, ho⟩
  have HO20 := Lib.hid (HO19.out.then ho); have hz20 := HZ19.out.only ho (by simp)
  have HZ20 := Lib.hid hz20
  rw [HS9.out.1]
  obtain ⟨E, hE⟩ : ∃ E, Cur.rend L9 E9 = E := ⟨_, rfl⟩
  rw [hE] at HRAW ⊢
  clear ho hE c0 c1 cf HO19 HZ19 HP19
  by_cases hE0 : E = 0
  · subst hE0
    have hlen := Wr.raw_len l (by rw [HRAW.out])
    have hsl4 : (4 : Int) ≤ (s.size : Int) := by omega
    obtain ⟨n4, hn4⟩ : ∃ n4, s.size = n4 + 4 := ⟨s.size - 4, by omega⟩
    have hsub : ((s.size : Int) - 4) = (n4 : Int) := by omega
    have hl4 : l.length - 4 = n4 := by omega
    have hget : Wr.get l = if Crc.sum (l.take n4) ≠ X then (Wr.zero, 13) else if Wr.may ⟨K, Y, P, I, A, Z, bs⟩ then (⟨K, Y, P, I, A, Z, bs⟩, 0) else (Wr.zero, 11) := by
      unfold Wr.get
      rw [HRAW.out, hl4]
      simp only []
      rw [if_neg (by simp)]
    have HG := Lib.hid hget
    have hex : (s.extract 0 n4).data.toList = l.take n4 := by
      rw [← HL.out]
      simp [ByteArray.data_extract]
    have hexs : (s.extract 0 n4).size ≤ 1000000 := by rw [ByteArray.size_extract]; omega
    have HEX := Lib.hid hex
    have hob : o8.size = bs.length := by rw [← len_data, HOB.out]
    have HOBS := Lib.hid hob
    have HNN := Lib.hid hn4
    have hsz2 : (s.size : Int) = (n4 : Int) + 4 := by omega
    clear hget hex hlen hl4 hls hob
    --@4
    go_wp2_with fail
    refine (ref_c _ w20 hexs).mono ?_
    rintro e w' ⟨rfl, rfl⟩
    rw [HEX.out]
    have hsum : Crc.sum (l.take n4) ≤ 4294967295 := Nat.sub_le _ _
    obtain ⟨S, hS⟩ : ∃ S, Crc.sum (l.take n4) = S := ⟨_, rfl⟩
    rw [hS] at hsum HG ⊢
    clear hS hexs
    obtain ⟨d0, d1, d2, d3, d4, d5, d6, df⟩ := hz20.cells
    simp only [Wr.zero] at d0 d1 d2 d3 d4 d5
    by_cases hSX : S = X
    · have hSI : ((S : Int) != (X : Int)) = false := by rw [bne_eq_false_iff_eq]; omega
      rw [if_neg (fun h => h hSX)] at HG
      clear hSX hz20
      cases hmay : Wr.may ⟨K, Y, P, I, A, Z, bs⟩ with
      | true =>
        rw [hmay, if_pos rfl] at HG
        simp [Wr.may] at hmay
        have g1 : ¬ ((K : Int) < 1) := by omega
        have g2 : ¬ ((6 : Int) < (K : Int)) := by omega
        have g3 : ¬ ((1465 : Int) < (o8.size : Int)) := by rw [HOBS.out]; omega
        clear hmay
        --@5
        go_wp2
        (try simp only [Exit.inBlock, Exit.then])
        (refine bodyPost_ret (v := .tuple #[msgV ⟨K, Y, P, I, A, Z, bs⟩ (.string o8), .int .i64 0]) (by unfold msgV; rw [results_cell_tmp rfl]; go_simp) rfl ⟨⟨o8, by rw [HG.out], by rw [HG.out]; exact HOB.out⟩, only_set7 HO20.out (by have := HQ.out; omega) ⟨K, Y, P, I, A, Z, bs⟩ (.string o8)⟩)
      | false =>
        rw [hmay, if_neg (by simp)] at HG
        have hc : (K : Int) < 1 ∨ (¬ ((K : Int) < 1) ∧ (6 : Int) < (K : Int)) ∨ (¬ ((K : Int) < 1) ∧ ¬ ((6 : Int) < (K : Int)) ∧ (1465 : Int) < (o8.size : Int)) := by
          rw [HOBS.out]
          simp [Wr.may] at hmay
          omega
        clear hmay
        rcases hc with g1 | ⟨g1, g2⟩ | ⟨g1, g2, g3⟩
        all_goals
          go_wp2
          (try simp only [Exit.inBlock, Exit.then])
          (refine bodyPost_ret (v := .tuple #[msgV Wr.zero (.string ⟨#[]⟩), .int .i64 11]) (by unfold msgV Wr.zero; rw [results_cell_tmp rfl]; go_simp) rfl ⟨⟨⟨#[]⟩, by rw [HG.out], by rw [HG.out]; rfl⟩, only_set7 HO20.out (by have := HQ.out; omega) Wr.zero (.string ⟨#[]⟩)⟩)
    · have hSI : ((S : Int) != (X : Int)) = true := by rw [bne_iff_ne]; omega
      rw [if_pos hSX] at HG
      clear hSX hz20
      --@6
      go_wp2
      (try simp only [Exit.inBlock, Exit.then])
      (refine bodyPost_ret (v := .tuple #[msgV Wr.zero (.string ⟨#[]⟩), .int .i64 13]) (by unfold msgV Wr.zero; rw [results_cell_tmp rfl]; go_simp) rfl ⟨⟨⟨#[]⟩, by rw [HG.out], by rw [HG.out]; rfl⟩, only_set7 HO20.out (by have := HQ.out; omega) Wr.zero (.string ⟨#[]⟩)⟩)
  · have hget : Wr.get l = (Wr.zero, E) := by
      unfold Wr.get
      rw [HRAW.out]
      simp only []
      rw [if_pos hE0]
    have HG := Lib.hid hget
    have hEI : (E != 0) = true := bne_iff_ne.2 hE0
    obtain ⟨d0, d1, d2, d3, d4, d5, d6, df⟩ := hz20.cells
    simp only [Wr.zero] at d0 d1 d2 d3 d4 d5
    clear hget hE0 hz20
    --@7
    go_wp2
    (try simp only [Exit.inBlock, Exit.then])
    (refine bodyPost_ret (v := .tuple #[msgV Wr.zero (.string ⟨#[]⟩), .int .i64 E]) (by unfold msgV Wr.zero; rw [results_cell_tmp rfl]; go_simp) rfl ⟨⟨⟨#[]⟩, by rw [HG.out], by rw [HG.out]; rfl⟩, only_set7 HO20.out (by have := HQ.out; omega) Wr.zero (.string ⟨#[]⟩)⟩)
end Go.Proofs.YtdoiebbbgmlkaaaDoor.wr
