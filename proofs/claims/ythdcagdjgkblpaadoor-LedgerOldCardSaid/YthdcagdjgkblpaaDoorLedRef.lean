/-
  THE WALK of the reference's Put.
-/
import Derived.Test.YthdcagdjgkblpaaDoorLedLast
set_option linter.unusedVariables false
set_option linter.unusedSimpArgs false
namespace Go.Proofs.YthdcagdjgkblpaaDoor.led
open Go Go.RowKit Go.Lm Go.Proofs.YthdcagdjgkblpaaDoor.cur Go.Proofs.YthdcagdjgkblpaaDoor.crc

theorem refput_d (w : World) (x : Nat) (n : Nat) (h1 : 1 ≤ n) (h8 : n ≤ 8) (hx : x < 18446744073709551616) : Calls Tryd.prog 25 #[.int .u64 x, .int .i64 n] w fun e w' => e = .returned (.string ⟨(Cur.put x n).toArray⟩) ∧ Only [] w w' := by
  refine (refput_c w x n hx (by omega)).mono ?_
  rintro e w' ⟨s, rfl, hs, ho⟩
  obtain ⟨d⟩ := s
  rw [if_pos (by omega)] at hs
  have hs : d.toList = Cur.put x n := hs
  have : d = (Cur.put x n).toArray := by rw [← hs]
  exact ⟨by rw [this], ho⟩

set_option maxHeartbeats 1000000 in
theorem rput_no (w : World) (k v : Nat) (hk : ¬ (k = 1 ∨ k = 2)) : Calls Tryd.prog 13 #[.agg #[.int .u8 (k : Int), .int .u64 (v : Int)]] w fun e w' => e = .returned (.string ⟨#[]⟩) ∧ Only [] w w' := by
  have h1 : ((k : Int) != 1) = true := by rw [bne_iff_ne]; omega
  have h2 : ((k : Int) != 2) = true := by rw [bne_iff_ne]; omega
  clear hk
  go_enter Tryd.func13, Tryd.ntmps13
  go_wp2
  go_ret
  exact ⟨rfl, (Only.refl [] w).alloc _⟩

theorem ba_cat (a b : List UInt8) : (⟨a.toArray⟩ : ByteArray) ++ (⟨b.toArray⟩ : ByteArray) = ⟨(a ++ b).toArray⟩ := by
  apply ByteArray.ext
  simp [ByteArray.data_append]

set_option maxRecDepth 100000 in
set_option maxHeartbeats 4000000 in
theorem rput_1 (w : World) (v : Nat) (hv : v < 18446744073709551616) : Calls Tryd.prog 13 #[.agg #[.int .u8 1, .int .u64 (v : Int)]] w fun e w' => e = .returned (.string ⟨(Led.put 1 v).toArray⟩) ∧ Only [] w w' := by
  have h0 : Led.rec0 1 v = [1] ++ Cur.put v 8 := rfl
  have HV := Lib.hid hv; have H0 := Lib.hid h0
  have HQ : Hid (∀ W : World, Calls Tryd.prog 25 #[.int .u64 (v : Int), .int .i64 8] W fun e w' => e = .returned (.string ⟨(Cur.put v 8).toArray⟩) ∧ Only [] W w') := fun W => refput_d W v 8 (by decide) (by decide) hv
  clear hv h0
  obtain ⟨s8, hs8⟩ : ∃ s8 : ByteArray, (⟨(Cur.put v 8).toArray⟩ : ByteArray) = s8 := ⟨_, rfl⟩
  obtain ⟨s1, hs1⟩ : ∃ s1 : ByteArray, (⟨[1].toArray⟩ : ByteArray) = s1 := ⟨_, rfl⟩
  have hz8 : s8.size = 8 := by rw [← hs8]; show (Cur.put v 8).toArray.size = 8; simp [Cur.put_length]
  have hz1 : s1.size = 1 := by rw [← hs1]; rfl
  rw [hs8] at HQ
  go_enter Tryd.func13, Tryd.ntmps13
  go_upto_region 1 with fail
  have hrec : P2 (w.alloc (.cells #[.int .u8 1, .int .u64 (v : Int)] 33 (0, 0))) w.heap.size 33 (.int .u8 1) (.int .u64 (v : Int)) := P2.new w _ _ _
  have HO1 : Hid (Only [] w (w.alloc (.cells #[.int .u8 1, .int .u64 (v : Int)] 33 (0, 0)))) := (Only.refl [] w).alloc _
  generalize World.alloc w _ = w1 at *
  generalize w.heap.size = q at *
  obtain ⟨c0, c1, cf⟩ := P2.cells hrec
  have HREC := Lib.hid hrec
  have hq1 : q < w1.heap.size := hrec.lt
  have hq2 : ¬ q = w1.heap.size := by omega
  have hq3 : ¬ w1.heap.size = q := by omega
  have hsa : ∀ W : World, (convert 22 9 (.slice (some ⟨W.heap.size, 0, none⟩) 1 1)).run Tryd.prog (W.alloc (.cells #[.int .u8 1] 5 (0, 0))) = .ok (.string ⟨[1].toArray⟩) (W.alloc (.cells #[.int .u8 1] 5 (0, 0))) := fun W =>
    run_string_of_bytes Tryd.underlying22 Tryd.underlying5 Tryd.underlying9 (BS.lit W #[.int .u8 1] 5 (0, 0) 1 [1] rfl rfl (by simp [maxLen]))
  have HSB : Hid (∀ W W' : World, Only [] (W.alloc (.cells #[.int .u8 1] 5 (0, 0))) W' → (convert 22 9 (.slice (some ⟨W.heap.size, 0, none⟩) 1 1)).run Tryd.prog W' = .ok (.string ⟨[1].toArray⟩) W') := fun W W' h =>
    run_string_of_bytes Tryd.underlying22 Tryd.underlying5 Tryd.underlying9 ((BS.lit W #[.int .u8 1] 5 (0, 0) 1 [1] rfl rfl (by simp [maxLen])).only h (by simp))
  have hsd : ∀ W : World, (convert 22 9 (.slice (some ⟨W.heap.size, 0, none⟩) 1 1)).run Tryd.prog (W.alloc (.cells #[.int .u8 1] 5 (0, 0))).drew = .ok (.string ⟨[1].toArray⟩) (W.alloc (.cells #[.int .u8 1] 5 (0, 0))).drew := fun W => HSB.out W _ ((Only.refl [] _).drew)
  rw [hs1] at HSB
  simp only [hs1] at hsa hsd
  have HS1 := Lib.hid hs1; have HS8 := Lib.hid hs8
  clear hrec hs1 hs8
  --@1
  go_upto_region 3 with fail
  --@2
  go_region_with (go_at_call 25; refine (HQ.out _).mono ?_; rintro e w' ⟨rfl, ho'⟩; have hoq : Only [] w1 w' := (by first | exact (Only.drew (Only.refl [] w1)).then ho' | exact ((Only.refl [] w1).alloc _).drew.then ho'); obtain ⟨d0, d1, df⟩ := P2.cells (HREC.out.only hoq (by simp)); have HOQ := Lib.hid hoq; (first | (have hsb := HSB.out w1 _ ((Only.refl [] _).drew.then ho')) | skip); clear hoq ho')
  --@3
  all_goals
    obtain ⟨s9, hs9⟩ : ∃ s9 : ByteArray, s1 ++ s8 = s9 := ⟨_, rfl⟩
    have hz9 : s9.size = 9 := by rw [← hs9, ByteArray.size_append, hz1, hz8]
    have hd9 : s9.data.toList = Led.rec0 1 v := by rw [← hs9, ← HS1.out, ← HS8.out, ba_cat, ← H0.out]
    rw [hs9]
    have HD9 := Lib.hid hd9
    clear hs9 hd9
    go_wp2_with fail
    refine (ref_c s9 _ (by omega)).mono ?_
    rintro e wx ⟨rfl, rfl⟩
    rw [HD9.out]
    obtain ⟨C, hC⟩ : ∃ C, Crc.sum (Led.rec0 1 v) = C := ⟨_, rfl⟩
    have hCl : C ≤ 4294967295 := by rw [← hC]; exact Nat.sub_le _ _
    have hCw : IntKind.u64.wrap (C : Int) = (C : Int) := by rw [IntKind.wrap_u64]; omega
    rw [hC]
    go_wp2_with fail
    refine (refput_d _ C 4 (by decide) (by decide) (by omega)).mono ?_
    rintro e wy ⟨rfl, hoy⟩
    have hz4 : ByteArray.size ⟨(Cur.put C 4).toArray⟩ = 4 := by show (Cur.put C 4).toArray.size = 4; simp [Cur.put_length]
    have hres : s9 ++ (⟨(Cur.put C 4).toArray⟩ : ByteArray) = ⟨(Led.put 1 v).toArray⟩ := by
      have : s9 = ⟨(Led.rec0 1 v).toArray⟩ := by rw [← HD9.out]
      rw [this, ba_cat, ← hC]
      rfl
    have HRES := Lib.hid hres
    generalize (⟨(Cur.put C 4).toArray⟩ : ByteArray) = s4 at *
    clear hres
    go_wp2
    go_ret
    exact ⟨by first | rfl | (rw [HRES.out]; rfl), by first | exact (HO1.out.then HOQ.out).then hoy | exact ((HO1.out.then HOQ.out).alloc _).then hoy⟩

set_option maxRecDepth 100000 in
set_option maxHeartbeats 4000000 in
theorem rput_2 (w : World) (v : Nat) (hv : v < 18446744073709551616) : Calls Tryd.prog 13 #[.agg #[.int .u8 2, .int .u64 (v : Int)]] w fun e w' => e = .returned (.string ⟨(Led.put 2 v).toArray⟩) ∧ Only [] w w' := by
  have h0 : Led.rec0 2 v = [2] ++ Cur.put v 8 := rfl
  have HV := Lib.hid hv; have H0 := Lib.hid h0
  have HQ : Hid (∀ W : World, Calls Tryd.prog 25 #[.int .u64 (v : Int), .int .i64 8] W fun e w' => e = .returned (.string ⟨(Cur.put v 8).toArray⟩) ∧ Only [] W w') := fun W => refput_d W v 8 (by decide) (by decide) hv
  clear hv h0
  obtain ⟨s8, hs8⟩ : ∃ s8 : ByteArray, (⟨(Cur.put v 8).toArray⟩ : ByteArray) = s8 := ⟨_, rfl⟩
  obtain ⟨s1, hs1⟩ : ∃ s1 : ByteArray, (⟨[2].toArray⟩ : ByteArray) = s1 := ⟨_, rfl⟩
  have hz8 : s8.size = 8 := by rw [← hs8]; show (Cur.put v 8).toArray.size = 8; simp [Cur.put_length]
  have hz1 : s1.size = 1 := by rw [← hs1]; rfl
  rw [hs8] at HQ
  go_enter Tryd.func13, Tryd.ntmps13
  go_upto_region 1 with fail
  have hrec : P2 (w.alloc (.cells #[.int .u8 2, .int .u64 (v : Int)] 33 (0, 0))) w.heap.size 33 (.int .u8 2) (.int .u64 (v : Int)) := P2.new w _ _ _
  have HO1 : Hid (Only [] w (w.alloc (.cells #[.int .u8 2, .int .u64 (v : Int)] 33 (0, 0)))) := (Only.refl [] w).alloc _
  generalize World.alloc w _ = w1 at *
  generalize w.heap.size = q at *
  obtain ⟨c0, c1, cf⟩ := P2.cells hrec
  have HREC := Lib.hid hrec
  have hq1 : q < w1.heap.size := hrec.lt
  have hq2 : ¬ q = w1.heap.size := by omega
  have hq3 : ¬ w1.heap.size = q := by omega
  have hsa : ∀ W : World, (convert 22 9 (.slice (some ⟨W.heap.size, 0, none⟩) 1 1)).run Tryd.prog (W.alloc (.cells #[.int .u8 2] 5 (0, 0))) = .ok (.string ⟨[2].toArray⟩) (W.alloc (.cells #[.int .u8 2] 5 (0, 0))) := fun W =>
    run_string_of_bytes Tryd.underlying22 Tryd.underlying5 Tryd.underlying9 (BS.lit W #[.int .u8 2] 5 (0, 0) 1 [2] rfl rfl (by simp [maxLen]))
  have HSB : Hid (∀ W W' : World, Only [] (W.alloc (.cells #[.int .u8 2] 5 (0, 0))) W' → (convert 22 9 (.slice (some ⟨W.heap.size, 0, none⟩) 1 1)).run Tryd.prog W' = .ok (.string ⟨[2].toArray⟩) W') := fun W W' h =>
    run_string_of_bytes Tryd.underlying22 Tryd.underlying5 Tryd.underlying9 ((BS.lit W #[.int .u8 2] 5 (0, 0) 1 [2] rfl rfl (by simp [maxLen])).only h (by simp))
  have hsd : ∀ W : World, (convert 22 9 (.slice (some ⟨W.heap.size, 0, none⟩) 1 1)).run Tryd.prog (W.alloc (.cells #[.int .u8 2] 5 (0, 0))).drew = .ok (.string ⟨[2].toArray⟩) (W.alloc (.cells #[.int .u8 2] 5 (0, 0))).drew := fun W => HSB.out W _ ((Only.refl [] _).drew)
  rw [hs1] at HSB
  simp only [hs1] at hsa hsd
  have HS1 := Lib.hid hs1; have HS8 := Lib.hid hs8
  clear hrec hs1 hs8
  --@a
  go_upto_region 3 with fail
  --@b
  go_region_with (go_at_call 25; refine (HQ.out _).mono ?_; rintro e w' ⟨rfl, ho'⟩; have hoq : Only [] w1 w' := (by first | exact (Only.drew (Only.refl [] w1)).then ho' | exact ((Only.refl [] w1).alloc _).drew.then ho'); obtain ⟨d0, d1, df⟩ := P2.cells (HREC.out.only hoq (by simp)); have HOQ := Lib.hid hoq; (first | (have hsb := HSB.out w1 _ ((Only.refl [] _).drew.then ho')) | skip); clear hoq ho')
  --@c
  all_goals
    obtain ⟨s9, hs9⟩ : ∃ s9 : ByteArray, s1 ++ s8 = s9 := ⟨_, rfl⟩
    have hz9 : s9.size = 9 := by rw [← hs9, ByteArray.size_append, hz1, hz8]
    have hd9 : s9.data.toList = Led.rec0 2 v := by rw [← hs9, ← HS1.out, ← HS8.out, ba_cat, ← H0.out]
    rw [hs9]
    have HD9 := Lib.hid hd9
    clear hs9 hd9
    go_wp2_with fail
    refine (ref_c s9 _ (by omega)).mono ?_
    rintro e wx ⟨rfl, rfl⟩
    rw [HD9.out]
    obtain ⟨C, hC⟩ : ∃ C, Crc.sum (Led.rec0 2 v) = C := ⟨_, rfl⟩
    have hCl : C ≤ 4294967295 := by rw [← hC]; exact Nat.sub_le _ _
    have hCw : IntKind.u64.wrap (C : Int) = (C : Int) := by rw [IntKind.wrap_u64]; omega
    rw [hC]
    go_wp2_with fail
    refine (refput_d _ C 4 (by decide) (by decide) (by omega)).mono ?_
    rintro e wy ⟨rfl, hoy⟩
    have hz4 : ByteArray.size ⟨(Cur.put C 4).toArray⟩ = 4 := by show (Cur.put C 4).toArray.size = 4; simp [Cur.put_length]
    have hres : s9 ++ (⟨(Cur.put C 4).toArray⟩ : ByteArray) = ⟨(Led.put 2 v).toArray⟩ := by
      have : s9 = ⟨(Led.rec0 2 v).toArray⟩ := by rw [← HD9.out]
      rw [this, ba_cat, ← hC]
      rfl
    have HRES := Lib.hid hres
    generalize (⟨(Cur.put C 4).toArray⟩ : ByteArray) = s4 at *
    clear hres
    go_wp2
    go_ret
    exact ⟨by first | rfl | (rw [HRES.out]; rfl), by first | exact (HO1.out.then HOQ.out).then hoy | exact ((HO1.out.then HOQ.out).alloc _).then hoy⟩


theorem rput_yes (w : World) (k v : Nat) (hk : k = 1 ∨ k = 2) (hv : v < 18446744073709551616) : Calls Tryd.prog 13 #[.agg #[.int .u8 (k : Int), .int .u64 (v : Int)]] w fun e w' => e = .returned (.string ⟨(Led.put k v).toArray⟩) ∧ Only [] w w' := by
  rcases hk with rfl | rfl
  · exact rput_1 w v hv
  · exact rput_2 w v hv
end Go.Proofs.YthdcagdjgkblpaaDoor.led
