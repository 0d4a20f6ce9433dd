/-
  BitsForward, walked.
-/
import Derived.Test.YtdpeajbjnennnaaBitClosed
import Derived.Test.YtdpeajbjnennnaaBitRef3
import Derived.Test.YtdpeajbjnennnaaGen5
import Derived.Deep.RegionHeld3
import Derived.Deep.RegionWith
import Derived.Outline
import Derived.OwnWalk
set_option linter.unusedVariables false
set_option linter.unusedSimpArgs false
namespace Go.Proofs.Ytdpeajbjnennnaa.bit
open Go Go.RowKit Go.Lm

theorem fread_L (l : List UInt8) (p : Nat) (n : Int) : freadL (Bt.bitsOf l) p n = fread l p n := by
  unfold freadL fread
  rw [Bt.bitsOf_length]
  simp

set_option maxRecDepth 100000 in
set_option maxHeartbeats 4000000 in
theorem forward_c (w : World) (v : Value) (l : List UInt8) (hv : BS w v l) (v1 : Value) (zs : List Int) (hz : VS w v1 (i64s zs)) : Calls Try.prog 5 #[v, v1] w fun e w' => e = .returned (.bool true) ∧ Below w.heap.size w w' := by
  obtain ⟨a0, cap0, rfl, h3, h4, _⟩ := id hv
  have HV := Lib.hid hv; clear hv
  obtain ⟨a, cap, hv1, h1, h2, _⟩ := id hz
  rw [show (i64s zs).length = zs.length by simp [i64s]] at hv1 h1
  subst hv1
  have HZ := Lib.hid hz; clear hz
  unfold maxLen at h2 h4
  by_cases hbig : 300 < l.length
  · go_enter Try.func5, Try.ntmps5
    go_wp2_with fail
    refine (awake_c w).mono ?_
    rintro e w1 ⟨rfl, ho1⟩
    have HO1 := Lib.hid ho1; clear ho1
    go_wp2
    go_ret
    exact ⟨rfl, HO1.out.below (by simp) (Nat.le_refl _)⟩
  go_enter Try.func5, Try.ntmps5
  go_wp2_with fail
  refine (awake_c w).mono ?_
  rintro e w1 ⟨rfl, ho1⟩
  have HO1 := Lib.hid ho1
  have HV1 := Lib.hid (HV.out.only ho1 (by simp))
  clear ho1
  go_wp2_with fail
  refine (newforward_c w1 _ l HV1.out (by omega)).mono ?_
  rintro e w2 ⟨r, rfl, hr, ho2⟩
  have hrC : r < w2.heap.size := hr.2.1
  have hB : w.heap.size ≤ r := by have := hr.1; have := HO1.out.size; omega
  have HO2 := Lib.hid (HO1.out.then ho2)
  have HR := Lib.hid hr
  have hstr := run_string_of_bytes (P := Try.prog) Try.underlying22 Try.underlying5 Try.underlying9 (HV1.out.only ho2 (by simp))
  clear hr ho2
  generalize w1.heap.size = B at HR
  go_wp2_with fail
  refine (refbits_c w2 _ (by simp [ByteArray.size]; omega)).mono ?_
  rintro e w3 ⟨v3, rfl, hov, ho3⟩
  have hov : OV w3 w2.heap.size 4 v3 (bl (Bt.bitsOf l)) := by simpa using hov
  obtain ⟨a3, c3, hv3, hl3, hm3⟩ := hov.slice
  rw [bl_length, Bt.bitsOf_length] at hv3 hl3
  subst hv3
  have hr3 := HR.out.only ho3 (Nat.le_refl _)
  have HO3 := Lib.hid (HO2.out.then ho3)
  have HR3 := Lib.hid hr3
  have HOV := Lib.hid hov
  have hC3 := ho3.size
  clear hr3 ho3 hov HR HO2 HV1 hstr HO1
  unfold maxLen at hm3
  go_wp2_with fail
  have hq : P2 (w3.alloc (.cells #[.slice a3 (8 * l.length) c3, .int .i64 0] 49 (0, 0))) w3.heap.size 49 (.slice a3 (8 * l.length) c3) (.int .i64 0) := P2.new w3 _ _ _
  have hr4 := HR3.out.below ((Below.refl w3.heap.size w3).alloc (Nat.le_refl _) (.cells #[.slice a3 (8 * l.length) c3, .int .i64 0] 49 (0, 0))) hC3
  have ho4 := HO3.out.alloc (.cells #[.slice a3 (8 * l.length) c3, .int .i64 0] 49 (0, 0))
  have hv4 := HOV.out.vs.only ((Only.refl [] w3).alloc (.cells #[.slice a3 (8 * l.length) c3, .int .i64 0] 49 (0, 0))) (by simp)
  have hvb : Hid (∀ c, (Value.slice a3 (8 * l.length) c3).ownBlock = some c → w2.heap.size ≤ c ∧ c < w3.heap.size) := fun c hc => HOV.out.lt hc
  have hQw : w.heap.size ≤ w3.heap.size := HO3.out.size
  generalize (World.alloc w3 _) = w4 at hq hr4 ho4 hv4 ⊢
  generalize w2.heap.size = C at *
  generalize w3.heap.size = Q at *
  have HR4 := Lib.hid hr4; have HO4 := Lib.hid ho4; have HV4 := Lib.hid hv4; have HQ4 := Lib.hid hq
  have hsz4 := hq.lt
  clear hr4 ho4 hv4 hq HO3 HR3 HOV
  have hlb := Bt.bitsOf_length l
  have HLB := Lib.hid hlb; clear hlb
  go_loopw [8] (fun i wr => ∃ k p : Nat, k ≤ zs.length ∧ k ≤ 60 ∧ i = .int .i64 k ∧ p ≤ 8 * l.length ∧ FW wr B C r p l ∧ P2 wr Q 49 (.slice a3 (8 * l.length) c3) (.int .i64 p) ∧ Only [r, Q] w4 wr) (fun i _ => zs.length - (intOf i).toNat)
  case atStart => exact ⟨0, 0, Nat.zero_le _, Nat.zero_le _, rfl, Nat.zero_le _, HR4.out, HQ4.out, Only.refl _ _⟩
  case round =>
    obtain ⟨k, p, hk, hk60, rfl, hp, hrd, hq, hor⟩ := hrel
    have HRD := Lib.hid hrd; have HOR := Lib.hid hor; have HQQ := Lib.hid hq
    have HOW := Lib.hid (only_own2 HO4.out hor hB hQw)
    have hCr : C ≤ wr.heap.size := by have := hor.size; omega
    clear hrd hor hq HR4 HQ4
    by_cases hgo : k < zs.length ∧ k < 60
    · obtain ⟨hkl, hk6⟩ := hgo
      obtain ⟨b, off, rfl, hcell⟩ := (HZ.out.only HOW.out (by simp)).i64_at k hkl
      obtain ⟨z, hzz⟩ : ∃ z, zs.getD k 0 = z := ⟨_, rfl⟩
      rw [hzz] at hcell
      have hbw : b < w.heap.size := by
        obtain ⟨b', off', hb', hcell'⟩ := HZ.out.i64_at k hkl
        obtain ⟨rfl, rfl⟩ : b = b' ∧ off = off' := by simpa using hb'
        exact World.block_lt_of_cell? w _ hcell'
      clear hzz
      by_cases hmod : (k : Int) % 4 = 3
      · have hmod' : ((k : Int) % 4 == 3) = true := by simp [hmod]
        clear hmod
        go_wp2_with fail
        refine (fback_c wr B C r p z l HRD.out hCr hp (by omega)).mono ?_
        rintro e w5 ⟨rfl, hr5, ho5⟩
        have hp5 : fback p z ≤ 8 * l.length := by unfold fback; split <;> omega
        have hq5 := HQQ.out.only ho5 (by simp; omega)
        have hc5 := ho5.cell hcell (by simp; omega)
        have HR5 := Lib.hid hr5; have HQ5 := Lib.hid hq5
        have HO5 := Lib.hid (HOR.out.then (ho5.in2l (q := Q)))
        obtain ⟨d0, d1, hf⟩ := hq5.cells
        have hCr5 : C ≤ w5.heap.size := by have := ho5.size; omega
        clear hr5 hq5 ho5 hcell
        go_wp2_with fail
        go_region_with (go_at_call 21; refine (refback_c _ a3 (8 * l.length) c3 p z (by omega)).mono ?_; rintro e w6 ⟨rfl, ho6⟩; have hq6 : P2 w6 Q 49 (.slice a3 (8 * l.length) c3) (.int .i64 p) := HQ5.out.only ((Only.drew (Only.refl [] w5)).then ho6) (by simp); obtain ⟨e0, e1, hf6⟩ := hq6.cells; have HQ6 := Lib.hid hq6; clear hq6)
        all_goals
          have hq7 := HQ6.out.set (.slice a3 (8 * l.length) c3) (.int .i64 (fbackL p z : Nat))
          have ho6' : Only [] w5 w6 := (Only.drew (Only.refl [] w5)).then ho6
          have ho7 := only_set w6 Q (.slice a3 (8 * l.length) c3) (.int .i64 (fbackL p z : Nat))
          have hr7 := (HR5.out.only ho6' hCr5).only' ho7 (by have := ho6'.size; omega) (by simp; omega)
          have ho8 := (HO5.out.then (ho6'.in2 (r := r) (q := Q))).then (ho7.in2r (r := r))
          have hsz7 : C ≤ w6.heap.size := by have := ho6'.size; omega
          clear e0 e1 hf6 d0 d1 hf ho6 ho6' HQ6 HQ5 HR5 HO5 ho7
          obtain ⟨p', hpp⟩ : ∃ p', fbackL p z = p' := ⟨_, rfl⟩
          have hpp2 : fback p z = p' := hpp
          rw [hpp] at hq7 hr7 ho8 ⊢
          rw [hpp2] at hr7 hp5
          have hp' := hp5
          clear hpp hpp2
          generalize (World.setCell (World.setCell _ _ _) _ _) = w7 at hr7 hq7 ho8 ⊢
          go_wp2_with fail
          clear hsz7
          obtain ⟨d0, d1, hf⟩ := hq7.cells
          have hszQ := hq7.lt
          have hC7 : C ≤ w7.heap.size := by omega
          have HR7 := Lib.hid hr7; have HQ7 := Lib.hid hq7; have HO8 := Lib.hid ho8
          have l0 := fun x : Later [] w7 => Later.cell d0 (by simp) x
          have l1 := fun x : Later [] w7 => Later.cell d1 (by simp) x
          have HL : Hid (∀ x : Later [] w7, FW x.at' B C r p' l) := fun x => HR7.out.only x.only hC7
          clear d0 d1 hf hr7 hq7 ho8
          refine wp_region_later [] (by kernel_rfl) (by kernel_rfl) ?_
          repeat (go_big_quiet_step (first
            | (go_at_call 23; exact Calls.later_same (fused_c _ B C r p' l (HL.out _) hp' (by omega)))
            | (go_at_call 24; exact Calls.later_nil (refused_c _ a3 _ c3 p' (by omega)))))
          refine wpQuiet_nil ?_
          rintro _ ⟨x, rfl⟩
          have hx := x.only
          have HX := Lib.hid hx; clear hx l0 l1
          generalize x.at' = w9 at HX ⊢
          go_wp2
          go_roundw
          case rel => exact ⟨k + 1, p', by omega, by omega, by go_num, hp', HR7.out.only HX.out hC7, HQ7.out.only HX.out (by simp), HO8.out.then (HX.out.in2)⟩
          case measure => simp [intOf]; omega
      · have hmod' : ((k : Int) % 4 == 3) = false := by rw [beq_eq_false_iff_ne]; exact hmod
        clear hmod
        obtain ⟨⟨X, E, p'⟩, hT⟩ : ∃ T, fread l p z = T := ⟨_, rfl⟩
        have hp' : p' ≤ 8 * l.length := by have := fread_at l p z hp; rw [hT] at this; exact this
        have HT := Lib.hid hT; clear hT
        go_wp2_with fail
        refine (fread_c wr B C r p z l HRD.out hCr hp (by omega)).mono ?_
        rintro e w5 ⟨rfl, hr5, ho5⟩
        rw [HT.out] at hr5 ⊢
        have hq5 := HQQ.out.only ho5 (by simp; omega)
        have hc5 := ho5.cell hcell (by simp; omega)
        have HR5 := Lib.hid hr5; have HQ5 := Lib.hid hq5
        have HO5 := Lib.hid (HOR.out.then (ho5.in2l (q := Q)))
        have HV5 := Lib.hid ((HV4.out.only HOR.out (fun c hc _ => by have := hvb.out c hc; simp; omega)).only ho5 (fun c hc _ => by have := hvb.out c hc; simp; omega))
        obtain ⟨d0, d1, hf⟩ := hq5.cells
        have hCr5 : C ≤ w5.heap.size := by have := ho5.size; omega
        clear hr5 hq5 ho5 hcell hf
        go_wp2_with fail
        have n1 := World.new_ne w5 _ d0
        have n2 := World.new_ne w5 _ d1
        have n3 := World.new_ne w5 _ hc5
        go_region_held3 (fun w' => w'.cell? ⟨Q, 0, none⟩ = some (.slice a3 (8 * l.length) c3) ∧ w'.cell? ⟨Q, 1, none⟩ = some (.int .i64 p) ∧ w'.cell? ⟨b, off + k, none⟩ = some (.int .i64 z)) (go_keep)
          (first | (go_at_call 22; refine (refread_c _ a3 (8 * l.length) c3 p z (Bt.bitsOf l) (by first | exact HV5.out.only (Only.drew (Only.refl [] w5)) (by simp) | exact HV5.out.only (Only.drew ((Only.refl [] w5).alloc _)) (by simp)) (by have := HLB.out; omega) (by have := HLB.out; omega)).mono ?_; rintro x w6 ⟨rfl, ho6⟩; rw [fread_L, HT.out]; have g0 := ho6.cell (p := ⟨Q, 0, none⟩) (v := .slice a3 (8 * l.length) c3) (by go_simp) (by simp); have g1 := ho6.cell (p := ⟨Q, 1, none⟩) (v := .int .i64 p) (by go_simp) (by simp); have g2 := ho6.cell (p := ⟨b, off + k, none⟩) (v := .int .i64 z) (by go_simp) (by simp); (first | (have kh : P2 w6 w5.heap.size 49 (.slice none 0 0) (.int .i64 0) := ho6.heap (heap_alloc_new w5 _) (by simp); obtain ⟨kc0, kc1, kf⟩ := kh.cells) | skip)))
        focus
          have hN := P2.new w6 49 (.slice a3 (8 * l.length) c3) (.int .i64 p')
          have ho7 : Only [] w5 (w6.alloc (.cells #[.slice a3 (8 * l.length) c3, .int .i64 p'] 49 (0, 0))) := ((Only.drew (Only.refl [] w5)).then ho6).alloc _
          generalize World.alloc w6 _ = w8 at hN ho7 ⊢
          clear ho6 g0 g1 g2
        rotate_left
        focus
          have hN := kh.set (.slice a3 (8 * l.length) c3) (.int .i64 p')
          have ho7 : Only [] w5 ((w6.setCell ⟨w5.heap.size, 0, none⟩ (.slice a3 (8 * l.length) c3)).setCell ⟨w5.heap.size, 1, none⟩ (.int .i64 p')) := ((((Only.refl [] w5).alloc _).drew.then ho6).setCell (.inr (Nat.le_refl _)) _).setCell (.inr (Nat.le_refl _)) _
          generalize (World.setCell (World.setCell _ _ _) _ _) = w8 at hN ho7 ⊢
          clear ho6 g0 g1 g2 kh kc0 kc1 kf
        rotate_left
        all_goals
          clear n1 n2 n3 d0 d1 hc5
          obtain ⟨k0, k1, -⟩ := hN.cells
          have hq8 := HQ5.out.only ho7 (by simp)
          obtain ⟨d0, d1, hf⟩ := hq8.cells
          have hq7 := hq8.set (.slice a3 (8 * l.length) c3) (.int .i64 p')
          have hos := only_set w8 Q (.slice a3 (8 * l.length) c3) (.int .i64 p')
          have hr7 := (HR5.out.only ho7 hCr5).only' hos (by have := ho7.size; omega) (by simp; omega)
          have ho8 := (HO5.out.then (ho7.in2 (r := r) (q := Q))).then (hos.in2r (r := r))
          have hsz7 : C ≤ w8.heap.size := by have := ho7.size; omega
          have HN := Lib.hid hN; have HR7' := Lib.hid hr7; have HQ7' := Lib.hid hq7; have HO8' := Lib.hid ho8
          clear hN hq8 ho7 hos hr7 hq7 ho8 HQ5 HR5 HO5
          go_wp2_with fail
          have hr7 := HR7'.out; have hq7 := HQ7'.out; have ho8 := HO8'.out
          clear HR7' HQ7' HO8' k0 k1 d0 d1 hf HN
          generalize (World.setCell (World.setCell _ _ _) _ _) = w7 at hr7 hq7 ho8 ⊢
          skip
          clear hsz7
          obtain ⟨d0, d1, hf⟩ := hq7.cells
          have hszQ := hq7.lt
          have hC7 : C ≤ w7.heap.size := by omega
          have HR7 := Lib.hid hr7; have HQ7 := Lib.hid hq7; have HO8 := Lib.hid ho8
          have l0 := fun x : Later [] w7 => Later.cell d0 (by simp) x
          have l1 := fun x : Later [] w7 => Later.cell d1 (by simp) x
          have HL : Hid (∀ x : Later [] w7, FW x.at' B C r p' l) := fun x => HR7.out.only x.only hC7
          clear d0 d1 hf hr7 hq7 ho8
          refine wp_region_later [] (by kernel_rfl) (by kernel_rfl) ?_
          repeat (go_big_quiet_step (first
            | (go_at_call 23; exact Calls.later_same (fused_c _ B C r p' l (HL.out _) hp' (by omega)))
            | (go_at_call 24; exact Calls.later_nil (refused_c _ a3 _ c3 p' (by omega)))))
          refine wpQuiet_nil ?_
          rintro _ ⟨x, rfl⟩
          have hx := x.only
          have HX := Lib.hid hx; clear hx l0 l1
          generalize x.at' = w9 at HX ⊢
          go_wp2
          go_roundw
          case rel => exact ⟨k + 1, p', by omega, by omega, by go_num, hp', HR7.out.only HX.out hC7, HQ7.out.only HX.out (by simp), HO8.out.then (HX.out.in2)⟩
          case measure => simp [intOf]; omega
    · have hdec : (zs.length ≤ k) ∨ (k < zs.length ∧ 60 ≤ k) := by omega
      rcases hdec with hd1 | ⟨hd1, hd2⟩
      all_goals
        clear hgo
        go_wp2
        go_ret
        exact ⟨rfl, HOW.out.below (by simp) (Nat.le_refl _)⟩
end Go.Proofs.Ytdpeajbjnennnaa.bit
