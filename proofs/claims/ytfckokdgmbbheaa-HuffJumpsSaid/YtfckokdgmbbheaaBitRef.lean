/-
  THE WALKS of the reference's bits: Bits, Number, Bytes, Write.
-/
import Derived.Test.YtfckokdgmbbheaaBitWalks
set_option linter.unusedVariables false
set_option linter.unusedSimpArgs false
namespace Go.Proofs.Ytfckokdgmbbheaa.bit
open Go Go.RowKit Go.Lm

def bl (l : List Bool) : List Value := l.map Value.bool
theorem bl_append (l m : List Bool) : bl (l ++ m) = bl l ++ bl m := List.map_append
theorem bl_length (l : List Bool) : (bl l).length = l.length := List.length_map _
theorem bl_one (l : List Bool) : ∀ u ∈ bl l, u.oneCell' = true := by
  intro u hu
  obtain ⟨x, _, rfl⟩ := List.mem_map.1 hu
  rfl
theorem info_bool : (Try.prog.info? 4).map (fun i => (i.zero, i.size, i.bytes)) = some (some (.bool false), 1, 1) := by kernel_rfl
theorem info_u8 : (Try.prog.info? 5).map (fun i => (i.zero, i.size, i.bytes)) = some (some (.int .u8 0), 1, 1) := by kernel_rfl
theorem size_bool : (Try.prog.info? 4).map (·.size) = some 1 := by kernel_rfl
theorem size_u8 : (Try.prog.info? 5).map (·.size) = some 1 := by kernel_rfl
theorem u8s_one (l : List UInt8) : ∀ u ∈ l.map u8v, u.oneCell' = true := by
  intro u hu
  obtain ⟨x, _, rfl⟩ := List.mem_map.1 hu
  rfl
theorem byteBits_take (c : UInt8) (j : Nat) (hj : j < 8) : (Bt.byteBits c).take (j + 1) = (Bt.byteBits c).take j ++ [c.toNat / 2 ^ j % 2 == 1] := by
  have hl := Bt.byteBits_length c
  rw [List.take_succ_eq_append_getElem (by omega)]
  congr 2
  simp only [Bt.byteBits, List.getElem_map, List.getElem_range, Nat.testBit_eq_decide_div_mod_eq]
  rw [Bool.eq_iff_iff]; simp
theorem beq_odd (Y : Nat) : ((Y : Int) % 2 == 1) = (Y % 2 == 1) := by
  rw [Bool.eq_iff_iff]; simp; omega

set_option maxRecDepth 20000 in
set_option maxHeartbeats 1000000 in
theorem refbits_c (w : World) (s : ByteArray) (hs : s.size ≤ 1000000) : Calls Try.prog 58 #[.string s] w fun e w' => ∃ v, e = .returned v ∧ OV w' w.heap.size 4 v (bl (Bt.bitsOf s.data.toList)) ∧ Only [] w w' := by
  obtain ⟨i0, hi, hz0, hz1, hz2⟩ := info_parts info_bool
  have HI := Lib.hid hi; have HZ0 := Lib.hid hz0; have HZ1 := Lib.hid hz1; have HZ2 := Lib.hid hz2
  clear hi hz0 hz1 hz2
  have hls : s.data.toList.length = s.size := len_data s
  have HLS := Lib.hid hls; clear hls
  go_enter Try.func58, Try.ntmps58
  go_wp2
  go_loopw [3, 4] (fun o i wr => ∃ k : Nat, k ≤ s.size ∧ i = .int .i64 k ∧ OV wr w.heap.size 4 o (bl (Bt.bitsOf (s.data.toList.take k))) ∧ Only [] w wr) (fun _ i _ => s.size - (intOf i).toNat)
  case atStart => exact ⟨0, Nat.zero_le _, rfl, OV.nil _ _ _, Only.refl _ _⟩
  case round =>
    obtain ⟨k, hk, rfl, hov, hon⟩ := hrel
    obtain ⟨a, cap, hsl, _⟩ := hov.slice
    have HOV := Lib.hid hov; have HON := Lib.hid hon; have HSL := Lib.hid hsl
    clear hov hon hsl
    by_cases hks : k < s.size
    · have hkl : k < s.data.toList.length := by have := HLS.out; omega
      have hts : Bt.bitsOf (s.data.toList.take (k + 1)) = Bt.bitsOf (s.data.toList.take k) ++ Bt.byteBits s[k] := by
        rw [List.take_succ_eq_append_getElem hkl, Bt.bitsOf_append]
        have : s.data.toList[k] = s[k] := by rw [show s[k] = s.data[k] from rfl]; simp
        rw [this]
        simp [Bt.bitsOf]
      have hbl := Bt.bitsOf_length (s.data.toList.take k)
      have hlk : (s.data.toList.take k).length = k := by rw [List.length_take]; omega
      rw [hlk] at hbl
      have HTS := Lib.hid hts
      clear hts hlk
      obtain ⟨c, hce⟩ : ∃ c, s[k] = c := ⟨_, rfl⟩
      rw [hce] at HTS
      have HCE := Lib.hid hce; clear hce
      generalize Bt.bitsOf (s.data.toList.take k) = D at *
      have hc := c.toNat_lt
      have HBL := Lib.hid hbl; clear hbl
      obtain ⟨wq, hwq⟩ : ∃ wq, wq = wr := ⟨_, rfl⟩
      subst hwq
      go_wp2
      go_loopw [3, 5, 6] (fun o y i wr => ∃ j : Nat, j ≤ 8 ∧ i = .int .i64 j ∧ y = .int .u8 ((c.toNat / 2 ^ j : Nat) : Int) ∧ OV wr w.heap.size 4 o (bl (D ++ (Bt.byteBits c).take j)) ∧ Only [] w wr) (fun _ _ i _ => 8 - (intOf i).toNat)
      case atStart => exact ⟨0, Nat.zero_le _, rfl, by simp only [HCE.out]; simp, by rw [List.take_zero, List.append_nil]; exact HOV.out, HON.out⟩
      case round =>
        obtain ⟨j, hj, rfl, rfl, hov, hon⟩ := hrel
        obtain ⟨a2, cap2, hsl, _⟩ := hov.slice
        obtain ⟨m, hm⟩ : ∃ m, (bl (D ++ (Bt.byteBits c).take j)).length = m := ⟨_, rfl⟩
        have hm2 : m ≤ 8 * k + 8 := by rw [← hm, bl_length, List.length_append, HBL.out]; simp; omega
        rw [hm] at hsl
        subst hsl
        have HM := Lib.hid hm
        have HOV2 := Lib.hid hov; have HON2 := Lib.hid hon
        clear hov hon hm HOV HON HSL
        by_cases hj8 : j < 8
        · have hbt := byteBits_take c j hj8
          have hnx : c.toNat / 2 ^ (j + 1) = c.toNat / 2 ^ j / 2 := by rw [Nat.div_div_eq_div_mul, Nat.pow_succ]
          have hY : c.toNat / 2 ^ j < 256 := Nat.lt_of_le_of_lt (Nat.div_le_self _ _) hc
          generalize c.toNat / 2 ^ j = Y at *
          have hodd := beq_odd Y
          generalize (Y % 2 == 1) = b at *
          obtain ⟨v', w', hrun, hov', hg⟩ := run_append_one (P := Try.prog) (ty := 89) (T := 4) (fr := (0, 0)) (u := .bool b) Try.underlying89 HI.out HZ0.out HZ1.out HZ2.out rfl HOV2.out rfl (by simp only [HM.out, maxLen]; omega) (by simp only [HM.out]; omega) HON2.out.size
          have hon' : Only [] w w' := (HON2.out.alloc (.cells #[.bool b] 4)).trans (Only.of_grown hg) (by simp) (by
            intro c hc
            have := HOV2.out.lt (c := c) (by simpa [eq_comm] using hc)
            exact .inr this.1)
          have e1 : bl (D ++ (Bt.byteBits c).take j) ++ [.bool b] = bl (D ++ (Bt.byteBits c).take (j + 1)) := by rw [hbt, ← List.append_assoc, bl_append (D ++ _)]; rfl
          rw [e1] at hov'
          have HOV' := Lib.hid hov'; have HON' := Lib.hid hon'; have HRUN := Lib.hid hrun; have HNX := Lib.hid hnx
          clear hov' hon' hrun hnx hg e1 hbt HOV2 HON2
          go_wp2_with (at_builtin; refine wpList_append_run rfl _ _ _ rfl rfl rfl HRUN.out ?_)
          go_roundw
          case rel => exact ⟨j + 1, by omega, by go_num, by rw [HNX.out]; go_num, HOV'.out, HON'.out⟩
          case measure => simp [intOf]; omega
        · obtain rfl : j = 8 := by omega
          have ht8 : (Bt.byteBits c).take 8 = Bt.byteBits c := List.take_of_length_le (by rw [Bt.byteBits_length]; exact Nat.le_refl _)
          rw [ht8, ← HTS.out] at HOV2
          clear ht8
          go_wp2
          go_roundw
          case rel => exact ⟨k + 1, by omega, by go_num, HOV2.out, HON2.out⟩
          case measure => simp [intOf]; omega
    · obtain rfl : k = s.size := by omega
      have e1 : s.data.toList.take s.size = s.data.toList := List.take_of_length_le (by have := HLS.out; omega)
      rw [e1] at HOV
      clear e1
      go_wp2
      go_ret
      exact ⟨_, rfl, HOV.out, HON.out⟩

theorem VS.bool_at {w : World} {a : Option Addr} {n cap : Nat} {l : List Bool} (h : VS w (.slice a n cap) (bl l)) (k : Nat) (hk : k < l.length) : ∃ b off, a = some ⟨b, off, none⟩ ∧ w.cell? ⟨b, off + k, none⟩ = some (.bool l[k]) := by
  obtain ⟨a', cap', he, _, _, _, h6⟩ := h
  simp only [Value.slice.injEq] at he
  obtain ⟨rfl, _, _⟩ := he
  obtain ⟨b, off, ha, hc⟩ := h6 k (by simpa [bl] using hk)
  exact ⟨b, off, ha, by rw [hc]; simp [bl]⟩

set_option maxHeartbeats 400000 in
theorem refnum_c (w : World) (v : Value) (l : List Bool) (hv : VS w v (bl l)) (hl : l.length ≤ 63) : Calls Try.prog 62 #[v] w fun e w' => e = .returned (.int .u64 (Bt.num l : Nat)) ∧ w = w' := by
  obtain ⟨a, cap, hve, h1, h2, h3, _⟩ := id hv
  rw [bl_length] at hve h1
  subst hve
  have HV := Lib.hid hv; clear hv
  unfold maxLen at h2
  go_enter Try.func62, Try.ntmps62
  go_wp2
  go_loop [3, 4] (fun x i => ∃ m : Nat, m ≤ l.length ∧ i = .int .i64 ((m : Int) - 1) ∧ x = .int .u64 (Bt.num (l.drop m) : Nat)) (fun _ i => (intOf i + 1).toNat)
  case atStart => exact ⟨l.length, Nat.le_refl _, rfl, by rw [List.drop_length]; rfl⟩
  case round =>
    obtain ⟨m, hm, rfl, rfl⟩ := hrel
    cases m with
    | zero =>
      go_wp2
      go_ret
      exact ⟨rfl, rfl⟩
    | succ k =>
      have hk : k < l.length := by omega
      obtain ⟨b, off, rfl, hcell⟩ := VS.bool_at HV.out k hk
      have hd := Bt.num_drop l k hk
      have hlt := Bt.num_lt (l.drop (k + 1))
      have hle : 2 ^ (l.drop (k + 1)).length ≤ 2 ^ 62 := Nat.pow_le_pow_right (by decide) (by simp; omega)
      have hkk : ((k + 1 : Nat) : Int) - 1 = (k : Int) := by omega
      rw [hkk]
      generalize Bt.num (l.drop (k + 1)) = X at *
      have hX : X < 4611686018427387904 := by omega
      have hw2 : (X : Int) * 2 % 18446744073709551616 = (X : Int) * 2 := by omega
      clear hlt hle hkk
      have HD := Lib.hid hd; clear hd
      cases hb : l[k] with
      | true =>
        rw [hb] at hcell HD
        clear hb
        go_wp2
        go_round
        case rel => exact ⟨k, by omega, by go_num, by rw [HD.out]; first | (simp; done) | (simp; omega)⟩
        case measure => first | (simp [intOf]; done) | (simp [intOf]; omega)
      | false =>
        rw [hb] at hcell HD
        clear hb
        go_wp2
        go_round
        case rel => exact ⟨k, by omega, by go_num, by rw [HD.out]; first | (simp; done) | (simp; omega)⟩
        case measure => first | (simp [intOf]; done) | (simp [intOf]; omega)
end Go.Proofs.Ytfckokdgmbbheaa.bit
