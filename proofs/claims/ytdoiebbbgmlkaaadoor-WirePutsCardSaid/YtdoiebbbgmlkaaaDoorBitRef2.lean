/-
  THE WALKS of the reference's bits, more: Bytes, Write.
-/
import Derived.Test.YtdoiebbbgmlkaaaDoorBitRef
set_option linter.unusedVariables false
set_option linter.unusedSimpArgs false
namespace Go.Proofs.YtdoiebbbgmlkaaaDoor.bit
open Go Go.RowKit Go.Lm

theorem bytesOf_take (l : List Bool) (q : Nat) (hq : 8 * q < l.length) : (Bt.bytesOf l).take (q + 1) = (Bt.bytesOf l).take q ++ [UInt8.ofNat (Bt.num ((l.drop (8 * q)).take 8))] := by
  have h : q < (Bt.bytesOf l).length := by rw [Bt.bytesOf_length]; omega
  rw [List.take_succ_eq_append_getElem h, Bt.bytesOf_at]
theorem num_take_lt (l : List Bool) (j : Nat) : Bt.num (l.take j) < 2 ^ j :=
  Nat.lt_of_lt_of_le (Bt.num_lt _) (Nat.pow_le_pow_right (by decide) (by rw [List.length_take]; omega))
theorem num_take_end (l : List Bool) (j : Nat) (h : l.length ≤ j) : Bt.num (l.take (j + 1)) = Bt.num (l.take j) := by
  rw [List.take_of_length_le h, List.take_of_length_le (by omega)]

set_option maxHeartbeats 2000000 in
theorem refbytes_c (w : World) (v : Value) (l : List Bool) (hv : VS w v (bl l)) (hl : l.length ≤ 1000000) : Calls Tryd.prog 17 #[v] w fun e w' => e = .returned (.string ⟨(Bt.bytesOf l).toArray⟩) ∧ Only [] w w' := by
  obtain ⟨i0, hi, hz0, hz1, hz2⟩ := info_parts info_u8
  have HI := Lib.hid hi; have HZ0 := Lib.hid hz0; have HZ1 := Lib.hid hz1; have HZ2 := Lib.hid hz2
  clear hi hz0 hz1 hz2
  obtain ⟨a, cap, hve, h1, h2, h3, _⟩ := id hv
  rw [bl_length] at hve h1
  subst hve
  have HV := Lib.hid hv; clear hv
  unfold maxLen at h2
  go_enter Tryd.func17, Tryd.ntmps17
  go_wp2
  go_loopw [3, 4] (fun o i wr => ∃ q : Nat, 8 * q < l.length + 8 ∧ i = .int .i64 ((8 * q : Nat) : Int) ∧ OV wr w.heap.size 5 o (((Bt.bytesOf l).take q).map u8v) ∧ Only [] w wr) (fun _ i _ => (l.length + 8) - (intOf i).toNat)
  case atStart => exact ⟨0, by omega, rfl, OV.nil _ _ _, Only.refl _ _⟩
  case round =>
    obtain ⟨q, hq, rfl, hov, hon⟩ := hrel
    obtain ⟨a2, cap2, hsl, _⟩ := hov.slice
    have HOV := Lib.hid hov; have HON := Lib.hid hon; have HSL := Lib.hid hsl
    clear hov hon hsl
    obtain ⟨i, hi8⟩ : ∃ i, 8 * q = i := ⟨_, rfl⟩
    rw [hi8]
    by_cases hql : i < l.length
    · have hlt : q < (Bt.bytesOf l).length := by rw [Bt.bytesOf_length]; omega
      have hbt := bytesOf_take l q (by omega)
      have hmq : (((Bt.bytesOf l).take q).map u8v).length = q := by simp; omega
      have HBT := Lib.hid hbt; have HMQ := Lib.hid hmq
      rw [hmq] at HSL
      clear hbt hmq
      obtain ⟨wq, hwq⟩ : ∃ wq, wq = wr := ⟨_, rfl⟩
      subst hwq
      have hN : 8 * q = i := hi8
      have HN := Lib.hid hN; clear hN
      clear hi8
      go_wp2
      go_loop [5, 6, 7] (fun c m k => ∃ j : Nat, j ≤ 8 ∧ k = .int .i64 ((i : Int) + j) ∧ c = .int .u8 (Bt.num ((l.drop i).take j) : Nat) ∧ m = .int .u8 ((2 ^ j % 256 : Nat) : Int)) (fun _ _ k => (i + 8) - (intOf k).toNat)
      case atStart => exact ⟨0, by omega, by simp, by simp [Bt.num], rfl⟩
      case round =>
        obtain ⟨j, hj, rfl, rfl, rfl⟩ := hrel
        by_cases hj8 : j < 8
        · have hlt2 := num_take_lt (l.drop i) j
          have hp8 : 2 ^ j ≤ 2 ^ 7 := Nat.pow_le_pow_right (by decide) (by omega)
          have hpm : 2 ^ j % 256 = 2 ^ j := Nat.mod_eq_of_lt (by omega)
          have hps : (((2 ^ j : Nat) : Int) * 2) % 256 = ((2 ^ (j + 1) % 256 : Nat) : Int) := by
            rw [Nat.pow_succ]; omega
          rw [hpm]
          have hij : (i : Int) + (j : Int) < (i : Int) + 8 := by omega
          obtain ⟨p, hp⟩ : ∃ p, i + j = p := ⟨_, rfl⟩
          have hpi : (i : Int) + (j : Int) = (p : Int) := by omega
          rw [hpi] at hij ⊢
          have hnx : (p : Int) + 1 = (i : Int) + ((j + 1 : Nat) : Int) := by omega
          have HNX := Lib.hid hnx; have HPS := Lib.hid hps
          clear hpm hps hnx
          by_cases hpl : p < l.length
          · obtain ⟨b, off, rfl, hcell⟩ := VS.bool_at (HV.out.only HON.out (by simp)) p hpl
            have hnt := Bt.num_take (l.drop i) j (by simp; omega)
            have hel : (l.drop i)[j]'(by simp; omega) = l[p] := by rw [List.getElem_drop]; congr 1
            rw [hel] at hnt
            have HNT := Lib.hid hnt
            clear hnt hel
            generalize Bt.num ((l.drop i).take j) = X at *
            generalize 2 ^ j = Z at *
            cases hb : l[p] with
            | true =>
              rw [hb] at hcell HNT
              clear hb hpi hp
              go_wp2
              go_round
              case rel => exact ⟨j + 1, by omega, by rw [HNX.out], by rw [HNT.out]; simp, by rw [← HPS.out]⟩
              case measure => simp [intOf]; omega
            | false =>
              rw [hb] at hcell HNT
              clear hb hpi hp
              go_wp2
              go_round
              case rel => exact ⟨j + 1, by omega, by rw [HNX.out], by rw [HNT.out]; simp, by rw [← HPS.out]⟩
              case measure => simp [intOf]; omega
          · have hnt := num_take_end (l.drop i) j (by simp; omega)
            have HNT := Lib.hid hnt
            clear hnt
            generalize Bt.num ((l.drop i).take j) = X at *
            generalize 2 ^ j = Z at *
            clear hpi hp
            go_wp2
            go_round
            case rel => exact ⟨j + 1, by omega, by rw [HNX.out], by rw [HNT.out], by rw [← HPS.out]⟩
            case measure => simp [intOf]; omega
        · obtain rfl : j = 8 := by omega
          have hX := num_take_lt (l.drop i) 8
          have hu : (UInt8.ofNat (Bt.num ((l.drop i).take 8))).toNat = Bt.num ((l.drop i).take 8) := by simp; omega
          obtain ⟨v', w', hrun, hov', hg⟩ := run_append_one (P := Tryd.prog) (ty := 24) (T := 5) (fr := (0, 0)) (u := .int .u8 ((UInt8.ofNat (Bt.num ((l.drop i).take 8))).toNat : Int)) Tryd.underlying24 HI.out HZ0.out HZ1.out HZ2.out rfl HOV.out rfl (by simp only [HMQ.out, maxLen]; omega) (by simp only [HMQ.out]; omega) HON.out.size
          have hon' : Only [] w w' := (HON.out.alloc (.cells #[.int .u8 ((UInt8.ofNat (Bt.num ((l.drop i).take 8))).toNat : Int)] 5)).trans (Only.of_grown hg) (by simp) (by
            intro c hc
            have := HOV.out.lt (c := c) (by simpa [eq_comm] using hc)
            exact .inr this.1)
          have e1 : ((Bt.bytesOf l).take q).map u8v ++ [.int .u8 ((UInt8.ofNat (Bt.num ((l.drop i).take 8))).toNat : Int)] = ((Bt.bytesOf l).take (q + 1)).map u8v := by rw [HBT.out, List.map_append, HN.out]; rfl
          rw [e1] at hov'
          rw [hu] at hrun
          clear hu e1 hg
          have HS2 := HSL.out
          generalize Bt.num ((l.drop i).take 8) = X at *
          have HOV' := Lib.hid hov'; have HON' := Lib.hid hon'; have HRUN := Lib.hid hrun
          clear hov' hon' hrun
          subst HS2
          go_wp2_with (at_builtin; refine wpList_append_run rfl _ _ _ rfl rfl rfl HRUN.out ?_)
          go_roundw
          case rel => exact ⟨q + 1, by have := HN.out; omega, by have := HN.out; congr 1; omega, HOV'.out, HON'.out⟩
          case measure => simp [intOf]; omega
    · have e1 : (Bt.bytesOf l).take q = Bt.bytesOf l := List.take_of_length_le (by rw [Bt.bytesOf_length]; omega)
      rw [e1] at HOV
      have hstr := run_string_of_bytes (P := Tryd.prog) Tryd.underlying24 Tryd.underlying5 Tryd.underlying9 (BS.of_vs HOV.out.vs)
      have HS2 := HSL.out
      rw [e1] at HS2
      clear e1 hi8
      generalize hL : (List.map u8v (Bt.bytesOf l)).length = m at HS2
      clear hL HSL
      subst HS2
      go_wp2
      go_ret
      exact ⟨rfl, HON.out⟩
end Go.Proofs.YtdoiebbbgmlkaaaDoor.bit
