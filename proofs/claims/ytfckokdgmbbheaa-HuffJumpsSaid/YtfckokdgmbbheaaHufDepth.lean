/-
  THE WALKS of package weights: worth, the greatest weight.
  THE WALK of package weights: depth.
-/
import Derived.Test.YtfckokdgmbbheaaHufPlain6
import Derived.Test.YtfckokdgmbbheaaBitBack
import Derived.Handy
set_option linter.unusedVariables false
set_option linter.unusedSimpArgs false
set_option maxRecDepth 20000
namespace Go.Proofs.Ytfckokdgmbbheaa.huf
open Go Go.RowKit Go.Lm Go.Proofs.Ytfckokdgmbbheaa.bit

theorem wrap64_of (x : Int) (h0 : 0 ≤ x) (h1 : x < 4611686018427387904) : wrap64 x = x := by unfold wrap64; omega
theorem pw_shl (u : Nat) (h0 : 0 < u) (h1 : u ≤ 11) : (2 : Int) ^ (u - 1) = (Huf.pw u : Nat) := by
  unfold Huf.pw
  rw [if_neg (by omega), Int.natCast_pow]
  rfl

set_option maxHeartbeats 400000 in
theorem worth_c (w : World) (v : Value) (l : List UInt8) (hv : BS w v l) (hl : l.length ≤ 1000) : Calls Try.prog 52 #[v] w fun e w' => e = .returned (.tuple #[.int .i64 (if Huf.okay l then (Huf.worth (Huf.ns l) : Int) else 0), .bool (Huf.okay l)]) ∧ w = w' := by
  obtain ⟨a, cap, rfl, k1, k2, k3, hc⟩ := hv
  unfold maxLen at k2
  have HC := Lib.hid hc
  clear hc
  obtain ⟨R, hR⟩ : ∃ R, (if Huf.okay l then (Huf.worth (Huf.ns l) : Int) else 0) = R := ⟨_, rfl⟩
  obtain ⟨O, hO⟩ : ∃ O, Huf.okay l = O := ⟨_, rfl⟩
  rw [hR, hO]
  rw [hO] at hR
  have HR := Lib.hid hR; have HO := Lib.hid hO
  clear hR hO
  go_enter Try.func52, Try.ntmps52
  go_wp2
  go_loop [4, 9] (fun x i => ∃ k : Nat, k ≤ l.length ∧ i = .int .i64 k ∧ x = .int .i64 (Huf.worth (Huf.ns (l.take k)) : Nat) ∧ Huf.okay (l.take k) = true) (fun _ i => l.length - (intOf i).toNat)
  case atStart => exact ⟨0, Nat.zero_le _, rfl, rfl, rfl⟩
  case round =>
    obtain ⟨k, hk, rfl, rfl, hok⟩ := hrel
    by_cases hkl : k < l.length
    · obtain ⟨b, off, rfl, hcell⟩ := HC.out k hkl
      have hwt : Huf.worth (Huf.ns (l.take (k + 1))) = Huf.worth (Huf.ns (l.take k)) + Huf.pw (l[k].toNat) := by
        have := Huf.worth_take (Huf.ns l) k (by rw [Huf.ns_length]; exact hkl)
        rwa [Huf.ns_take, Huf.ns_take, Huf.ns_get l k hkl] at this
      have hot := Huf.okay_take l k hkl
      have hno := Huf.okay_not l k hkl
      have hwb := Huf.worth_bound (Huf.ns (l.take k)) ((Huf.okay_iff _).1 hok)
      rw [Huf.ns_length, List.length_take] at hwb
      have hwb2 : Huf.worth (Huf.ns (l.take k)) ≤ 1024000 := by omega
      obtain ⟨u, hu⟩ : ∃ u, l[k].toNat = u := ⟨_, rfl⟩
      have hu2 : u < 256 := by rw [← hu]; exact l[k].toNat_lt
      rw [hu] at hcell hwt hot hno
      obtain ⟨X, hX⟩ : ∃ X, Huf.worth (Huf.ns (l.take k)) = X := ⟨_, rfl⟩
      rw [hX] at hwt hwb2 ⊢
      have HWT := Lib.hid hwt; have HOT := Lib.hid hot; have HNO := Lib.hid hno; have HOK := Lib.hid hok
      clear hwt hot hno hok hwb hX hu
      by_cases h11 : u ≤ 11
      · by_cases h0 : 0 < u
        · have hpw := pw_shl u h0 h11
          have hpl := Huf.pw_le h11
          obtain ⟨Y, hY⟩ : ∃ Y, Huf.pw u = Y := ⟨_, rfl⟩
          rw [hY] at hpw hpl
          have HPW : Hid (wrap64 ((X : Int) + wrap64 (2 ^ (u - 1))) = ((X + Y : Nat) : Int)) := Lib.hid (by rw [hpw, wrap64_of (Y : Int) (by omega) (by omega), wrap64_of _ (by omega) (by omega)]; omega)
          rw [hY] at HWT
          clear hY hpw
          go_wp2
          go_round
          case rel => exact ⟨k + 1, by omega, by go_num, by rw [HWT.out, ← HPW.out], by rw [HOT.out, HOK.out]; simp [h11]⟩
          case measure => simp [intOf]; omega
        · obtain rfl : u = 0 := by omega
          go_wp2
          go_round
          case rel => exact ⟨k + 1, by omega, by go_num, by rw [HWT.out]; rfl, by rw [HOT.out, HOK.out]; rfl⟩
          case measure => simp [intOf]; omega
      · go_wp2
        go_ret2
        have hO := HO.out
        rw [HNO.out (by omega)] at hO
        subst hO
        rw [← HR.out]
        exact ⟨rfl, rfl⟩
    · obtain rfl : k = l.length := by omega
      rw [List.take_length] at hok ⊢
      go_wp2
      go_ret2
      have hO := HO.out
      rw [hok] at hO
      subst hO
      rw [← HR.out]
      exact ⟨rfl, rfl⟩

set_option maxHeartbeats 400000 in
theorem max_c (w : World) (v : Value) (l : List UInt8) (hv : BS w v l) (hl : l.length ≤ 1000) (h1 : 1 ≤ l.length) : Calls Try.prog 54 #[v] w fun e w' => e = .returned (.int .u8 (Huf.top l : Nat)) ∧ w = w' := by
  obtain ⟨a, cap, rfl, k1, k2, k3, hc⟩ := hv
  unfold maxLen at k2
  have HC := Lib.hid hc
  clear hc
  obtain ⟨b, off, rfl, hc0⟩ := HC.out 0 h1
  rw [Nat.add_zero] at hc0
  obtain ⟨u0, hu0⟩ : ∃ u, l[0].toNat = u := ⟨_, rfl⟩
  have ht1 : Huf.top (l.take 1) = u0 := by
    rw [Huf.top_take l 0 h1, hu0]; simp [Huf.top, Huf.ns]
  rw [hu0] at hc0
  have hu1 : u0 < 256 := by rw [← hu0]; exact l[0].toNat_lt
  have HT1 := Lib.hid ht1
  clear ht1 hu0
  go_enter Try.func54, Try.ntmps54
  go_wp2
  go_loop [3, 4] (fun x i => ∃ k : Nat, 1 ≤ k ∧ k ≤ l.length ∧ i = .int .i64 k ∧ x = .int .u8 (Huf.top (l.take k) : Nat) ∧ Huf.top (l.take k) < 256) (fun _ i => l.length - (intOf i).toNat)
  case atStart => exact ⟨1, Nat.le_refl _, h1, rfl, by rw [HT1.out], by rw [HT1.out]; exact hu1⟩
  case round =>
    obtain ⟨k, hk0, hk, rfl, rfl, hlt⟩ := hrel
    by_cases hkl : k < l.length
    · obtain ⟨b2, off2, hb, hcell⟩ := HC.out k hkl
      cases hb
      have htt := Huf.top_take l k hkl
      obtain ⟨u, hu⟩ : ∃ u, l[k].toNat = u := ⟨_, rfl⟩
      have hu2 : u < 256 := by rw [← hu]; exact l[k].toNat_lt
      rw [hu] at hcell htt
      generalize Huf.top (l.take k) = X at *
      have HTT := Lib.hid htt
      clear htt hu
      go_wp2
      go_round
      case rel => exact ⟨k + 1, by omega, by omega, by go_num, by rw [HTT.out]; go_num, by rw [HTT.out]; omega⟩
      case measure => simp [intOf]; omega
    · obtain rfl : k = l.length := by omega
      rw [List.take_length] at hlt ⊢
      go_wp2
      go_ret
      exact ⟨rfl, rfl⟩
end Go.Proofs.Ytfckokdgmbbheaa.huf

set_option linter.unusedVariables false
set_option linter.unusedSimpArgs false
set_option maxRecDepth 20000
namespace Go.Proofs.Ytfckokdgmbbheaa.huf
open Go Go.RowKit Go.Lm Go.Proofs.Ytfckokdgmbbheaa.bit

theorem and_i64_nat (a b : Nat) (ha : a < 9223372036854775808) (hb : b < 9223372036854775808) : bits .and .i64 (a : Int) (b : Int) = ((a &&& b : Nat) : Int) := by
  have hx : a &&& b < 2 ^ 63 := Nat.and_lt_two_pow _ (by omega)
  have h1 : (BitVec.ofInt 64 (a : Int)).toNat = a := by
    rw [BitVec.ofInt_natCast, BitVec.toNat_ofNat]; exact Nat.mod_eq_of_lt (by omega)
  have h2 : (BitVec.ofInt 64 (b : Int)).toNat = b := by
    rw [BitVec.ofInt_natCast, BitVec.toNat_ofNat]; exact Nat.mod_eq_of_lt (by omega)
  show IntKind.i64.wrap ((BitVec.ofInt 64 (a : Int) &&& BitVec.ofInt 64 (b : Int)).toNat : Int) = _
  rw [BitVec.toNat_and, h1, h2, IntKind.wrap_i64]
  omega
theorem or_i64_nat (a b : Nat) (ha : a < 4294967296) (hb : b < 4294967296) : bits .or .i64 (a : Int) (b : Int) = ((a ||| b : Nat) : Int) := by
  have hx : a ||| b < 2 ^ 32 := Nat.or_lt_two_pow (by omega) (by omega)
  have h1 : (BitVec.ofInt 64 (a : Int)).toNat = a := by
    rw [BitVec.ofInt_natCast, BitVec.toNat_ofNat]; exact Nat.mod_eq_of_lt (by omega)
  have h2 : (BitVec.ofInt 64 (b : Int)).toNat = b := by
    rw [BitVec.ofInt_natCast, BitVec.toNat_ofNat]; exact Nat.mod_eq_of_lt (by omega)
  show IntKind.i64.wrap ((BitVec.ofInt 64 (a : Int) ||| BitVec.ofInt 64 (b : Int)).toNat : Int) = _
  rw [BitVec.toNat_or, h1, h2, IntKind.wrap_i64]
  omega


theorem len_c (w : World) (x : Nat) (hx : x < 4611686018427387904) : Calls Try.prog 53 #[.int .u64 (x : Int)] w fun e w' => e = .returned (.int .i64 (Lib.bitLen x : Nat)) ∧ w = w' :=
  (Try.bits_Len (x : Int) w (by omega) (by omega)).mono fun _ _ ⟨h1, h2⟩ => ⟨by rw [h1]; simp, h2.symm⟩
theorem len_log (x : Nat) (h0 : x ≠ 0) (h : x < 2 ^ 64) : Lib.bitLen x = Nat.log2 x + 1 := by
  obtain ⟨h1, h2, h3⟩ := bl_spec h0 h
  have h4 : Nat.log2 x = Lib.bitLen x - 1 := by
    refine (Nat.log2_eq_iff h0).2 ⟨h2, ?_⟩
    rwa [show Lib.bitLen x - 1 + 1 = Lib.bitLen x by omega]
  omega

set_option maxHeartbeats 1000000 in
theorem depth_c (w : World) (v : Value) (l : List UInt8) (hv : BS w v l) (hl : l.length ≤ 1000) : Calls Try.prog 38 #[v] w fun e w' => e = .returned (.int .i64 (Huf.dep (Huf.ns l) : Nat)) ∧ w = w' := by
  have HV := Lib.hid hv
  obtain ⟨a, cap, rfl, k1, k2, k3, hc⟩ := hv
  unfold maxLen at k2
  have HC := Lib.hid hc
  clear hc
  obtain ⟨D, hD⟩ : ∃ D, Huf.dep (Huf.ns l) = D := ⟨_, rfl⟩
  rw [hD]
  unfold Huf.dep at hD
  rw [Huf.ns_length] at hD
  have hwb := fun h => Huf.worth_bound (Huf.ns l) ((Huf.okay_iff l).1 h)
  have hwp := Huf.worth_pos (Huf.ns l)
  have hoi := Huf.okay_iff l
  have htl := Huf.top_le l
  rw [Huf.ns_length] at hwb
  have hwc := worth_c w _ l HV.out hl
  obtain ⟨S, hS⟩ : ∃ S, Huf.worth (Huf.ns l) = S := ⟨_, rfl⟩
  rw [hS] at hD hwb hwp hwc
  have HWC := Lib.hid hwc
  have HMX := Lib.hid (max_c w _ l HV.out hl)
  clear hS hwc
  have HD := Lib.hid hD; have HWB := Lib.hid hwb; have HWP := Lib.hid hwp; have HOI := Lib.hid hoi; have HTL := Lib.hid htl
  clear hD hwb hwp hoi htl
  cases hok : Huf.okay l with
  | false =>
    have hD := HD.out
    rw [if_neg (fun h => by have := HOI.out.2 (fun x hx => Nat.le_trans (h.2.2.2.2.2 x hx) h.2.2.2.2.1); rw [hok] at this; cases this)] at hD
    subst hD
    have hwc := HWC.out
    rw [hok] at hwc
    have HWC2 := Lib.hid hwc
    clear HWC hwc hok
    go_enter Try.func38, Try.ntmps38
    go_wp2_with (go_at_call 52; refine (HWC2.out).mono ?_; rintro e w' ⟨rfl, rfl⟩)
    go_ret
    exact ⟨rfl, rfl⟩
  | true =>
    have hwc := HWC.out
    rw [hok] at hwc
    simp only [if_true] at hwc
    have HWC2 := Lib.hid hwc
    have hSb : S ≤ 1024000 := by have := HWB.out hok; omega
    clear HWC hwc hok HWB HOI
    by_cases h2 : 2 ≤ l.length
    · by_cases h3 : l.length ≤ 256
      · obtain ⟨m, hm⟩ : ∃ m, l.length = m + 1 := ⟨l.length - 1, by omega⟩
        obtain ⟨b, off, rfl, hcell⟩ := HC.out m (by omega)
        have hlast : (Huf.ns l).getLastD 0 = l[m].toNat := by
          have hne : l ≠ [] := by intro e; subst e; simp at h2
          have : (Huf.ns l).getLastD 0 = (l.getLast hne).toNat := by
            obtain ⟨q, c, rfl⟩ : ∃ q c, l = q ++ [c] := ⟨l.dropLast, l.getLast hne, (List.dropLast_concat_getLast _).symm⟩
            simp [Huf.ns]
          rw [this, List.getLast_eq_getElem]
          congr 2
          omega
        have hD := HD.out
        rw [hlast] at hD
        have hwp := HWP.out
        rw [hlast] at hwp
        obtain ⟨u, hu⟩ : ∃ u, l[m].toNat = u := ⟨_, rfl⟩
        have hu2 : u < 256 := by rw [← hu]; exact l[m].toNat_lt
        rw [hu] at hcell hD hwp
        have HM := Lib.hid hm; have HD2 := Lib.hid hD; have HWP2 := Lib.hid hwp
        rw [hm] at k1 h2 h3 HWC2 HMX ⊢
        have hmb : m < 256 := by omega
        clear hm hD hlast hwp HWP hu HD HC HV
        by_cases h4 : u = 0
        · subst h4
          have hD := HD2.out
          rw [if_neg (fun h => h.2.2.1 rfl)] at hD
          subst hD
          clear HD2 HWP2 HTL
          go_enter Try.func38, Try.ntmps38
          go_wp2_with (go_at_call 52; refine (HWC2.out).mono ?_; rintro e w' ⟨rfl, rfl⟩)
          go_ret
          exact ⟨rfl, rfl⟩
        · have hu0 : ((u : Int) == 0) = false := by rw [beq_eq_false_iff_ne]; omega
          have hS0 := HWP2.out h4
          have hand : bits .and .i64 (S : Int) ((S : Int) - 1) = ((S &&& (S - 1) : Nat) : Int) := by
            have := and_i64_nat S (S - 1) (by omega) (by omega)
            rw [← this]; congr 1; omega
          have hpa := Huf.pow_and hS0
          have hlg := len_log S (by omega) (by omega)
          obtain ⟨Z, hZ⟩ : ∃ Z, S &&& (S - 1) = Z := ⟨_, rfl⟩
          obtain ⟨g, hg⟩ : ∃ g, Nat.log2 S = g := ⟨_, rfl⟩
          rw [hZ] at hand hpa
          rw [hg] at hlg hpa
          have hD := HD2.out
          rw [hg] at hD
          have HD3 := Lib.hid hD; have HPA := Lib.hid hpa; have HAND := Lib.hid hand
          have hg20 : g < 20 := by
            rw [← hg]
            exact (Nat.log2_lt (by omega)).2 (by omega)
          have hlen := len_c w S (by omega)
          rw [hlg] at hlen
          have HLEN := Lib.hid hlen
          clear HD2 HWP2 hD hpa hZ hg hlg hlen
          by_cases h5 : Z = 0
          · subst h5
            by_cases h6 : g ≤ 11
            · by_cases h7 : Huf.top l ≤ g
              · have hD := HD3.out
                rw [if_pos ⟨by have := HM.out; omega, by have := HM.out; omega, h4, HPA.out.1 rfl, h6, (HTL.out g).1 h7⟩] at hD
                subst hD
                clear HD3 HPA HTL
                have hand := HAND.out
                have ht : Huf.top l ≤ 11 := Nat.le_trans h7 h6
                generalize Huf.top l = T at *
                go_enter Try.func38, Try.ntmps38
                go_wp2_with (first | (go_at_call 52; refine (HWC2.out).mono ?_; rintro e w' ⟨rfl, rfl⟩) | (go_at_call 53; refine (HLEN.out).mono ?_; rintro e w' ⟨rfl, rfl⟩) | (go_at_call 54; refine (HMX.out (by omega)).mono ?_; rintro e w' ⟨rfl, rfl⟩))
                go_ret
                exact ⟨rfl, rfl⟩

              · have hD := HD3.out
                rw [if_neg (fun h => h7 ((HTL.out g).2 h.2.2.2.2.2))] at hD
                subst hD
                clear HD3 HPA
                have hand := HAND.out
                have ht : Huf.top l ≤ 255 := (HTL.out 255).2 (fun x hx => by obtain ⟨c, _, rfl⟩ := List.mem_map.1 hx; have := c.toNat_lt; omega)
                clear HTL
                generalize Huf.top l = T at *
                go_enter Try.func38, Try.ntmps38
                go_wp2_with (first | (go_at_call 52; refine (HWC2.out).mono ?_; rintro e w' ⟨rfl, rfl⟩) | (go_at_call 53; refine (HLEN.out).mono ?_; rintro e w' ⟨rfl, rfl⟩) | (go_at_call 54; refine (HMX.out (by omega)).mono ?_; rintro e w' ⟨rfl, rfl⟩))
                go_ret
                exact ⟨rfl, rfl⟩

            · have hD := HD3.out
              rw [if_neg (fun h => h6 h.2.2.2.2.1)] at hD
              subst hD
              clear HD3 HPA HTL
              have hand := HAND.out
              go_enter Try.func38, Try.ntmps38
              go_wp2_with (first | (go_at_call 52; refine (HWC2.out).mono ?_; rintro e w' ⟨rfl, rfl⟩) | (go_at_call 53; refine (HLEN.out).mono ?_; rintro e w' ⟨rfl, rfl⟩))
              go_ret
              exact ⟨rfl, rfl⟩
          · have hD := HD3.out
            rw [if_neg (fun h => h5 (HPA.out.2 h.2.2.2.1))] at hD
            subst hD
            clear HD3 HPA HTL
            have hand := HAND.out
            have hz : ((Z : Int) != 0) = true := by rw [bne_iff_ne]; omega
            go_enter Try.func38, Try.ntmps38
            go_wp2_with (first | (go_at_call 52; refine (HWC2.out).mono ?_; rintro e w' ⟨rfl, rfl⟩))
            go_ret
            exact ⟨rfl, rfl⟩
      · have hD := HD.out
        rw [if_neg (fun h => h3 h.2.1)] at hD
        subst hD
        clear HD HTL HWP
        go_enter Try.func38, Try.ntmps38
        go_wp2_with (first | (go_at_call 52; refine (HWC2.out).mono ?_; rintro e w' ⟨rfl, rfl⟩))
        go_ret
        exact ⟨rfl, rfl⟩
    · have hD := HD.out
      rw [if_neg (fun h => h2 h.1)] at hD
      subst hD
      clear HD HTL HWP
      go_enter Try.func38, Try.ntmps38
      go_wp2_with (first | (go_at_call 52; refine (HWC2.out).mono ?_; rintro e w' ⟨rfl, rfl⟩))
      go_ret
      exact ⟨rfl, rfl⟩
end Go.Proofs.Ytfckokdgmbbheaa.huf

