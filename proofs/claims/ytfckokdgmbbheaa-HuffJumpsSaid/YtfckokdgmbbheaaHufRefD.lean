/-
  THE WALKS of the reference: powers, worth, depth.
-/
import Derived.Test.YtfckokdgmbbheaaHufDepth
import Derived.Test.YtfckokdgmbbheaaHufPlain6
set_option linter.unusedVariables false
set_option linter.unusedSimpArgs false
set_option maxRecDepth 20000
namespace Go.Proofs.Ytfckokdgmbbheaa.huf
open Go Go.RowKit Go.Lm Go.Proofs.Ytfckokdgmbbheaa.bit

theorem pow_int' (m : Nat) : (2 : Int) ^ m = ((2 ^ m : Nat) : Int) := by rw [Int.natCast_pow]; rfl
set_option maxHeartbeats 400000 in
theorem power_c (w : World) (n : Nat) (hn : n ≤ 30) : Calls Try.prog 51 #[.int .i64 (n : Int)] w fun e w' => e = .returned (.int .i64 ((2 ^ n : Nat) : Int)) ∧ w = w' := by
  obtain ⟨R, hR⟩ : ∃ R, 2 ^ n = R := ⟨_, rfl⟩
  rw [hR]
  have HR := Lib.hid hR; clear hR
  go_enter Try.func51, Try.ntmps51
  go_wp2
  go_loop [3, 4] (fun x i => ∃ k : Nat, k ≤ n ∧ i = .int .i64 k ∧ x = .int .i64 ((2 ^ k : Nat) : Int)) (fun _ i => n - (intOf i).toNat)
  case atStart => exact ⟨0, Nat.zero_le _, rfl, rfl⟩
  case round =>
    obtain ⟨k, hk, rfl, rfl⟩ := hrel
    have hp : 2 ^ k ≤ 2 ^ 30 := Nat.pow_le_pow_right (by decide) (by omega)
    have hp2 : 2 ^ (k + 1) = 2 ^ k * 2 := Nat.pow_succ ..
    have HP := Lib.hid hp2; clear hp2
    by_cases hkn : k < n
    · have hkI : (k : Int) < (n : Int) := by omega
      have hk40 : (k : Int) < 40 := by omega
      obtain ⟨X, hX⟩ : ∃ X, 2 ^ k = X := ⟨_, rfl⟩
      rw [hX] at hp HP ⊢
      clear hX
      go_wp2
      go_round
      case rel => exact ⟨k + 1, by omega, by go_num, by rw [HP.out]; go_num⟩
      case measure => simp [intOf]; omega
    · obtain rfl : k = n := by omega
      rw [HR.out]
      clear hp HP
      go_wp2
      go_ret
      exact ⟨rfl, rfl⟩

theorem str_get (s : ByteArray) (k : Nat) (h : k < s.size) : ∃ h' : k < s.data.toList.length, s.data.toList[k] = s[k] := by
  refine ⟨by rw [len_data]; exact h, ?_⟩
  rw [show s[k] = s.data[k] from rfl]; simp

set_option maxHeartbeats 1000000 in
theorem refworth_c (w : World) (s : ByteArray) (hs : s.size ≤ 1000) : Calls Try.prog 37 #[.string s] w fun e w' => e = .returned (.int .i64 (if Huf.okay s.data.toList then (Huf.worth (Huf.ns s.data.toList) : Int) else -1)) ∧ w = w' := by
  have hls : s.data.toList.length = s.size := len_data s
  obtain ⟨l, hl⟩ : ∃ l, s.data.toList = l := ⟨_, rfl⟩
  have hget : ∀ k (h : k < s.size), ∃ h' : k < l.length, l[k] = s[k] := by subst hl; exact str_get s
  rw [hl] at hls ⊢
  have HGET := Lib.hid hget; have HLS := Lib.hid hls
  clear hget hl
  obtain ⟨R, hR⟩ : ∃ R, (if Huf.okay l then (Huf.worth (Huf.ns l) : Int) else -1) = R := ⟨_, rfl⟩
  obtain ⟨O, hO⟩ : ∃ O, Huf.okay l = O := ⟨_, rfl⟩
  rw [hR]
  rw [hO] at hR
  have HR := Lib.hid hR; have HO := Lib.hid hO
  clear hR hO hls
  go_enter Try.func37, Try.ntmps37
  go_wp2
  go_loop [3, 4] (fun x i => ∃ k : Nat, k ≤ s.size ∧ i = .int .i64 k ∧ x = .int .i64 (Huf.worth (Huf.ns (l.take k)) : Nat) ∧ Huf.okay (l.take k) = true) (fun _ i => s.size - (intOf i).toNat)
  case atStart => exact ⟨0, Nat.zero_le _, rfl, rfl, rfl⟩
  case round =>
    obtain ⟨k, hk, rfl, rfl, hok⟩ := hrel
    by_cases hks : k < s.size
    · obtain ⟨hkl, hsk⟩ := HGET.out k hks
      have hwt : Huf.worth (Huf.ns (l.take (k + 1))) = Huf.worth (Huf.ns (l.take k)) + Huf.pw (l[k].toNat) := by
        have := Huf.worth_take (Huf.ns l) k (by rw [Huf.ns_length]; exact hkl)
        rwa [Huf.ns_take, Huf.ns_take, Huf.ns_get l k hkl] at this
      have hot := Huf.okay_take l k hkl
      have hno := Huf.okay_not l k hkl
      have hwb := Huf.worth_bound (Huf.ns (l.take k)) ((Huf.okay_iff _).1 hok)
      rw [Huf.ns_length, List.length_take] at hwb
      have hwb2 : Huf.worth (Huf.ns (l.take k)) ≤ 1024000 := by omega
      rw [hsk] at hwt hot hno
      obtain ⟨c, hc⟩ : ∃ c, s[k] = c := ⟨_, rfl⟩
      have HC := Lib.hid hc
      rw [hc] at hwt hot hno
      have hu2 := c.toNat_lt
      obtain ⟨X, hX⟩ : ∃ X, Huf.worth (Huf.ns (l.take k)) = X := ⟨_, rfl⟩
      rw [hX] at hwt hwb2 ⊢
      have HWT := Lib.hid hwt; have HOT := Lib.hid hot; have HNO := Lib.hid hno; have HOK := Lib.hid hok
      clear hwt hot hno hok hwb hX hsk hkl hc
      obtain ⟨u, hu⟩ : ∃ u, c.toNat = u := ⟨_, rfl⟩
      rw [hu] at hu2 HWT HOT HNO
      have hcu : s[k].toNat = u := by rw [HC.out, hu]
      by_cases h11 : u ≤ 11
      · by_cases h0 : 0 < u
        · have hpl := Huf.pw_le h11
          have hpw : Huf.pw u = 2 ^ (u - 1) := by unfold Huf.pw; rw [if_neg (by omega)]
          have hpc := fun w => power_c w (u - 1) (by omega)
          rw [← hpw] at hpc
          obtain ⟨Y, hY⟩ : ∃ Y, Huf.pw u = Y := ⟨_, rfl⟩
          rw [hY] at hpl hpc HWT
          have hui : ((u - 1 : Nat) : Int) = (u : Int) - 1 := by omega
          rw [hui] at hpc
          have HPC := Lib.hid hpc
          clear hpw hpc hY hui
          go_wp2_with (go_at_call 51; refine (HPC.out _).mono ?_; rintro e w' ⟨rfl, rfl⟩)
          go_round
          case rel => exact ⟨k + 1, by omega, by go_num, by rw [HWT.out]; go_num, by rw [HOT.out, HOK.out]; simp [h11]⟩
          case measure => simp [intOf]; omega
        · obtain rfl : u = 0 := by omega
          go_wp2
          go_round
          case rel => exact ⟨k + 1, by omega, by go_num, by rw [HWT.out]; rfl, by rw [HOT.out, HOK.out]; rfl⟩
          case measure => simp [intOf]; omega
      · go_wp2
        go_ret
        have hO := HO.out
        rw [HNO.out (by omega)] at hO
        subst hO
        rw [← HR.out]
        exact ⟨rfl, rfl⟩
    · obtain rfl : k = s.size := by omega
      have e1 : l.take s.size = l := by rw [← HLS.out, List.take_length]
      rw [e1] at hok ⊢
      go_wp2
      go_ret
      have hO := HO.out
      rw [hok] at hO
      subst hO
      rw [← HR.out]
      exact ⟨rfl, rfl⟩

/-- The power of two that a number is, below 20. -/
def lg (x : Int) : Int := match (List.range 20).find? fun d => decide (((2 ^ d : Nat) : Int) = x) with | some d => (d : Int) | none => -1
theorem lg_yes {d : Nat} (h : d < 20) : lg ((2 ^ d : Nat) : Int) = d := by
  unfold lg
  cases hf : (List.range 20).find? fun e => decide (((2 ^ e : Nat) : Int) = ((2 ^ d : Nat) : Int)) with
  | none =>
    have := List.find?_eq_none.1 hf d (List.mem_range.2 h)
    simp at this
  | some e =>
    have h2 := List.find?_some hf
    simp only [decide_eq_true_eq] at h2
    have h3 : 2 ^ e = 2 ^ d := by exact_mod_cast h2
    have : e = d := by
      rcases Nat.lt_trichotomy e d with h4 | h4 | h4
      · have := Nat.pow_lt_pow_right (show 1 < 2 by decide) h4; omega
      · exact h4
      · have := Nat.pow_lt_pow_right (show 1 < 2 by decide) h4; omega
    rw [this]
theorem lg_no {x : Int} (h : ∀ d, d < 20 → ((2 ^ d : Nat) : Int) ≠ x) : lg x = -1 := by
  unfold lg
  rw [List.find?_eq_none.2 (fun d hd => by simpa using h d (List.mem_range.1 hd))]

set_option maxHeartbeats 400000 in
theorem reflog_c (w : World) (x : Int) : Calls Try.prog 36 #[.int .i64 x] w fun e w' => e = .returned (.int .i64 (lg x)) ∧ w = w' := by
  by_cases hx : ∃ d, d < 20 ∧ ((2 ^ d : Nat) : Int) = x
  · obtain ⟨d, hd, rfl⟩ := hx
    rw [lg_yes hd]
    obtain ⟨X, hX⟩ : ∃ X, 2 ^ d = X := ⟨_, rfl⟩
    have hne : ∀ k, k < d → ((2 ^ k : Nat) : Int) ≠ (X : Int) := fun k hk he => by
      have h1 : 2 ^ k = X := by exact_mod_cast he
      have := Nat.pow_lt_pow_right (show 1 < 2 by decide) hk
      omega
    rw [hX]
    have HX := Lib.hid hX; have HNE := Lib.hid hne
    clear hX hne
    go_enter Try.func36, Try.ntmps36
    go_wp2
    go_loop [3] (fun i => ∃ k : Nat, k ≤ d ∧ i = .int .i64 k) (fun i => d + 1 - (intOf i).toNat)
    case atStart => exact ⟨0, Nat.zero_le _, rfl⟩
    case round =>
      obtain ⟨k, hk, rfl⟩ := hrel
      have HPC := Lib.hid (fun w => power_c w k (by omega))
      by_cases hkd : k < d
      · have hne := HNE.out k hkd
        obtain ⟨Z, hZ⟩ : ∃ Z, 2 ^ k = Z := ⟨_, rfl⟩
        rw [hZ] at hne HPC
        have hneb : ((Z : Int) == (X : Int)) = false := beq_eq_false_iff_ne.2 hne
        clear hZ
        go_wp2_with (go_at_call 51; refine (HPC.out _).mono ?_; rintro e w' ⟨rfl, rfl⟩)
        go_round
        case rel => exact ⟨k + 1, by omega, by go_num⟩
        case measure => simp [intOf]; omega
      · obtain rfl : k = d := by omega
        rw [HX.out] at HPC
        go_wp2_with (go_at_call 51; refine (HPC.out _).mono ?_; rintro e w' ⟨rfl, rfl⟩)
        go_ret
        exact ⟨rfl, rfl⟩
  · have hne : ∀ d, d < 20 → ((2 ^ d : Nat) : Int) ≠ x := fun d hd he => hx ⟨d, hd, he⟩
    rw [lg_no hne]
    have HNE := Lib.hid hne
    clear hx hne
    go_enter Try.func36, Try.ntmps36
    go_wp2
    go_loop [3] (fun i => ∃ k : Nat, k ≤ 20 ∧ i = .int .i64 k) (fun i => 21 - (intOf i).toNat)
    case atStart => exact ⟨0, Nat.zero_le _, rfl⟩
    case round =>
      obtain ⟨k, hk, rfl⟩ := hrel
      have HPC := Lib.hid (fun w => power_c w k (by omega))
      by_cases hkd : k < 20
      · have hne := HNE.out k hkd
        obtain ⟨Z, hZ⟩ : ∃ Z, 2 ^ k = Z := ⟨_, rfl⟩
        rw [hZ] at hne HPC
        have hneb : ((Z : Int) == x) = false := beq_eq_false_iff_ne.2 hne
        clear hZ
        go_wp2_with (go_at_call 51; refine (HPC.out _).mono ?_; rintro e w' ⟨rfl, rfl⟩)
        go_round
        case rel => exact ⟨k + 1, by omega, by go_num⟩
        case measure => simp [intOf]; omega
      · obtain rfl : k = 20 := by omega
        go_wp2
        go_ret
        exact ⟨rfl, rfl⟩

theorem lg_spec {x : Int} {g : Nat} (h : lg x = (g : Int)) : x = ((2 ^ g : Nat) : Int) := by
  unfold lg at h
  cases hf : (List.range 20).find? fun d => decide (((2 ^ d : Nat) : Int) = x) with
  | none => rw [hf] at h; simp at h
  | some e =>
    rw [hf] at h
    have h2 := List.find?_some hf
    simp only [decide_eq_true_eq] at h2
    have : e = g := by simp only at h; omega
    rw [← this, h2]
/-- what the reference takes the logarithm of -/
def wo (l : List UInt8) : Int := if Huf.okay l then (Huf.worth (Huf.ns l) : Int) else -1
theorem wo_good {l : List UInt8} {d : Nat} (h : Huf.Good (Huf.ns l) d) : lg (wo l) = (d : Int) := by
  have hok : Huf.okay l = true := (Huf.okay_iff l).2 fun x hx => Nat.le_trans (h.deep.le x hx) h.eleven
  unfold wo
  rw [hok, if_pos rfl, h.deep.whole]
  exact lg_yes (by have := h.eleven; omega)
theorem dep_no {l : List UInt8} (h : lg (wo l) < 1 ∨ 11 < lg (wo l)) : Huf.dep (Huf.ns l) = 0 := by
  by_cases h0 : Huf.dep (Huf.ns l) = 0
  · exact h0
  · have hg := Huf.dep_good h0
    have := wo_good hg
    have := hg.eleven
    have := hg.one
    omega
theorem dep_yes {l : List UInt8} {g : Nat} (h2 : 2 ≤ l.length) (h3 : l.length ≤ 256) (h4 : (Huf.ns l).getLastD 0 ≠ 0) (h : lg (wo l) = (g : Int)) (h5 : 1 ≤ g) (h6 : g ≤ 11) (h7 : ∀ w ∈ Huf.ns l, w ≤ g) : Huf.dep (Huf.ns l) = g := by
  have h8 := lg_spec h
  have hok : Huf.okay l = true := (Huf.okay_iff l).2 fun x hx => Nat.le_trans (h7 x hx) h6
  unfold wo at h8
  rw [hok, if_pos rfl] at h8
  exact Huf.dep_eq ⟨by rw [Huf.ns_length]; exact h2, by rw [Huf.ns_length]; exact h3, h4, ⟨by exact_mod_cast h8, h7⟩, h5, h6⟩
theorem dep_far {l : List UInt8} {g : Nat} (h : lg (wo l) = (g : Int)) (k : Nat) (hk : k < l.length) (hg : g < l[k].toNat) : Huf.dep (Huf.ns l) = 0 := by
  by_cases h0 : Huf.dep (Huf.ns l) = 0
  · exact h0
  · have hd := Huf.dep_good h0
    have h1 := wo_good hd
    rw [h] at h1
    have h2 : g = Huf.dep (Huf.ns l) := by exact_mod_cast h1
    have h3 := hd.deep.le l[k].toNat (List.mem_map_of_mem (List.getElem_mem hk))
    omega
theorem last_get (l : List UInt8) (m : Nat) (h : l.length = m + 1) : (Huf.ns l).getLastD 0 = (l[m]).toNat := by
  have hne : l ≠ [] := by intro e; subst e; simp at h
  have : (Huf.ns l).getLastD 0 = (l.getLast hne).toNat := by
    obtain ⟨q, c, rfl⟩ : ∃ q c, l = q ++ [c] := ⟨l.dropLast, l.getLast hne, (List.dropLast_concat_getLast _).symm⟩
    simp [Huf.ns]
  rw [this, List.getLast_eq_getElem]
  congr 2
  omega
theorem dep_len {l : List UInt8} (h : l.length < 2 ∨ 256 < l.length ∨ (Huf.ns l).getLastD 0 = 0) : Huf.dep (Huf.ns l) = 0 := by
  by_cases h0 : Huf.dep (Huf.ns l) = 0
  · exact h0
  · have hd := Huf.dep_good h0
    have h1 := hd.two
    have h2 := hd.most
    have h3 := hd.tail
    rw [Huf.ns_length] at h1 h2
    rcases h with h | h | h
    · omega
    · omega
    · exact absurd h h3

set_option maxHeartbeats 1000000 in
theorem refdepth_c (w : World) (s : ByteArray) (hs : s.size ≤ 1000) : Calls Try.prog 16 #[.string s] w fun e w' => e = .returned (.int .i64 (Huf.dep (Huf.ns s.data.toList) : Nat)) ∧ w = w' := by
  have hwc := fun w => refworth_c w s hs
  have hls : s.data.toList.length = s.size := len_data s
  obtain ⟨l, hl⟩ : ∃ l, s.data.toList = l := ⟨_, rfl⟩
  have hget : ∀ k (h : k < s.size), ∃ h' : k < l.length, l[k] = s[k] := by subst hl; exact str_get s
  simp only [hl] at hls hwc ⊢
  have hX : (if Huf.okay l then (Huf.worth (Huf.ns l) : Int) else -1) = wo l := rfl
  rw [hX] at hwc
  obtain ⟨D, hD⟩ : ∃ D, Huf.dep (Huf.ns l) = D := ⟨_, rfl⟩
  rw [hD]
  have HWC := Lib.hid hwc; have HGET := Lib.hid hget; have HD := Lib.hid hD; have HLS := Lib.hid hls
  clear hwc hget hD hX hl hls
  by_cases h2 : 2 ≤ s.size
  · by_cases h3 : s.size ≤ 256
    · obtain ⟨m, hm⟩ : ∃ m, s.size = m + 1 := ⟨s.size - 1, by omega⟩
      obtain ⟨hml, hsm⟩ := HGET.out m (by omega)
      have hlast := last_get l m (by rw [HLS.out, hm])
      rw [hsm] at hlast
      have HLAST := Lib.hid hlast
      have HM := Lib.hid hm
      have hidx : ((s.size : Int) - 1).toNat = m := by omega
      obtain ⟨u, hu⟩ : ∃ u, s[m].toNat = u := ⟨_, rfl⟩
      rw [hu] at HLAST
      have hu2 : u < 256 := by rw [← hu]; exact UInt8.toNat_lt _
      clear hlast hsm hml
      by_cases h4 : u = 0
      · have hD := HD.out
        rw [dep_len (.inr (.inr (HLAST.out.trans h4)))] at hD
        subst hD
        --@1
        clear HLAST
        go_enter Try.func16, Try.ntmps16
        go_wp2
        go_ret
        exact ⟨rfl, rfl⟩
      · have hu0 : ((u : Int) == 0) = false := by rw [beq_eq_false_iff_ne]; omega
        have hlgc : ∀ w, Calls Try.prog 36 #[.int .i64 (wo l)] w fun e w' => e = .returned (.int .i64 (lg (wo l))) ∧ w = w' := fun w => reflog_c w _
        have hdn := dep_no (l := l)
        have hdy := fun g => dep_yes (l := l) (g := g) (by rw [HLS.out]; omega) (by rw [HLS.out]; omega) (by rw [HLAST.out]; exact h4)
        have hdf := fun g => dep_far (l := l) (g := g)
        rw [HD.out] at hdn hdy hdf
        obtain ⟨X, hX⟩ : ∃ X, wo l = X := ⟨_, rfl⟩
        simp only [hX] at hlgc hdn hdy hdf
        rw [hX] at HWC
        obtain ⟨G, hG⟩ : ∃ G, lg X = G := ⟨_, rfl⟩
        simp only [hG] at hlgc hdn hdy hdf
        have HLG := Lib.hid hlgc; have HDN := Lib.hid hdn; have HDY := Lib.hid hdy; have HDF := Lib.hid hdf
        clear hlgc hdn hdy hdf hX hG HD HLAST
        by_cases h5 : G < 1
        · have hD := HDN.out (.inl h5)
          subst hD
          clear HDN HDY HDF
          go_enter Try.func16, Try.ntmps16
          go_wp2_with (first | (go_at_call 37; refine (HWC.out _).mono ?_; rintro e w' ⟨rfl, rfl⟩) | (go_at_call 36; refine (HLG.out _).mono ?_; rintro e w' ⟨rfl, rfl⟩))
          go_ret
          exact ⟨rfl, rfl⟩
        by_cases h6 : 11 < G
        · have hD := HDN.out (.inr h6)
          subst hD
          clear HDN HDY HDF
          go_enter Try.func16, Try.ntmps16
          go_wp2_with (first | (go_at_call 37; refine (HWC.out _).mono ?_; rintro e w' ⟨rfl, rfl⟩) | (go_at_call 36; refine (HLG.out _).mono ?_; rintro e w' ⟨rfl, rfl⟩))
          go_ret
          exact ⟨rfl, rfl⟩
        obtain ⟨g, rfl⟩ : ∃ g : Nat, G = g := ⟨G.toNat, by omega⟩
        clear HDN
        go_enter Try.func16, Try.ntmps16
        go_wp2_with (first | (go_at_call 37; refine (HWC.out _).mono ?_; rintro e w' ⟨rfl, rfl⟩) | (go_at_call 36; refine (HLG.out _).mono ?_; rintro e w' ⟨rfl, rfl⟩))
        clear hu hu0 h4 hidx
        have HM2 := Lib.hid hm
        clear hm
        go_loop [4] (fun i => ∃ k : Nat, k ≤ s.size ∧ i = .int .i64 k ∧ ∀ j (h : j < l.length), j < k → l[j].toNat ≤ g) (fun i => s.size - (intOf i).toNat)
        case atStart => exact ⟨0, Nat.zero_le _, rfl, fun j _ hj => absurd hj (Nat.not_lt_zero _)⟩
        case round =>
          obtain ⟨k, hk, rfl, hall⟩ := hrel
          have HALL := Lib.hid hall
          clear hall
          by_cases hks : k < s.size
          · obtain ⟨hkl, hsk⟩ := HGET.out k hks
            obtain ⟨y, hy⟩ : ∃ y, s[k].toNat = y := ⟨_, rfl⟩
            have hy2 : y < 256 := by rw [← hy]; exact UInt8.toNat_lt _
            by_cases hyg : y ≤ g
            · have HALL2 : Hid (∀ j (h : j < l.length), j < k + 1 → l[j].toNat ≤ g) := Lib.hid fun j h hj => by
                rcases Nat.lt_or_ge j k with h1 | h1
                · exact HALL.out j h h1
                · obtain rfl : j = k := by omega
                  rw [hsk, hy]; exact hyg
              clear hsk
              go_wp2
              go_round
              case rel => exact ⟨k + 1, by omega, by go_num, HALL2.out⟩
              case measure => simp [intOf]; omega
            · have hD := HDF.out g rfl k hkl (by rw [hsk, hy]; omega)
              subst hD
              clear hsk
              go_wp2
              go_ret
              exact ⟨rfl, rfl⟩
          · obtain rfl : k = s.size := by omega
            have hD := HDY.out g rfl (by omega) (by omega) (fun w hw => by
              obtain ⟨c, hc, rfl⟩ := List.mem_map.1 hw
              obtain ⟨j, hj, rfl⟩ := List.getElem_of_mem hc
              exact HALL.out j hj (by rw [← HLS.out]; exact hj))
            subst hD
            go_wp2
            go_ret
            exact ⟨rfl, rfl⟩
    · have hD := HD.out
      rw [dep_len (.inr (.inl (by rw [HLS.out]; omega)))] at hD
      subst hD
      go_enter Try.func16, Try.ntmps16
      go_wp2
      go_ret
      exact ⟨rfl, rfl⟩
  · have hD := HD.out
    rw [dep_len (.inl (by rw [HLS.out]; omega))] at hD
    subst hD
    go_enter Try.func16, Try.ntmps16
    go_wp2
    go_ret
    exact ⟨rfl, rfl⟩
end Go.Proofs.Ytfckokdgmbbheaa.huf
