/-
  ArqWhole, walked.
-/
import Derived.Test.YtidkadlmnidmoaaArqWholePlain
import Derived.Test.YtidkadlmnidmoaaConcat
import Derived.Lib.ConvBytes
set_option linter.unusedVariables false
set_option linter.unusedSimpArgs false
namespace Go.Proofs.Ytidkadlmnidmoaa.arq
open Go Go.RowKit Go.Lm

set_option maxHeartbeats 1000000 in
theorem whole_yes (w : World) (p rl rh : Nat) (tot each : Int) (us : List Value) (hs : List Bool) (h : PC w p rl rh tot each us hs) (hf : false ∉ hs) (ls : List (List UInt8)) (hls : BSS w (.slice (some ⟨rl, 0, none⟩) hs.length hs.length) ls) (hm : ls.flatten.length ≤ 100000000) :
    Calls Try.prog 12 #[.pointer (some ⟨p, 0, none⟩)] w fun e w' => ∃ u, e = .returned (.tuple #[u, .bool true]) ∧ BS w' u ls.flatten ∧ Only [] w w' := by
  have HP := Lib.hid h
  obtain ⟨c0, c1, c2, c3⟩ := h.cells
  have HV := Lib.hid h.bvs
  have hsm := h.small
  have HF := Lib.hid (decide_eq_false hf)
  have HLS := Lib.hid hls
  clear h c0 c1 c2 hf hls
  go_enter Try.func12, Try.ntmps12
  go_wp2_with fail
  refine (contains_c w _ hs false HV.out hsm).mono ?_
  rintro e w1 ⟨rfl, ho⟩
  have HO := Lib.hid ho
  rw [HF.out]
  have HP1 := Lib.hid (HP.out.only ho (by simp) (by simp) (by simp))
  have HLS1 := Lib.hid (cat.BSS.only HLS.out ho (by simp))
  clear ho c3
  obtain ⟨c0, c1, c2, c3⟩ := HP1.out.cells
  clear c0 c1 c3
  go_wp2_with fail
  refine (cat.concat_c w1 _ ls HLS1.out hm).mono ?_
  rintro e w2 ⟨u, rfl, hov, ho2⟩
  have HB := Lib.hid (BS.of_vs hov.vs)
  have HO2 := Lib.hid (HO.out.then ho2)
  obtain ⟨a, n, c, rfl⟩ := OV.isSlice hov
  clear hov ho2 c2
  go_wp2
  go_ret2
  exact ⟨_, rfl, HB.out, HO2.out⟩

/-- The pieces that came, in their row. -/
def PB (w : World) (rl rh : Nat) (l : List UInt8) (k n T j : Nat) (us : List Value) : Prop :=
  ∀ i, i < n → Arq.rank n T i < j → ∃ u, us[i]? = some u ∧ BS w u (Arq.piece l k i) ∧ ∀ c, u.ownBlock = some c → c ≠ rl ∧ c ≠ rh
theorem PB.only {w w' : World} {rl rh : Nat} {l : List UInt8} {k n T j : Nat} {us : List Value} (h : PB w rl rh l k n T j us) {S : List Nat} (ho : Only S w w') (hS : ∀ c ∈ S, c = rl ∨ c = rh) : PB w' rl rh l k n T j us := by
  intro i hj hr
  obtain ⟨u, h1, h2, h3⟩ := h i hj hr
  refine ⟨u, h1, h2.only ho (fun c hc _ hm => ?_), h3⟩
  have := h3 c hc
  rcases hS c hm with e | e
  · exact this.1 e
  · exact this.2 e
theorem PB.next {w w' : World} {rl rh : Nat} {l : List UInt8} {k n T j : Nat} {us : List Value} (h : PB w rl rh l k n T j us) (hj : j < n) (hu : us.length = n) {u : Value} (hb : BS w u (Arq.piece l k (Arq.turn n T j))) (hc : ∀ c, u.ownBlock = some c → c ≠ rl ∧ c ≠ rh) : PB w rl rh l k n T (j + 1) (us.set (Arq.turn n T j) u) := by
  intro i hj hr
  by_cases he : i = Arq.turn n T j
  · subst he
    exact ⟨u, by rw [List.getElem?_set_self (by rw [hu]; exact hj)], hb, hc⟩
  · have : Arq.rank n T i ≠ j := fun e => he (by rw [← e, Arq.turn_rank n T i hj])
    obtain ⟨v, h1, h2⟩ := h i hj (by omega)
    exact ⟨v, by rw [List.getElem?_set_ne (Ne.symm he)]; exact h1, h2⟩
theorem PB.rows {w : World} {p rl rh : Nat} {tot each : Int} {us : List Value} {hs : List Bool} {l : List UInt8} {k n T : Nat} (h : PB w rl rh l k n T n us) (hp : PC w p rl rh tot each us hs) (hn : hs.length = n) : BSS w (.slice (some ⟨rl, 0, none⟩) hs.length hs.length) ((List.range n).map (Arq.piece l k)) := by
  refine ⟨some ⟨rl, 0, none⟩, n, by simp [hn], by simp, by have := hp.small; unfold maxLen; omega, fun i hj => ?_⟩
  have hj : i < n := by simpa using hj
  obtain ⟨u, h1, h2, _⟩ := h i hj (Arq.rank_lt n T i (by omega))
  refine ⟨rl, 0, u, rfl, ?_, by simpa using h2⟩
  have hr := hp.row
  rw [Nat.zero_add]
  simp [World.cell?, hr, h1]

theorem wrap64_of (x : Int) (h0 : 0 ≤ x) (h1 : x < 4611686018427387904) : wrap64 x = x := by unfold wrap64; omega

set_option maxRecDepth 100000 in
set_option maxHeartbeats 8000000 in
theorem wholelaw_c (w : World) (v : Value) (l : List UInt8) (hv : BS w v l) (e0 T : Nat) (he : e0 < 256) (hT : T < 65536) : Calls Try.prog 4 #[v, .int .u8 (e0 : Int), .int .u16 (T : Int)] w fun e w' => e = .returned (.bool true) ∧ Below w.heap.size w w' := by
  have HV := Lib.hid hv
  obtain ⟨a, cap, rfl, h1, h2, -, -⟩ := hv
  obtain ⟨L, hL⟩ : ∃ L, l.length = L := ⟨_, rfl⟩
  rw [hL] at h1 HV ⊢
  unfold maxLen at h2
  have HL := Lib.hid hL
  obtain ⟨K, hK⟩ : ∃ K, e0 % 200 + 1 = K := ⟨_, rfl⟩
  obtain ⟨K1, hK1⟩ : ∃ K1, e0 % 200 = K1 := ⟨_, rfl⟩
  have q1 : (e0 : Int) % 200 = (K1 : Int) := by omega
  have q2 : (e0 : Int).tmod 200 = (K1 : Int) := by rw [Int.tmod_eq_emod_of_nonneg (by omega)]; exact q1
  have q3 : (K1 : Int) + 1 = (K : Int) := by omega
  have HK : Hid (0 < K ∧ K ≤ 200) := Lib.hid ⟨by omega, by omega⟩
  have hK1' : K1 < 200 := by omega
  have HT := Lib.hid hT
  clear hL hK hK1 hT
  go_enter Try.func4, Try.ntmps4
  go_wp2_with fail
  refine (awake_c w).mono ?_
  rintro e w1 ⟨rfl, ho1⟩
  have HO1 := Lib.hid ho1
  have HV1 := Lib.hid (HV.out.only ho1 (by simp))
  clear ho1
  by_cases h1000 : L ≤ 1000
  · have hI : ¬ ((1000 : Int) < (L : Int)) := by omega
    obtain ⟨n, hn⟩ : ∃ n, (L + K - 1) / K = n := ⟨_, rfl⟩
    have hnI : ((L : Int) + (K : Int) - 1) / (K : Int) = (n : Int) := by
      rw [← hn, Int.natCast_ediv]
      congr 1
      have := HK.out.1
      omega
    have HNN := Lib.hid hn
    have hn1000 : n ≤ 1000 := by
      rw [← hn]
      by_cases hL0 : L = 0
      · subst hL0
        rw [Nat.div_eq_of_lt (by have := HK.out.1; omega)]
        omega
      · have := (Arq.count_bounds L K HK.out.1).2 1000
        rw [hn] at this
        rw [hn]
        apply Classical.byContradiction
        intro hc
        have h3 := this (by omega)
        have h4 : 1000 ≤ K * 1000 := Nat.le_mul_of_pos_left 1000 HK.out.1
        omega
    have HN1000 := Lib.hid hn1000
    clear hn
    go_wp2_with fail
    --@1
    refine (newpieces_c w1 (L : Int) (K : Int) n (by omega) (by omega) (by have := HK.out; omega) (by have := HK.out; omega) hnI).mono ?_
    rintro e w2 ⟨p, rl, rh, rfl, hp, hp1, hp2, hp3, ho2⟩
    have HO2 := Lib.hid (HO1.out.then ho2)
    have HP2 := Lib.hid hp
    have HV2 := Lib.hid (HV1.out.only ho2 (by simp))
    have HD : Hid (w.heap.size ≤ rl ∧ w.heap.size ≤ rh) := Lib.hid ⟨by have := HO1.out.size; omega, by have := HO1.out.size; omega⟩
    clear hp hp1 hp2 hp3 ho2 HO1 HV1 hnI
    go_wp2_with fail
    refine (count_c w2 p rl rh (L : Int) (K : Int) _ _ HP2.out).mono ?_
    rintro e w' ⟨rfl, rfl⟩
    rw [List.length_replicate]
    go_wp2_with fail
    --@2
    go_loopw [12] (fun i wr => ∃ (j : Nat) (us : List Value), j ≤ n ∧ i = .int .i64 (j : Nat) ∧ PC wr p rl rh (L : Int) (K : Int) us (Arq.came_ n T j) ∧ PB wr rl rh l K n T j us ∧ Only [] w wr) (fun i _ => n - (intOf i).toNat)
    case atStart => exact ⟨0, _, Nat.zero_le _, rfl, by rw [Arq.came_zero]; exact HP2.out, fun i _ h => by omega, HO2.out⟩
    case round =>
      clear HP2 HO2 HV2
      obtain ⟨j, us, hj, rfl, hp, hpb, ho⟩ := hrel
      have HP := Lib.hid hp; have HPB := Lib.hid hpb; have HO := Lib.hid ho
      obtain ⟨wq, hwq⟩ : ∃ wq, wq = wr := ⟨_, rfl⟩
      subst hwq
      clear hp hpb ho
      by_cases hlt : j < n
      · have hltI : (j : Int) < (n : Int) := by omega
        have hT := HT.out
        obtain ⟨x, hx⟩ : ∃ x, Arq.turn n T j = x := ⟨_, rfl⟩
        have hxn : x < n := by rw [← hx]; exact Arq.turn_lt n T j (by omega)
        have x1 : IntKind.i64.wrap ((j : Int) + (T : Int)) = (j : Int) + (T : Int) := by rw [IntKind.wrap_i64]; have := HT.out; omega
        have x2 : ((j : Int) + (T : Int)).tmod (n : Int) = (x : Int) := by
          rw [Int.tmod_eq_emod_of_nonneg (by omega), ← hx]
          exact (Int.natCast_emod (j + T) n).symm
        have x2' : ((j : Int) + (T : Int)) % (n : Int) = (x : Int) := by
          rw [← hx]
          exact (Int.natCast_emod (j + T) n).symm
        have hn0 : ¬ ((n : Int) = 0) := by omega
        have hn0' : ((n : Int) == 0) = false := by rw [beq_eq_false_iff_ne]; exact hn0
        obtain ⟨lo, hlo⟩ : ∃ lo, K * x = lo := ⟨_, rfl⟩
        obtain ⟨hv9, hhi⟩ : ∃ hv9, K * (x + 1) = hv9 := ⟨_, rfl⟩
        have hbd := (Arq.count_bounds L K HK.out.1).2 x (by rw [HNN.out]; exact hxn)
        rw [hlo] at hbd
        have hhl : hv9 = lo + K := by rw [← hhi, ← hlo, Nat.mul_succ]
        have x3 : IntKind.i64.wrap ((K : Int) * ((x : Int) + 1)) = (hv9 : Int) := by
          rw [show (K : Int) * ((x : Int) + 1) = (hv9 : Int) by rw [← hhi]; exact (Int.natCast_mul K (x + 1)).symm, IntKind.wrap_i64]
          have := HK.out; omega
        have x4 : IntKind.i64.wrap ((K : Int) * (x : Int)) = (lo : Int) := by
          rw [show (K : Int) * (x : Int) = (lo : Int) by rw [← hlo]; exact (Int.natCast_mul K x).symm, IntKind.wrap_i64]
          omega
        have x5 : IntKind.i64.wrap ((x : Int) + 1) = (x : Int) + 1 := by rw [IntKind.wrap_i64]; omega
        obtain ⟨tt, hto⟩ : ∃ tt, min hv9 L = tt := ⟨_, rfl⟩
        have hlt1 : lo ≤ tt := by have := HK.out; omega
        have hlt2 : tt ≤ cap := by omega
        have HTO := Lib.hid hto
        have hpc : (l.take tt).drop lo = Arq.piece l K x := by
          unfold Arq.piece
          rw [hlo, hhi, HL.out, hto]
        have hpl := Arq.piece_length l K x HK.out.1 (by rw [HL.out, HNN.out]; exact hxn)
        rw [HL.out] at hpl
        have hsub := fun W => run_sub_lh (P := Try.prog) Try.underlying30 cat.size_u8 a L cap lo tt hlt1 hlt2 W
        have HPC := Lib.hid hpc; have HPL := Lib.hid hpl
        have HSET := Lib.hid (Arq.came_set n T j hlt)
        have HAT := Lib.hid (Arq.came_at n T j hlt)
        have HCNT := Lib.hid (Arq.asked_came n T (j + 1) (by omega))
        have HXJ := Lib.hid hx; have HXN := Lib.hid hxn
        rw [hx] at HSET
        have HLT := Lib.hid (⟨hlt1, hlt2, hlt⟩ : _ ∧ _ ∧ _)
        clear hx hxn hlo hhi hbd hhl hto hpc hpl hlt1 hlt2
        --@3
        go_wp2_with fail
        refine (whole_no wq p rl rh (L : Int) (K : Int) us _ HP.out (Arq.came_some n T j hlt)).mono ?_
        rintro e w3 ⟨rfl, ho3⟩
        have HP3 := Lib.hid (HP.out.only ho3 (by simp) (by simp) (by simp))
        have HPB3 := Lib.hid (HPB.out.only ho3 (by simp))
        have HO3 := Lib.hid (HO.out.then ho3)
        clear ho3 HP HPB HO
        --@4
        have hT := HT.out
        have hxn := HXN.out
        have hn1000 := HN1000.out
        go_upto_if 65 with fail
        go_cut [16] (fun s wx => s = .int .i64 (tt : Int) ∧ wx = w3)
        case first =>
          by_cases hc : (L : Int) < (hv9 : Int)
          · obtain rfl : tt = L := by have := HTO.out; omega
            go_wp2
            go_meet
            exact ⟨rfl, rfl⟩
          · obtain rfl : tt = hv9 := by have := HTO.out; omega
            go_wp2
            go_meet
            exact ⟨rfl, rfl⟩
        case rest =>
        obtain ⟨rfl, rfl⟩ := hcut
        obtain ⟨w3, hw3⟩ : ∃ w3, w3 = wc := ⟨_, rfl⟩
        subst hw3
        have HV3 := Lib.hid (HV.out.only HO3.out (by simp))
        have HBS : Hid (BS w3 (subv a cap lo tt) (Arq.piece l K x)) := Lib.hid (by rw [← HPC.out]; exact HV3.out.sub lo tt HLT.out.1 (by have := HTO.out; have := HL.out; omega))
        --@5
        go_wp2_with fail
        refine (add_new w3 p rl rh (L : Int) (K : Int) us _ HP3.out (by omega) (by omega) (by have := HK.out; omega) (by have := HK.out; omega) x (by rw [Arq.came_length]; exact HXN.out) _ _ HBS.out HPL.out (by have h := HAT.out; simp only [HXJ.out] at h; exact h)).mono ?_
        rintro e w4 ⟨rfl, u, w5, hov, ho5, hp4, ho4⟩
        rw [HSET.out] at hp4
        have hub : ∀ c, u.ownBlock = some c → c ≠ rl ∧ c ≠ rh := fun c hc => by
          have h1 := (hov.lt hc).1
          have h2 := lt_of_block HP3.out.row
          have h3 := lt_of_block HP3.out.bits
          exact ⟨by omega, by omega⟩
        have hpb4 : PB w4 rl rh l K n T (j + 1) (us.set x u) := by
          have := PB.next (w' := w4) (HPB3.out.only ho5 (by simp)) HLT.out.2.2 (by have := HP3.out.len; rw [Arq.came_length] at this; exact this) (u := u) (by rw [HXJ.out]; exact BS.of_vs hov.vs) hub
          rw [HXJ.out] at this
          exact this.only ho4 (by simp)
        have HO4 : Hid (Only [] w w4) := Lib.hid ((HO3.out.then ho5).trans ho4 (by simp) (by have := HD.out; simp; omega))
        have HP4 := Lib.hid hp4; have HPB4 := Lib.hid hpb4
        clear hov ho5 hp4 ho4 hub hpb4 HP3 HPB3 HO3 HV3 HBS
        --@6
        go_wp2_with fail
        refine (have_c w4 p rl rh (L : Int) (K : Int) _ _ HP4.out).mono ?_
        rintro e w6 ⟨hvv, rfl, hoh, ho6⟩
        have HP6 := Lib.hid (HP4.out.only ho6 (by simp) (by simp) (by simp))
        have HPB6 := Lib.hid (HPB4.out.only ho6 (by simp))
        have HO6 := Lib.hid (HO4.out.then ho6)
        have HH := Lib.hid hoh.vs
        obtain ⟨ah, nh, ch, rfl⟩ := OV.isSlice hoh
        clear hoh ho6 HP4 HPB4 HO4
        --@7
        go_wp2_with fail
        refine (asked_c w6 _ (Arq.came_ n T (j + 1)) (n : Int) HH.out (by rw [Arq.came_length]; have := HN1000.out; omega)).mono ?_
        rintro e w7 ⟨ua, rfl, hoa, ho7⟩
        have HP7 := Lib.hid (HP6.out.only ho7 (by simp) (by simp) (by simp))
        have HPB7 := Lib.hid (HPB6.out.only ho7 (by simp))
        have HO7 := Lib.hid (HO6.out.then ho7)
        obtain ⟨aa, ca, rfl, k1, k2⟩ := hoa.slice
        rw [Arq.came_length]
        have hcnt : (il (Arq.asked (Arq.came_ n T (j + 1)) (n : Int) n)).length = n - (j + 1) := by
          unfold il
          rw [List.length_map]
          exact HCNT.out
        rw [hcnt]
        obtain ⟨d, hd⟩ : ∃ d, n - (j + 1) = d := ⟨_, rfl⟩
        have hdI : (n : Int) - (j : Int) - 1 = (d : Int) := by omega
        have hdn : d ≤ n := by omega
        rw [hd]
        clear hoa ho7 HP6 HPB6 HO6 k1 k2 hcnt hd HH
        --@8
        go_wp2
        go_roundw
        case rel => exact ⟨j + 1, _, by omega, by go_num, HP7.out, HPB7.out, HO7.out⟩
        case measure => simp [intOf]; omega
      · obtain rfl : j = n := by omega
        have hrows := HPB.out.rows HP.out (Arq.came_length j T j)
        have hall := Arq.pieces_all l K HK.out.1
        rw [HL.out, HNN.out] at hall
        go_wp2_with fail
        refine (whole_yes wq p rl rh (L : Int) (K : Int) us _ HP.out (Arq.came_all j T) _ hrows (by rw [hall, HL.out]; omega)).mono ?_
        rintro e w3 ⟨u, rfl, hb, ho3⟩
        rw [hall] at hb
        have HO3 := Lib.hid (HO.out.then ho3)
        have hs1 := run_string_of_bytes (P := Try.prog) Try.underlying30 Try.underlying5 Try.underlying9 hb
        have hs2 := run_string_of_bytes (P := Try.prog) Try.underlying30 Try.underlying5 Try.underlying9 (HV.out.only HO3.out (by simp))
        obtain ⟨S, hS⟩ : ∃ S : ByteArray, (⟨l.toArray⟩ : ByteArray) = S := ⟨_, rfl⟩
        rw [hS] at hs1 hs2
        clear hrows hall hb ho3 hS
        --@9
        go_wp2
        go_ret
        exact ⟨rfl, HO3.out.below (by simp) (Nat.le_refl _)⟩
  · have hI : (1000 : Int) < (L : Int) := by omega
    go_wp2
    go_ret
    exact ⟨rfl, HO1.out.below (by simp) (Nat.le_refl _)⟩
end Go.Proofs.Ytidkadlmnidmoaa.arq
