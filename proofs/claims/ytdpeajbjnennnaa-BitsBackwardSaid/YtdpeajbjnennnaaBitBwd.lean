/-
  BitsBackward, walked.
-/
import Derived.Test.YtdpeajbjnennnaaBitFwd
set_option linter.unusedVariables false
set_option linter.unusedSimpArgs false
namespace Go.Proofs.Ytdpeajbjnennnaa.bit
open Go Go.RowKit Go.Lm

theorem refnew_no (w : World) (s : ByteArray) (hz : ∀ h : s.data.toList ≠ [], (s.data.toList.getLast h).toNat = 0) (hs : s.size ≤ 1000000) : Calls Try.prog 12 #[.string s] w fun e w' =>
    e = .returned (.tuple #[.agg #[.slice none 0 0, .int .i64 0], .int .i64 11]) ∧ Only [] w w' := by
  have hls : s.data.toList.length = s.size := len_data s
  by_cases h0 : s.size = 0
  · have hemp : s.data.toList.isEmpty = true := by rw [List.isEmpty_iff, ← List.length_eq_zero_iff, hls]; exact h0
    have hse : s = ⟨#[]⟩ := by
      have : s.data.toList = [] := by rw [← List.length_eq_zero_iff, hls]; exact h0
      cases s with | mk d => simp at this; simp [this]
    subst hse
    clear hz hls hemp h0
    go_enter Try.func12, Try.ntmps12
    go_wp2
    (try simp only [Exit.inBlock, Exit.then])
    refine bodyPost_ret (v := .tuple #[.agg #[.slice none 0 0, .int .i64 0], .int .i64 11]) (by rw [results_cell_tmp rfl]; go_simp) rfl ⟨rfl, (Only.refl [] w).alloc _⟩
  · have hne : s.data.toList ≠ [] := by intro h; rw [← List.length_eq_zero_iff, hls] at h; exact h0 h
    have hl := hz hne
    rw [List.getLast_eq_getElem hne] at hl
    obtain ⟨m, hm⟩ : ∃ m, s.size = m + 1 := ⟨s.size - 1, by omega⟩
    have hml : m < s.size := by omega
    have hidx : s[m] = s.data.toList[s.data.toList.length - 1]'(by omega) := by
      rw [show s[m] = s.data[m] from rfl, ← Array.getElem_toList]
      congr 1; omega
    rw [← hidx] at hl
    have hsm : IntKind.i64.wrap ((s.size : Int) - 1) = (m : Int) := by rw [IntKind.wrap_i64]; omega
    have hsm2 : (s.size : Int) - 1 = (m : Int) := by omega
    have hu : (s[m].toNat : Int) = 0 := by omega
    have hse : s.toList.isEmpty = false := by rw [ByteArray.toList_eq, List.isEmpty_eq_false_iff]; exact hne
    clear hz hl hidx hls hm hne
    go_enter Try.func12, Try.ntmps12
    go_wp2
    (try simp only [Exit.inBlock, Exit.then])
    refine bodyPost_ret (v := .tuple #[.agg #[.slice none 0 0, .int .i64 0], .int .i64 11]) (by rw [results_cell_tmp rfl]; go_simp) rfl ⟨rfl, (Only.refl [] w).alloc _⟩

set_option maxHeartbeats 1000000 in
theorem refnew_yes (w : World) (s : ByteArray) (hne : s.data.toList ≠ []) (hz : (s.data.toList.getLast hne).toNat ≠ 0) (t : Nat) (ht : Top (Bt.bitsOf s.data.toList) t) (hs : s.size ≤ 1000000) : Calls Try.prog 12 #[.string s] w fun e w' =>
    ∃ a c, e = .returned (.tuple #[.agg #[.slice a t c, .int .i64 0], .int .i64 0]) ∧ VS w' (.slice a t c) (bl ((Bt.bitsOf s.data.toList).take t)) ∧ Only [] w w' ∧ ∀ g, (Value.slice a t c).ownBlock = some g → w.heap.size ≤ g ∧ g < w'.heap.size := by
  have hls : s.data.toList.length = s.size := len_data s
  have hlb := Bt.bitsOf_length s.data.toList
  rw [hls] at hlb
  rw [List.getLast_eq_getElem hne] at hz
  have hs0 : 0 < s.size := by rw [← hls]; exact List.length_pos_iff.2 hne
  obtain ⟨m, hm⟩ : ∃ m, s.size = m + 1 := ⟨s.size - 1, by omega⟩
  have hml : m < s.size := by omega
  have hidx : s[m] = s.data.toList[s.data.toList.length - 1]'(by omega) := by
    rw [show s[m] = s.data[m] from rfl, ← Array.getElem_toList]
    congr 1; omega
  rw [← hidx] at hz
  have hsm : IntKind.i64.wrap ((s.size : Int) - 1) = (m : Int) := by rw [IntKind.wrap_i64]; omega
  have hsm2 : (s.size : Int) - 1 = (m : Int) := by omega
  have hu : ((s[m].toNat : Int) == 0) = false := by rw [beq_eq_false_iff_ne]; omega
  have hse : s.toList.isEmpty = false := by rw [ByteArray.toList_eq, List.isEmpty_eq_false_iff]; exact hne
  have hbc := fun v => refbits_c v s hs
  have HBC := Lib.hid hbc
  have HT := Lib.hid ht
  have htl := ht.lt
  rw [hlb] at htl
  have HLB := Lib.hid hlb
  clear hz hidx hls hm hne hbc ht hlb
  go_enter Try.func12, Try.ntmps12
  go_wp2_with fail
  refine (HBC.out _).mono ?_
  rintro e w1 ⟨v1, rfl, hov, ho1⟩
  obtain ⟨a, cap, hv, h1, h2⟩ := hov.slice
  rw [bl_length, HLB.out] at hv h1
  subst hv
  have hq := P2.only (P2.new w 31 (.slice none 0 0) (.int .i64 0)) ho1 (by simp)
  have HQ := Lib.hid hq
  have HO := Lib.hid (((Only.refl [] w).alloc (.cells #[.slice none 0 0, .int .i64 0] 31 (0, 0))).then ho1)
  have HOV := Lib.hid hov
  obtain ⟨q0, q1, qf⟩ := hq.cells
  unfold maxLen at h2
  have hsz1 : IntKind.i64.wrap (8 * (s.size : Int) - 1) = 8 * (s.size : Int) - 1 := by rw [IntKind.wrap_i64]; omega
  clear hq ho1 hov hsm hsm2 hu hse HBC
  go_wp2_with fail
  go_loop [5] (fun n => ∃ j : Nat, t ≤ j ∧ j < 8 * s.size ∧ n = .int .i64 j) (fun n => (intOf n).toNat)
  case atStart => exact ⟨8 * s.size - 1, by omega, by omega, by congr 1; omega⟩
  case round =>
    obtain ⟨j, hj1, hj2, rfl⟩ := hrel
    obtain ⟨b, off, rfl, hcell⟩ := VS.bool_at HOV.out.vs j (by rw [HLB.out]; exact hj2)
    have hjl : j < (Bt.bitsOf s.data.toList).length := by rw [HLB.out]; exact hj2
    have hget : (Bt.bitsOf s.data.toList)[j] = (Bt.bitsOf s.data.toList).getD j false := by simp [List.getD_eq_getElem?_getD, hjl]
    rw [hget] at hcell
    by_cases hjt : j = t
    · subst hjt
      rw [HT.out.on] at hcell
      have hs2 := fun w => run_sub_h (P := Try.prog) (t := 29) Try.underlying29 size_bool (some ⟨b, off, none⟩) (8 * s.size) cap j (by omega) w
      have hv2 := HOV.out.vs.sub 0 j (by omega) (by rw [bl_length, HLB.out]; omega)
      have ec2 : ((bl (Bt.bitsOf s.data.toList)).take j).drop 0 = bl ((Bt.bitsOf s.data.toList).take j) := by
        unfold bl
        rw [← List.map_take, List.drop_zero]
      rw [ec2] at hv2
      obtain ⟨A2, c2, hV2⟩ : ∃ A c, subv (some ⟨b, off, none⟩) cap 0 j = .slice A j c := ⟨_, _, rfl⟩
      have hbk : Hid (∀ g, (Value.slice A2 j c2).ownBlock = some g → w.heap.size + 1 ≤ g ∧ g < w1.heap.size) := fun g hg => by
        rw [← hV2, subv_block] at hg
        have := HOV.out.lt (c := g) (by rw [ownBlock_slice]; exact hg)
        simp at this
        omega
      rw [hV2] at hs2 hv2
      have HV2 := Lib.hid hv2
      have hfin := HQ.out.set (.slice A2 j c2) (.int .i64 0)
      clear hget hjl ec2 hv2 hV2 hj1
      go_wp2
      (try simp only [Exit.inBlock, Exit.then])
      refine bodyPost_ret (v := .tuple #[.agg #[.slice A2 j c2, .int .i64 0], .int .i64 0]) (by rw [results_cell_tmp rfl]; go_simp) rfl ⟨A2, c2, rfl, ?_, ?_, ?_⟩
      · refine HV2.out.only (S := [w.heap.size]) ((only_set w1 w.heap.size _ _)) (fun c hc _ => ?_)
        have := hbk.out c hc
        simp; omega
      · exact (HO.out.setCell (.inr (Nat.le_refl _)) _).setCell (.inr (Nat.le_refl _)) _
      · intro g hg
        have := hbk.out g hg
        simp; omega
    · rw [HT.out.off j (by omega)] at hcell
      obtain ⟨i, rfl⟩ : ∃ i, j = i + 1 := ⟨j - 1, by omega⟩
      clear hget hjl
      go_wp2
      go_round
      case rel => exact ⟨i, by omega, by omega, by first | rfl | (congr 1; omega)⟩
      case measure => simp [intOf]
theorem last_bgo (M : List Bool) (t n : Int) (h : t.toNat ≤ M.length) : (last (M.take t.toNat) (-t).toNat n).1 = M.take (bgo t n).toNat ∧ (last (M.take t.toNat) (-t).toNat n).2.1 = (-(bgo t n)).toNat := by
  unfold last bgo
  by_cases hc : n < 1 ∨ 56 < n
  · rw [if_pos hc, if_pos hc]; exact ⟨rfl, rfl⟩
  · rw [if_neg hc, if_neg hc]
    have hl : (M.take t.toNat).length = t.toNat := by rw [List.length_take]; omega
    simp only [hl]
    refine ⟨?_, by omega⟩
    rw [List.take_take]
    congr 1; omega
theorem bgo_lo (t n : Int) : t - 56 ≤ bgo t n ∧ bgo t n ≤ t := by unfold bgo; split <;> omega

set_option maxRecDepth 100000 in
set_option maxHeartbeats 4000000 in
theorem backward_c (w : World) (v : Value) (l : List UInt8) (hv : BS w v l) (v1 : Value) (zs : List Int) (hz : VS w v1 (i64s zs)) : Calls Try.prog 3 #[v, v1] w fun e w' => e = .returned (.bool true) ∧ Below w.heap.size w w' := by
  obtain ⟨a0, cap0, rfl, h3, h4, -⟩ := id hv
  have HV := Lib.hid hv; clear hv
  obtain ⟨a, cap, hv1, h1, h2, -⟩ := id hz
  rw [show (i64s zs).length = zs.length by simp [i64s]] at hv1 h1
  subst hv1
  have HZ := Lib.hid hz; clear hz
  unfold maxLen at h2 h4
  by_cases hbig : 300 < l.length
  · go_enter Try.func3, Try.ntmps3
    go_wp2_with fail
    refine (awake_c w).mono ?_
    rintro e w1 ⟨rfl, ho1⟩
    have HO1 := Lib.hid ho1; clear ho1
    go_wp2
    go_ret
    exact ⟨rfl, HO1.out.below (by simp) (Nat.le_refl _)⟩
  by_cases hno : ∀ h : l ≠ [], (l.getLast h).toNat = 0
  · have HNO := Lib.hid hno; clear hno
    go_enter Try.func3, Try.ntmps3
    go_wp2_with fail
    refine (awake_c w).mono ?_
    rintro e w1 ⟨rfl, ho1⟩
    have HO1 := Lib.hid ho1
    have HV1 := Lib.hid (HV.out.only ho1 (by simp))
    have hstr := run_string_of_bytes (P := Try.prog) Try.underlying22 Try.underlying5 Try.underlying9 (HV.out.only ho1 (by simp))
    clear ho1
    go_wp2_with fail
    refine (newback_no w1 _ l HV1.out HNO.out (by omega)).mono ?_
    rintro e w' ⟨rfl, rfl⟩
    go_wp2_with fail
    refine (refnew_no w1 _ (by simpa using HNO.out) (by simp [ByteArray.size]; omega)).mono ?_
    rintro e w2 ⟨rfl, ho2⟩
    have HO2 := Lib.hid (HO1.out.then ho2)
    clear ho2 hstr
    go_wp2_with fail
    refine wp_loop_rounds 1 ?_
    rw [rounds_succ]
    by_cases hz0 : 0 < zs.length
    all_goals
      go_wp2
      go_ret
      exact ⟨rfl, (HO2.out.alloc _).below (by simp) (Nat.le_refl _)⟩
  · obtain ⟨hne, hlast⟩ : ∃ h : l ≠ [], (l.getLast h).toNat ≠ 0 := by
      by_cases h : l = []
      · exact absurd (fun h' => absurd h h') hno
      · exact ⟨h, fun h' => hno fun _ => h'⟩
    have HLAST := Lib.hid hlast
    clear hno hlast
    go_enter Try.func3, Try.ntmps3
    go_wp2_with fail
    refine (awake_c w).mono ?_
    rintro e w1 ⟨rfl, ho1⟩
    have HO1 := Lib.hid ho1
    have HV1 := Lib.hid (HV.out.only ho1 (by simp))
    clear ho1
    go_wp2_with fail
    refine (newback_yes w1 _ l HV1.out hne HLAST.out (by omega)).mono ?_
    rintro e w2 ⟨r, t, rfl, ht, hr, ho2⟩
    have hrC : r < w2.heap.size := hr.2.1
    have hB : w.heap.size ≤ r := by have := hr.1; have := HO1.out.size; omega
    have HO2 := Lib.hid (HO1.out.then ho2)
    have HR := Lib.hid hr
    have HT := Lib.hid ht
    have hstr := run_string_of_bytes (P := Try.prog) Try.underlying22 Try.underlying5 Try.underlying9 (HV1.out.only ho2 (by simp))
    clear hr ho2 ht
    generalize w1.heap.size = B at HR
    have hda : (⟨l.toArray⟩ : ByteArray).data.toList = l := by simp
    have hx1 : (⟨l.toArray⟩ : ByteArray).data.toList ≠ [] := by rw [hda]; exact hne
    have hx2 : ((⟨l.toArray⟩ : ByteArray).data.toList.getLast hx1).toNat ≠ 0 := by simpa using HLAST.out
    have hx3 : Top (Bt.bitsOf (⟨l.toArray⟩ : ByteArray).data.toList) t := by rw [hda]; exact HT.out
    have hnewc := refnew_yes w2 ⟨l.toArray⟩ hx1 hx2 t hx3 (by simp [ByteArray.size]; omega)
    rw [hda] at hnewc
    have HNEW := Lib.hid hnewc
    clear hda hx1 hx2 hx3 hnewc
    go_wp2_with fail
    refine HNEW.out.mono ?_
    rintro e w3 ⟨a3, c3, rfl, hvs, ho3, hbk⟩
    have htl := HT.out.lt
    rw [Bt.bitsOf_length] at htl
    have hr3 := HR.out.only ho3 (Nat.le_refl _)
    have HO3 := Lib.hid (HO2.out.then ho3)
    have HR3 := Lib.hid hr3
    have HVS := Lib.hid hvs
    have HBK := Lib.hid hbk
    have hC3 := ho3.size
    have hcap3 : t ≤ c3 ∧ c3 ≤ 9223372036854775807 := by
      obtain ⟨_, _, he, g1, g2, _⟩ := hvs
      simp only [Value.slice.injEq] at he
      obtain ⟨-, e2, rfl⟩ := he
      rw [← e2] at g1
      unfold maxLen at g2
      omega
    clear hr3 ho3 hvs hbk HR HO2 HV1 hstr HO1 HNEW
    go_wp2_with fail
    have hq : P2 (w3.alloc (.cells #[.slice a3 t c3, .int .i64 0] 31 (0, 0))) w3.heap.size 31 (.slice a3 t c3) (.int .i64 0) := P2.new w3 _ _ _
    have hr4 := HR3.out.below ((Below.refl w3.heap.size w3).alloc (Nat.le_refl _) (.cells #[.slice a3 t c3, .int .i64 0] 31 (0, 0))) hC3
    have ho4 := HO3.out.alloc (.cells #[.slice a3 t c3, .int .i64 0] 31 (0, 0))
    have hv4 := HVS.out.only ((Only.refl [] w3).alloc (.cells #[.slice a3 t c3, .int .i64 0] 31 (0, 0))) (by simp)
    have hQw : w.heap.size ≤ w3.heap.size := HO3.out.size
    generalize (World.alloc w3 _) = w4 at hq hr4 ho4 hv4 ⊢
    generalize w2.heap.size = C at *
    generalize w3.heap.size = Q at *
    have HR4 := Lib.hid hr4; have HO4 := Lib.hid ho4; have HV4 := Lib.hid hv4; have HQ4 := Lib.hid hq
    have hsz4 := hq.lt
    clear hr4 ho4 hv4 hq HO3 HR3 HVS
    have hlb := Bt.bitsOf_length l
    have HLB := Lib.hid hlb; clear hlb
    have hneg : (-(t : Int)).toNat = 0 := by omega
    go_loopw [10] (fun i wr => ∃ k : Nat, ∃ u : Int, ∃ a' c', k ≤ zs.length ∧ k ≤ 60 ∧ i = .int .i64 k ∧ u.toNat ≤ 8 * l.length ∧ -(56 * (k : Int)) ≤ u ∧ BW wr B C r u l ∧ P2 wr Q 31 (.slice a' u.toNat c') (.int .i64 ((-u).toNat : Nat)) ∧ VS wr (.slice a' u.toNat c') (bl ((Bt.bitsOf l).take u.toNat)) ∧ (∀ g, (Value.slice a' u.toNat c').ownBlock = some g → C ≤ g ∧ g < Q) ∧ Only [r, Q] w4 wr) (fun i _ => zs.length - (intOf i).toNat)
    case atStart => exact ⟨0, (t : Int), a3, c3, Nat.zero_le _, Nat.zero_le _, rfl, by simp; omega, by simp, HR4.out, by rw [Int.toNat_natCast, hneg]; exact HQ4.out, HV4.out, HBK.out, Only.refl _ _⟩
    case round =>
      obtain ⟨k, u, a', c', hk, hk60, rfl, hu, hu0, hrd, hq, hvs, hbk, hor⟩ := hrel
      have HRD := Lib.hid hrd; have HOR := Lib.hid hor; have HQQ := Lib.hid hq; have HVS := Lib.hid hvs; have HBK' := Lib.hid hbk
      have HOW := Lib.hid (only_own2 HO4.out hor hB hQw)
      have hCr : C ≤ wr.heap.size := by have := hor.size; omega
      clear hrd hor hq hvs hbk HR4 HQ4
      by_cases hgo : k < zs.length ∧ k < 60
      · obtain ⟨hkl, hk6⟩ := hgo
        obtain ⟨b, off, rfl, hcell⟩ := (HZ.out.only HOW.out (by simp)).i64_at k hkl
        obtain ⟨z, hzz⟩ : ∃ z, zs.getD k 0 = z := ⟨_, rfl⟩
        rw [hzz] at hcell
        have hbw : b < w.heap.size := by
          obtain ⟨b', off', hb', hcell'⟩ := HZ.out.i64_at k hkl
          obtain ⟨rfl, rfl⟩ : b = b' ∧ off = off' := by simpa using hb'
          exact World.block_lt_of_cell? w _ hcell'
        clear hzz
        obtain ⟨hL1, hL2⟩ := last_bgo (Bt.bitsOf l) u z (by rw [HLB.out]; exact hu)
        obtain ⟨⟨L', x', X⟩, hT⟩ : ∃ T, last ((Bt.bitsOf l).take u.toNat) (-u).toNat z = T := ⟨_, rfl⟩
        rw [hT] at hL1 hL2
        replace hL1 : L' = (Bt.bitsOf l).take (bgo u z).toNat := hL1
        replace hL2 : x' = (-(bgo u z)).toNat := hL2
        obtain ⟨hg1, hg2⟩ := bgo_lo u z
        obtain ⟨u', hu'⟩ : ∃ u', bgo u z = u' := ⟨_, rfl⟩
        rw [hu'] at hL1 hL2 hg1 hg2
        obtain ⟨n', hn'⟩ : ∃ n', u'.toNat = n' := ⟨_, rfl⟩
        have hll : L'.length = n' := by rw [hL1, List.length_take, HLB.out]; omega
        have hnb : n' ≤ 8 * l.length := by omega
        have hxb : x' ≤ 10000 := by omega
        have HN2 := Lib.hid hn'; have HL2 := Lib.hid hL2; clear hn' hL2
        have HT2 := Lib.hid hT; have HU := Lib.hid hu'; have HL1 := Lib.hid hL1; have HLL := Lib.hid hll
        have hult : ((Bt.bitsOf l).take u.toNat).length ≤ 1000000 := by rw [List.length_take]; have := HLB.out; omega
        clear hT hu' hL1 hll
        go_wp2_with fail
        refine (bread_c wr B C r (-u).toNat u z l HRD.out hCr hu (by omega) (by omega)).mono ?_
        rintro e w5 ⟨rfl, hr5, ho5⟩
        rw [HU.out] at hr5
        rw [HT2.out]
        have hq5 := HQQ.out.only ho5 (by simp; omega)
        have hc5 := ho5.cell hcell (by simp; omega)
        have HR5 := Lib.hid hr5; have HQ5 := Lib.hid hq5
        have HO5 := Lib.hid (HOR.out.then (ho5.in2l (q := Q)))
        have HV5 := Lib.hid (HVS.out.only ho5 (fun c hc _ => by have := HBK'.out c hc; simp; omega))
        obtain ⟨d0, d1, hf⟩ := hq5.cells
        have hCr5 : C ≤ w5.heap.size := by have := ho5.size; omega
        obtain ⟨y0, hy0⟩ : ∃ y0, (-u).toNat = y0 := ⟨_, rfl⟩
        obtain ⟨u0, hu0'⟩ : ∃ u0, u.toNat = u0 := ⟨_, rfl⟩
        clear hr5 hq5 ho5 hcell hf
        rw [hy0] at d1 HT2
        rw [hu0'] at d0 HV5 HT2 HBK' hult
        have hy0b : y0 ≤ 10000 := by omega
        have hult2 : u0 ≤ 1000000 := by omega
        clear hy0 hu0' HQQ HVS
        go_wp2_with fail
        have n1 := World.new_ne w5 _ d0
        have n2 := World.new_ne w5 _ d1
        have n3 := World.new_ne w5 _ hc5
        go_region_held3 (fun w' => w'.cell? ⟨Q, 0, none⟩ = some (.slice a' u0 c') ∧ w'.cell? ⟨Q, 1, none⟩ = some (.int .i64 y0) ∧ w'.cell? ⟨b, off + k, none⟩ = some (.int .i64 z)) (go_keep)
          (first | (go_at_call 14; refine (reflast_c _ a' u0 c' y0 z ((Bt.bitsOf l).take u0) (by first | exact HV5.out.only (Only.drew (Only.refl [] w5)) (by simp) | exact HV5.out.only (Only.drew ((Only.refl [] w5).alloc _)) (by simp)) (by omega) hult).mono ?_; rintro x w6 ⟨a6, c6, rfl, hvs6, ho6, hbk6⟩; rw [HT2.out] at hvs6 hbk6 ⊢; simp only [HLL.out] at hvs6 hbk6 ⊢; have g0 := ho6.cell (p := ⟨Q, 0, none⟩) (v := .slice a' u0 c') (by go_simp) (by simp); have g1 := ho6.cell (p := ⟨Q, 1, none⟩) (v := .int .i64 y0) (by go_simp) (by simp); have g2 := ho6.cell (p := ⟨b, off + k, none⟩) (v := .int .i64 z) (by go_simp) (by simp); have HV6 := Lib.hid hvs6; have HB6 := Lib.hid hbk6; clear hvs6 hbk6; (first | (have kh : P2 w6 w5.heap.size 31 (.slice none 0 0) (.int .i64 0) := ho6.heap (heap_alloc_new w5 _) (by simp); obtain ⟨kc0, kc1, kf⟩ := kh.cells) | skip)))
        focus
          have hN := P2.new w6 31 (.slice a6 n' c6) (.int .i64 x')
          have ho7 : Only [] w5 (w6.alloc (.cells #[.slice a6 n' c6, .int .i64 x'] 31 (0, 0))) := ((Only.drew (Only.refl [] w5)).then ho6).alloc _
          have hv8 := HV6.out.only ((Only.refl [] w6).alloc (.cells #[.slice a6 n' c6, .int .i64 x'] 31 (0, 0))) (by simp)
          generalize World.alloc w6 _ = w8 at hN ho7 hv8 ⊢
          clear ho6 g0 g1 g2
        rotate_left
        focus
          have hN := kh.set (.slice a6 n' c6) (.int .i64 x')
          have ho7 : Only [] w5 ((w6.setCell ⟨w5.heap.size, 0, none⟩ (.slice a6 n' c6)).setCell ⟨w5.heap.size, 1, none⟩ (.int .i64 x')) := ((((Only.refl [] w5).alloc _).drew.then ho6).setCell (.inr (Nat.le_refl _)) _).setCell (.inr (Nat.le_refl _)) _
          have hv8 := HV6.out.only (only_set w6 w5.heap.size (.slice a6 n' c6) (.int .i64 x')) (fun c hc _ => by have := HBK'.out c (HB6.out c hc); have := World.block_lt_of_cell? w5 _ d0; simp at this ⊢; omega)
          generalize (World.setCell (World.setCell _ _ _) _ _) = w8 at hN ho7 hv8 ⊢
          clear ho6 g0 g1 g2 kh kc0 kc1 kf
        rotate_left
        all_goals
          clear n1 n2 n3 d0 d1 hc5
          obtain ⟨k0, k1, -⟩ := hN.cells
          have hq8 := HQ5.out.only ho7 (by simp)
          obtain ⟨d0, d1, hf⟩ := hq8.cells
          have hq7 := hq8.set (.slice a6 n' c6) (.int .i64 x')
          have hos := only_set w8 Q (.slice a6 n' c6) (.int .i64 x')
          have hr7 := (HR5.out.only ho7 hCr5).only' hos (by have := ho7.size; omega) (by simp; omega)
          have ho8 := (HO5.out.then (ho7.in2 (r := r) (q := Q))).then (hos.in2r (r := r))
          have hsz7 : C ≤ w8.heap.size := by have := ho7.size; omega
          have hv7 := hv8.only hos (fun c hc _ => by have := HBK'.out c (HB6.out c hc); simp; omega)
          have HN := Lib.hid hN; have HR7' := Lib.hid hr7; have HQ7' := Lib.hid hq7; have HO8' := Lib.hid ho8; have HV7' := Lib.hid hv7
          clear hN hq8 ho7 hos hr7 hq7 ho8 HQ5 HR5 HO5 hv7 hv8 HV6
          go_wp2_with fail
          have hr7 := HR7'.out; have hq7 := HQ7'.out; have ho8 := HO8'.out; have hv7 := HV7'.out
          clear HR7' HQ7' HO8' HV7' k0 k1 d0 d1 hf HN
          generalize (World.setCell (World.setCell _ _ _) _ _) = w7 at hr7 hq7 ho8 hv7 ⊢
          clear hsz7
          obtain ⟨d0, d1, hf⟩ := hq7.cells
          have hszQ := hq7.lt
          have hC7 : C ≤ w7.heap.size := by omega
          have hun : ((n' : Nat) : Int) - (x' : Int) = u' := by have := HN2.out; have := HL2.out; omega
          have HR7 := Lib.hid hr7; have HQ7 := Lib.hid hq7; have HO8 := Lib.hid ho8; have HV7 := Lib.hid hv7
          have l0 := fun x : Later [] w7 => Later.cell d0 (by simp) x
          have l1 := fun x : Later [] w7 => Later.cell d1 (by simp) x
          have HL : Hid (∀ x : Later [] w7, BW x.at' B C r u' l) := fun x => HR7.out.only x.only hC7
          have HRL : Hid (∀ x : Later [] w7, Calls Try.prog 16 #[.agg #[.slice a6 n' c6, .int .i64 x']] x.at' fun e w' => e = .returned (.int .i64 u') ∧ Only [] x.at' w') := fun x => by
            have := refleft_c x.at' a6 n' c6 x' (by omega) (by omega)
            rw [hun] at this
            exact this
          clear d0 d1 hf hr7 hq7 ho8 hv7 hun
          refine wp_region_later [] (by kernel_rfl) (by kernel_rfl) ?_
          repeat (go_big_quiet_step (first
            | (go_at_call 15; exact Calls.later_same (bleft_c _ B C r u' l (HL.out _)))
            | (go_at_call 16; exact Calls.later_nil (HRL.out _))))
          refine wpQuiet_nil ?_
          rintro _ ⟨x, rfl⟩
          have hx := x.only
          have HX := Lib.hid hx; clear hx l0 l1 HRL
          generalize x.at' = w9 at HX ⊢
          go_wp2
          go_roundw
          case rel =>
            refine ⟨k + 1, u', a6, c6, by omega, by omega, by go_num, by have := HN2.out; omega, by omega, HR7.out.only HX.out hC7, by rw [HN2.out, ← HL2.out]; exact HQ7.out.only HX.out (by simp), ?_, fun g hg => HBK'.out g (HB6.out g (by rw [HN2.out] at hg; exact hg)), HO8.out.then (HX.out.in2)⟩
            have := HV7.out.only HX.out (by simp)
            rw [HL1.out, ← HN2.out] at this
            exact this
          case measure => simp [intOf]; omega
      · have hdec : (zs.length ≤ k) ∨ (k < zs.length ∧ 60 ≤ k) := by omega
        rcases hdec with hd1 | ⟨hd1, hd2⟩
        all_goals
          clear hgo
          go_wp2
          go_ret
          exact ⟨rfl, HOW.out.below (by simp) (Nat.le_refl _)⟩
end Go.Proofs.Ytdpeajbjnennnaa.bit
