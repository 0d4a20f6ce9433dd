/-
  THE WALK of LedgerGaps.
-/
import Derived.Test.YthdcagdjgkblpaaDoorLedRow
set_option linter.unusedVariables false
set_option linter.unusedSimpArgs false
namespace Go.Lm.Led
/-- A row one of whose bytes was turned: what stands ahead of it is read. -/
theorem gap_len (R : List (Nat × Nat)) (h : ∀ r ∈ R, Ok r) (k : Nat) (hk : k < 13 * R.length) (c : UInt8) : k / 13 ≤ (all ((puts R).set k c)).length := by
  have hs : puts R = puts (R.take (k / 13)) ++ puts (R.drop (k / 13)) := by rw [← puts_append, List.take_append_drop]
  have hl : (puts (R.take (k / 13))).length = 13 * (k / 13) := by rw [puts_length, List.length_take]; omega
  rw [hs, List.set_append_right _ _ (by omega), all_puts _ _ (fun r hr => h r (List.mem_of_mem_take hr)), List.length_append, List.length_take]
  omega
theorem all_puts_nil (R : List (Nat × Nat)) (h : ∀ r ∈ R, Ok r) : all (puts R) = R := by
  have h2 := all_puts R [] h
  rwa [List.append_nil, all_short [] (by decide), List.append_nil] at h2
end Go.Lm.Led
namespace Go.Proofs.YthdcagdjgkblpaaDoor.led
open Go Go.RowKit Go.Lm Go.Proofs.YthdcagdjgkblpaaDoor.cur Go.Proofs.YthdcagdjgkblpaaDoor.crc

theorem xor_u8_nat (a b : Nat) (ha : a < 256) (hb : b < 256) : bits .xor .u8 (a : Int) (b : Int) = ((a ^^^ b : Nat) : Int) := by
  have h1 : (BitVec.ofInt 8 (a : Int)).toNat = a := by simp; omega
  have h2 : (BitVec.ofInt 8 (b : Int)).toNat = b := by simp; omega
  have hx : a ^^^ b < 2 ^ 8 := Nat.xor_lt_two_pow (by omega) (by omega)
  show IntKind.u8.wrap ((BitVec.ofInt 8 (a : Int) ^^^ BitVec.ofInt 8 (b : Int)).toNat : Int) = _
  rw [BitVec.toNat_xor, h1, h2, IntKind.wrap_u8]
  omega
/-- A store into one's own bytes. -/
theorem own_put {w : World} {B g n cap : Nat} {e : TypeId} {l : List UInt8} (h : OV w B e (.slice (some ⟨g, 0, none⟩) n cap) (l.map u8v)) (hn : l.length = n) (j : Nat) (u : UInt8) :
    OV (w.setCell ⟨g, j, none⟩ (u8v u)) B e (.slice (some ⟨g, 0, none⟩) n cap) ((l.set j u).map u8v) ∧ Only [g] w (w.setCell ⟨g, j, none⟩ (u8v u)) := by
  subst hn
  have h' : w.ownsRow B e 1 (.slice (some ⟨g, 0, none⟩) l.length cap) l.length (l.map u8v) := by
    have := h; unfold OV at this; rwa [List.length_map] at this
  obtain ⟨h1, h2⟩ := World.ownsRow.stored h' j (u8v u)
  refine ⟨?_, Only.of_grown h2⟩
  unfold OV
  rw [List.length_map, List.length_set, List.map_set]
  exact h1
/-- .. a cell of them. -/
theorem own_at {w : World} {B g n cap : Nat} {e : TypeId} {l : List UInt8} (h : OV w B e (.slice (some ⟨g, 0, none⟩) n cap) (l.map u8v)) (hn : l.length = n) (j : Nat) (hj : j < l.length) :
    w.cell? ⟨g, j, none⟩ = some (.int .u8 (l[j].toNat : Int)) ∧ w.frozen? ⟨g, j, none⟩ = false := by
  subst hn
  have h' : w.ownsRow B e 1 (.slice (some ⟨g, 0, none⟩) l.length cap) l.length (l.map u8v) := by
    have := h; unfold OV at this; rwa [List.length_map] at this
  refine ⟨?_, World.ownsRow.frozenAt h' j⟩
  rw [World.ownsRow.cellAt h' j (by omega)]
  simp [hj, u8v]

set_option maxRecDepth 100000 in
set_option maxHeartbeats 4000000 in
theorem gaps_c (w : World) (hT : Tab w) (v : Value) (xs : List Nat) (hv : VS w v (xs.map u64v)) (hx : ∀ x ∈ xs, x < 18446744073709551616) (t : Nat) (ht : t < 65536) (q : Nat) (hq : q < 256) :
    Calls Tryd.prog 7 #[v, .int .u16 (t : Int), .int .u8 (q : Int)] w fun e w' => e = .returned (.bool true) ∧ Below w.heap.size w w' := by
  have HT := Lib.hid hT; have HV := Lib.hid hv; have HX := Lib.hid hx
  obtain ⟨a, cap, rfl, h1, h2, -, -⟩ := hv
  obtain ⟨N, hN⟩ : ∃ N, xs.length = N := ⟨_, rfl⟩
  simp only [List.length_map, hN] at h1 h2 HV ⊢
  have HN := Lib.hid hN
  unfold maxLen at h2
  clear hT hx hN
  by_cases hz : N = 0
  · have hzI : ((N : Int) == 0) = true := by rw [beq_iff_eq]; omega
    go_enter Tryd.func7, Tryd.ntmps7
    go_wp2_with fail
    refine (awake_c w HT.out).mono ?_
    rintro e w1 ⟨rfl, ho1⟩
    have HO1 := Lib.hid ho1
    clear ho1
    go_wp2
    go_ret
    exact ⟨rfl, HO1.out.below (by simp) (Nat.le_refl _)⟩
  have hzI : ((N : Int) == 0) = false := by rw [beq_eq_false_iff_ne]; omega
  by_cases hbig : 20 < N
  · have hbI : (20 : Int) < (N : Int) := by omega
    go_enter Tryd.func7, Tryd.ntmps7
    go_wp2_with fail
    refine (awake_c w HT.out).mono ?_
    rintro e w1 ⟨rfl, ho1⟩
    have HO1 := Lib.hid ho1
    clear ho1
    go_wp2
    go_ret
    exact ⟨rfl, HO1.out.below (by simp) (Nat.le_refl _)⟩
  have hbI : ¬ ((20 : Int) < (N : Int)) := by omega
  go_enter Tryd.func7, Tryd.ntmps7
  go_wp2_with fail
  refine (awake_c w HT.out).mono ?_
  rintro e w1 ⟨rfl, ho1⟩
  have HO1 := Lib.hid ho1
  have HV1 := Lib.hid (HV.out.only ho1 (by simp))
  clear ho1
  have HT1 := Lib.hid (HT.out.only HO1.out (by simp))
  go_wp2_with fail
  have hrow := row_c w1 (.slice a N cap) (.slice none 0 0) xs [] HV1.out (BS.nil w1) HX.out (by rw [HN.out]; omega) HT1.out
  rw [HN.out] at hrow
  refine hrow.mono ?_
  clear hrow
  rintro e w2 ⟨p, rfl, hov, ho2⟩
  have HO2 := Lib.hid (HO1.out.then ho2)
  have hok := Led.rowK_ok xs [] N HX.out
  have hRl := Led.rowK_length xs [] N
  obtain ⟨R, hR⟩ : ∃ R, Led.rowK xs [] N = R := ⟨_, rfl⟩
  rw [hR] at hov hok hRl
  have HOK := Lib.hid hok; have HRL := Lib.hid hRl
  have hpl := Led.puts_length R
  rw [hRl] at hpl
  have hov := hov.mono HO1.out.size
  obtain ⟨k, hk⟩ : ∃ k, t % (13 * N) = k := ⟨_, rfl⟩
  have hkI : (t : Int) % (13 * (N : Int)) = (k : Int) := by rw [← hk]; rfl
  have hk13 : k < 13 * N := by
    have := Nat.mod_lt t (show 0 < 13 * N by omega)
    rw [hk] at this
    omega
  have hlen := Led.gap_len R hok k (by rw [hRl]; exact hk13)
  obtain ⟨P, hP⟩ : ∃ P, Led.puts R = P := ⟨_, rfl⟩
  have hallP := Led.all_puts_nil R hok
  rw [hP] at hov hpl hlen hallP
  obtain ⟨a2, cap2, rfl, h5, h6⟩ := hov.slice
  obtain ⟨g, rfl⟩ : ∃ g, a2 = some ⟨g, 0, none⟩ := by
    rcases hov.2 with ⟨h0, h1⟩ | ⟨g, cap', cur, h0, _⟩
    · simp [hpl] at h1; omega
    · simp only [Value.slice.injEq] at h0
      exact ⟨g, h0.1⟩
  have hgw : w.heap.size ≤ g := (hov.lt (c := g) rfl).1
  simp only [List.length_map, hpl] at h5 h6 hov ⊢
  unfold maxLen at h6
  have HOV2 := Lib.hid hov; have HPL := Lib.hid hpl; have HLEN := Lib.hid hlen; have HALLP := Lib.hid hallP; have HGW := Lib.hid hgw
  obtain ⟨hc2, hf2⟩ := own_at hov hpl k (by rw [hpl]; exact hk13)
  obtain ⟨c0, hc0⟩ : ∃ c0, P[k]'(by rw [hpl]; exact hk13) = c0 := ⟨_, rfl⟩
  have hset : P.set k c0 = P := by rw [← hc0]; exact List.set_getElem_self _
  rw [hc0] at hc2
  obtain ⟨y, hy⟩ : ∃ y, c0.toNat = y := ⟨_, rfl⟩
  have hy256 : y < 256 := by rw [← hy]; exact c0.toNat_lt
  have hxy : y ^^^ q < 256 := Nat.xor_lt_two_pow (n := 8) (by omega) (by omega)
  obtain ⟨z, hz2⟩ : ∃ z, y ^^^ q = z := ⟨_, rfl⟩
  have hx1 := xor_u8_nat y q hy256 hq
  have hzy : z ^^^ q = y := by rw [← hz2, Nat.xor_assoc, Nat.xor_self, Nat.xor_zero]
  rw [hz2] at hx1 hxy
  have hx2 := xor_u8_nat z q hxy hq
  rw [hzy] at hx2
  rw [hy] at hc2
  obtain ⟨c1, hc1⟩ : ∃ c1, UInt8.ofNat z = c1 := ⟨_, rfl⟩
  have hc1z : c1.toNat = z := by rw [← hc1]; simp; omega
  have HSET := Lib.hid hset; have HC1 := Lib.hid hc1z; have HC0 := Lib.hid hy
  clear hov ho2 hok hRl hpl hlen hallP hP hR hc0 hset hy hz2 hzy hc1 hc1z HO1 HV1 HT1 hgw hk
  --@1
  go_upto_region 11 with fail
  --@2
  obtain ⟨hs, hos⟩ := own_put HOV2.out HPL.out k c1
  unfold u8v at hs hos
  rw [HC1.out] at hs hos
  have HOV3 := Lib.hid hs
  have HO3 := Lib.hid (Lm.only_own HO2.out hos HGW.out)
  clear hs hos hc2 hf2
  generalize World.setCell w2 _ _ = w3 at *
  have HQL : Hid ((P.set k c1).length = 13 * N) := Lib.hid (by rw [List.length_set, HPL.out])
  have HLEN2 := Lib.hid (HLEN.out c1)
  obtain ⟨Q, hQ⟩ : ∃ Q, P.set k c1 = Q := ⟨_, rfl⟩
  have HQ := Lib.hid hQ
  rw [hQ] at HQL HLEN2
  change Hid (OV w3 w.heap.size 5 (.slice (some ⟨g, 0, none⟩) (13 * N) cap2) ((P.set k c1).map u8v)) at HOV3
  rw [hQ] at HOV3
  clear hQ
  simp only [hkI]
  have HB3 := Lib.hid (BS.of_vs HOV3.out.vs)
  go_wp2_with fail
  have hrd := read_c w3 (.slice (some ⟨g, 0, none⟩) (13 * N) cap2) Q HB3.out (by rw [HQL.out]; omega) (HT.out.only HO3.out (by simp))
  refine hrd.mono ?_
  clear hrd
  rintro e w4 ⟨⟨u4, rfl, hrow4⟩, ho4⟩
  have HO4 := Lib.hid (HO3.out.then ho4)
  have HOV4 := Lib.hid (HOV3.out.only ho4 (by simp))
  have HB4 := Lib.hid (BS.of_vs HOV4.out.vs)
  obtain ⟨a4, cap4, rfl, h7, h8⟩ := (RS.of_row hrow4).slice
  have hall := Led.all_len Q
  rw [HQL.out] at hall
  have hrr := fun (w : World) (S : ByteArray) (h : S.data.toList = Q) (h2 : S.size ≤ 1000000) => (by have h3 := rread_c w S h2; rw [h] at h3; exact h3 : Calls Tryd.prog 11 #[.string S] w fun e w' =>
    (∃ u, e = .returned (.tuple #[u, .int .i64 (13 * (Led.all Q).length : Nat)]) ∧ w'.ownsRow w.heap.size 33 2 u (Led.all Q).length (cellsR (Led.all Q))) ∧ Only [] w w')
  have HRR := Lib.hid hrr
  clear hrow4 ho4 hrr HB3 HO3 HOV3
  obtain ⟨M, hM⟩ : ∃ M, (Led.all Q).length = M := ⟨_, rfl⟩
  rw [hM] at h7 hall HLEN2 ⊢
  have HM := Lib.hid hM
  clear hM
  unfold maxLen at h8
  have hstr := run_string_of_bytes (P := Tryd.prog) Tryd.underlying22 Tryd.underlying5 Tryd.underlying9 HB4.out
  obtain ⟨S, hS⟩ : ∃ S : ByteArray, (⟨Q.toArray⟩ : ByteArray) = S := ⟨_, rfl⟩
  have hSl : S.data.toList = Q := by rw [← hS]
  have hSz : S.size ≤ 260 := by rw [← len_data, hSl, HQL.out]; omega
  rw [hS] at hstr
  have HSL := Lib.hid hSl
  clear hS hSl
  --@3
  go_wp2_with fail
  refine (HRR.out w4 S HSL.out (by omega)).mono ?_
  rintro e w5 ⟨⟨u5, rfl, hrow5⟩, ho5⟩
  rw [HM.out]
  have HO5 := Lib.hid (HO4.out.then ho5)
  have HOV5 := Lib.hid (HOV4.out.only ho5 (by simp))
  clear hrow5 ho5 HRR hstr HSL HO4 HOV4 HB4
  obtain ⟨hc5, hf5⟩ := own_at HOV5.out HQL.out k (by rw [HQL.out]; exact hk13)
  have hqk : Q[k]'(by rw [HQL.out]; exact hk13) = c1 := by
    have := HQ.out
    subst this
    exact List.getElem_set_self _
  rw [hqk, HC1.out] at hc5
  clear hqk
  --@4
  go_upto_region 14 with fail
  obtain ⟨hs, hos⟩ := own_put HOV5.out HQL.out k c0
  unfold u8v at hs hos
  rw [HC0.out] at hs hos
  have hqs : Q.set k c0 = P := by rw [← HQ.out, List.set_set, HSET.out]
  rw [hqs] at hs
  have HOV6 := Lib.hid hs
  have HO6 := Lib.hid (Lm.only_own HO5.out hos HGW.out)
  clear hs hos hc5 hf5 HO5 HOV5 hqs
  generalize World.setCell w5 _ _ = w6 at *
  change Hid (OV w6 w.heap.size 5 (.slice (some ⟨g, 0, none⟩) (13 * N) cap2) (P.map u8v)) at HOV6
  have HB6 := Lib.hid (BS.of_vs HOV6.out.vs)
  --@5
  go_wp2_with fail
  have hrd := read_c w6 (.slice (some ⟨g, 0, none⟩) (13 * N) cap2) P HB6.out (by rw [HPL.out]; omega) (HT.out.only HO6.out (by simp))
  rw [HALLP.out, HRL.out] at hrd
  refine hrd.mono ?_
  clear hrd
  rintro e w7 ⟨⟨u7, rfl, hrow7⟩, ho7⟩
  have HO7 := Lib.hid (HO6.out.then ho7)
  obtain ⟨a7, cap7, rfl, h9, h10⟩ := (RS.of_row (R := R) (by rw [HRL.out]; exact hrow7)).slice
  rw [HRL.out] at h9 ⊢
  unfold maxLen at h10
  clear hrow7 ho7
  obtain ⟨D, hD⟩ : ∃ D, k / 13 = D := ⟨_, rfl⟩
  rw [hD] at HLEN2
  have hDI : (k : Int) / 13 = (D : Int) := by rw [← hD]; rfl
  have hDT : (k : Int).tdiv 13 = (D : Int) := by rw [Int.tdiv_eq_ediv_of_nonneg (by omega)]; exact hDI
  have hge := HLEN2.out
  have hgeI : (D : Int) ≤ (M : Int) := by omega
  --@6
  go_wp2
  go_ret
  exact ⟨by simp, HO7.out.below (by simp) (Nat.le_refl _)⟩
end Go.Proofs.YthdcagdjgkblpaaDoor.led
