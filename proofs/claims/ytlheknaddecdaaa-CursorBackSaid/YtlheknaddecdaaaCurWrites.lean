/-
  CursorWrites, walked.
-/
import Derived.Test.YtlheknaddecdaaaCurActs
import Derived.Test.YtlheknaddecdaaaCurPut
import Derived.Deep.RegionWith
set_option linter.unusedVariables false
namespace Go.Proofs.Ytlheknaddecdaaa.cur
open Go Go.RowKit Go.Lm

theorem ba_eq {s : ByteArray} {l : List UInt8} (h : s.data.toList = l) : s = ⟨l.toArray⟩ := by
  subst h
  cases s
  simp
theorem ba_append (a b : List UInt8) : (⟨a.toArray⟩ : ByteArray) ++ (⟨b.toArray⟩ : ByteArray) = ⟨(a ++ b).toArray⟩ := by
  apply ByteArray.ext
  simp
def numB (t : ActL) : List UInt8 := if 1 ≤ t.n ∧ t.n ≤ 8 then Cur.put t.x t.n.toNat else []
def actB (t : ActL) : List UInt8 := if t.num then numB t else t.b
def outB (ts : List ActL) (k : Nat) : List UInt8 := ((ts.take k).map actB).flatten
theorem outB_succ (ts : List ActL) (k : Nat) (h : k < ts.length) : outB ts (k + 1) = outB ts k ++ actB ts[k] := by
  unfold outB
  rw [List.take_succ_eq_append_getElem h, List.map_append, List.flatten_append]
  simp only [List.map_cons, List.map_nil, List.flatten_cons, List.flatten_nil, List.append_nil]
theorem numB_len (t : ActL) : (numB t).length ≤ 8 := by
  unfold numB
  split
  · rw [Cur.put_length]; omega
  · simp

theorem xor_u8 (u : UInt8) (k : Int) : ∃ u' : UInt8, Value.int .u8 (bits .xor .u8 (u.toNat : Int) k) = u8v u' := by
  have h : ∃ z, bits .xor .u8 (u.toNat : Int) k = IntKind.u8.wrap z := ⟨_, rfl⟩
  obtain ⟨z, hz⟩ := h
  rw [hz, IntKind.wrap_u8]
  obtain ⟨u', h1, _⟩ := u8_of (x := z % 256) (by omega) (by omega)
  exact ⟨u', h1⟩
theorem set_u8 {w : World} {B g n cap : Nat} {l : List UInt8} (h : OV w B 5 (.slice (some ⟨g, 0, none⟩) n cap) (l.map u8v)) (hn : l.length = n) (j : Nat) (hj : j < n) :
    (∃ u : UInt8, w.cell? ⟨g, j, none⟩ = some (u8v u)) ∧ w.frozen? ⟨g, j, none⟩ = false ∧ ∀ u : UInt8, OV (w.setCell ⟨g, j, none⟩ (u8v u)) B 5 (.slice (some ⟨g, 0, none⟩) n cap) ((l.set j u).map u8v) := by
  unfold OV at *
  rw [List.length_map, hn] at h
  have h1 := h.cellAt j (by omega)
  refine ⟨⟨l[j], by rw [h1]; simp [show j < l.length by omega]⟩, h.frozenAt j, fun u => ?_⟩
  have h2 := h.stored j (u8v u)
  rw [List.length_map, List.length_set, hn, List.map_set]
  exact h2.1

set_option maxHeartbeats 2000000 in
theorem writes_c (w : World) (v : Value) (ts : List ActL) (hv : ACTS w v ts) : Calls Try.prog 4 #[v] w fun e w' => e = .returned (.bool true) ∧ Below w.heap.size w w' := by
  obtain ⟨a, cap, rfl, h1, h2, hat⟩ := hv
  have HAT := Lib.hid hat; clear hat
  unfold maxLen at h2
  go_enter Try.func4, Try.ntmps4
  go_wp2_with fail
  refine (awake_c w).mono ?_
  rintro e w1 ⟨rfl, ho1⟩
  have HO1 := Lib.hid ho1; clear ho1
  go_wp2_with fail
  refine (newwriter_c w1).mono ?_
  rintro e w2 ⟨rfl, hw2, ho2⟩
  have hD : w.heap.size ≤ w1.heap.size := HO1.out.size
  have HO2 := Lib.hid (HO1.out.then ho2)
  have HW2 := Lib.hid hw2
  clear ho2 hw2 HO1
  generalize w1.heap.size = D at *
  go_wp2_with fail
  go_loopw [5, 6] (fun want i wr => ∃ k : Nat, k ≤ ts.length ∧ k ≤ 60 ∧ i = .int .i64 k ∧ want = .string ⟨(outB ts k).toArray⟩ ∧ (outB ts k).length ≤ 208 * k ∧ WR wr D D (outB ts k) ∧ Only [] w wr) (fun _ i _ => ts.length - (intOf i).toNat)
  case atStart => exact ⟨0, Nat.zero_le _, Nat.zero_le _, rfl, rfl, Nat.le_refl _, HW2.out, HO2.out⟩
  case round =>
    obtain ⟨k, hk, hk60, rfl, rfl, hlen, hwr, hor⟩ := hrel
    have HWR := Lib.hid hwr; have HOR := Lib.hid hor
    clear hwr hor HW2 HO2
    by_cases hgo : k < ts.length ∧ k < 60
    · obtain ⟨hkl, hk6⟩ := hgo
      obtain ⟨b, off, rfl, hact0⟩ := HAT.out k hkl
      have hact := hact0.kept (fun j hj => HOR.out.block j hj (by simp))
      obtain ⟨c0, c1, c2, ⟨a3, cap3, c3, hb3⟩, n0, n1, hx⟩ := hact
      have HB3 := Lib.hid hb3
      have hs := outB_succ ts k hkl
      have hnl := numB_len ts[k]
      have hcap3 : ts[k].b.length ≤ cap3 ∧ cap3 ≤ 9223372036854775807 := by
        obtain ⟨_, _, he, h1, h2, _⟩ := hb3
        simp only [Value.slice.injEq] at he
        unfold maxLen at h2
        omega
      generalize ts[k] = t at *
      have HS := Lib.hid hs; have HACT := Lib.hid hact0; clear hs hb3 hact0
      by_cases hbig : 200 < t.b.length
      · go_wp2
        go_ret
        exact ⟨rfl, HOR.out.below (by simp) (Nat.le_refl _)⟩
      cases htn : t.num with
      | true =>
        rw [htn] at c0
        have he : actB t = numB t := by simp [actB, htn]
        rw [he] at HS
        clear he htn
        go_wp2_with fail
        go_region_with (go_at_call 19; refine (wnumber_c _ D D (outB ts k) (HWR.out.only (Only.drew (Only.refl [] wr))) t.x t.n hx (by omega)).mono ?_; rintro e w' ⟨rfl, hw', hb'⟩)
        all_goals
          have HW' : Hid (WR w' D D (outB ts k ++ numB t)) := hw'
          have HO' : Hid (Only [] w w') := only_below (Only.drew HOR.out) hb' hD
          clear hw' hb' c0 c1 c2 c3 HB3
          obtain ⟨c0, c1, c2, _, _, _, _⟩ := HACT.out.kept (fun j hj => HO'.out.block j hj (by simp))
          clear c0
          go_wp2_with fail
          go_region_with (go_at_call 20; refine (refput_c _ t.x t.n hx n0).mono ?_; rintro e w'' ⟨s, rfl, hse, hb''⟩; have hs2 : s = ⟨(numB t).toArray⟩ := ba_eq hse; subst hs2; clear hse)
        all_goals
          have HW'' : Hid (WR w'' D D (outB ts k ++ numB t)) := HW'.out.only ((Only.drew (Only.refl [] w')).then hb'')
          have HO'' : Hid (Only [] w w'') := (Only.drew HO'.out).then hb''
          clear hb'' c1 c2
          go_wp2
          go_roundw
          case rel => exact ⟨k + 1, by omega, by omega, by go_num, by rw [HS.out, ba_append], by rw [HS.out]; simp; omega, by rw [HS.out]; exact HW''.out, HO''.out⟩
          case measure => simp [intOf]; omega
      | false =>
        rw [htn] at c0
        have he : actB t = t.b := by simp [actB, htn]
        rw [he] at HS
        clear he htn
        go_wp2_with fail
        refine (wbytes_c wr D D (outB ts k) t.b HWR.out _ HB3.out (by omega)).mono ?_
        rintro e w' ⟨rfl, hw', hb'⟩
        have HW' := Lib.hid hw'
        have HO' : Hid (Only [] w w') := only_below HOR.out hb' hD
        clear hw' hb' c0 c1 c2 c3 HB3
        obtain ⟨c0, c1, c2, ⟨a4, cap4, c3, hb3⟩, _, _, _⟩ := HACT.out.kept (fun j hj => HO'.out.block j hj (by simp))
        have hstr := run_string_of_bytes (P := Try.prog) Try.underlying22 Try.underlying5 Try.underlying9 hb3
        clear c0 c1 c2 hb3
        go_wp2
        go_roundw
        case rel => exact ⟨k + 1, by omega, by omega, by go_num, by rw [HS.out, ba_append], by rw [HS.out]; simp; omega, by rw [HS.out]; exact HW'.out, HO'.out⟩
        case measure => simp [intOf]; omega
    · have hL : (outB ts k).length ≤ 20000 := by omega
      clear hlen HAT
      generalize outB ts k = L at *
      have hdec : (ts.length ≤ k) ∨ (k < ts.length ∧ 60 ≤ k) := by omega
      rcases hdec with hd1 | ⟨hd1, hd2⟩
      all_goals
        go_wp2_with fail
        refine (out_c wr D D L HWR.out (by omega)).mono ?_
        rintro e w3 ⟨v3, rfl, hov, ho3⟩
        have hstr := run_string_of_bytes (P := Try.prog) Try.underlying22 Try.underlying5 Try.underlying9 (BS.of_vs hov.vs)
        obtain ⟨a3, cap3, hv3, hc3, hm3⟩ := hov.slice
        obtain ⟨n3, hn3⟩ : ∃ n3, L.length = n3 := ⟨_, rfl⟩
        rw [List.length_map, hn3] at hv3 hc3
        subst hv3
        unfold maxLen at hm3
        have HOV := Lib.hid hov; have HO3 := Lib.hid ho3; have HN3 := Lib.hid hn3
        have hn3b : n3 ≤ 20000 := by omega
        clear hov ho3 hn3 hgo
        go_wp2_with fail
        clear hstr
        obtain ⟨wq, hwq⟩ : ∃ wq, wq = wr := ⟨_, rfl⟩
        subst hwq
        go_loopw [8] (fun i w4 => ∃ j : Nat, ∃ l' : List UInt8, j ≤ n3 ∧ i = .int .i64 j ∧ l'.length = n3 ∧ OV w4 wq.heap.size 5 (.slice a3 n3 cap3) (l'.map u8v) ∧ Only [] wq w4) (fun i _ => n3 - (intOf i).toNat)
        case atStart => exact ⟨0, L, Nat.zero_le _, rfl, HN3.out, HOV.out, HO3.out⟩
        case round =>
          obtain ⟨j, l', hj, rfl, hl', hov4, ho4⟩ := hrel
          have HO4 := Lib.hid ho4; clear ho4
          by_cases hjn : j < n3
          · have hgg : ∃ g, a3 = some ⟨g, 0, none⟩ ∧ wq.heap.size ≤ g := by
              rcases hov4.2 with ⟨he, _⟩ | ⟨g, cap', cur, he, hg, _⟩
              · simp only [Value.slice.injEq] at he; omega
              · simp only [Value.slice.injEq] at he
                exact ⟨g, he.1, hg⟩
            obtain ⟨g, rfl, hgw⟩ := hgg
            obtain ⟨⟨u, hcell⟩, hfr, hset⟩ := set_u8 hov4 hl' j hjn
            obtain ⟨u', hu'⟩ := xor_u8 u 255
            have hset' := hset u'
            rw [← hu'] at hset'
            have ho' : Only [] wq (wr.setCell ⟨g, j, none⟩ (.int .u8 (bits .xor .u8 (u.toNat : Int) 255))) := HO4.out.setCell (.inr hgw) _
            have hl2 : (l'.set j u').length = n3 := by simpa using hl'
            unfold u8v at hcell
            have HS' := Lib.hid hset'; have HO' := Lib.hid ho'
            clear hset hset' hov4 ho' hu'
            go_wp2
            go_roundw
            case rel => exact ⟨j + 1, _, by omega, by go_num, hl2, HS'.out, HO'.out⟩
            case measure => simp [intOf]; omega
          · go_wp2_with fail
            refine (out_c _ D D L (HWR.out.only HO4.out) (by omega)).mono ?_
            rintro e w5 ⟨v5, rfl, hov, ho5⟩
            have hstr := run_string_of_bytes (P := Try.prog) Try.underlying22 Try.underlying5 Try.underlying9 (BS.of_vs hov.vs)
            have HO5 := Lib.hid ((HOR.out.then HO4.out).then ho5)
            clear hov ho5 hov4
            go_wp2
            go_ret
            exact ⟨by simp, HO5.out.below (by simp) (Nat.le_refl _)⟩
end Go.Proofs.Ytlheknaddecdaaa.cur
