/-
  THE WALKS of ledger.Put and of slices.Equal.
-/
import Derived.Test.YthdcagdjgkblpaaDoorLedPlain
import Derived.Test.YthdcagdjgkblpaaDoorCurAwake
import Derived.Test.YthdcagdjgkblpaaDoorCurPut
import Derived.Test.YthdcagdjgkblpaaDoorCrcWalks
import Derived.Test.YthdcagdjgkblpaaDoorCrcRef
import Derived.Test.YthdcagdjgkblpaaDoorGen5
import Derived.Deep.DeepCutAuto
import Derived.Deep.RegionWith
import Derived.Outline
import Derived.BigQuiet
import Derived.OwnWalk
import Derived.RegionTactic
import Derived.Laws.ResultCell
set_option linter.unusedVariables false
set_option linter.unusedSimpArgs false
namespace Go.Proofs.YthdcagdjgkblpaaDoor.led
open Go Go.RowKit Go.Lm Go.Proofs.YthdcagdjgkblpaaDoor.cur Go.Proofs.YthdcagdjgkblpaaDoor.crc

/-- A record's value. -/
def recV (r : Nat × Nat) : Value := .agg #[.int .u8 (r.1 : Int), .int .u64 (r.2 : Int)]

set_option maxHeartbeats 1000000 in
theorem put_no (w : World) (k v : Nat) (hk : ¬ (k = 1 ∨ k = 2)) : Calls Tryd.prog 12 #[.agg #[.int .u8 (k : Int), .int .u64 (v : Int)]] w fun e w' => e = .returned (.tuple #[.slice none 0 0, .int .i64 1]) ∧ Only [] w w' := by
  have hc : (k : Int) < 1 ∨ (1 ≤ (k : Int) ∧ (2 : Int) < (k : Int)) := by omega
  clear hk
  rcases hc with h1 | ⟨h1, h2⟩
  all_goals
    go_enter Tryd.func12, Tryd.ntmps12
    go_wp2
    go_ret2
    exact ⟨rfl, (Only.refl [] w).alloc _⟩

set_option maxRecDepth 100000 in
set_option maxHeartbeats 1000000 in
theorem put_yes (w : World) (k v : Nat) (hk : k = 1 ∨ k = 2) (hv : v < 18446744073709551616) (hT : Tab w) : Calls Tryd.prog 12 #[.agg #[.int .u8 (k : Int), .int .u64 (v : Int)]] w fun e w' => ∃ u, e = .returned (.tuple #[u, .int .i64 0]) ∧ OV w' w.heap.size 5 u ((Led.put k v).map u8v) ∧ Only [] w w' := by
  have h1 : (1 : Int) ≤ (k : Int) := by omega
  have h2 : (k : Int) ≤ 2 := by omega
  have hk2 : k ≤ 2 := by omega
  have HK := Lib.hid hk2; have HVV := Lib.hid hv; have HT := Lib.hid hT
  clear hk hk2 hv hT
  go_enter Tryd.func12, Tryd.ntmps12
  go_upto_region 3 with fail
  have hB : P2 (w.alloc (.cells #[.int .u8 (k : Int), .int .u64 (v : Int)] 32 (0, 0))) w.heap.size 32 (.int .u8 (k : Int)) (.int .u64 (v : Int)) := P2.new w _ _ _
  have HO1 : Hid (Only [] w (w.alloc (.cells #[.int .u8 (k : Int), .int .u64 (v : Int)] 32 (0, 0)))) := (Only.refl [] w).alloc _
  generalize World.alloc w _ = w1 at *
  have HB1 := Lib.hid hB
  clear hB
  go_wp2_with fail
  refine (newwriter_c w1).mono ?_
  rintro e w2 ⟨rfl, hw2, ho2⟩
  have hD : w.heap.size < w1.heap.size := HB1.out.lt
  have hb2 := HB1.out.only ho2 (by simp)
  have HO2 := Lib.hid (HO1.out.then ho2)
  have HW2 := Lib.hid hw2
  clear ho2 hw2 HO1 HB1
  generalize w1.heap.size = D at *
  obtain ⟨c0, c1, cf⟩ := P2.cells hb2
  go_wp2_with fail
  refine (wnumber_c w2 D D [] HW2.out k 1 (by have := HK.out; omega) (by decide)).mono ?_
  rintro e w3 ⟨rfl, hw3, hb3⟩
  rw [if_pos (by decide), List.nil_append] at hw3
  have HO3 : Hid (Only [] w w3) := Lm.only_below HO2.out hb3 (by omega)
  have HW3 : Hid (WR w3 D D (Cur.put k 1)) := hw3
  have hq3 : P2 w3 w.heap.size 32 (.int .u8 (k : Int)) (.int .u64 (v : Int)) := (hb3.block w.heap.size hD).trans hb2
  clear hb3 hw3 c0 c1 cf hb2 HO2 HW2
  obtain ⟨c0, c1, cf⟩ := P2.cells hq3
  go_wp2_with fail
  refine (wnumber_c w3 D D _ HW3.out v 8 HVV.out (by rw [Cur.put_length]; decide)).mono ?_
  rintro e w4 ⟨rfl, hw4, hb4⟩
  rw [if_pos (by decide)] at hw4
  have HO4 : Hid (Only [] w w4) := Lm.only_below HO3.out hb4 (by omega)
  have HW4 : Hid (WR w4 D D (Led.rec0 k v)) := hw4
  clear hb4 hw4 c0 c1 cf hq3 HO3 HW3
  have HL0 := Lib.hid (Led.rec0_length k v)
  have HPUT : Hid (Led.rec0 k v ++ Cur.put (Crc.sum (Led.rec0 k v)) 4 = Led.put k v) := rfl
  generalize Led.rec0 k v = S at *
  go_wp2_with fail
  refine (out_c w4 D D _ HW4.out (by rw [HL0.out]; decide)).mono ?_
  rintro e w5 ⟨u, rfl, hov5, ho5⟩
  have HO5 := Lib.hid (HO4.out.then ho5)
  have HW5 := Lib.hid (HW4.out.only ho5)
  have HB5 := Lib.hid (BS.of_vs hov5.vs)
  clear hov5 ho5 HO4 HW4
  go_wp2_with fail
  refine (of_c w5 u S HB5.out (by rw [HL0.out]; decide) (HT.out.only HO5.out (by simp))).mono ?_
  rintro e w6 ⟨rfl, ho6⟩
  have ho6 : Only [] w5 w6 := ho6.mono (by simp)
  have HO6 := Lib.hid (HO5.out.then ho6)
  have HW6 := Lib.hid (HW5.out.only ho6)
  clear ho6 HO5 HW5 HB5
  have hsum : Crc.sum S ≤ 4294967295 := Nat.sub_le _ _
  have hsw : IntKind.u64.wrap (Crc.sum S : Int) = (Crc.sum S : Int) := by rw [IntKind.wrap_u64]; omega
  go_wp2_with fail
  refine (wnumber_c w6 D D _ HW6.out (Crc.sum S) 4 (by omega) (by rw [HL0.out]; decide)).mono ?_
  rintro e w7 ⟨rfl, hw7, hb7⟩
  rw [if_pos (by decide)] at hw7
  have HO7 : Hid (Only [] w w7) := Lm.only_below HO6.out hb7 (by omega)
  have HW7 : Hid (WR w7 D D (Led.put k v)) := by rw [← HPUT.out]; exact hw7
  clear hb7 hw7 HO6 HW6 hsum hsw HPUT HL0
  have HL7 := Lib.hid (Led.put_length k v)
  go_wp2_with fail
  refine (out_c w7 D D _ HW7.out (by rw [HL7.out]; decide)).mono ?_
  rintro e w8 ⟨u8, rfl, hov8, ho8⟩
  have HO8 := Lib.hid (HO7.out.then ho8)
  have HV8 := Lib.hid (hov8.mono HO7.out.size)
  clear hov8 ho8
  go_wp2
  go_ret2
  exact ⟨_, rfl, HV8.out, HO8.out⟩

theorem bs_at {w : World} {a : Option Addr} {n cap : Nat} {l : List UInt8} (h : BS w (.slice a n cap) l) (k : Nat) (hk : k < l.length) : ∃ b off, a = some ⟨b, off, none⟩ ∧ w.cell? ⟨b, off + k, none⟩ = some (.int .u8 (l[k].toNat : Int)) := by
  obtain ⟨a', cap', he, _, _, _, hc⟩ := h
  simp only [Value.slice.injEq] at he
  obtain ⟨rfl, rfl, rfl⟩ := he
  obtain ⟨b, off, rfl, hcell⟩ := hc k hk
  exact ⟨b, off, rfl, hcell⟩

set_option maxHeartbeats 1000000 in
theorem equal_c (w : World) (v u : Value) (l m : List UInt8) (hv : BS w v l) (hu : BS w u m) (hl : l.length ≤ 1000000) : Calls Tryd.prog 19 #[v, u] w fun e w' => e = .returned (.bool (l == m)) ∧ Only [] w w' := by
  have HV := Lib.hid hv; have HU := Lib.hid hu
  obtain ⟨a, cap, rfl, hc1, hc2, -⟩ := hv
  obtain ⟨a', cap', rfl, hd1, hd2, -⟩ := hu
  unfold maxLen at hc2 hd2
  by_cases hne : l.length ≠ m.length
  · have hneI : ((l.length : Int) != (m.length : Int)) = true := by rw [bne_iff_ne]; omega
    have hr : (l == m) = false := by rw [beq_eq_false_iff_ne]; intro e; exact hne (by rw [e])
    rw [hr]
    clear hne
    go_enter Tryd.func19, Tryd.ntmps19
    go_wp2
    go_ret
    exact ⟨rfl, Only.refl _ _⟩
  have hlm : l.length = m.length := by omega
  clear hne
  have HLM := Lib.hid hlm
  rw [← hlm] at HU hd1 ⊢
  clear hlm
  go_enter Tryd.func19, Tryd.ntmps19
  go_wp2_with fail
  go_loopw [13] (fun i wr => ∃ k : Nat, k ≤ l.length ∧ i = .int .i64 k ∧ l.take k = m.take k ∧ Only [] w wr) (fun i _ => l.length - (intOf i).toNat)
  case atStart => exact ⟨0, Nat.zero_le _, rfl, rfl, Only.refl _ _⟩
  case round =>
    obtain ⟨k, hk, rfl, htk, ho⟩ := hrel
    have HO := Lib.hid ho; have HTK := Lib.hid htk
    clear ho htk
    by_cases hlt : k < l.length
    · obtain ⟨b, off, rfl, hx⟩ := bs_at (HV.out.only HO.out (by simp)) k hlt
      obtain ⟨b', off', rfl, hy⟩ := bs_at (HU.out.only HO.out (by simp)) k (by have := HLM.out; omega)
      have hm : k < m.length := by have := HLM.out; omega
      have e1 : l.take (k + 1) = l.take k ++ [l[k]] := List.take_succ_eq_append_getElem hlt
      have e2 : m.take (k + 1) = m.take k ++ [m[k]] := List.take_succ_eq_append_getElem hm
      have hE : l.take (k + 1) = m.take (k + 1) ↔ l[k] = m[k] := by
        rw [e1, e2, HTK.out]
        exact ⟨fun h => (List.cons.inj (List.append_cancel_left h)).1, fun h => by rw [h]⟩
      have HE := Lib.hid hE
      clear hE e1 e2
      obtain ⟨x, hxe⟩ : ∃ x, l[k] = x := ⟨_, rfl⟩
      obtain ⟨y, hye⟩ : ∃ y, m[k] = y := ⟨_, rfl⟩
      rw [hxe, hye] at HE
      rw [hxe] at hx
      rw [hye] at hy
      clear hxe hye
      by_cases hxy : x = y
      · subst hxy
        go_upto_region 6 with fail
        go_quiet (fail)
        go_wp2
        go_roundw
        case rel => exact ⟨k + 1, by omega, by go_num, HE.out.2 rfl, HO.out.drewN _⟩
        case measure => simp [intOf]; omega
      · have hxI : ((x.toNat : Int) != (y.toNat : Int)) = true := by rw [bne_iff_ne]; intro e; exact hxy (UInt8.toNat_inj.1 (by omega))
        have hr : (l == m) = false := by
          rw [beq_eq_false_iff_ne]
          intro e
          exact hxy (HE.out.1 (by rw [e]))
        have HR := Lib.hid hr; clear hr
        clear hxy
        go_upto_region 6 with fail
        go_quiet (fail)
        go_wp2
        go_ret
        exact ⟨by rw [HR.out]; rfl, HO.out.drewN _⟩
    · obtain rfl : k = l.length := by omega
      have hr : (l == m) = true := by
        rw [beq_iff_eq]
        have := HTK.out
        rwa [List.take_length, HLM.out, List.take_length] at this
      have HR := Lib.hid hr; clear hr
      go_wp2
      go_ret
      exact ⟨by rw [HR.out]; rfl, HO.out⟩
end Go.Proofs.YthdcagdjgkblpaaDoor.led
