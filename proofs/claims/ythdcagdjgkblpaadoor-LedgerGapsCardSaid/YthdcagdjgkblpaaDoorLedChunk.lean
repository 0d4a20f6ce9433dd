/-
  slices.Chunk by 13: the iterator's contract.
-/
import Derived.RangeFuncNested
import Derived.RangeFuncBound
import Derived.RangeFuncCalls
import Derived.RangeFuncLeaves
import Derived.RangeFuncBox
import Derived.Shelf.Abstract
import Derived.Shelf.RegionOpen
import Derived.WalkKit
import Derived.OwnWalkIn
import Derived.TacticsInMore
import Derived.LoopNIn
import Derived.LoopIn
import Derived.Sort.QuietIn
import Derived.Sort.CutIn
import Derived.Maps.AppendAt
import Derived.Test.YthdcagdjgkblpaaDoorLedPut
set_option linter.unusedVariables false
set_option linter.unusedSimpArgs false
namespace Go.Proofs.YthdcagdjgkblpaaDoor.led
open Go Go.RowKit Go.Lm Go.Shelf Go.Proofs.YthdcagdjgkblpaaDoor.cur Go.Proofs.YthdcagdjgkblpaaDoor.crc

attribute [local go_sem] Oper.semAt_some

theorem run_sub_lhm {P : Program} {t e : TypeId} (ht : P.underlying t = some (.slice e)) (hsz : (P.info? e).map (·.size) = some 1) (a : Option Addr) (n cap lo hi : Nat) (h1 : lo ≤ hi) (h2 : hi ≤ cap) (w : World) :
    (Instr.slice t (.slice a n cap) (some (.int .i64 lo)) (some (.int .i64 hi)) (some (.int .i64 hi))).run P w = .ok (subv a hi lo hi) w := by
  rw [run_slice_lhm w t a n cap (by rw [ht, elem_eq ht]) .i64 .i64 .i64 lo hi hi (by omega) (by omega) (by omega) (by omega), elem_eq ht, sizeOf_one hsz]
  simp [Result.andThen, sliced, subv]

/-- Part k of n bytes. -/
def partV (a : Option Addr) (n k : Nat) : Value := subv a (min (13 * k + 13) n) (13 * k) (min (13 * k + 13) n)
theorem BS.part {w : World} {a : Option Addr} {n cap : Nat} {l : List UInt8} (h : BS w (.slice a n cap) l) (k : Nat) : BS w (partV a n k) (Led.part l k) := by
  obtain ⟨a', cap', he, h3, h4, h5, h6⟩ := h
  simp only [Value.slice.injEq] at he
  obtain ⟨rfl, rfl, rfl⟩ := he
  obtain ⟨H, hH⟩ : ∃ H, min (13 * k + 13) l.length = H := ⟨_, rfl⟩
  have hlen : (Led.part l k).length = H - 13 * k := by unfold Led.part; rw [List.length_take, List.length_drop]; omega
  unfold partV
  rw [hH]
  refine ⟨if H = 13 * k then a else a.map (·.add (13 * k)), H - 13 * k, by rw [hlen]; rfl, by omega, by omega, fun hn => ?_, fun j hj => ?_⟩
  · by_cases hc : H = 13 * k
    · omega
    · rw [if_neg hc] at hn
      have h7 : a = none := by simpa using hn
      have := h5 h7
      omega
  · rw [hlen] at hj
    obtain ⟨b, off, rfl, hc⟩ := h6 (13 * k + j) (by omega)
    refine ⟨b, off + 13 * k, ?_, ?_⟩
    · rw [if_neg (by omega)]; simp [add_none]
    · rw [Nat.add_assoc, hc]; simp [Led.part]

def parts (n : Nat) : Nat := (n + 12) / 13

set_option maxRecDepth 100000 in
set_option maxHeartbeats 4000000 in
theorem chunk1_in (n : Nat) (hn : 1 ≤ n) (l Bs Bn : Nat) (a : Option Addr) (len cap : Nat) (hlen : len ≤ 1000000) (hcap : len ≤ cap) (hcm : cap ≤ 9223372036854775807) (Kp : World → World → Prop)
    (hKp : ∀ A B, Kp A B → (∀ v, A.cell? ⟨Bs, 0, none⟩ = some v → B.cell? ⟨Bs, 0, none⟩ = some v) ∧ (∀ v, A.cell? ⟨Bn, 0, none⟩ = some v → B.cell? ⟨Bn, 0, none⟩ = some v))
    (J Jx : List Nat → World → Prop) (hJ : ∀ pre W m, J pre W → J pre (W.drewN m))
    (hY : ∀ pre x W, J pre W → pre.length < parts len → YieldAt Fence.wide (n - 1) Tryd.prog l #[partV a len x] W fun e W' =>
      (e = .returned (.bool true) ∧ J (pre ++ [x]) W' ∧ Kp W W') ∨ (e = .returned (.bool false) ∧ Jx (pre ++ [x]) W'))
    (W : World) (hs : W.cell? ⟨Bs, 0, none⟩ = some (.slice a len cap)) (h13 : W.cell? ⟨Bn, 0, none⟩ = some (.int .i64 13)) (h0 : J [] W) :
    CallsIn Fence.wide n Tryd.prog 27 #[.func (.yield l) #[] #[], .pointer (some ⟨Bs, 0, none⟩), .pointer (some ⟨Bn, 0, none⟩)] W fun e W' => (∃ v, e = .returned v) ∧
      ((∃ ys, ys = List.range (parts len) ∧ J ys W') ∨ (∃ pre, (∃ k, k < parts len ∧ pre = List.range (k + 1)) ∧ Jx pre W')) := by
  refine callsIn_of_wp Tryd.func27 rfl trivial ?_ rfl
  simp only [Tryd.ntmps27, List.size_toArray, List.length_cons, List.length_nil, Nat.reduceAdd, Nat.reduceSub, Array.replicate_succ, Array.replicate_zero, List.push_toArray, List.append_toArray, List.nil_append, List.cons_append]
  gi_wp2
  --@1
  gi_loopw [4] (fun i wr => ∃ k i' : Nat, i' = 13 * k ∧ k ≤ parts len ∧ i = .int .i64 i' ∧ J (List.range k) wr ∧ wr.cell? ⟨Bs, 0, none⟩ = some (.slice a len cap) ∧ wr.cell? ⟨Bn, 0, none⟩ = some (.int .i64 13))
    (fun i _ => len + 13 - (intOf i).toNat)
  case atStart => exact ⟨0, 0, rfl, Nat.zero_le _, rfl, h0, hs, h13⟩
  case round =>
    obtain ⟨k, i, hik, hk, rfl, hJs, hs', h13'⟩ := hrel
    clear hs h13 h0
    by_cases hlt : k < parts len
    · have hil : i < len := by unfold parts at hlt; omega
      obtain ⟨L, hL⟩ : ∃ L, len - i = L := ⟨_, rfl⟩
      obtain ⟨E, hE⟩ : ∃ E, min 13 L = E := ⟨_, rfl⟩
      obtain ⟨H, hH⟩ : ∃ H, i + E = H := ⟨_, rfl⟩
      have hmin : (if (L : Int) < 13 then (L : Int) else 13) = (E : Int) := by split <;> omega
      have hadd : (i : Int) + (E : Int) = (H : Int) := by omega
      have hpv : subv a H i H = partV a len k := by unfold partV; rw [← hik, show min (i + 13) len = H by omega]
      have hsl1 : ∀ w, (Instr.slice 22 (.slice a len cap) (some (.int .i64 (i : Int))) none none).run Tryd.prog w = .ok (subv a cap i len) w := run_sub_l (P := Tryd.prog) (t := 22) Tryd.underlying22 size_u8 a len cap i (by omega)
      have hsl2 : ∀ w, (Instr.slice 22 (.slice a len cap) (some (.int .i64 (i : Int))) (some (.int .i64 (H : Int))) (some (.int .i64 (H : Int)))).run Tryd.prog w = .ok (subv a H i H) w := run_sub_lhm (P := Tryd.prog) (t := 22) Tryd.underlying22 size_u8 a len cap i H (by omega) (by omega)
      obtain ⟨a1, c1, hsv⟩ : ∃ a1 c1, subv a cap i len = .slice a1 L c1 := ⟨_, _, by rw [← hL]; rfl⟩
      rw [hsv] at hsl1
      rw [hpv] at hsl2
      have hHn : H ≤ 1000026 := by omega
      have hilI : (i : Int) < (len : Int) := by omega
      have hlenI : (len : Int) ≤ 1000000 := by omega
      have HY := Lib.hid (fun (w' : World) (hj : J (List.range k) w') => hY (List.range k) k w' hj (by rw [List.length_range]; exact hlt))
      generalize partV a len k = pv at *
      have HIK := Lib.hid hik
      have HH13 : Hid (i + 13 ≤ 1000013 ∧ (k + 1 ≤ parts len)) := ⟨by omega, hlt⟩
      clear hY hL hE hH hpv hsv hik
      --@2
      gi_wp2
      --@3
      gi_quiet (fail)
      --@4
      rename_i nq
      obtain ⟨fn, tmps, assign, body, hy, hR⟩ := HY.out (wr.drewN nq) (hJ _ _ _ hJs)
      --@5
      gi_wp2
      --@6
      refine hR.mono ?_
      rintro e W3 (⟨rfl, hJ3, hk3⟩ | ⟨rfl, hJx3⟩)
      · have hs3 := (hKp _ _ hk3).1 _ hs'
        have h133 := (hKp _ _ hk3).2 _ h13'
        gi_wp2
        go_roundw
        case rel => exact ⟨k + 1, i + 13, by have := HIK.out; omega, HH13.out.2, by go_num, by rw [List.range_succ]; exact hJ3, hs3, h133⟩
        case measure => simp [intOf]; omega
      · gi_wp2
        refine bodyPost_ret (results_none rfl _ _ _) rfl ?_
        exact ⟨⟨_, rfl⟩, .inr ⟨_, ⟨k, hlt, rfl⟩, by rw [List.range_succ]; exact hJx3⟩⟩
    · obtain rfl : k = parts len := by omega
      have hil : (len : Int) ≤ (i : Int) := by unfold parts at hik; omega
      gi_wp2
      go_end0
      exact ⟨⟨_, rfl⟩, .inl ⟨_, rfl, hJs⟩⟩

set_option maxHeartbeats 1000000 in
theorem chunk_c (w : World) (a : Option Addr) (len cap : Nat) : Calls Tryd.prog 16 #[.slice a len cap, .int .i64 13] w fun e w' =>
    e = .returned (.func (.func 27) #[] #[.pointer (some ⟨w.heap.size, 0, none⟩), .pointer (some ⟨w.heap.size + 1, 0, none⟩)]) ∧ w' = (w.alloc (.cells #[.slice a len cap] 22)).alloc (.cells #[.int .i64 13] 3) := by
  go_enter Tryd.func16, Tryd.ntmps16
  go_wp2
  go_ret
  exact ⟨by simp, rfl⟩
end Go.Proofs.YthdcagdjgkblpaaDoor.led
