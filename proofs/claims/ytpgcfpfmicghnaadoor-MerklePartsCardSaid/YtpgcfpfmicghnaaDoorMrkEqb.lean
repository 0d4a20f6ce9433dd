/-
  THE WALK of slices.Equal of bytes.
-/
import Derived.Test.YtpgcfpfmicghnaaDoorMrkSame
import Derived.Deep.DeepCutAuto
import Derived.Deep.RegionWith
import Derived.Outline
import Derived.OwnWalk
import Derived.RegionTactic
set_option linter.unusedVariables false
set_option linter.unusedSimpArgs false
namespace Go.Proofs.YtpgcfpfmicghnaaDoor.mrk
open Go Go.RowKit Go.Lm Go.ChangeShapes Go.WideShapes Go.Proofs.YtpgcfpfmicghnaaDoor.sha

theorem bs_at {w : World} {a : Option Addr} {n cap : Nat} {l : List UInt8} (h : BS w (.slice a n cap) l) (k : Nat) (hk : k < l.length) : ∃ b off, a = some ⟨b, off, none⟩ ∧ w.cell? ⟨b, off + k, none⟩ = some (.int .u8 (l[k].toNat : Int)) := by
  obtain ⟨a', cap', he, _, _, _, hc⟩ := h
  simp only [Value.slice.injEq] at he
  obtain ⟨rfl, rfl, rfl⟩ := he
  obtain ⟨b, off, rfl, hcell⟩ := hc k hk
  exact ⟨b, off, rfl, hcell⟩

set_option maxHeartbeats 1000000 in
theorem equal_c (w : World) (v u : Value) (l m : List UInt8) (hv : BS w v l) (hu : BS w u m) (hl : l.length ≤ 1000000) : Calls Tryd.prog 41 #[v, u] w fun e w' => e = .returned (.bool (l == m)) ∧ Only [] w w' := by
  have HV := Lib.hid hv; have HU := Lib.hid hu
  obtain ⟨a, cap, rfl, hc1, hc2, -⟩ := hv
  obtain ⟨a', cap', rfl, hd1, hd2, -⟩ := hu
  unfold maxLen at hc2 hd2
  by_cases hne : l.length ≠ m.length
  · have hneI : ((l.length : Int) != (m.length : Int)) = true := by rw [bne_iff_ne]; omega
    have hr : (l == m) = false := by rw [beq_eq_false_iff_ne]; intro e; exact hne (by rw [e])
    rw [hr]
    clear hne
    go_enter Tryd.func41, Tryd.ntmps41
    go_wp2
    go_ret
    exact ⟨rfl, Only.refl _ _⟩
  have hlm : l.length = m.length := by omega
  clear hne
  have HLM := Lib.hid hlm
  rw [← hlm] at HU hd1 ⊢
  clear hlm
  go_enter Tryd.func41, Tryd.ntmps41
  go_wp2_with fail
  go_loopw [13] (fun i wr => ∃ k : Nat, k ≤ l.length ∧ i = .int .i64 k ∧ l.take k = m.take k ∧ Only [] w wr) (fun i _ => l.length - (intOf i).toNat)
  case atStart => exact ⟨0, Nat.zero_le _, rfl, rfl, Only.refl _ _⟩
  case round =>
    obtain ⟨k, hk, rfl, htk, ho⟩ := hrel
    have HO := Lib.hid ho; have HTK := Lib.hid htk
    clear ho htk
    by_cases hlt : k < l.length
    · obtain ⟨b, off, rfl, hx⟩ := bs_at (HV.out.only HO.out (by simp)) k hlt
      obtain ⟨b', off', rfl, hy⟩ := bs_at (HU.out.only HO.out (by simp)) k (by have := HLM.out; omega)
      have hm : k < m.length := by have := HLM.out; omega
      have e1 : l.take (k + 1) = l.take k ++ [l[k]] := List.take_succ_eq_append_getElem hlt
      have e2 : m.take (k + 1) = m.take k ++ [m[k]] := List.take_succ_eq_append_getElem hm
      have hE : l.take (k + 1) = m.take (k + 1) ↔ l[k] = m[k] := by
        rw [e1, e2, HTK.out]
        exact ⟨fun h => (List.cons.inj (List.append_cancel_left h)).1, fun h => by rw [h]⟩
      have HE := Lib.hid hE
      clear hE e1 e2
      obtain ⟨x, hxe⟩ : ∃ x, l[k] = x := ⟨_, rfl⟩
      obtain ⟨y, hye⟩ : ∃ y, m[k] = y := ⟨_, rfl⟩
      rw [hxe, hye] at HE
      rw [hxe] at hx
      rw [hye] at hy
      clear hxe hye
      by_cases hxy : x = y
      · subst hxy
        go_upto_region 6 with fail
        go_quiet (fail)
        go_wp2
        go_roundw
        case rel => exact ⟨k + 1, by omega, by go_num, HE.out.2 rfl, HO.out.drewN _⟩
        case measure => simp [intOf]; omega
      · have hxI : ((x.toNat : Int) != (y.toNat : Int)) = true := by rw [bne_iff_ne]; intro e; exact hxy (UInt8.toNat_inj.1 (by omega))
        have hr : (l == m) = false := by
          rw [beq_eq_false_iff_ne]
          intro e
          exact hxy (HE.out.1 (by rw [e]))
        have HR := Lib.hid hr; clear hr
        clear hxy
        go_upto_region 6 with fail
        go_quiet (fail)
        go_wp2
        go_ret
        exact ⟨by rw [HR.out]; rfl, HO.out.drewN _⟩
    · obtain rfl : k = l.length := by omega
      have hr : (l == m) = true := by
        rw [beq_iff_eq]
        have := HTK.out
        rwa [List.take_length, HLM.out, List.take_length] at this
      have HR := Lib.hid hr; clear hr
      go_wp2
      go_ret
      exact ⟨by rw [HR.out]; rfl, HO.out⟩
end Go.Proofs.YtpgcfpfmicghnaaDoor.mrk
