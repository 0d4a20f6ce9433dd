/-
  THE WALK of the laws' row.
-/
import Derived.Test.YthdcagdjgkblpaaDoorLedPlain2
import Derived.Test.YthdcagdjgkblpaaDoorLedRRead
set_option linter.unusedVariables false
set_option linter.unusedSimpArgs false
namespace Go.Lm.Led
def kindAt (ks : List UInt8) (i : Nat) : Nat := if i < ks.length then (ks.getD i 0).toNat % 2 + 1 else 1
def rowK (xs : List Nat) (ks : List UInt8) (k : Nat) : List (Nat × Nat) := (List.range k).map fun i => (kindAt ks i, xs.getD i 0)
theorem rowK_succ (xs : List Nat) (ks : List UInt8) (k : Nat) : rowK xs ks (k + 1) = rowK xs ks k ++ [(kindAt ks k, xs.getD k 0)] := by unfold rowK; rw [List.range_succ, List.map_append]; rfl
theorem rowK_length (xs : List Nat) (ks : List UInt8) (k : Nat) : (rowK xs ks k).length = k := by simp [rowK]
theorem rowK_ok (xs : List Nat) (ks : List UInt8) (k : Nat) (h : ∀ x ∈ xs, x < 18446744073709551616) : ∀ r ∈ rowK xs ks k, Ok r := by
  intro r hr
  unfold rowK at hr
  obtain ⟨i, _, rfl⟩ := List.mem_map.1 hr
  refine ⟨?_, ?_⟩
  · unfold kindAt; split <;> omega
  · show xs.getD i 0 < _
    by_cases hi : i < xs.length
    · rw [List.getD_eq_getElem?_getD, List.getElem?_eq_getElem hi]; exact h _ (List.getElem_mem hi)
    · rw [List.getD_eq_getElem?_getD, List.getElem?_eq_none (by omega)]; decide
theorem puts_snoc (R : List (Nat × Nat)) (r : Nat × Nat) : puts (R ++ [r]) = puts R ++ put r.1 r.2 := by rw [puts_append]; simp [puts]
end Go.Lm.Led
namespace Go.Proofs.YthdcagdjgkblpaaDoor.led
open Go Go.RowKit Go.Lm Go.Proofs.YthdcagdjgkblpaaDoor.cur Go.Proofs.YthdcagdjgkblpaaDoor.crc

def u64v (x : Nat) : Value := .int .u64 (x : Int)
theorem vs_at {w : World} {a : Option Addr} {n cap : Nat} {l : List Value} (h : VS w (.slice a n cap) l) (k : Nat) (hk : k < l.length) : ∃ b off, a = some ⟨b, off, none⟩ ∧ w.cell? ⟨b, off + k, none⟩ = some l[k] := by
  obtain ⟨a', cap', he, _, _, _, hc⟩ := h
  simp only [Value.slice.injEq] at he
  obtain ⟨rfl, rfl, rfl⟩ := he
  obtain ⟨b, off, rfl, hcell⟩ := hc k hk
  exact ⟨b, off, rfl, hcell⟩
section
variable {H : Type} {enc : TypeId × Value → H}
/-- A slice of numbers, opened. -/
theorem u64s_opened {W : World} {v : Value} {d : DataW H} {ps : List MemPlace} {base : Nat} (hv : Value.okWide Tryd.prog W .any base 40 v)
    (h : DataW.Trod enc Tryd.prog W 0 (fun _ => true) true 40 v d ps) : ∃ xs : List Nat, VS W v (xs.map u64v) ∧ ∀ x ∈ xs, x < 18446744073709551616 := by
  obtain ⟨a, cap, zs, rfl, h1, h2, h3, h4, h5⟩ := ints_opened Tryd.underlying40 Tryd.underlying30 (by kernel_rfl) hv h
  refine ⟨zs.map Int.toNat, ⟨a, cap, by simp, by simpa using h1, h2, h3, fun k hk => ?_⟩, fun x hx => ?_⟩
  · have hk' : k < zs.length := by simpa using hk
    obtain ⟨b, off, ha, hc⟩ := h4 k hk'
    refine ⟨b, off, ha, ?_⟩
    have hw := wf_u64 (h5 zs[k] (List.getElem_mem hk'))
    rw [hc]
    simp only [List.getElem_map, u64v]
    congr 2
    omega
  · obtain ⟨z, hz, rfl⟩ := List.mem_map.1 hx
    have hw := wf_u64 (h5 z hz)
    omega
end
theorem and_u8_one (c : Nat) (hc : c < 256) : bits .and .u8 (c : Int) 1 = ((c % 2 : Nat) : Int) := by
  have h1 : (BitVec.ofInt 8 (c : Int)).toNat = c := by simp; omega
  have h2 : (BitVec.ofInt 8 1).toNat = 1 := by decide
  show IntKind.u8.wrap ((BitVec.ofInt 8 (c : Int) &&& BitVec.ofInt 8 1).toNat : Int) = _
  rw [BitVec.toNat_and, h1, h2, Nat.and_one_is_mod, IntKind.wrap_u8]
  omega

set_option maxRecDepth 100000 in
set_option maxHeartbeats 4000000 in
theorem row_c (w : World) (v u : Value) (xs : List Nat) (ks : List UInt8) (hv : VS w v (xs.map u64v)) (hu : BS w u ks) (hx : ∀ x ∈ xs, x < 18446744073709551616) (hl : xs.length ≤ 100) (hT : Tab w) :
    Calls Tryd.prog 14 #[v, u] w fun e w' => ∃ r, e = .returned r ∧ OV w' w.heap.size 5 r ((Led.puts (Led.rowK xs ks xs.length)).map u8v) ∧ Only [] w w' := by
  have HV := Lib.hid hv; have HU := Lib.hid hu; have HX := Lib.hid hx; have HT := Lib.hid hT
  obtain ⟨a, cap, rfl, h1, h2, -, -⟩ := hv
  obtain ⟨a', cap', rfl, h3, h4, -, -⟩ := hu
  obtain ⟨i0, hi, hz0, hz1, hz2⟩ := info_parts info_u8
  have HI := Lib.hid hi; have HZ0 := Lib.hid hz0; have HZ1 := Lib.hid hz1; have HZ2 := Lib.hid hz2
  clear hi hz0 hz1 hz2 hx hT
  obtain ⟨N, hN⟩ : ∃ N, xs.length = N := ⟨_, rfl⟩
  simp only [List.length_map, hN] at h1 h2 HV hl ⊢
  have HN := Lib.hid hN
  unfold maxLen at h2 h4
  obtain ⟨B, hB⟩ : ∃ B, w.heap.size = B := ⟨_, rfl⟩
  rw [hB]
  have HB := Lib.hid hB
  clear hB hN
  go_enter Tryd.func14, Tryd.ntmps14
  go_wp2_with fail
  go_loopw [5, 6] (fun x i wr => ∃ k : Nat, k ≤ N ∧ i = .int .i64 (k : Nat) ∧ OV wr B 5 x ((Led.puts (Led.rowK xs ks k)).map u8v) ∧ Only [] w wr) (fun x i _ => N - (intOf i).toNat)
  case atStart => exact ⟨0, Nat.zero_le _, rfl, OV.nil _ _ _, Only.refl _ _⟩
  case round =>
    obtain ⟨k, hk, rfl, hov, ho⟩ := hrel
    have HOV := Lib.hid hov; have HO := Lib.hid ho
    clear hov ho
    by_cases hlt : k < N
    · have hltI : (k : Int) < (N : Int) := by omega
      obtain ⟨b, off, rfl, hc0⟩ := vs_at (HV.out.only HO.out (by simp)) k (by rw [List.length_map, HN.out]; exact hlt)
      obtain ⟨X, hX⟩ : ∃ X, xs.getD k 0 = X := ⟨_, rfl⟩
      have hkx : k < xs.length := by rw [HN.out]; exact hlt
      have hXe : xs[k] = X := by rw [← hX, List.getD_eq_getElem?_getD, List.getElem?_eq_getElem hkx]; rfl
      have hX64 : X < 18446744073709551616 := by rw [← hXe]; exact HX.out _ (List.getElem_mem hkx)
      have hc : wr.cell? ⟨b, off + k, none⟩ = some (.int .u64 (X : Int)) := by
        rw [hc0, List.getElem_map, hXe]
        rfl
      clear hc0
      obtain ⟨K, hK⟩ : ∃ K, Led.kindAt ks k = K := ⟨_, rfl⟩
      have hK12 : K = 1 ∨ K = 2 := by rw [← hK]; unfold Led.kindAt; split <;> omega
      have hstep : Led.puts (Led.rowK xs ks (k + 1)) = Led.puts (Led.rowK xs ks k) ++ Led.put K X := by rw [Led.rowK_succ, Led.puts_snoc, hX, hK]
      have hlen : (Led.puts (Led.rowK xs ks k)).length = 13 * k := by rw [Led.puts_length, Led.rowK_length]
      have HSTEP := Lib.hid hstep; have HLEN := Lib.hid hlen
      have hput := fun (W : World) (h : Tab W) => put_yes W K X hK12 hX64 h
      have HPUT := Lib.hid hput
      clear hX hXe hstep hlen hput hX64 hkx
      have HK := Lib.hid hK
      by_cases hks : k < ks.length
      · have hksI : (k : Int) < (ks.length : Int) := by omega
        obtain ⟨b', off', rfl, hc'⟩ := bs_at (HU.out.only HO.out (by simp)) k hks
        obtain ⟨y, hy⟩ : ∃ y, ks[k].toNat = y := ⟨_, rfl⟩
        have hy256 : y < 256 := by rw [← hy]; exact ks[k].toNat_lt
        rw [hy] at hc'
        have hyK : y % 2 + 1 = K := by
          rw [← hK]
          unfold Led.kindAt
          rw [if_pos hks, List.getD_eq_getElem?_getD, List.getElem?_eq_getElem hks]
          show _ = ks[k].toNat % 2 + 1
          rw [hy]
        obtain ⟨z, hz⟩ : ∃ z, y % 2 = z := ⟨_, rfl⟩
        have hand := and_u8_one y hy256
        rw [hz] at hand hyK
        have hz2 : z ≤ 1 := by omega
        have hzk : (z : Int) + 1 = (K : Int) := by omega
        have HZK := Lib.hid hzk
        clear hy hK hz hyK hzk hK12
        --@1
        go_wp2_with fail
        rw [HZK.out]
        --@2
        refine (HPUT.out wr (HT.out.only HO.out (by simp))).mono ?_
        rintro e w1 ⟨p, rfl, hovp, ho1⟩
        have hov1 := HOV.out.only ho1 (by simp)
        obtain ⟨v', w2, hrun, hov', hg⟩ := run_append_vs (P := Tryd.prog) (ty := 22) Tryd.underlying22 HI.out HZ0.out HZ1.out HZ2.out rfl hov1 hovp.vs (u8s_one _) (by simp [HLEN.out, Led.put_length]; unfold maxLen; omega) (by simp [HLEN.out, Led.put_length]; omega) (by have := HO.out.size; have := ho1.size; have := HB.out; omega)
        rw [← List.map_append, ← HSTEP.out] at hov'
        have HRUN := Lib.hid hrun; have HOV' := Lib.hid hov'
        have HO2 : Hid (Only [] w w2) := (HO.out.then ho1).trans (Only.of_grown hg) (by simp) (fun i hi => .inr (by
          have : u5.ownBlock = some i := by
            cases hu : u5.ownBlock with
            | none => rw [hu] at hi; simp at hi
            | some g => rw [hu] at hi; simp at hi; rw [hi]
          have := (hov1.lt this).1
          have := HB.out
          omega))
        clear hovp ho1 hov1 hrun hov' hg hc hc'
        --@3
        go_wp2_with (at_builtin; refine wpList_append_run rfl _ _ _ rfl rfl rfl HRUN.out ?_)
        --@4
        go_roundw
        case rel => exact ⟨k + 1, by omega, by go_num, HOV'.out, HO2.out⟩
        case measure => simp [intOf]; omega
      · have hksI : ¬ ((k : Int) < (ks.length : Int)) := by omega
        have hK1 : K = 1 := by rw [← hK]; unfold Led.kindAt; rw [if_neg hks]
        subst hK1
        clear hK hK12
        --@5
        go_wp2_with fail
        refine (HPUT.out wr (HT.out.only HO.out (by simp))).mono ?_
        rintro e w1 ⟨p, rfl, hovp, ho1⟩
        have hov1 := HOV.out.only ho1 (by simp)
        obtain ⟨v', w2, hrun, hov', hg⟩ := run_append_vs (P := Tryd.prog) (ty := 22) Tryd.underlying22 HI.out HZ0.out HZ1.out HZ2.out rfl hov1 hovp.vs (u8s_one _) (by simp [HLEN.out, Led.put_length]; unfold maxLen; omega) (by simp [HLEN.out, Led.put_length]; omega) (by have := HO.out.size; have := ho1.size; have := HB.out; omega)
        rw [← List.map_append, ← HSTEP.out] at hov'
        have HRUN := Lib.hid hrun; have HOV' := Lib.hid hov'
        have HO2 : Hid (Only [] w w2) := (HO.out.then ho1).trans (Only.of_grown hg) (by simp) (fun i hi => .inr (by
          have : u5.ownBlock = some i := by
            cases hu : u5.ownBlock with
            | none => rw [hu] at hi; simp at hi
            | some g => rw [hu] at hi; simp at hi; rw [hi]
          have := (hov1.lt this).1
          have := HB.out
          omega))
        clear hovp ho1 hov1 hrun hov' hg hc
        --@6
        go_wp2_with (at_builtin; refine wpList_append_run rfl _ _ _ rfl rfl rfl HRUN.out ?_)
        go_roundw
        case rel => exact ⟨k + 1, by omega, by go_num, HOV'.out, HO2.out⟩
        case measure => simp [intOf]; omega
    · obtain rfl : k = N := by omega
      go_wp2
      go_ret
      exact ⟨_, rfl, HOV.out, HO.out⟩
end Go.Proofs.YthdcagdjgkblpaaDoor.led
