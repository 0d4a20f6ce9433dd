/-
  THE WALK of package huff: Encode.
-/
import Derived.Test.YtfckokdgmbbheaaHufEnc
import Derived.Test.YtfckokdgmbbheaaHufDecode
set_option linter.unusedVariables false
set_option linter.unusedSimpArgs false
set_option maxRecDepth 20000
namespace Go.Proofs.Ytfckokdgmbbheaa.huf
open Go Go.RowKit Go.Lm Go.Proofs.Ytfckokdgmbbheaa.bit

/-- What Encode makes. -/
def henc (l q : List UInt8) : List UInt8 × Int := if Huf.dep (Huf.ns l) = 0 then ([], 1) else senc (Huf.ns l) (Huf.dep (Huf.ns l)) q

set_option maxHeartbeats 2000000 in
theorem hencode_c (w : World) (v u : Value) (l q : List UInt8) (hv : BS w v l) (hl : l.length ≤ 1000) (hu : BS w u q) (hq : q.length ≤ 100000) : Calls Try.prog 10 #[v, u] w fun e w' =>
    ∃ v', e = .returned (.tuple #[v', .int .i64 (henc l q).2]) ∧ OV w' w.heap.size 5 v' ((henc l q).1.map u8v) ∧ Only [] w w' := by
  by_cases h0 : Huf.dep (Huf.ns l) = 0
  · have hS : henc l q = ([], 1) := by unfold henc; rw [if_pos h0]
    rw [hS]
    have HT := Lib.hid (codes_no w v l hv hl h0)
    obtain ⟨a, cap, rfl, -, -, -, -⟩ := hv
    obtain ⟨a2, cap2, rfl, -, -, -, -⟩ := hu
    clear h0 hS
    go_enter Try.func10, Try.ntmps10
    go_wp2_with fail
    refine HT.out.mono ?_
    rintro e w2 ⟨rfl, rfl⟩
    --@1
    go_wp2_with fail
    --@2
    go_ret2
    exact ⟨_, rfl, OV.nil _ _ _, Only.refl _ _⟩
  --@4
  obtain ⟨d, hd⟩ : ∃ d, Huf.dep (Huf.ns l) = d := ⟨_, rfl⟩
  have hg := Huf.dep_some hd (by omega)
  have HT := Lib.hid (codes_yes w v l hv hl d hd (by omega))
  have hLl : (Huf.ns l).length = l.length := by rw [Huf.ns_length]
  obtain ⟨S, hS⟩ : ∃ S, henc l q = S := ⟨_, rfl⟩
  rw [hS]
  unfold henc at hS
  rw [if_neg h0, hd] at hS
  obtain ⟨L, hL⟩ : ∃ L, Huf.ns l = L := ⟨_, rfl⟩
  simp only [hL] at hS hg HT hLl
  obtain ⟨N, hN⟩ : ∃ N, l.length = N := ⟨_, rfl⟩
  rw [hN] at hLl
  --@5
  have HS := Lib.hid hS; have HU := Lib.hid hu; have HG := Lib.hid hg; have HLL := Lib.hid hLl
  obtain ⟨a, cap, rfl, -, -, -, -⟩ := hv
  obtain ⟨a2, cap2, rfl, k1, k2, -, -⟩ := hu
  rw [hN] at HT ⊢
  clear h0 hd hL hS hg hLl hN hl
  go_enter Try.func10, Try.ntmps10
  go_wp2_with fail
  --@6
  refine HT.out.mono ?_
  rintro e w1 ⟨g, rfl, hpb, hF, ho⟩
  --@9
  have hec := encode_c w1 L d HG.out g N HLL.out hpb _ q (HU.out.only ho (by simp)) hq
  --@7
  rw [HS.out] at hec
  --@8
  have HEC := Lib.hid hec; have HO := Lib.hid ho
  clear hpb ho HT hec
  --@3
  go_wp2_with (first | (go_at_call 19; refine (HEC.out).mono ?_; rintro e w2 ⟨v', rfl, hov, hon⟩; have HOV := Lib.hid hov; have HON := Lib.hid hon; clear hov hon))
  go_ret2
  exact ⟨_, rfl, HOV.out.mono HO.out.size, HO.out.then HON.out⟩
end Go.Proofs.Ytfckokdgmbbheaa.huf
