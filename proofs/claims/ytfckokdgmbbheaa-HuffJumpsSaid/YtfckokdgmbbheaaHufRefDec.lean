/-
  THE WALK of the reference's Decode.
-/
import Derived.Test.YtfckokdgmbbheaaHufRefT
import Derived.Test.YtfckokdgmbbheaaHufDecode
set_option linter.unusedVariables false
set_option linter.unusedSimpArgs false
set_option maxRecDepth 20000
namespace Go.Proofs.Ytfckokdgmbbheaa.huf
open Go Go.RowKit Go.Lm Go.Proofs.Ytfckokdgmbbheaa.bit

theorem refstream_c (w : World) (L : List Nat) (d : Nat) (hg : Huf.Good L d) (g N cap0 : Nat) (hN : L.length = N) (hpb : PB w g 88 ((Huf.cods L d).map cv)) (hcap : N ≤ cap0) (hcm : cap0 ≤ maxLen)
    (s : ByteArray) (hs : s.size ≤ 100000) (n : Nat) (hn : n ≤ 1000) : Calls Try.prog 28 #[.slice (some ⟨g, 0, none⟩) N cap0, .string s, .int .i64 (n : Nat)] w fun e w' =>
    e = .returned (.tuple #[.string ⟨(sdec L d s.data.toList n).1.toArray⟩, .int .i64 (sdec L d s.data.toList n).2]) ∧ Only [] w w' := by
  by_cases h0 : (s.data.toList.getLastD 0).toNat = 0
  · have hS : sdec L d s.data.toList n = ([], 11) := by unfold sdec; rw [if_pos h0]
    rw [hS]
    exact refstream_no w g N cap0 s hs n h0
  · exact refstream_yes w L d hg g N cap0 hN hpb hcap hcm s hs n hn h0

set_option maxHeartbeats 2000000 in
theorem refdecode_c (w : World) (l s : ByteArray) (hl : l.size ≤ 1000) (hs : s.size ≤ 100000) (n : Int) (hn : NOk n) : Calls Try.prog 13 #[.string l, .string s, .int .i64 n] w fun e w' =>
    e = .returned (.tuple #[.string ⟨(hdec l.data.toList s.data.toList n).1.toArray⟩, .int .i64 (hdec l.data.toList s.data.toList n).2]) ∧ Only [] w w' := by
  by_cases h0 : Huf.dep (Huf.ns l.data.toList) = 0
  · have hS : hdec l.data.toList s.data.toList n = ([], 1) := by unfold hdec; rw [if_pos h0]
    rw [hS]
    have HT := Lib.hid (refcodes_no w l hl h0)
    clear h0 hS
    go_enter Try.func13, Try.ntmps13
    go_wp2_with (first | (go_at_call 27; refine (HT.out).mono ?_; rintro e w2 ⟨rfl, rfl⟩))
    go_ret2
    exact ⟨rfl, Only.refl _ _⟩
  obtain ⟨d, hd⟩ : ∃ d, Huf.dep (Huf.ns l.data.toList) = d := ⟨_, rfl⟩
  have hg := Huf.dep_some hd (by omega)
  have HT := Lib.hid (refcodes_yes w l hl d hd (by omega))
  have hLl : (Huf.ns l.data.toList).length = l.size := by rw [Huf.ns_length, len_data]
  obtain ⟨S, hS⟩ : ∃ S, hdec l.data.toList s.data.toList n = S := ⟨_, rfl⟩
  rw [hS]
  unfold hdec at hS
  rw [if_neg h0, hd] at hS
  obtain ⟨L, hL⟩ : ∃ L, Huf.ns l.data.toList = L := ⟨_, rfl⟩
  simp only [hL] at hS hg HT hLl
  have HS := Lib.hid hS; have HG := Lib.hid hg; have HLL := Lib.hid hLl
  clear h0 hd hL hS hg hLl
  go_enter Try.func13, Try.ntmps13
  go_wp2_with fail
  refine HT.out.mono ?_
  rintro e w1 ⟨g, cap, rfl, hpb, hF, hcap, hcm, ho⟩
  have HPB := Lib.hid hpb; have HO := Lib.hid ho; have HCM := Lib.hid (And.intro hcap hcm)
  clear hpb ho HT hcap hcm
  by_cases h1 : n < 0
  · have hS := HS.out
    rw [if_pos (.inl h1)] at hS
    subst hS
    go_wp2
    go_ret2
    exact ⟨rfl, HO.out⟩
  by_cases h2 : 131072 < n
  · have hS := HS.out
    rw [if_pos (.inr h2)] at hS
    subst hS
    go_wp2
    go_ret2
    exact ⟨rfl, HO.out⟩
  obtain ⟨n, rfl⟩ := Int.eq_ofNat_of_zero_le (show 0 ≤ n by omega)
  have hS := HS.out
  rw [if_neg (by omega), Int.toNat_natCast] at hS
  subst hS
  have hn2 : n ≤ 1000 := by unfold NOk at hn; omega
  have HDC := Lib.hid (refstream_c w1 L d HG.out g l.size cap HLL.out HPB.out HCM.out.1 HCM.out.2 s hs n hn2)
  go_wp2_with (first | (go_at_call 28; refine (HDC.out).mono ?_; rintro e w2 ⟨rfl, hon⟩; have HON := Lib.hid hon; clear hon))
  go_ret2
  exact ⟨rfl, HO.out.then HON.out⟩
end Go.Proofs.Ytfckokdgmbbheaa.huf
