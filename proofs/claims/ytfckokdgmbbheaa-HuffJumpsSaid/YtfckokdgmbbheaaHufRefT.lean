/-
  THE WALKS of the reference: the symbol that the next bits tell.
  THE WALKS of the reference: the symbols of a stream, Decode.
-/
import Derived.Test.YtfckokdgmbbheaaHufStream
import Derived.Test.YtfckokdgmbbheaaHufRefC
import Derived.Test.YtfckokdgmbbheaaBitBwd
import Derived.Deep.DeepCutAuto
set_option linter.unusedVariables false
set_option linter.unusedSimpArgs false
set_option maxRecDepth 20000
namespace Go.Proofs.Ytfckokdgmbbheaa.huf
open Go Go.RowKit Go.Lm Go.Proofs.Ytfckokdgmbbheaa.bit

/-- One bit more. -/
theorem last_one (B : List Bool) (t pos : Nat) (ht : t ≤ B.length) : last (B.take (t - pos)) (pos - t) 1 = (B.take (t - (pos + 1)), pos + 1 - t, ((B.take t).reverse.getD pos false).toNat) := by
  have h1 := last_msb B t pos 1 (pos - t) ht (by decide)
  have hk : ((t : Int) - (pos : Int)).toNat = t - pos := by omega
  rw [hk] at h1
  have h2 := last_bgo B ((t : Int) - (pos : Int)) 1 (by omega)
  have hx : (-((t : Int) - (pos : Int))).toNat = pos - t := by omega
  rw [hk, hx] at h2
  have hb : bgo ((t : Int) - (pos : Int)) 1 = (t : Int) - ((pos + 1 : Nat) : Int) := bgo_sub t pos 1 (by decide)
  rw [hb] at h2
  have e1 : (last (B.take (t - pos)) (pos - t) 1).1 = B.take (t - (pos + 1)) := by rw [h2.1]; congr 1; omega
  have e2 : (last (B.take (t - pos)) (pos - t) 1).2.1 = pos + 1 - t := by rw [h2.2]; omega
  have e3 : (last (B.take (t - pos)) (pos - t) 1).2.2 = ((B.take t).reverse.getD pos false).toNat := by
    rw [show ((1 : Nat) : Int) = 1 from rfl] at h1
    rw [h1]
    simp [Huf.msb]
  rw [← e1, ← e2, ← e3]

set_option maxHeartbeats 4000000 in
theorem refone_c (w : World) (L : List Nat) (d : Nat) (hg : Huf.Good L d) (g cap0 : Nat) (hpb : PB w g 88 ((Huf.cods L d).map cv)) (hcap : L.length ≤ cap0) (hcm : cap0 ≤ maxLen)
    (B0 : List Bool) (t : Nat) (ht : t ≤ B0.length) (hB0 : B0.length ≤ 1000000) (p : Nat) (hp : p ≤ 100000) (a : Option Addr) (cap : Nat) (hv : VS w (.slice a (t - p) cap) (bl (B0.take (t - p))))
    (M : List Bool) (hM : (B0.take t).reverse = M) (s : Nat) (hs : Huf.sym L (Huf.msb M p d) = s) (q : Nat) (hq : p + Huf.nb L d s = q) : Calls Try.prog 48 #[.slice (some ⟨g, 0, none⟩) L.length cap0, .agg #[.slice a (t - p) cap, .int .i64 ((p - t : Nat) : Int)]] w fun e w' =>
    ∃ a' c', e = .returned (.tuple #[.agg #[.slice a' (t - q) c', .int .i64 ((q - t : Nat) : Int)], .int .u8 (s : Int)]) ∧ VS w' (.slice a' (t - q) c') (bl (B0.take (t - q))) ∧ Only [] w w' ∧ ∀ c, (Value.slice a' (t - q) c').ownBlock = some c → (Value.slice a (t - p) cap).ownBlock = some c := by
  have hok := Huf.sym_okay hg.deep M p
  have hone := Huf.one_only hg.deep M p
  have hhere := Huf.one_here hg.deep M p
  have hnb1 := Huf.nb_pos hg.deep s
  have hnbd : Huf.nb L d s ≤ d := by have := hok.2; rw [hs] at this; unfold Huf.nb; omega
  have hd11 := hg.eleven
  have hmost := hg.most
  rw [hs] at hok hhere
  simp only [hs] at hone
  obtain ⟨N, hN⟩ : ∃ N, L.length = N := ⟨_, rfl⟩
  obtain ⟨B, hB⟩ : ∃ B, Huf.nb L d s = B := ⟨_, rfl⟩
  rw [hB] at hhere hnb1 hnbd hq
  rw [hN] at hcap hmost hone ⊢
  have hcl : ((Huf.cods L d).map cv).length = N := by rw [List.length_map, Huf.cods_length, hN]
  have hsN : s < N := by rw [← hN]; exact hok.1
  have HCL := Lib.hid hcl
  have HCG : Hid (∀ k (h : k < N), ((Huf.cods L d).map cv)[k]'(by rw [HCL.out]; exact h) = cv (Huf.cod L d k)) := Lib.hid fun k h => by simp [Huf.cods]
  have hlast : ∀ pos, last (B0.take (t - pos)) (pos - t) 1 = (B0.take (t - (pos + 1)), pos + 1 - t, (M.getD pos false).toNat) := fun pos => by rw [← hM]; exact last_one B0 t pos ht
  have HONE := Lib.hid hone; have HHERE := Lib.hid hhere; have HB := Lib.hid hB; have HPB := Lib.hid hpb; have HV := Lib.hid hv; have HLAST := Lib.hid hlast; have HQ := Lib.hid hq; have HCM := Lib.hid (And.intro hcap hcm)
  obtain ⟨P, hP⟩ : ∃ P, t - p = P := ⟨_, rfl⟩
  obtain ⟨X, hX⟩ : ∃ X, p - t = X := ⟨_, rfl⟩
  have hXb : X ≤ 100000 := by omega
  have HP := Lib.hid hP; have HX := Lib.hid hX
  rw [hP] at HV ⊢
  rw [hX]
  obtain ⟨H, hH⟩ : ∃ H, w.heap.size = H := ⟨_, rfl⟩
  have HH := Lib.hid hH
  clear hone hhere hB hpb hv hlast hq hcl hok hM hs hN hcap hcm hP hX
  go_enter Try.func48, Try.ntmps48
  go_wp2_with fail
  have ho0 : Only [] w ((w.alloc (.cells #[.slice a P cap, .int .i64 (X : Nat)] 91)).alloc (.cells #[.slice none 0 0, .int .i64 0] 91)) := ((Only.refl [] w).alloc _).alloc _
  have hp0 : P2 ((w.alloc (.cells #[.slice a P cap, .int .i64 (X : Nat)] 91)).alloc (.cells #[.slice none 0 0, .int .i64 0] 91)) w.heap.size 91 (.slice a P cap) (.int .i64 (X : Nat)) := (P2.new w _ _ _).only ((Only.refl [] _).alloc _) (by simp)
  have hp1 : P2 ((w.alloc (.cells #[.slice a P cap, .int .i64 (X : Nat)] 91)).alloc (.cells #[.slice none 0 0, .int .i64 0] 91)) (w.heap.size + 1) 91 (.slice none 0 0) (.int .i64 0) := by
    have h := P2.new (w.alloc (.cells #[.slice a P cap, .int .i64 (X : Nat)] 91)) 91 (.slice none 0 0) (.int .i64 0)
    rwa [World.size_alloc] at h
  have hv0 := HV.out.only ho0 (by simp)
  rw [hH] at hp0 hp1
  have hltv : ∀ q, (Value.slice a P cap).ownBlock = some q → bl (B0.take P) ≠ [] → q < H := fun q hq hn => by rw [← hH]; exact HV.out.lt hn hq
  have HLTV := Lib.hid hltv
  have HO0 := Lib.hid ho0; have HP0 := Lib.hid hp0; have HP1 := Lib.hid hp1; have HV0 := Lib.hid hv0
  clear ho0 hp0 hp1 hv0 HV hH hltv
  --@1
  go_loopw [6, 7, 8, 9, 10] (fun c b _ _ _ wr => ∃ (j m x C : Nat) (A : Option Addr), j < B ∧ b = .int .i64 ((j : Int) + 1) ∧ c = .int .i64 (Huf.msb M p j : Nat) ∧ t - (p + j) = m ∧ p + j - t = x ∧ P2 wr H 91 (.slice A m C) (.int .i64 (x : Nat)) ∧ P2 wr (H + 1) 91 (.slice none 0 0) (.int .i64 0) ∧ VS wr (.slice A m C) (bl (B0.take m)) ∧ Only [] w wr ∧ ∀ q, (Value.slice A m C).ownBlock = some q → (Value.slice a P cap).ownBlock = some q) (fun _ b _ _ _ _ => 12 - (intOf b).toNat)
  case atStart => exact ⟨0, P, X, cap, a, hnb1, rfl, rfl, HP.out, HX.out, HP0.out, HP1.out, HV0.out, HO0.out, fun q h => h⟩
  case round =>
    obtain ⟨j, m, x, C, A, hjB, rfl, rfl, hm, hx, h0, h1, hv, hon, hown⟩ := hrel
    have hjd : j < 11 := by omega
    have hxb : x ≤ 100100 := by omega
    have hlen : ∀ z, (B0.take (t - z)).length = t - z := fun z => by rw [List.length_take]; omega
    have hlc := fun wx (ho : Only [] wr wx) => reflast_c wx A m C x 1 (B0.take m) (hv.only ho (by simp)) (by omega) (by rw [List.length_take]; omega)
    have hl := HLAST.out (p + j)
    rw [hm, hx] at hl
    simp only [hl, hlen] at hlc
    have hcode : Huf.msb M p (j + 1) = 2 * Huf.msb M p j + (M.getD (p + j) false).toNat := rfl
    have hml := Huf.msb_lt M p j
    have hmb : 2 ^ j ≤ 2 ^ 11 := Nat.pow_le_pow_right (by decide) (by omega)
    have hbl := Huf.toNat_le (M.getD (p + j) false)
    obtain ⟨bit, hbit⟩ : ∃ bit, (M.getD (p + j) false).toNat = bit := ⟨_, rfl⟩
    obtain ⟨m', hm'⟩ : ∃ m', t - (p + j + 1) = m' := ⟨_, rfl⟩
    obtain ⟨x', hx'⟩ : ∃ x', p + j + 1 - t = x' := ⟨_, rfl⟩
    simp only [hbit, hm', hx'] at hlc
    rw [hbit] at hcode hbl
    obtain ⟨cj, hcj⟩ : ∃ cj, Huf.msb M p j = cj := ⟨_, rfl⟩
    obtain ⟨ck, hck⟩ : ∃ ck, Huf.msb M p (j + 1) = ck := ⟨_, rfl⟩
    rw [hcj, hck] at hcode
    rw [hcj] at hml ⊢
    have hcjb : cj ≤ 2048 := Nat.le_trans (Nat.le_of_lt hml) hmb
    have hbw : IntKind.i64.wrap (bit : Int) = (bit : Int) := by rw [IntKind.wrap_i64]; omega
    have hcjI : (cj : Int) * 2 + (bit : Int) = (ck : Int) := by omega
    obtain ⟨d0, d1, df⟩ := P2.cells h0
    have HLC := Lib.hid hlc; have H0 := Lib.hid h0; have H1 := Lib.hid h1; have HV1 := Lib.hid hv; have HON := Lib.hid hon; have HOWN := Lib.hid hown; have HCK := Lib.hid hck; have HM' := Lib.hid hm'; have HX' := Lib.hid hx'
    clear hlc h0 h1 hv hon hown hck hm' hx' hl hcode hml hmb hcj hbit hm hx hlen HO0 HP0 HP1 HV0
    --@2
    go_wp2_with fail
    --@3
    refine (HLC.out _ (Only.refl _ _)).mono ?_
    rintro e w1 ⟨A', C', rfl, hv1, ho1, hown1⟩
    have hc0 := H0.out.only ho1 (by simp)
    have hc1 := H1.out.only ho1 (by simp)
    have hon1 := HON.out.then ho1
    have ho2 : Only [] w1 (w1.alloc (.cells #[.slice A' m' C', .int .i64 (x' : Nat)] 91)) := (Only.refl [] w1).alloc _
    have hn := P2.new w1 91 (.slice A' m' C') (.int .i64 (x' : Nat))
    have hc0' := hc0.only ho2 (by simp)
    have hc1' := hc1.only ho2 (by simp)
    obtain ⟨n0, n1, nf⟩ := P2.cells hn
    obtain ⟨e0, e1, ef⟩ := P2.cells hc0'
    have hne : H ≠ w1.heap.size := by have := hc0.lt; omega
    go_upto_region 7 with fail
    have hw0 := hc0'.set (.slice A' m' C') (.int .i64 (x' : Nat))
    have hos : Only [H] (w1.alloc (.cells #[.slice A' m' C', .int .i64 (x' : Nat)] 91)) (((w1.alloc (.cells #[.slice A' m' C', .int .i64 (x' : Nat)] 91)).setCell ⟨H, 0, none⟩ (.slice A' m' C')).setCell ⟨H, 1, none⟩ (.int .i64 (x' : Nat))) := only_set _ _ _ _
    have hw1 := hc1'.only hos (by simp)
    have hon3 := (hon1.then ho2).trans (S := []) hos (by simp) (by have := HH.out; simp; omega)
    have hv3 := (hv1.only ho2 (by simp)).only hos (by
      intro q hq hn
      have h1 := HOWN.out q (hown1 q hq)
      have h2 := HLTV.out q h1 (fun he => hn (by
        have h3 := congrArg List.length he
        rw [bl_length, List.length_take, List.length_nil] at h3
        have hle : m' ≤ P := by have := HM'.out; have := HP.out; omega
        refine List.eq_nil_of_length_eq_zero ?_
        rw [bl_length, List.length_take]
        omega))
      simp; omega)
    have hpb3 := HPB.out.only hon3 (by simp)
    obtain ⟨w3, hw3⟩ : ∃ w3, (((w1.alloc (.cells #[.slice A' m' C', .int .i64 (x' : Nat)] 91)).setCell ⟨H, 0, none⟩ (.slice A' m' C')).setCell ⟨H, 1, none⟩ (.int .i64 (x' : Nat))) = w3 := ⟨_, rfl⟩
    rw [hw3] at hw0 hw1 hon3 hv3 hpb3 ⊢
    obtain ⟨d0, d1, df⟩ := P2.cells hw0
    obtain ⟨r0, r1, rf⟩ := P2.cells hw1
    have HW0 := Lib.hid hw0; have HW1 := Lib.hid hw1; have HON3 := Lib.hid hon3; have HV3 := Lib.hid hv3; have HPB3 := Lib.hid hpb3; have HOWN3 : Hid (∀ q, (Value.slice A' m' C').ownBlock = some q → (Value.slice a P cap).ownBlock = some q) := Lib.hid fun q hq => HOWN.out q (hown1 q hq)
    clear hw0 hw1 hon3 hv3 hpb3 hos hw3 hc0 hc1 hon1 ho2 hn hc0' hc1' n0 n1 nf e0 e1 ef hne hv1 ho1 hown1 H0 H1 HV1 HON HOWN HLC
    --@4
    go_upto_region 9 with fail
    --@5
    go_loop [10] (fun i => ∃ k : Nat, k ≤ N ∧ i = .int .i64 (k : Int) ∧ (j + 1 = B → k ≤ s)) (fun i => N - (intOf i).toNat)
    case atStart => exact ⟨0, Nat.zero_le _, rfl, fun _ => Nat.zero_le _⟩
    case round =>
      obtain ⟨k, hk, rfl, hks⟩ := hrel
      by_cases hkN : k < N
      · have hcl := HPB3.out.cell k (by rw [HCL.out]; exact hkN)
        rw [HCG.out k hkN] at hcl
        have hon := HONE.out (j + 1) k hkN (by omega)
        have hhe := HHERE.out
        rw [HCK.out] at hon
        obtain ⟨⟨b, c⟩, hbc⟩ : ∃ z, Huf.cod L d k = z := ⟨_, rfl⟩
        rw [hbc] at hcl hon
        simp only [cv, Nat.mul_comm 2 k] at hcl
        obtain ⟨g0, g1⟩ := hcl
        by_cases hb : b = j + 1
        · subst hb
          by_cases hc : c = ck
          · subst hc
            obtain ⟨hks2, hjB2⟩ := hon rfl
            subst hks2
            have hu8 : IntKind.u8.wrap (k : Int) = (k : Int) := by rw [IntKind.wrap_u8]; omega
            --@6
            go_wp2_with fail
            refine bodyPost_ret (v := .tuple #[.agg #[.slice A' m' C', .int .i64 (x' : Nat)], .int .u8 (k : Int)]) (by rw [results_cell_tmp rfl]; go_simp) rfl ?_
            have hqm : t - q = m' := by have := HB.out; have := HQ.out; have := HM'.out; omega
            have hqx : q - t = x' := by have := HB.out; have := HQ.out; have := HX'.out; omega
            rw [hqm, hqx]
            refine ⟨A', C', rfl, ?_, ?_, HOWN3.out⟩
            · exact HV3.out.only (S := [H + 1]) (only_set _ _ _ _) (by
                intro q hq hn
                have h1 := HOWN3.out q hq
                have h2 := HLTV.out q h1 (fun he => hn (by
                  have h3 := congrArg List.length he
                  rw [bl_length, List.length_take, List.length_nil] at h3
                  have hle : m' ≤ P := by have := HM'.out; have := HP.out; omega
                  refine List.eq_nil_of_length_eq_zero ?_
                  rw [bl_length, List.length_take]
                  omega))
                simp; omega)
            · exact (HON3.out.setCell (.inr (by have := HH.out; simp; omega)) _).setCell (.inr (by have := HH.out; simp; omega)) _
          · have hcf : ((c : Int) == (ck : Int)) = false := by rw [beq_eq_false_iff_ne]; omega
            have HKS : Hid (j + 1 = B → k + 1 ≤ s) := Lib.hid fun h => by
              rcases Nat.lt_or_ge k s with h1 | h1
              · exact h1
              · exfalso
                have h2 : k = s := by have := hks h; omega
                rw [← h2, hbc] at hhe
                rw [← h, HCK.out] at hhe
                simp only [Prod.mk.injEq] at hhe
                exact hc hhe.2
            clear hon hhe hbc hks
            --@7
            go_wp2
            go_round
            case rel => exact ⟨k + 1, by omega, by go_num, HKS.out⟩
            case measure => simp [intOf]; omega
        · have hbf : ((b : Int) == (j : Int) + 1) = false := by rw [beq_eq_false_iff_ne]; omega
          have HKS : Hid (j + 1 = B → k + 1 ≤ s) := Lib.hid fun h => by
            rcases Nat.lt_or_ge k s with h1 | h1
            · exact h1
            · exfalso
              have h2 : k = s := by have := hks h; omega
              rw [← h2, hbc] at hhe
              simp only [Prod.mk.injEq] at hhe
              exact hb (by rw [hhe.1, h])
          clear hon hhe hbc hks
          --@8
          go_wp2
          go_round
          case rel => exact ⟨k + 1, by omega, by go_num, HKS.out⟩
          case measure => simp [intOf]; omega
      · obtain rfl : k = N := by omega
        have hjB2 : j + 1 < B := by
          rcases Nat.lt_or_ge (j + 1) B with h1 | h1
          · exact h1
          · have := hks (by omega); omega
        --@9
        go_wp2
        go_roundw
        case rel => exact ⟨j + 1, m', x', C', A', hjB2, by go_num, by rw [HCK.out], HM'.out, HX'.out, HW0.out, HW1.out, HV3.out, HON3.out, HOWN3.out⟩
        case measure => simp [intOf]; omega
end Go.Proofs.Ytfckokdgmbbheaa.huf

set_option linter.unusedVariables false
set_option linter.unusedSimpArgs false
set_option maxRecDepth 20000
namespace Go.Proofs.Ytfckokdgmbbheaa.huf
open Go Go.RowKit Go.Lm Go.Proofs.Ytfckokdgmbbheaa.bit

theorem toArray_of (l : List UInt8) : (⟨l.toArray⟩ : ByteArray).data.toList = l := by simp

set_option maxHeartbeats 4000000 in
theorem refstream_no (w : World) (g N cap0 : Nat) (s : ByteArray) (hs : s.size ≤ 100000) (n : Nat) (h0 : (s.data.toList.getLastD 0).toNat = 0) : Calls Try.prog 28 #[.slice (some ⟨g, 0, none⟩) N cap0, .string s, .int .i64 (n : Nat)] w fun e w' =>
    e = .returned (.tuple #[.string ⟨#[]⟩, .int .i64 11]) ∧ Only [] w w' := by
  have hN := refnew_no w s (last_none h0) (by omega)
  have HN := Lib.hid hN
  clear hN h0
  go_enter Try.func28, Try.ntmps28
  go_wp2_with fail
  refine HN.out.mono ?_
  rintro e w1 ⟨rfl, ho⟩
  have HO := Lib.hid ho
  clear ho
  go_wp2
  go_ret2
  exact ⟨rfl, HO.out.alloc _⟩

set_option maxHeartbeats 4000000 in
theorem refstream_yes (w : World) (L : List Nat) (d : Nat) (hg : Huf.Good L d) (g N cap0 : Nat) (hN : L.length = N) (hpb : PB w g 88 ((Huf.cods L d).map cv)) (hcap : N ≤ cap0) (hcm : cap0 ≤ maxLen)
    (s : ByteArray) (hs : s.size ≤ 100000) (n : Nat) (hn : n ≤ 1000) (h0 : (s.data.toList.getLastD 0).toNat ≠ 0) : Calls Try.prog 28 #[.slice (some ⟨g, 0, none⟩) N cap0, .string s, .int .i64 (n : Nat)] w fun e w' =>
    e = .returned (.tuple #[.string ⟨(sdec L d s.data.toList n).1.toArray⟩, .int .i64 (sdec L d s.data.toList n).2]) ∧ Only [] w w' := by
  obtain ⟨hne, hz⟩ := last_ne h0
  have htop := topOf_top h0
  have hnb := refnew_yes w s hne hz _ htop (by omega)
  have hls : s.data.toList.length = s.size := len_data s
  obtain ⟨b, hb⟩ : ∃ b, s.data.toList = b := ⟨_, rfl⟩
  simp only [hb] at h0 htop hnb hls ⊢
  obtain ⟨S, hS⟩ : ∃ S, sdec L d b n = S := ⟨_, rfl⟩
  rw [hS]
  unfold sdec at hS
  rw [if_neg h0] at hS
  have hlt := htop.lt
  rw [Bt.bitsOf_length, hls] at hlt
  have hd11 := hg.eleven
  have hM : ((Bt.bitsOf b).take (topOf b)).reverse = sbits b := rfl
  obtain ⟨t, ht⟩ : ∃ t, topOf b = t := ⟨_, rfl⟩
  obtain ⟨M, hMe⟩ : ∃ M, sbits b = M := ⟨_, rfl⟩
  rw [hMe] at hM
  simp only [ht, hMe] at hS hM hnb htop hlt
  obtain ⟨B0, hB0⟩ : ∃ B0, Bt.bitsOf b = B0 := ⟨_, rfl⟩
  rw [hB0] at hnb hM
  have hB0l : B0.length = 8 * s.size := by rw [← hB0, Bt.bitsOf_length, hls]
  have HNB := Lib.hid hnb; have HS := Lib.hid hS; have HM := Lib.hid hM; have HG := Lib.hid hg; have HN := Lib.hid hN; have HPB := Lib.hid hpb; have HCM := Lib.hid (And.intro hcap hcm); have HB0 := Lib.hid hB0l
  have hlt2 : t < B0.length := by omega
  have HLT := Lib.hid hlt2
  clear hnb hS hM hg hN hpb hcap hcm h0 hne hz htop hls hb ht hMe hB0 hB0l hlt2
  obtain ⟨H, hH⟩ : ∃ H, w.heap.size = H := ⟨_, rfl⟩
  have HH := Lib.hid hH
  clear hH
  go_enter Try.func28, Try.ntmps28
  go_wp2_with fail
  refine HNB.out.mono ?_
  rintro e w1 ⟨A, C, rfl, hv, ho, hown⟩
  have hv2 := hv.only ((Only.refl [] w1).alloc (.cells #[.slice A t C, .int .i64 0] 91)) (by simp)
  have hp2 := P2.new w1 91 (.slice A t C) (.int .i64 0)
  have ho2 : Only [] w (w1.alloc (.cells #[.slice A t C, .int .i64 0] 91)) := ho.alloc _
  have hpb2 := HPB.out.only ho2 (by simp)
  --@1
  go_wp2_with fail
  obtain ⟨K, hK⟩ : ∃ K, w1.heap.size = K := ⟨_, rfl⟩
  have hsz : (w1.alloc (.cells #[.slice A t C, .int .i64 0] 91)).heap.size = K + 1 := by rw [World.size_alloc, hK]
  obtain ⟨w2, hw2⟩ : ∃ w2, (w1.alloc (.cells #[.slice A t C, .int .i64 0] 91)) = w2 := ⟨_, rfl⟩
  rw [hw2] at hv2 hp2 ho2 hpb2 hsz ⊢
  rw [hK] at hp2 ⊢
  have hHK : H ≤ K := by have := ho.size; have := HH.out; omega
  have hown2 : ∀ c, (Value.slice A t C).ownBlock = some c → c < K := fun c hc => by have := hown c hc; omega
  have hgK : g < K := by have := HPB.out.lt; have := ho.size; omega
  have HV2 := Lib.hid hv2; have HP2 := Lib.hid hp2; have HO2 := Lib.hid ho2; have HPB2 := Lib.hid hpb2; have HSZ := Lib.hid hsz; have HHK := Lib.hid hHK; have HOWN := Lib.hid hown2; have HGK := Lib.hid hgK
  clear hv hv2 hp2 ho ho2 hpb2 hsz hown hown2 hHK hgK hw2 hK HNB HPB
  --@2
  go_loopw [10, 11, 12, 13] (fun o i _ _ wr => ∃ (k p m x C' : Nat) (A' : Option Addr), k ≤ n ∧ i = .int .i64 (k : Int) ∧ (Huf.dec L d M k).2 = p ∧ t - p = m ∧ p - t = x ∧ OV wr (K + 1) 5 o ((sv (Huf.dec L d M k).1).map u8v) ∧ P2 wr K 91 (.slice A' m C') (.int .i64 (x : Nat)) ∧
    VS wr (.slice A' m C') (bl (B0.take m)) ∧ PB wr g 88 ((Huf.cods L d).map cv) ∧ Only [] w wr ∧ K + 1 ≤ wr.heap.size ∧ ∀ c, (Value.slice A' m C').ownBlock = some c → c < K) (fun _ i _ _ _ => n - (intOf i).toNat)
  case atStart => exact ⟨0, 0, t, 0, C, A, Nat.zero_le _, rfl, rfl, by omega, by omega, OV.nil _ _ _, HP2.out, HV2.out, HPB2.out, HO2.out, by rw [HSZ.out]; exact Nat.le_refl _, HOWN.out⟩
  case round =>
    obtain ⟨k, p, m, x, C', A', hk, rfl, hp, hm, hx, hov, hp2, hv, hpb, hon, hsz, hown⟩ := hrel
    have hdl := Huf.dec_length L d M k
    have hds : Huf.dec L d M (k + 1) = ((Huf.dec L d M k).1 ++ [Huf.sym L (Huf.msb M (Huf.dec L d M k).2 d)], (Huf.dec L d M k).2 + Huf.nb L d (Huf.sym L (Huf.msb M (Huf.dec L d M k).2 d))) := rfl
    have hpl := dec_p_le (l := L) hd11 M k
    rw [hp] at hds hpl
    have hmb : m ≤ 1000000 := by have := HLT.out; have := HB0.out; omega
    have hxb : x ≤ 100000 := by omega
    obtain ⟨d0, d1, df⟩ := P2.cells hp2
    by_cases hkn : k < n
    · have hok := Huf.sym_okay HG.out.deep M p
      have hone := fun wx (ho : Only [] wr wx) => refone_c wx L d HG.out g cap0 (hpb.only ho (by simp)) (by rw [HN.out]; exact HCM.out.1) HCM.out.2 B0 t (Nat.le_of_lt HLT.out) (by rw [HB0.out]; omega) p (by omega) A' C' (by rw [hm]; exact hv.only ho (by simp)) M HM.out _ rfl _ rfl
      obtain ⟨s', hs'⟩ : ∃ s', Huf.sym L (Huf.msb M p d) = s' := ⟨_, rfl⟩
      simp only [hs', hm, hx, HN.out] at hone hds hok
      have hs256 : s' < 256 := Nat.lt_of_lt_of_le hok.1 HG.out.most
      obtain ⟨q, hq⟩ : ∃ q, p + Huf.nb L d s' = q := ⟨_, rfl⟩
      simp only [hq] at hone hds
      obtain ⟨m', hm'⟩ : ∃ m', t - q = m' := ⟨_, rfl⟩
      obtain ⟨x', hx'⟩ : ∃ x', q - t = x' := ⟨_, rfl⟩
      simp only [hm', hx'] at hone
      have HONE := Lib.hid hone; have HDS := Lib.hid hds; have HDL := Lib.hid hdl; have HOV3 := Lib.hid hov; have HP3 := Lib.hid hp2; have HV3 := Lib.hid hv; have HPB3 := Lib.hid hpb; have HON3 := Lib.hid hon; have HSZ3 := Lib.hid hsz; have HOWN3 := Lib.hid hown; have HM' := Lib.hid hm'; have HX' := Lib.hid hx'
      clear hone hds hdl hov hp2 hv hpb hon hsz hown hm' hx' hok hs' hq hm hx hp HV2 HP2 HO2 HPB2 HSZ HOWN
      --@3
      go_wp2_with fail
      --@4
      refine (HONE.out _ (Only.refl _ _)).mono ?_
      rintro e w3 ⟨A2, C2, rfl, hv3, ho3, hown3⟩
      have hp3 := HP3.out.only ho3 (by simp)
      have ho4 : Only [] w3 (w3.alloc (.cells #[.slice A2 m' C2, .int .i64 (x' : Nat)] 91)) := (Only.refl [] w3).alloc _
      have hp4 := hp3.only ho4 (by simp)
      have hn := P2.new w3 91 (.slice A2 m' C2) (.int .i64 (x' : Nat))
      obtain ⟨n0, n1, nf⟩ := P2.cells hn
      obtain ⟨e0, e1, ef⟩ := P2.cells hp4
      have hne : K ≠ w3.heap.size := by have := hp3.lt; omega
      go_upto_region 10 with fail
      --@5
      have hos : Only [K] (w3.alloc (.cells #[.slice A2 m' C2, .int .i64 (x' : Nat)] 91)) (((w3.alloc (.cells #[.slice A2 m' C2, .int .i64 (x' : Nat)] 91)).setCell ⟨K, 0, none⟩ (.slice A2 m' C2)).setCell ⟨K, 1, none⟩ (.int .i64 (x' : Nat))) := only_set _ _ _ _
      have hp5 := hp4.set (.slice A2 m' C2) (.int .i64 (x' : Nat))
      have ho5 : Only [K] wr (((w3.alloc (.cells #[.slice A2 m' C2, .int .i64 (x' : Nat)] 91)).setCell ⟨K, 0, none⟩ (.slice A2 m' C2)).setCell ⟨K, 1, none⟩ (.int .i64 (x' : Nat))) := (ho3.then ho4).trans hos (by simp) (by simp)
      have hown5 : ∀ c, (Value.slice A2 m' C2).ownBlock = some c → c < K := fun c hc => HOWN3.out c (hown3 c hc)
      have hv5 := (hv3.only ho4 (by simp)).only hos (fun c hc _ => by have := hown5 c hc; simp; omega)
      have hpb5 := HPB3.out.only ho5 (by have := HGK.out; simp; omega)
      have hov5 := HOV3.out.only ho5 (fun c hc => by have := (HOV3.out.lt hc).1; simp; omega)
      have hon5 := HON3.out.trans (S := []) ho5 (by simp) (by have := HHK.out; have := HH.out; simp; omega)
      have hsz5 := Nat.le_trans HSZ3.out ho5.size
      obtain ⟨w5, hw5⟩ : ∃ w5, (((w3.alloc (.cells #[.slice A2 m' C2, .int .i64 (x' : Nat)] 91)).setCell ⟨K, 0, none⟩ (.slice A2 m' C2)).setCell ⟨K, 1, none⟩ (.int .i64 (x' : Nat))) = w5 := ⟨_, rfl⟩
      rw [hw5] at hp5 hv5 hpb5 hov5 hon5 hsz5 ⊢
      clear hos ho5 hw5 ho4 hp3 hp4 hn n0 n1 nf e0 e1 ef hne hv3 ho3 hown3 d0 d1 df
      obtain ⟨i0, hi, hz0, hz1, hz2⟩ := info_parts info_u8
      obtain ⟨v', w6, hrun, hov6, hg6⟩ := run_append_one (P := Try.prog) (ty := 22) (T := 5) (fr := (0, 0)) (u := .int .u8 (s' : Int)) Try.underlying22 hi hz0 hz1 hz2 rfl hov5 rfl (by simp only [List.length_map, sv_length, HDL.out, maxLen]; omega) (by simp only [List.length_map, sv_length, HDL.out]; omega) hsz5
      have ho6 : Only u10.ownBlock.toList w5 w6 := ((Only.refl _ w5).alloc _).then (Only.of_grown hg6)
      have hin : ∀ i ∈ u10.ownBlock.toList, K + 1 ≤ i := fun i hi => by
        cases hu : u10.ownBlock with
        | none => rw [hu] at hi; simp at hi
        | some c => rw [hu] at hi; simp at hi; subst hi; exact (hov5.lt hu).1
      rw [← u8v_of s' hs256, show (sv (Huf.dec L d M k).1).map u8v ++ [u8v (UInt8.ofNat s')] = (sv ((Huf.dec L d M k).1 ++ [s'])).map u8v by rw [sv_snoc, List.map_append]; rfl] at hov6
      have hN1 : ∀ q, q ≤ K → q ∉ u10.ownBlock.toList := fun q hq hm => by have := hin q hm; omega
      have HRUN := Lib.hid hrun; have HOV6 := Lib.hid hov6
      have HP6 := Lib.hid (hp5.only ho6 (hN1 K (Nat.le_refl _)))
      have HV6 := Lib.hid (hv5.only ho6 (fun c hc _ => hN1 c (by have := hown5 c hc; omega)))
      have HPB6 := Lib.hid (hpb5.only ho6 (hN1 g (by have := HGK.out; omega)))
      have HON6 := Lib.hid (hon5.trans (S := []) ho6 (by simp) (fun q hq => .inr (by have := hin q hq; have := HHK.out; have := HH.out; omega)))
      have HSZ6 := Lib.hid (Nat.le_trans hsz5 ho6.size)
      have HOWN6 := Lib.hid hown5
      clear hrun hov6 hg6 ho6 hin hN1 hp5 hv5 hpb5 hov5 hon5 hsz5 hown5 hi hz0 hz1 hz2 HONE HOV3 HP3 HV3 HPB3 HON3 HSZ3 HOWN3
      go_wp2_with (at_builtin; refine wpList_append_run rfl _ _ _ rfl rfl rfl HRUN.out ?_)
      --@6
      go_roundw
      case rel => exact ⟨k + 1, q, m', x', C2, A2, by omega, by go_num, by rw [HDS.out], HM'.out, HX'.out, by rw [HDS.out]; exact HOV6.out, HP6.out, HV6.out, HPB6.out, HON6.out, HSZ6.out, HOWN6.out⟩
      case measure => simp [intOf]; omega
    · obtain rfl : k = n := by omega
      have hS := HS.out
      simp only [hp] at hS
      have hlf := fun wx => refleft_c wx A' m C' x (by omega) (by omega)
      have hstr := fun wx (ho : Only [] wr wx) => run_string_of_bytes (P := Try.prog) Try.underlying22 Try.underlying5 Try.underlying9 ((BS.of_vs hov.vs).only ho (by simp))
      have HSTR := Lib.hid hstr
      have HLF := Lib.hid hlf; have HON5 := Lib.hid hon
      have HP := Lib.hid (And.intro hm hx)
      obtain ⟨ao, co, hoe, -, -⟩ := hov.slice
      rw [List.length_map, sv_length, Huf.dec_length] at hoe
      subst hoe
      clear hlf hds hdl HS hov hp2 hv hpb hon hsz hown HV2 HP2 HO2 HPB2 HSZ HOWN hp hstr
      --@7
      go_wp2_with fail
      refine (HLF.out _).mono ?_
      rintro e w7 ⟨rfl, ho7⟩
      have HO7 := Lib.hid ho7
      have hs7 := HSTR.out w7 ho7
      obtain ⟨hm1, hx1⟩ := HP.out
      clear ho7
      by_cases h1 : t < p
      · rw [if_pos h1] at hS
        subst hS
        have hm0 : m = 0 := by omega
        have hx0 : 0 < x := by omega
        clear hs7 hm hx hm1 hx1
        go_wp2
        go_ret2
        exact ⟨rfl, HON5.out.then HO7.out⟩
      · rw [if_neg h1] at hS
        have hx0 : x = 0 := by omega
        by_cases h2 : p < t
        · rw [if_pos h2] at hS
          subst hS
          have hm0 : 0 < m := by omega
          clear hs7 hm hx hm1 hx1
          go_wp2
          go_ret2
          exact ⟨rfl, HON5.out.then HO7.out⟩
        · rw [if_neg h2] at hS
          subst hS
          have hm0 : m = 0 := by omega
          clear hm hx hm1 hx1
          go_wp2
          go_ret2
          exact ⟨rfl, HON5.out.then HO7.out⟩
end Go.Proofs.Ytfckokdgmbbheaa.huf

