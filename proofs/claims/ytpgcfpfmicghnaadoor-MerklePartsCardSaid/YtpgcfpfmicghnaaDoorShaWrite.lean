/-
  THE WALK of Write.
-/
import Derived.Test.YtpgcfpfmicghnaaDoorShaHash
set_option linter.unusedVariables false
set_option linter.unusedSimpArgs false
namespace Go.Proofs.YtpgcfpfmicghnaaDoor.sha
open Go Go.RowKit Go.Lm

def slen : Value → Nat
  | .slice _ n _ => n
  | _ => 0

theorem src_of_bs {w : World} {a : Option Addr} {n cap : Nat} {r : List UInt8} (h : BS w (.slice a n cap) r) (hne : r ≠ []) : ∃ ad, a = some ad ∧ ∀ k j v, ((r.take k).map u8v)[j]? = some v → w.cell? (ad.add j) = some v := by
  obtain ⟨a', cap', he, _, _, _, hc⟩ := h
  simp only [Value.slice.injEq] at he
  obtain ⟨rfl, rfl, rfl⟩ := he
  obtain ⟨b, off, rfl, _⟩ := hc 0 (List.length_pos_iff.2 hne)
  refine ⟨_, rfl, fun k j v hj => ?_⟩
  have hjl : j < ((r.take k).map u8v).length := (List.getElem?_eq_some_iff.1 hj).1
  have hjr : j < r.length := by simp at hjl; omega
  obtain ⟨b', off', he, hcell⟩ := hc j hjr
  obtain ⟨rfl, rfl⟩ : b = b' ∧ off = off' := by simpa using he
  have hjk : j < k := by simp at hjl; omega
  rw [add_none, hcell, ← hj]
  simp [u8v, hjr, hjk]
theorem splice_take (K c : List UInt8) (n : Nat) (hK : K.length = 64) (hn : n + c.length ≤ 64) : (splice K n c).take (n + c.length) = K.take n ++ c := by
  unfold splice
  rw [← List.append_assoc, List.take_append_of_le_length (by simp; omega), List.take_of_length_le (by simp; omega)]

set_option maxRecDepth 100000 in
set_option maxHeartbeats 4000000 in
theorem write_c (b : Nat) (w : World) (l : List UInt8) (hb : HB w b l) (hT : Tab w) (hb0 : b ≠ 2) (v : Value) (m : List UInt8) (hv : BS w v m) (hvb : ∀ c, v.ownBlock = some c → m ≠ [] → c ≠ b) (hl : l.length + m.length ≤ 1000000000) :
    Calls Tryd.prog 46 #[.pointer (some ⟨b, 0, none⟩), v] w fun e w' => e = .returned (.tuple #[]) ∧ HB w' b (l ++ m) ∧ Only [b] w w' := by
  have HT := Lib.hid hT
  obtain ⟨K, hK, hKt, hr⟩ := hb
  have hs8 : (Sha.hsN l (l.length / 64)).length = 8 := (Sha.W8.hsN l _).1
  have c73 := hr.cell 73 _ (hcs_all _ K _ _ hs8 hK)
  have f73 := hr.free 73
  obtain ⟨ll, hll⟩ : ∃ ll, l.length = ll := ⟨_, rfl⟩
  obtain ⟨ml, hml⟩ : ∃ ml, m.length = ml := ⟨_, rfl⟩
  have HV := Lib.hid hv; have HVB := Lib.hid hvb
  obtain ⟨a, cap, rfl, hcap⟩ := hv
  rw [hll] at c73 hl
  rw [hml] at hl
  have w1 : IntKind.u64.wrap (ml : Int) = (ml : Int) := by rw [IntKind.wrap_u64]; omega
  obtain ⟨tot, htot⟩ : ∃ tot, ll + ml = tot := ⟨_, rfl⟩
  have w2 : ((ll : Int) + (ml : Int)) % 18446744073709551616 = (tot : Int) := by omega
  have w3 : IntKind.u64.wrap ((ll : Int) + (ml : Int)) = (tot : Int) := by rw [IntKind.wrap_u64]; exact w2
  have HTOT := Lib.hid htot
  have HK := Lib.hid hK; have HKT := Lib.hid hKt; have HR := Lib.hid hr; have HS8 := Lib.hid hs8; have HLL := Lib.hid hll; have HML := Lib.hid hml; have HL := Lib.hid hl
  rw [hml] at HV HVB ⊢
  clear hT hK hKt hr hs8 hll hml hvb hcap hl htot
  go_enter Tryd.func46, Tryd.ntmps46
  go_upto_region 2 with fail
  have hs := HR.out.set_all HS8.out HK.out tot
  have hos : Only [b] w (w.setCell ⟨b, 73, none⟩ (.int .u64 tot)) := (Only.refl _ _).setCell (.inl (by simp)) _
  generalize hgw : World.setCell _ _ _ = W at *
  have HW := Lib.hid hs; have HO := Lib.hid hos
  clear hgw hs hos c73 f73 w1 w2 w3 HR
  go_loopw [1] (fun x wr => ∃ (L r : List UInt8) (a : Option Addr) (cap : Nat), L ++ r = l ++ m ∧ x = .slice a r.length cap ∧ BS wr x r ∧ (∀ c, x.ownBlock = some c → r ≠ [] → c ≠ b) ∧ HA wr b L tot ∧ Only [b] w wr) (fun x _ => slen x)
  case atStart => exact ⟨l, m, a, cap, rfl, by rw [HML.out], HV.out.only HO.out (fun c h1 h2 => by simpa using HVB.out c h1 h2), HVB.out, ⟨K, HK.out, HKT.out, HW.out⟩, HO.out⟩
  case round =>
    obtain ⟨L, r, a', cap', hLr, rfl, hbs, hbb, ⟨K', hK', hKt', hr'⟩, ho'⟩ := hrel
    by_cases hne : r = []
    · subst hne
      have HLR := Lib.hid hLr; have HK' := Lib.hid hK'; have HKT' := Lib.hid hKt'; have HR' := Lib.hid hr'; have HO' := Lib.hid ho'
      clear hbs hbb hLr hK' hKt' hr' ho'
      go_wp2_with fail
      go_end0
      rw [List.append_nil] at HLR
      refine ⟨rfl, ?_, HO'.out⟩
      rw [← HLR.out]
      have e : tot = L.length := by rw [← HTOT.out, ← HLL.out, ← HML.out, HLR.out, List.length_append]
      exact ⟨K', HK'.out, HKT'.out, e ▸ HR'.out⟩
    · have hpos : 0 < r.length := List.length_pos_iff.2 hne
      have hs8 : (Sha.hsN L (L.length / 64)).length = 8 := (Sha.W8.hsN L _).1
      obtain ⟨n, hn⟩ : ∃ n, L.length % 64 = n := ⟨_, rfl⟩
      have hn64 : n < 64 := by omega
      have c72 := hr'.cell 72 _ (hcs_n _ K' _ _ hs8 hK')
      rw [hn] at c72 hr' hKt'
      have z1 : (0 : Int) < (r.length : Int) := by omega
      have z2 : (n : Int) ≤ 64 := by omega
      have z3 : (0 : Int) ≤ (n : Int) := by omega
      have z4 : ¬ 64 = n := by omega
      have HLR := Lib.hid hLr; have HK' := Lib.hid hK'; have HKT' := Lib.hid hKt'; have HR' := Lib.hid hr'; have HO' := Lib.hid ho'; have HBS := Lib.hid hbs; have HBB := Lib.hid hbb; have HN := Lib.hid hn; have HS8' := Lib.hid hs8; have HN64 := Lib.hid hn64; have HNE := Lib.hid hne
      clear hbs hbb hLr hK' hKt' hr' ho' hn hs8 hn64 hne hpos
      obtain ⟨ad, rfl, hsrc⟩ := src_of_bs HBS.out HNE.out
      obtain ⟨kk, hkk⟩ : ∃ kk, Nat.min r.length (64 - n) = kk := ⟨_, rfl⟩
      have hkk1 : 1 ≤ kk ∧ kk ≤ r.length ∧ n + kk ≤ 64 := by
        have := HN64.out
        have e := Nat.min_def (m := r.length) (n := 64 - n)
        have e' : Nat.min r.length (64 - n) = min r.length (64 - n) := rfl
        rw [← hkk, e']; omega
      obtain ⟨c, hc⟩ : ∃ c, r.take kk = c := ⟨_, rfl⟩
      have hclen : c.length = kk := by rw [← hc]; simp; omega
      obtain ⟨cs, hcv⟩ : ∃ cs, c.map u8v = cs := ⟨_, rfl⟩
      have hcsl : cs.length = kk := by rw [← hcv]; simpa using hclen
      have hsrc' := hsrc kk
      rw [hc, hcv] at hsrc'
      have hone : ∀ v ∈ cs, v.oneCell' = true := by
        intro v hv; rw [← hcv] at hv; simp only [List.mem_map] at hv; obtain ⟨_, _, rfl⟩ := hv; rfl
      have hfit : 8 + n + cs.length ≤ (hcs (Sha.hsN L (L.length / 64)) K' n tot).length := by
        rw [hcs_length _ _ _ _ HS8'.out HK'.out]; omega
      have HKK := Lib.hid hkk; have HKK1 := Lib.hid hkk1; have HC := Lib.hid hc; have HCLEN := Lib.hid hclen; have HCS := Lib.hid hcv; have HCSL := Lib.hid hcsl; have HSRC := Lib.hid hsrc'; have HONE := Lib.hid hone; have HFIT := Lib.hid hfit
      clear hkk hkk1 hc hclen hcv hcsl hsrc hsrc' hone hfit
      go_upto_region 3 with fail
      go_region_law (refine step_copy_only rfl (.tmp 27) (.tmp 28) 23 23 rfl 5 Tryd.underlying23 (by kernel_rfl) (some ⟨b, 8 + n, none⟩) (some ad) (64 - n) (64 - n) r.length cap' rfl rfl b (8 + n) _ _ HR'.out cs (HCSL.out.trans HKK.out.symm) (fun _ => ⟨rfl, ad, rfl, HSRC.out⟩) HFIT.out HONE.out ?_; intro w2 HG2 HO2)
      rw [HCSL.out]
      obtain ⟨K2, hK2⟩ : ∃ K2, splice K' n c = K2 := ⟨_, rfl⟩
      have hr2 : HR w2 b (Sha.hsN L (L.length / 64)) K2 n tot := by
        have := HG2.out
        rw [← HCS.out, hcs_kept _ _ _ _ _ _ HS8'.out HK'.out (by have := HCLEN.out; have := HKK1.out; omega), hK2] at this
        exact this
      have hK2l : K2.length = 64 := by rw [← hK2, length_splice _ _ _ (by have := HCLEN.out; have := HKK1.out; have := HK'.out; omega)]; exact HK'.out
      have hor2 : Only [b] wr w2 := (Only.drew (Only.refl [b] wr)).then HO2.out
      have ho2 : Only [b] w w2 := HO'.out.then hor2
      have hK2t : K2.take (n + kk) = L.drop (64 * (L.length / 64)) ++ c := by
        rw [← HKT'.out, ← hK2, ← HCLEN.out]
        exact splice_take K' c n HK'.out (by have := HCLEN.out; have := HKK1.out; omega)
      have c72 := hr2.cell 72 _ (hcs_n _ K2 _ _ HS8'.out hK2l)
      have f72 := hr2.free 72
      have hkk1 := HKK1.out
      obtain ⟨nk, hnk⟩ : ∃ nk, n + kk = nk := ⟨_, rfl⟩
      have e1 : (n : Int) + (kk : Int) = (nk : Int) := by omega
      have e2 : IntKind.i64.wrap ((n : Int) + (kk : Int)) = (nk : Int) := by rw [IntKind.wrap_i64]; omega
      have z5 : (nk : Int) ≤ 64 := by omega
      have z6 : (0 : Int) ≤ (nk : Int) := by omega
      have HOR2 := Lib.hid hor2
      have HR2 := Lib.hid hr2; have HK2L := Lib.hid hK2l; have HO2' := Lib.hid ho2; have HK2T := Lib.hid hK2t; have HNK := Lib.hid hnk
      clear hK2 hr2 hK2l ho2 hK2t hor2 HG2 HO2 HR' HO' hnk hkk1 HK' HKT'
      go_upto_region 5 with fail
      have hs3 := HR2.out.set_n HS8'.out HK2L.out nk
      have ho3 : Only [b] w (w2.setCell ⟨b, 72, none⟩ (.int .i64 nk)) := HO2'.out.setCell (.inl (by simp)) _
      have hor3 : Only [b] wr (w2.setCell ⟨b, 72, none⟩ (.int .i64 nk)) := HOR2.out.setCell (.inl (by simp)) _
      generalize World.setCell _ _ _ = w3 at *
      have c72 := hs3.cell 72 _ (hcs_n _ K2 _ _ HS8'.out HK2L.out)
      have f72 := hs3.free 72
      have hsl : ∀ w, (Instr.slice 23 (.slice (some ad) r.length cap') (some (.int .i64 kk)) none none).run Tryd.prog w = .ok (subv (some ad) cap' kk r.length) w := fun w => run_sub_l Tryd.underlying23 (by kernel_rfl) _ _ _ _ HKK1.out.2.1 w
      have hbs3 : BS w3 (subv (some ad) cap' kk r.length) (r.drop kk) := by
        have := BS.sub (HBS.out.only hor3 (fun c h1 h2 => by simpa using HBB.out c h1 h2)) kk r.length HKK1.out.2.1 (Nat.le_refl _)
        simpa using this
      have HR3 := Lib.hid hs3; have HO3 := Lib.hid ho3; have HBS3 := Lib.hid hbs3
      have HL2 : Hid ((L ++ c) ++ r.drop kk = l ++ m) := by rw [← HC.out, List.append_assoc, List.take_append_drop]; exact HLR.out
      have HBB2 : Hid (∀ q, (subv (some ad) cap' kk r.length).ownBlock = some q → r.drop kk ≠ [] → q ≠ b) := fun q hq _ => by
        rw [subv_block] at hq
        exact HBB.out q (by rw [ownBlock_slice]; exact hq) HNE.out
      clear hs3 ho3 hor3 hbs3 e1 e2 HR2 HO2' HOR2 HBS HBB HSRC HCS HCSL HONE HFIT HC
      by_cases hfull : nk = 64
      · have e64 : ((nk : Int) == 64) = true := by rw [beq_iff_eq]; omega
        have hKD : K2 = L.drop (64 * (L.length / 64)) ++ c := by
          rw [← HK2T.out, HNK.out, hfull, List.take_of_length_le (Nat.le_of_eq HK2L.out)]
        have hfl : L.length % 64 + c.length = 64 := by rw [HN.out, HCLEN.out, HNK.out, hfull]
        obtain ⟨q1, q2⟩ := Sha.part_full L c hfl
        have q3 := Sha.hsN_full L c K2 hfl hKD
        have h8 := Sha.W8.hsN L (L.length / 64)
        have h8' := h8.comp K2
        obtain ⟨s, hs⟩ : ∃ s, Sha.hsN L (L.length / 64) = s := ⟨_, rfl⟩
        rw [hs] at HR3 h8 h8' q3
        obtain ⟨S, hS⟩ : ∃ S, s.map u32v = S := ⟨_, rfl⟩
        obtain ⟨KV, hKV⟩ : ∃ KV, K2.map u8v = KV := ⟨_, rfl⟩
        have lS : S.length = 8 := by rw [← hS]; simpa using h8.1
        have lK : KV.length = 64 := by rw [← hKV]; simpa using HK2L.out
        have iS : (Tryd.prog.info? 85).map (·.size) = some S.length := by rw [lS]; kernel_rfl
        have iK : (Tryd.prog.info? 86).map (·.size) = some KV.length := by rw [lK]; kernel_rfl
        have oS : ∀ v ∈ S, v.oneCell' = true := by intro v hv; rw [← hS] at hv; simp only [List.mem_map] at hv; obtain ⟨_, _, rfl⟩ := hv; rfl
        have oK : ∀ v ∈ KV, v.oneCell' = true := by intro v hv; rw [← hKV] at hv; simp only [List.mem_map] at hv; obtain ⟨_, _, rfl⟩ := hv; rfl
        have r1 : w3.rangeAt b 0 S := range_of_block HR3.out 0 S (fun j v hj => by
          have hjl : j < s.length := by have := (List.getElem?_eq_some_iff.1 hj).1; rw [← hS] at this; simpa using this
          rw [Nat.zero_add, hcs_s _ _ _ _ _ hjl, ← hj, ← hS]; simp [hjl])
        have r2 : w3.rangeAt b 8 KV := range_of_block HR3.out 8 KV (fun j v hj => by
          have hjl : j < K2.length := by have := (List.getElem?_eq_some_iff.1 hj).1; rw [← hKV] at this; simpa using this
          rw [hcs_k _ _ _ _ h8.1 _ hjl, ← hj, ← hKV]; simp [hjl])
        have r3 : w3.there b 0 8 := there_of_block HR3.out 0 8 (by rw [hcs_length _ _ _ _ h8.1 HK2L.out]; omega)
        have hwith := fun W (h : Tab W) => with_c W h s h8 K2 HK2L.out
        rw [hS, hKV] at hwith
        obtain ⟨S', hS'⟩ : ∃ S', (Sha.comp s K2).map u32v = S' := ⟨_, rfl⟩
        rw [hS'] at hwith
        have lS' : S'.length = 8 := by rw [← hS']; simpa using h8'.1
        have hT3 : Tab w3 := HT.out.only HO3.out (by simpa using fun e => hb0 e.symm)
        have HWITH := Lib.hid hwith; have HT3 := Lib.hid hT3; have HS' := Lib.hid hS'; have HH8 := Lib.hid h8.1; have HH8' := Lib.hid h8'.1; have HQ1 := Lib.hid q1; have HQ2 := Lib.hid q2; have HQ3 := Lib.hid q3; have HS := Lib.hid hs
        clear hfull hKD hfl q1 q2 q3 h8 h8' hs hS hKV hwith hS' hT3
        have hu1 := Tryd.underlying85
        have hu2 := Tryd.underlying86
        go_upto_region 7 with fail
        refine wp_region_any (by kernel_rfl) ?_
        change wpAny _ _ _ _ _ _ _ (World.drew _)
        have HR4 : Hid (HR w3.drew b s K2 nk tot) := HR3.out
        have HO4 : Hid (Only [b] w w3.drew) := HO3.out.drew
        have HBS4 : Hid (BS w3.drew (subv (some ad) cap' kk r.length) (r.drop kk)) := HBS3.out
        have HT4 : Hid (Tab w3.drew) := HT3.out
        have r1' : w3.drew.rangeAt b 0 S := r1
        have r2' : w3.drew.rangeAt b 8 KV := r2
        have r3' : w3.drew.there b 0 8 := r3
        have R1 := Lib.hid r1'; have R2 := Lib.hid r2'; have R3 := Lib.hid r3'; have OS := Lib.hid oS; have IS := Lib.hid iS; have IK := Lib.hid iK; have LS' := Lib.hid lS'
        clear HR3 HO3 HBS3 HT3 r1 r2 r3 r1' r2' r3' oS oK iS iK lS'
        generalize w3.drew = w4 at *
        refine wpAny_take (i := 0) (oi := { dst := some 46, op := .move (.tmp 0), type := 76, pos := "sha.go:74", after := #[], guard := none }) (v := ?_) rfl (by kernel_rfl) (by kernel_rfl) (by kernel_rfl) (fun _ _ _ h => h) (Or.inl ⟨by rfl, by (intro w; go_simp; first | done | with_reducible rfl)⟩) ?_
        try simp only [Act.put, List.setIfInBounds_toArray, List.set_cons_zero, List.set_cons_succ]
        refine wpAny_take (i := 1) (oi := { dst := some 47, op := .move (.tmp 0), type := 76, pos := "sha.go:74", after := #[], guard := none }) (v := ?_) rfl (by kernel_rfl) (by kernel_rfl) (by kernel_rfl) (fun _ _ _ h => h) (Or.inl ⟨by rfl, by (intro w; go_simp; first | done | with_reducible rfl)⟩) ?_
        try simp only [Act.put, List.setIfInBounds_toArray, List.set_cons_zero, List.set_cons_succ]
        refine wpAny_take (i := 2) (oi := { dst := some 48, op := .nilCheck (.tmp 47), type := 0, pos := "sha.go:74", after := #[{ on := 1, ground := .data }], guard := none }) (v := ?_) rfl (by kernel_rfl) (by kernel_rfl) (by kernel_rfl) (fun _ _ _ h => h) (Or.inl ⟨by rfl, by (intro w; go_simp; first | done | with_reducible rfl)⟩) ?_
        try simp only [Act.put, List.setIfInBounds_toArray, List.set_cons_zero, List.set_cons_succ]
        refine wpAny_take (i := 3) (oi := { dst := some 49, op := .fieldAddr 88 (.tmp 48) 0, type := 0, pos := "sha.go:74", after := #[{ on := 2, ground := .data }], guard := none }) (v := ?_) rfl (by kernel_rfl) (by kernel_rfl) (by kernel_rfl) (fun _ _ _ h => h) (Or.inl ⟨by rfl, by (intro w; go_simp; first | done | with_reducible rfl)⟩) ?_
        try simp only [Act.put, List.setIfInBounds_toArray, List.set_cons_zero, List.set_cons_succ]
        refine wpAny_take (i := 5) (oi := { dst := some 51, op := .move (.tmp 0), type := 76, pos := "sha.go:74", after := #[], guard := none }) (v := ?_) rfl (by kernel_rfl) (by kernel_rfl) (by kernel_rfl) (fun _ _ _ h => h) (Or.inl ⟨by rfl, by (intro w; go_simp; first | done | with_reducible rfl)⟩) ?_
        try simp only [Act.put, List.setIfInBounds_toArray, List.set_cons_zero, List.set_cons_succ]
        refine wpAny_take (i := 6) (oi := { dst := some 52, op := .nilCheck (.tmp 51), type := 0, pos := "sha.go:74", after := #[{ on := 5, ground := .data }], guard := none }) (v := ?_) rfl (by kernel_rfl) (by kernel_rfl) (by kernel_rfl) (fun _ _ _ h => h) (Or.inl ⟨by rfl, by (intro w; go_simp; first | done | with_reducible rfl)⟩) ?_
        try simp only [Act.put, List.setIfInBounds_toArray, List.set_cons_zero, List.set_cons_succ]
        refine wpAny_take (i := 7) (oi := { dst := some 53, op := .fieldAddr 88 (.tmp 52) 1, type := 0, pos := "sha.go:74", after := #[{ on := 6, ground := .data }], guard := none }) (v := ?_) rfl (by kernel_rfl) (by kernel_rfl) (by kernel_rfl) (fun _ _ _ h => h) (Or.inl ⟨by rfl, by (intro w; go_simp; first | done | with_reducible rfl)⟩) ?_
        try simp only [Act.put, List.setIfInBounds_toArray, List.set_cons_zero, List.set_cons_succ]
        --@a
        refine wpAny_ready (rs := [4, 8]) (by kernel_rfl) (by simp) ?_
        --@i
        refine AllReady.cons (o := { dst := some 50, op := .load 85 (.tmp 49), type := 85, pos := "sha.go:74", after := #[{ on := 3, ground := .data }], guard := none }) rfl (fun K hK => ?_) ?_
        --@j
        rotate_left
        refine AllReady.cons (o := { dst := some 54, op := .load 86 (.tmp 53), type := 86, pos := "sha.go:74", after := #[{ on := 7, ground := .data }], guard := none }) rfl (fun K hK => ?_) ?_
        rotate_left
        exact AllReady.nil
        --@e
        focus
          rw [if_pos (by rfl)]
          --@f
          refine wp_load_mid 85 (.tmp 49) rfl b 0 (by rfl) S _ R1.out Tryd.underlying85 rfl IS.out ?_
          --@g
          refine hK _ _ ?_
          --@h
          clear hK K
          try simp only [Act.put, List.setIfInBounds_toArray, List.set_cons_zero, List.set_cons_succ]
          refine wpAny_ready (rs := [8]) (by kernel_rfl) (by simp) ?_
          refine AllReady.cons (o := { dst := some 54, op := .load 86 (.tmp 53), type := 86, pos := "sha.go:74", after := #[{ on := 7, ground := .data }], guard := none }) rfl (fun K hK => ?_) AllReady.nil
          rw [if_pos (by rfl)]
          refine wp_load_mid 86 (.tmp 53) rfl b 8 (by rfl) KV _ R2.out Tryd.underlying86 rfl IK.out ?_
          refine hK _ _ ?_
          clear hK K
          try simp only [Act.put, List.setIfInBounds_toArray, List.set_cons_zero, List.set_cons_succ]
        rotate_left
        focus
          rw [if_pos (by rfl)]
          refine wp_load_mid 86 (.tmp 53) rfl b 8 (by rfl) KV _ R2.out Tryd.underlying86 rfl IK.out ?_
          refine hK _ _ ?_
          clear hK K
          try simp only [Act.put, List.setIfInBounds_toArray, List.set_cons_zero, List.set_cons_succ]
          refine wpAny_ready (rs := [4]) (by kernel_rfl) (by simp) ?_
          refine AllReady.cons (o := { dst := some 50, op := .load 85 (.tmp 49), type := 85, pos := "sha.go:74", after := #[{ on := 3, ground := .data }], guard := none }) rfl (fun K hK => ?_) AllReady.nil
          rw [if_pos (by rfl)]
          refine wp_load_mid 85 (.tmp 49) rfl b 0 (by rfl) S _ R1.out Tryd.underlying85 rfl IS.out ?_
          refine hK _ _ ?_
          clear hK K
          try simp only [Act.put, List.setIfInBounds_toArray, List.set_cons_zero, List.set_cons_succ]
        --@b
        all_goals
          refine wpAny_ready (rs := [9]) (by kernel_rfl) (by simp) ?_
          refine AllReady.cons (o := { dst := some 55, op := .call { callee := .value (.func 54), args := #[.tmp 50, .tmp 54], argTypes := #[85, 86] }, type := 85, pos := "sha.go:74", after := #[{ on := 4, ground := .data }, { on := 8, ground := .data }], guard := none }) rfl (fun K hK => ?_) AllReady.nil
          go_simp
          refine (HWITH.out _ HT4.out).mono ?_
          rintro e w5 ⟨rfl, ho5⟩
          refine hK _ _ ?_
          clear hK K
          try simp only [Act.put, List.setIfInBounds_toArray, List.set_cons_zero, List.set_cons_succ]
          refine wpAny_take (i := 10) (oi := { dst := some 56, op := .nilCheck (.tmp 46), type := 0, pos := "sha.go:74", after := #[{ on := 0, ground := .data }, { on := 0, ground := .phase }, { on := 1, ground := .phase }, { on := 2, ground := .phase }, { on := 3, ground := .phase }, { on := 4, ground := .phase }, { on := 5, ground := .phase }, { on := 6, ground := .phase }, { on := 7, ground := .phase }, { on := 8, ground := .phase }, { on := 9, ground := .phase }], guard := none }) (v := ?_) rfl (by kernel_rfl) (by kernel_rfl) (by kernel_rfl) (fun _ _ _ h => h) (Or.inl ⟨by rfl, by (intro w; go_simp; first | done | with_reducible rfl)⟩) ?_
          try simp only [Act.put, List.setIfInBounds_toArray, List.set_cons_zero, List.set_cons_succ]
          refine wpAny_take (i := 11) (oi := { dst := some 57, op := .fieldAddr 88 (.tmp 56) 0, type := 0, pos := "sha.go:74", after := #[{ on := 10, ground := .data }, { on := 0, ground := .phase }, { on := 1, ground := .phase }, { on := 2, ground := .phase }, { on := 3, ground := .phase }, { on := 4, ground := .phase }, { on := 5, ground := .phase }, { on := 6, ground := .phase }, { on := 7, ground := .phase }, { on := 8, ground := .phase }, { on := 9, ground := .phase }], guard := none }) (v := ?_) rfl (by kernel_rfl) (by kernel_rfl) (by kernel_rfl) (fun _ _ _ h => h) (Or.inl ⟨by rfl, by (intro w; go_simp; first | done | with_reducible rfl)⟩) ?_
          try simp only [Act.put, List.setIfInBounds_toArray, List.set_cons_zero, List.set_cons_succ]
          --@c
          refine wpAny_ready (rs := [12]) (by kernel_rfl) (by simp) ?_
          refine AllReady.cons (o := { dst := none, op := .store 85 (.tmp 57) (.tmp 55), type := 0, pos := "sha.go:74", after := #[{ on := 11, ground := .data }, { on := 9, ground := .data }, { on := 9, ground := .chain }, { on := 0, ground := .phase }, { on := 1, ground := .phase }, { on := 2, ground := .phase }, { on := 3, ground := .phase }, { on := 4, ground := .phase }, { on := 5, ground := .phase }, { on := 6, ground := .phase }, { on := 7, ground := .phase }, { on := 8, ground := .phase }, { on := 9, ground := .phase }], guard := none }) rfl (fun K hK => ?_) AllReady.nil
          rw [if_pos (by rfl)]
          have hth := there_only R3.out ho5 (by simp)
          refine wp_store_mid 85 (.tmp 57) (.tmp 55) rfl b 0 S'.toArray (by rfl) (by rfl) (by simpa [LS'.out] using hth) (by rw [List.size_toArray, LS'.out]; kernel_rfl) (by rw [← HS'.out]; exact u32vs_one _) ?_
          refine hK _ _ ?_
          clear hK K hth
          refine wpAny_done (by kernel_rfl) ?_ _
          try simp only [Act.put, List.setIfInBounds_toArray, List.set_cons_zero, List.set_cons_succ]
          --@d
          have hr6 : HR (w5.setCells b 0 S'.toArray.toList) b (Sha.comp s K2) K2 nk tot := by
            have h1 : HR w5 b s K2 nk tot := HR4.out.only ho5 (by simp)
            have h2 := heap_setCells S' 0 w5 _ h1 (by rw [hcs_length _ _ _ _ HH8.out HK2L.out, LS'.out]; omega)
            rw [← HS'.out, hcs_state _ _ _ _ _ HH8.out HH8'.out, HS'.out] at h2
            exact h2
          have hon : Only [b] w4 (w5.setCells b 0 S'.toArray.toList) := only_setCells _ _ (ho5.mono (by simp)) (.inl (by simp))
          generalize w5.setCells b 0 _ = w6 at *
          have ho6 := HO4.out.then hon
          have hbs6 := HBS4.out.only hon (fun c h1 h2 => by simpa using HBB2.out c h1 h2)
          have c72 := hr6.cell 72 _ (hcs_n _ K2 _ _ HH8'.out HK2L.out)
          have f72 := hr6.free 72
          have HR6 := Lib.hid hr6; have HO6 := Lib.hid ho6; have HBS6 := Lib.hid hbs6
          clear hr6 ho6 hbs6 hon ho5 HR4 HO4 HBS4
          go_wp2_with fail
          have hs7 := HR6.out.set_n HH8'.out HK2L.out 0
          have ho7 : Only [b] w (w6.setCell ⟨b, 72, none⟩ (.int .i64 ((0 : Nat) : Int))) := HO6.out.setCell (.inl (by simp)) _
          have hbs7 := HBS6.out.only (S := [b]) (w' := w6.setCell ⟨b, 72, none⟩ (.int .i64 ((0 : Nat) : Int))) ((Only.refl _ _).setCell (.inl (by simp)) _) (fun c h1 h2 => by simpa using HBB2.out c h1 h2)
          rw [show ((0 : Nat) : Int) = 0 from rfl] at hs7 ho7 hbs7
          generalize World.setCell _ _ _ = w7 at *
          have HR7 := Lib.hid hs7; have HO7 := Lib.hid ho7; have HBS7 := Lib.hid hbs7
          clear hs7 ho7 hbs7 HR6 HO6 HBS6 c72 f72
          go_roundw
          case rel =>
            refine ⟨L ++ c, r.drop kk, (if cap' = kk then some ad else (some ad).map (·.add kk)), cap' - kk, HL2.out, by rw [List.length_drop]; rfl, HBS7.out, HBB2.out, ⟨K2, HK2L.out, ?_, ?_⟩, HO7.out⟩
            · rw [HQ2.out, HQ1.out]
              have : 64 * (L.length / 64 + 1) = (L ++ c).length := by have := HQ1.out; have := HQ2.out; omega
              rw [this]; simp
            · rw [HQ1.out, HQ2.out, HQ3.out]; exact HR7.out
          case measure => have := HKK1.out; simp [slen, subv]; omega
      · have e64 : ((nk : Int) == 64) = false := by rw [beq_eq_false_iff_ne]; omega
        have hfl : L.length % 64 + c.length < 64 := by rw [HN.out, HCLEN.out, HNK.out]; have := HKK1.out; have := HNK.out; omega
        obtain ⟨q1, q2⟩ := Sha.part_more L c hfl
        have HQ1 := Lib.hid q1; have HQ2 := Lib.hid q2
        clear hfull hfl q1 q2
        go_wp2_with fail
        go_roundw
        case rel =>
          refine ⟨L ++ c, r.drop kk, (if cap' = kk then some ad else (some ad).map (·.add kk)), cap' - kk, HL2.out, by rw [List.length_drop]; rfl, HBS3.out, HBB2.out, ⟨K2, HK2L.out, ?_, ?_⟩, HO3.out⟩
          · rw [HQ2.out, HQ1.out, HN.out, HCLEN.out, HK2T.out, Sha.drop_more]
          · rw [HQ1.out, HQ2.out, HN.out, HCLEN.out, HNK.out, Sha.hsN_append _ _ _ (by omega)]; exact HR3.out
        case measure => have := HKK1.out; simp [slen, subv]; omega
end Go.Proofs.YtpgcfpfmicghnaaDoor.sha
