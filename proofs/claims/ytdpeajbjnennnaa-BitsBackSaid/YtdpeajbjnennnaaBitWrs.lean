/-
  BitsWrites, walked; pieces, opened.
-/
import Derived.Test.YtdpeajbjnennnaaBitFwd
import Derived.ChangeArms
set_option linter.unusedVariables false
set_option linter.unusedSimpArgs false
namespace Go.Proofs.Ytdpeajbjnennnaa.bit
open Go Go.RowKit Go.Lm Go.ChangeShapes Go.WideShapes

/-- One piece's cells. -/
structure PieceAt (w : World) (b off : Nat) (x : Nat) (n : Int) : Prop where
  c0 : w.cell? ⟨b, off, none⟩ = some (.int .u64 (x : Int))
  c1 : w.cell? ⟨b, off + 1, none⟩ = some (.int .i64 n)
  n0 : -9223372036854775808 ≤ n
  n1 : n ≤ 9223372036854775807
  hx : x < 18446744073709551616
def PIECES (w : World) (v : Value) (ts : List (Nat × Int)) : Prop :=
  ∃ a cap, v = .slice a ts.length cap ∧ ts.length ≤ cap ∧ cap ≤ maxLen ∧ ∀ k (h : k < ts.length), ∃ b off, a = some ⟨b, off, none⟩ ∧ PieceAt w b (off + k * 2) ts[k].1 ts[k].2
theorem PieceAt.kept {w w' : World} {b off x : Nat} {n : Int} (h : PieceAt w b off x n) (hk : ∀ k, k < w.heap.size → w'.heap[k]? = w.heap[k]?) : PieceAt w' b off x n := by
  have hcell : ∀ {p : Addr} {u : Value}, w.cell? p = some u → w'.cell? p = some u := by
    intro p u hc
    have hlt := World.block_lt_of_cell? w _ hc
    unfold World.cell? at hc ⊢
    rw [hk _ hlt]; exact hc
  exact ⟨hcell h.c0, hcell h.c1, h.n0, h.n1, h.hx⟩
theorem PieceAt.lt {w : World} {b off x : Nat} {n : Int} (h : PieceAt w b off x n) : b < w.heap.size := World.block_lt_of_cell? w _ h.c0

section
variable {H : Type} {enc : TypeId × Value → H}
theorem struct2 {P : Program} {w : World} {base : Nat} {spare : Nat → Bool} {held : Bool} {t : TypeId} {f0 f1 : Field} {fuel : Nat} {cs : List Value} {x : DataW H × List MemPlace} (ht : P.underlying t = some (.struct #[f0, f1])) (h : DataW.trod enc P w base spare held fuel t cs = some x) :
    ∃ y0 y1 n, DataW.trod enc P w base spare held n f0.type ((cs.drop f0.offset).take (P.cellsOf f0.type)) = some y0 ∧
      DataW.trod enc P w base spare held n f1.type ((cs.drop f1.offset).take (P.cellsOf f1.type)) = some y1 := by
  obtain ⟨xs, n, _, rfl, hl, hlen, hf⟩ := DataW.trod_struct ht h
  match xs, hlen with
  | [y0, y1], _ => exact ⟨y0, y1, n, by simpa using hf 0 f0 rfl, by simpa using hf 1 f1 rfl⟩
theorem piece_of_trod {W : World} {base fuel : Nat} {cs : List Value} {x : DataW H × List MemPlace} {a : Addr} (hc : W.cells? base a (Try.prog.cellsOf 61) = some cs)
    (hf : DataW.trod enc Try.prog W base (fun _ => true) true fuel 61 cs = some x) : ∃ t : Nat × Int, PieceAt W a.block a.off t.1 t.2 ∧ a = ⟨a.block, a.off, none⟩ := by
  have ce : Try.prog.cellsOf 61 = 2 := by kernel_rfl
  rw [ce] at hc
  obtain ⟨_, hlen, hcell⟩ := World.cells?_some hc
  obtain ⟨y0, y1, n, g0, g1⟩ := struct2 Try.underlying61 hf
  match cs, hlen with
  | [v0, v1], _ =>
    have k1 : Try.prog.cellsOf 3 = 1 := by kernel_rfl
    have k2 : Try.prog.cellsOf 34 = 1 := by kernel_rfl
    simp [k1, k2] at g0 g1
    have e0 := hcell 0 (by omega)
    have e1 := hcell 1 (by omega)
    have ha : a = ⟨a.block, a.off, none⟩ := addr_of_cell (by simpa [Addr.add] using e0)
    obtain ⟨z1, hz1, _, w1⟩ := DataW.trod_int Try.underlying34 g0
    obtain ⟨z2, hz2, _, w2⟩ := DataW.trod_int Try.underlying3 g1
    have h1 := wf_u64 w1
    have h2 := wf_i64 w2
    obtain ⟨z1, rfl⟩ := Int.eq_ofNat_of_zero_le h1.1
    obtain rfl : v0 = .int .u64 z1 := by simpa using hz1
    obtain rfl : v1 = .int .i64 z2 := by simpa using hz2
    rw [ha] at e0 e1
    rw [add_none] at e0 e1
    exact ⟨(z1, z2), ⟨e0, e1, h2.1, h2.2, by have := h1.2; show z1 < _; omega⟩, ha⟩
theorem PIECES.opened {W : World} {v : Value} {d : DataW H} {ps : List MemPlace} {base : Nat} (hv : Value.okWide Try.prog W .any base 56 v)
    (h : DataW.Trod enc Try.prog W 0 (fun _ => true) true 56 v d ps) : ∃ ts, PIECES W v ts := by
  obtain ⟨a0, len, cap, rfl⟩ := okWide_slice Try.underlying56 hv
  obtain ⟨fuel, hf⟩ := h
  have ce : Try.prog.cellsOf 61 = 2 := by kernel_rfl
  rcases Deep.open_slice Try.underlying56 hf with ⟨hcs, _⟩ | ⟨a, len', cap', m, n, D, Pl, hcs, _, hl, hm, hmm, _, hel⟩
  · have : a0 = none ∧ len = 0 ∧ cap = 0 := by simpa [Value.cells] using hcs
    obtain ⟨rfl, rfl, rfl⟩ := this
    exact ⟨[], none, 0, rfl, Nat.le_refl _, Nat.zero_le _, fun k h => by simp at h⟩
  · have : a0 = some a ∧ len = len' ∧ cap = cap' := by simpa [Value.cells] using hcs
    obtain ⟨rfl, rfl, rfl⟩ := this
    simp only [if_true] at hmm
    obtain ⟨f, hf'⟩ := Deep.choose_lt (n := len) (p := fun i (t : Nat × Int) => PieceAt W a.block (a.off + i * 2) t.1 t.2 ∧ a = ⟨a.block, a.off, none⟩) (fun i hi => by
      obtain ⟨cs', h1, h2⟩ := hel i (by omega)
      obtain ⟨t, ht, ha⟩ := piece_of_trod h1 h2
      rw [ce] at ht ha
      obtain ⟨t0, ht0, ha0⟩ := (fun (cs' : List Value) h1 h2 => piece_of_trod (cs := cs') h1 h2) _ (hel 0 (by omega)).choose_spec.1 (hel 0 (by omega)).choose_spec.2
      have ha1 : a = ⟨a.block, a.off, none⟩ := by simpa [Addr.add] using ha0
      refine ⟨t, ?_, ha1⟩
      rw [ha1] at ht
      rw [add_none] at ht
      exact ht)
    refine ⟨(List.range len).map f, some a, cap, by simp, by simpa using hl, hm, fun k hk => ?_⟩
    simp only [List.length_map, List.length_range] at hk
    obtain ⟨h1, h2⟩ := hf' k hk
    exact ⟨a.block, a.off, by rw [← h2], by simpa using h1⟩
end

/-- What a piece writes. -/
def pieceB (t : Nat × Int) : List Bool := if 1 ≤ t.2 ∧ t.2 ≤ 56 then Bt.low t.1 t.2.toNat else []
theorem pieceB_len (t : Nat × Int) : (pieceB t).length ≤ 56 := by
  unfold pieceB
  split
  · rw [Bt.low_length]; omega
  · simp
def outP (ts : List (Nat × Int)) (k : Nat) : List Bool := ((ts.take k).map pieceB).flatten
theorem outP_succ (ts : List (Nat × Int)) (k : Nat) (h : k < ts.length) : outP ts (k + 1) = outP ts k ++ pieceB ts[k] := by
  unfold outP
  rw [List.take_succ_eq_append_getElem h, List.map_append, List.flatten_append]
  simp only [List.map_cons, List.map_nil, List.flatten_cons, List.flatten_nil, List.append_nil]

theorem wown_lt {w : World} {B r : Nat} {n : Int} {D : List UInt8} (h : WX w B r n D) : ∀ g ∈ wown w r, g < w.heap.size := by
  obtain ⟨h1, v, h2, h3⟩ := h
  intro g hg
  rw [wown_eq h2] at hg
  exact (h3.lt (c := g) (by simpa using hg)).2
theorem wown_only {S : List Nat} {w w' : World} {r : Nat} (ho : Only S w w') (hr : r < w.heap.size) (hS : r ∉ S) : wown w' r = wown w r := by
  unfold wown
  rw [ho.block r hr hS]
theorem newwriter_o (w : World) : Calls Try.prog 25 #[] w fun e w' => e = .returned (.pointer (some ⟨w.heap.size, 0, none⟩)) ∧ WB w' w.heap.size w.heap.size [] ∧ wown w' w.heap.size = [] ∧ Only [] w w' := by
  go_enter Try.func25, Try.ntmps25
  go_wp2
  go_ret
  exact ⟨rfl, ⟨Nat.le_refl _, _, heap_alloc_new w _, OV.nil _ _ _⟩, wown_eq (heap_alloc_new w _), (Only.refl _ _).alloc _⟩

set_option maxHeartbeats 1000000 in
theorem refwrite_c (w : World) (v : Value) (L : List Bool) (hv : VS w v (bl L)) (x : Nat) (n : Int) (hx : x < 18446744073709551616) (hl : L.length ≤ 1000000) : Calls Try.prog 27 #[v, .int .u64 x, .int .i64 n] w fun e w' =>
    ∃ v', e = .returned v' ∧ OV w' w.heap.size 4 v' (bl (L ++ if 1 ≤ n ∧ n ≤ 56 then Bt.low x n.toNat else [])) ∧ Only [] w w' := by
  obtain ⟨i0, hi, hz0, hz1, hz2⟩ := info_parts info_bool
  have HI := Lib.hid hi; have HZ0 := Lib.hid hz0; have HZ1 := Lib.hid hz1; have HZ2 := Lib.hid hz2
  clear hi hz0 hz1 hz2
  obtain ⟨v1, w1, hrun1, hov1, hg1⟩ := run_append_vs (P := Try.prog) (ty := 29) Try.underlying29 HI.out HZ0.out HZ1.out HZ2.out rfl (OV.nil w w.heap.size 4) hv (bl_one L) (by simp [maxLen, bl_length]; omega) (by simp [bl_length]; omega) (Nat.le_refl _)
  rw [List.nil_append] at hov1
  obtain ⟨a0, cap0, rfl, -⟩ := hv
  obtain ⟨a1, n1, c1, rfl⟩ : ∃ a n c, v1 = .slice a n c := by obtain ⟨a, c, h, _⟩ := hov1.slice; exact ⟨a, _, c, h⟩
  have HOV1 := Lib.hid hov1; have HO1 := Lib.hid (Only.of_grown hg1); have HRUN1 := Lib.hid hrun1
  clear hov1 hg1 hrun1
  by_cases hn56 : 56 < n
  · rw [if_neg (by omega), List.append_nil]
    go_enter Try.func27, Try.ntmps27
    go_wp2_with (at_builtin; refine wpList_append_run rfl _ _ _ rfl rfl rfl HRUN1.out ?_)
    go_ret
    exact ⟨_, rfl, HOV1.out, HO1.out⟩
  by_cases hn1 : n < 1
  · rw [if_neg (by omega), List.append_nil]
    go_enter Try.func27, Try.ntmps27
    go_wp2_with (at_builtin; refine wpList_append_run rfl _ _ _ rfl rfl rfl HRUN1.out ?_)
    refine wp_loop_rounds 1 ?_
    rw [rounds_succ]
    have hn0 : ¬ (0 : Int) < n := by omega
    go_wp2
    go_ret
    exact ⟨_, rfl, HOV1.out, HO1.out⟩
  rw [if_pos (by omega)]
  obtain ⟨n, rfl⟩ := Int.eq_ofNat_of_zero_le (show 0 ≤ n by omega)
  rw [Int.toNat_natCast]
  go_enter Try.func27, Try.ntmps27
  go_wp2_with (at_builtin; refine wpList_append_run rfl _ _ _ rfl rfl rfl HRUN1.out ?_)
  go_loopw [1, 7, 8] (fun y o i wr => ∃ k : Nat, k ≤ n ∧ i = .int .i64 k ∧ y = .int .u64 ((x / 2 ^ k : Nat) : Int) ∧ OV wr w.heap.size 4 o (bl (L ++ Bt.low x k)) ∧ Only [] w wr) (fun _ _ i _ => n - (intOf i).toNat)
  case atStart => exact ⟨0, Nat.zero_le _, rfl, by simp, by rw [Bt.low, List.append_nil]; exact HOV1.out, HO1.out⟩
  case round =>
    obtain ⟨k, hk, rfl, rfl, hov, hon⟩ := hrel
    obtain ⟨a, cap, hsl, _⟩ := hov.slice
    obtain ⟨m, hm⟩ : ∃ m, (bl (L ++ Bt.low x k)).length = m := ⟨_, rfl⟩
    have hmb : m ≤ 1000100 := by rw [← hm, bl_length, List.length_append, Bt.low_length]; omega
    rw [hm] at hsl
    subst hsl
    have HM := Lib.hid hm
    have HOV := Lib.hid hov; have HON := Lib.hid hon
    clear hov hon hm
    by_cases hkn : k < n
    · have hsn : L ++ Bt.low x (k + 1) = (L ++ Bt.low x k) ++ [x / 2 ^ k % 2 == 1] := by rw [Bt.low_snoc, List.append_assoc]
      have hnx : x / 2 ^ (k + 1) = x / 2 ^ k / 2 := by rw [Nat.div_div_eq_div_mul, Nat.pow_succ]
      have hY : x / 2 ^ k < 18446744073709551616 := Nat.lt_of_le_of_lt (Nat.div_le_self _ _) hx
      generalize x / 2 ^ k = Y at *
      have hodd := beq_odd Y
      generalize (Y % 2 == 1) = b at *
      obtain ⟨v', w', hrun, hov', hg⟩ := run_append_one (P := Try.prog) (ty := 29) (T := 4) (fr := (0, 0)) (u := .bool b) Try.underlying29 HI.out HZ0.out HZ1.out HZ2.out rfl HOV.out rfl (by simp only [HM.out, maxLen]; omega) (by simp only [HM.out]; omega) HON.out.size
      have hon' : Only [] w w' := (HON.out.alloc (.cells #[.bool b] 4)).trans (Only.of_grown hg) (by simp) (by
        intro c hc
        have := HOV.out.lt (c := c) (by simpa [eq_comm] using hc)
        exact .inr this.1)
      have e1 : bl (L ++ Bt.low x k) ++ [.bool b] = bl (L ++ Bt.low x (k + 1)) := by rw [hsn, bl_append (L ++ _)]; rfl
      rw [e1] at hov'
      have HOV' := Lib.hid hov'; have HON' := Lib.hid hon'; have HRUN := Lib.hid hrun; have HNX := Lib.hid hnx
      clear hov' hon' hrun hnx hg e1 hsn HOV HON HM
      go_wp2_with (at_builtin; refine wpList_append_run rfl _ _ _ rfl rfl rfl HRUN.out ?_)
      go_roundw
      case rel => exact ⟨k + 1, by omega, by go_num, by rw [HNX.out]; go_num, HOV'.out, HON'.out⟩
      case measure => simp [intOf]; omega
    · obtain rfl : k = n := by omega
      go_wp2
      go_ret
      exact ⟨_, rfl, HOV.out, HON.out⟩

theorem OW.keeps {w w' : World} {r : Nat} {B : Nat} {e : TypeId} {v : Value} {l : List Value} (h : OW w w' r) (hv : OV w B e v l) (hn : ∀ c, v.ownBlock = some c → c ≠ r ∧ c ∉ wown w r) : OV w' B e v l :=
  hv.only h.only fun c hc hm => by
    obtain ⟨h1, h2⟩ := hn c hc
    rcases List.mem_cons.1 hm with rfl | hm
    · exact h1 rfl
    · exact h2 hm

set_option maxRecDepth 100000 in
set_option maxHeartbeats 8000000 in
theorem writes_c (w : World) (v : Value) (ts : List (Nat × Int)) (hv : PIECES w v ts) : Calls Try.prog 7 #[v] w fun e w' => e = .returned (.bool true) ∧ Below w.heap.size w w' := by
  obtain ⟨a, cap, rfl, h1, h2, hat⟩ := hv
  have HAT := Lib.hid hat; clear hat
  unfold maxLen at h2
  by_cases hbig : 60 < ts.length
  · go_enter Try.func7, Try.ntmps7
    go_wp2_with fail
    refine (awake_c w).mono ?_
    rintro e w1 ⟨rfl, ho1⟩
    have HO1 := Lib.hid ho1; clear ho1
    go_wp2
    go_ret
    exact ⟨rfl, HO1.out.below (by simp) (Nat.le_refl _)⟩
  go_enter Try.func7, Try.ntmps7
  go_wp2_with fail
  refine (awake_c w).mono ?_
  rintro e w1 ⟨rfl, ho1⟩
  have HO1 := Lib.hid ho1; clear ho1
  go_wp2_with fail
  refine (newwriter_o w1).mono ?_
  rintro e w2 ⟨rfl, hw2, hwo, ho2⟩
  have hD : w.heap.size ≤ w1.heap.size := HO1.out.size
  have HO2 := Lib.hid (HO1.out.then ho2)
  have HW2 := Lib.hid hw2
  have HWO2 := Lib.hid hwo
  clear ho2 hw2 hwo HO1
  generalize w1.heap.size = D at *
  go_wp2_with fail
  go_loopw [5, 6] (fun o i wr => ∃ k : Nat, k ≤ ts.length ∧ i = .int .i64 k ∧ (outP ts k).length ≤ 56 * k ∧ WB wr D D (outP ts k) ∧ OV wr w.heap.size 4 o (bl (outP ts k)) ∧ (∀ c, o.ownBlock = some c → c ≠ D ∧ c ∉ wown wr D) ∧ Only [] w wr) (fun _ i _ => ts.length - (intOf i).toNat)
  case atStart => exact ⟨0, Nat.zero_le _, rfl, Nat.le_refl _, HW2.out, OV.nil _ _ _, fun c hc => by simp [Value.ownBlock] at hc, HO2.out⟩
  case round =>
    obtain ⟨k, hk, rfl, hlen, hwb, hov, hne, hor⟩ := hrel
    obtain ⟨ao, co, hso, -⟩ := hov.slice
    obtain ⟨mo, hmo⟩ : ∃ mo, (bl (outP ts k)).length = mo := ⟨_, rfl⟩
    rw [hmo] at hso
    subst hso
    clear hmo
    have HWB := Lib.hid hwb; have HOV := Lib.hid hov; have HNE := Lib.hid hne; have HOR := Lib.hid hor
    clear hwb hov hne hor HW2 HO2
    by_cases hkl : k < ts.length
    · obtain ⟨b, off, rfl, hact0⟩ := HAT.out k hkl
      have hs := outP_succ ts k hkl
      have hpl := pieceB_len ts[k]
      obtain ⟨⟨x, n⟩, hxn⟩ : ∃ t, ts[k] = t := ⟨_, rfl⟩
      rw [hxn] at hact0 hs hpl
      have HACT := Lib.hid hact0; have HS := Lib.hid hs
      have hx := hact0.hx
      have hlen2 : (outP ts (k + 1)).length ≤ 56 * (k + 1) := by rw [hs, List.length_append]; omega
      obtain ⟨c0, c1, -, -, -⟩ := hact0.kept (fun j hj => HOR.out.block j hj (by simp))
      have HX := Lib.hid hx
      clear hxn hact0 hs hpl hx
      go_wp2_with fail
      go_region_with (go_at_call 26; refine (write_o _ D D (outP ts k) (HWB.out.only (Only.drew (Only.refl [] wr))) x n HX.out (by omega)).mono ?_; rintro e w3 ⟨rfl, hw3, how3⟩)
      all_goals
        have how3' : OW wr w3 D := (OW.drew (OW.refl wr D)).trans how3
        have hdis := HNE.out
        have hcw : ∀ c, (Value.slice ao mo co).ownBlock = some c → c < wr.heap.size := fun c hc => (HOV.out.lt hc).2
        have hov3 : OV w3 w.heap.size 4 (.slice ao mo co) (bl (outP ts k)) := how3'.keeps HOV.out hdis
        have hne3 : ∀ c, (Value.slice ao mo co).ownBlock = some c → c ≠ D ∧ c ∉ wown w3 D := fun c hc => ⟨(hdis c hc).1, fun hm => by
          rcases how3'.own c hm with h | h
          · exact (hdis c hc).2 h
          · have := hcw c hc; omega⟩
        have ho3 : Only [] w w3 := only_below HOR.out (how3'.below HWB.out) hD
        have hw3' : WB w3 D D (outP ts (k + 1)) := by rw [HS.out]; exact hw3
        have HW3 := Lib.hid hw3'; have HO3 := Lib.hid ho3; have HOV3 := Lib.hid hov3
        clear hw3 how3 how3' hdis hcw hov3 hne3 ho3 hw3' c0 c1
        obtain ⟨c0, c1, -, -, -⟩ := HACT.out.kept (fun j hj => HO3.out.block j hj (by simp))
        go_wp2_with fail
        go_region_with (go_at_call 27; refine (refwrite_c _ _ (outP ts k) (HOV3.out.vs.only (Only.drew (Only.refl [] w3)) (by simp)) x n HX.out (by omega)).mono ?_; rintro e w4 ⟨v4, rfl, hov4, ho4⟩)
        all_goals
          have ho4' : Only [] w3 w4 := (Only.drew (Only.refl [] w3)).then ho4
          have hov4' : OV w4 w3.heap.size 4 v4 (bl (outP ts (k + 1))) := by rw [HS.out]; exact hov4
          have hDlt : D < w3.heap.size := HW3.out.lt
          have hne4 : ∀ c, v4.ownBlock = some c → c ≠ D ∧ c ∉ wown w4 D := fun c hc => by
            have h1 := (hov4'.lt hc).1
            refine ⟨by omega, fun hm => ?_⟩
            rw [wown_only ho4' hDlt (by simp)] at hm
            have := wown_lt HW3.out c hm
            omega
          have HNE4 := Lib.hid hne4
          have HOV4 := Lib.hid (hov4'.mono (B' := w.heap.size) HO3.out.size)
          have HW4 := Lib.hid (WX.only HW3.out ho4')
          have HO4 := Lib.hid (HO3.out.then ho4')
          clear ho4 ho4' hov4 hov4' hne4 c0 c1
          go_wp2
          go_roundw
          case rel => exact ⟨k + 1, by omega, by go_num, hlen2, HW4.out, HOV4.out, HNE4.out, HO4.out⟩
          case measure => simp [intOf]; omega
    · obtain rfl : k = ts.length := by omega
      have hL : (outP ts ts.length).length ≤ 10000 := by omega
      clear hlen HAT
      obtain ⟨L, hLe⟩ : ∃ L, outP ts ts.length = L := ⟨_, rfl⟩
      rw [hLe] at HWB HOV hL
      clear hLe
      go_wp2_with fail
      refine (closed_c wr D D L HWB.out (by omega)).mono ?_
      rintro e w3 ⟨v3, rfl, hov3, ho3⟩
      obtain ⟨a3, c3, hs3, -⟩ := hov3.slice
      obtain ⟨m3, hm3⟩ : ∃ m3, (List.map u8v (Bt.bytesOf (L ++ [true]))).length = m3 := ⟨_, rfl⟩
      rw [hm3] at hs3
      subst hs3
      clear hm3
      have HW3 := Lib.hid (WX.only HWB.out ho3)
      have HALL := Lib.hid (HOV.out.vs.only ho3 (by simp))
      have HC3 := Lib.hid (BS.of_vs hov3.vs)
      have HO3 := Lib.hid (HOR.out.then ho3)
      clear hov3 ho3 HWB HOV HOR HNE
      go_wp2_with fail
      have hO : Only [] w3 w3.drew := Only.drew (Only.refl [] w3)
      have HO := Lib.hid hO; clear hO
      have hsc := run_string_of_bytes (P := Try.prog) Try.underlying22 Try.underlying5 Try.underlying9 (HC3.out.only HO.out (by simp))
      go_region_with (first
        | (go_at_call 29; refine (out_c _ D D L (WX.only HW3.out HO.out) (by omega)).mono ?_; rintro e wN ⟨vN, rfl, hovN, hoN⟩; obtain ⟨aN, nN, cN, rfl⟩ := OV.isSlice hovN; have HBN := Lib.hid (BS.of_vs hovN.vs); replace HO := Lib.hid (HO.out.then hoN); replace hsc := run_string_of_bytes (P := Try.prog) Try.underlying22 Try.underlying5 Try.underlying9 (HC3.out.only HO.out (by simp)); have hsn := run_string_of_bytes (P := Try.prog) Try.underlying22 Try.underlying5 Try.underlying9 HBN.out; clear hoN hovN)
        | (go_at_call 27; refine (refwrite_c _ _ L (HALL.out.only HO.out (by simp)) 1 1 (by decide) (by omega)).mono ?_; rintro e wN ⟨vW, rfl, hovN, hoN⟩; obtain ⟨aW, nW, cW, rfl⟩ := OV.isSlice hovN; have HVW := Lib.hid hovN.vs; replace HO := Lib.hid (HO.out.then hoN); replace hsc := run_string_of_bytes (P := Try.prog) Try.underlying22 Try.underlying5 Try.underlying9 (HC3.out.only HO.out (by simp)); clear hoN hovN)
        | (go_at_call 30; (first | ((with_reducible refine (refbytes_c _ _ L (HALL.out.only HO.out (by simp)) (by omega)).mono ?_); rintro e wN ⟨rfl, hoN⟩) | ((refine (refbytes_c _ _ (L ++ [true]) HVW.out (by simp; omega)).mono ?_); rintro e wN ⟨rfl, hoN⟩)); replace HO := Lib.hid (HO.out.then hoN); replace hsc := run_string_of_bytes (P := Try.prog) Try.underlying22 Try.underlying5 Try.underlying9 (HC3.out.only HO.out (by simp)); (first | (have hbn := HBN.out.only hoN (by simp); have hsn := run_string_of_bytes (P := Try.prog) Try.underlying22 Try.underlying5 Try.underlying9 hbn; replace HBN := Lib.hid hbn; clear hbn) | skip); clear hoN))
      all_goals
        go_wp2
        go_ret
        exact ⟨rfl, (HO3.out.then HO.out).below (by simp) (Nat.le_refl _)⟩
end Go.Proofs.Ytdpeajbjnennnaa.bit
