/-
  THE WALK of ledger.Read.
-/
import Derived.Test.YthdcagdjgkblpaaDoorLedChunk
import Derived.Scope
import Derived.WalkMore
set_option linter.unusedVariables false
set_option linter.unusedSimpArgs false
namespace Go.Proofs.YthdcagdjgkblpaaDoor.led
open Go Go.RowKit Go.Lm Go.Shelf Go.Proofs.YthdcagdjgkblpaaDoor.cur Go.Proofs.YthdcagdjgkblpaaDoor.crc

attribute [local go_sem] Oper.semAt_some

/-- What a round keeps: all blocks below N but for two. -/
structure KpD (N o m : Nat) (A B : World) : Prop where
  os : B.os = A.os
  tape : B.tape = A.tape
  output : B.output = A.output
  size : A.heap.size ≤ B.heap.size
  block : ∀ k, k < N → k ≠ o → k ≠ m → B.heap[k]? = A.heap[k]?
theorem KpD.refl (N o m : Nat) (A : World) : KpD N o m A A := ⟨rfl, rfl, rfl, Nat.le_refl _, fun _ _ _ _ => rfl⟩
theorem KpD.trans {N o m : Nat} {A B C : World} (h : KpD N o m A B) (k : KpD N o m B C) : KpD N o m A C :=
  ⟨k.os.trans h.os, k.tape.trans h.tape, k.output.trans h.output, Nat.le_trans h.size k.size, fun i hi h1 h2 => (k.block i hi h1 h2).trans (h.block i hi h1 h2)⟩
theorem KpD.grown {N o m : Nat} {A B C : World} {row : Option Nat} (h : KpD N o m A B) (hA : N ≤ A.heap.size) (hg : B.grownBy C row) (hr : ∀ k, row = some k → N ≤ k ∨ k = o ∨ k = m) : KpD N o m A C :=
  ⟨hg.os.trans h.os, hg.tape.trans h.tape, hg.output.trans h.output, Nat.le_trans h.size hg.size, fun i hi h1 h2 =>
    (hg.block i (by have := h.size; omega) (fun e => by rcases hr i e.symm with h3 | h3 | h3 <;> omega)).trans (h.block i hi h1 h2)⟩
theorem KpD.only {N o m : Nat} {A B C : World} (h : KpD N o m A B) (hA : N ≤ A.heap.size) (ho : Only [] B C) : KpD N o m A C :=
  ⟨ho.os.trans h.os, ho.tape.trans h.tape, ho.output.trans h.output, Nat.le_trans h.size ho.size, fun i hi h1 h2 => (ho.block i (by have := h.size; omega) (by simp)).trans (h.block i hi h1 h2)⟩
theorem keeps_of_only {A B : World} (h : Only [] A B) : KeepsOthers A B := ⟨h.size, fun k o hk _ => (h.block k (Array.getElem?_eq_some_iff.1 hk).1 (by simp)).trans hk⟩

def cellsR (R : List (Nat × Nat)) : List Value := (R.map fun r => [Value.int .u8 (r.1 : Int), .int .u64 (r.2 : Int)]).flatten
theorem cellsR_snoc (R : List (Nat × Nat)) (r : Nat × Nat) : cellsR (R ++ [r]) = cellsR R ++ [.int .u8 (r.1 : Int), .int .u64 (r.2 : Int)] := by simp [cellsR]
/-- The records that parts are. -/
def recs (l : List UInt8) (pre : List Nat) : List (Nat × Nat) := pre.map fun j => (Led.one (Led.part l j)).getD (0, 0)
theorem recs_length (l : List UInt8) (pre : List Nat) : (recs l pre).length = pre.length := by simp [recs]
theorem recs_all (l : List UInt8) (k : Nat) (h : ∀ j ∈ List.range k, Led.one (Led.part l j) ≠ none) (h2 : Led.one (Led.part l k) = none) : Led.all l = recs l (List.range k) := by
  have hl : (recs l (List.range k)).length = k := by rw [recs_length, List.length_range]
  refine Led.all_of l _ (fun j hj => ?_) (by rw [hl]; exact h2)
  rw [hl] at hj
  have h3 := h j (List.mem_range.2 hj)
  obtain ⟨r, hr⟩ := Option.ne_none_iff_exists'.1 h3
  simp [recs, hr]

theorem grown_of_only {A B : World} (h : Only [] A B) : A.grownBy B none := ⟨h.os, h.tape, h.output, h.size, fun k hk _ => h.block k hk (by simp)⟩
theorem Boxed.only {A B : World} {b : Nat} {t : TypeId} {v : Value} (h : Boxed A b t v) (ho : Only [] A B) : Boxed B b t v := ho.heap h (by simp)
theorem row_only {A B : World} {n k : Nat} {e : TypeId} {v : Value} {xs : List Value} (h : A.ownsRow n e 2 v k xs) (ho : Only [] A B) : B.ownsRow n e 2 v k xs := h.kept (grown_of_only ho) (by
  cases hb : v.ownBlock with
  | none => exact .inl rfl
  | some g => exact .inr (by simp))
theorem two_new (w : World) (x y : Value) (t : TypeId) : ∀ j u, [x, y][j]? = some u → (w.alloc (.cells #[x, y] t)).cell? ((⟨w.heap.size, 0, none⟩ : Addr).add j) = some u := by
  intro j u hj
  match j, hj with
  | 0, hj =>
    simp at hj
    subst hj
    simp [Addr.add]
  | 1, hj =>
    simp at hj
    subst hj
    simp [Addr.add]
theorem row_mono {w : World} {B B' n : Nat} {e : TypeId} {v : Value} {xs : List Value} (h : w.ownsRow B e 2 v n xs) (hB : B' ≤ B) : w.ownsRow B' e 2 v n xs := by
  refine ⟨h.1, ?_⟩
  rcases h.2 with h0 | ⟨g, cap, cur, e1, e2, rest⟩
  · exact .inl h0
  · exact .inr ⟨g, cap, cur, e1, Nat.le_trans hB e2, rest⟩
theorem rec_appended {W w1 : World} {N o m' : Nat} {t e : TypeId} {v v' : Value} {k k' : Nat} {xs ys : List Value} {tmp : Obj}
    (hv : Boxed W o t v) (hte : t ≠ e) (hrow : W.ownsRow N e 2 v k xs) (hN : N ≤ W.heap.size) (hown' : w1.ownsRow N e 2 v' k' ys) (hgrow : (W.alloc tmp).grownBy w1 v.ownBlock) :
    Boxed w1 o t v ∧ Boxed (w1.setCell ⟨o, 0, none⟩ v') o t v' ∧ (w1.setCell ⟨o, 0, none⟩ v').ownsRow N e 2 v' k' ys ∧ KeepsOthers W (w1.setCell ⟨o, 0, none⟩ v') ∧ KpD N o m' W (w1.setCell ⟨o, 0, none⟩ v') := by
  obtain ⟨h1, h2, h3, h4, _⟩ := Go.Boxed.appended hv hte (row_mono hrow (Nat.zero_le _)) (Nat.zero_le _) (Nat.zero_le _) (row_mono hown' (Nat.zero_le _)) hgrow
  refine ⟨h1, h2, hown'.kept (grownBy_setCell' w1 o v') (.inr (h1.not_row hte hown').symm), h4, ?_⟩
  have g1 : KpD N o m' W (W.alloc tmp) := (KpD.refl N o m' W).grown hN (World.grownBy_alloc W tmp none) (fun k e => by cases e)
  have g2 := g1.grown hN hgrow (fun k e => .inl (World.ownsRow.lt hrow k e).1)
  exact g2.grown hN (grownBy_setCell' w1 o v') (fun k e => by cases e; exact .inr (.inl rfl))
theorem info_rec : (Tryd.prog.info? 32).map (fun i => (i.zero, i.size, i.bytes)) = some (some (.agg #[.int .u8 0, .int .u64 0]), 2, 16) := by kernel_rfl

/-- What a record's reader finds. -/
theorem one_cd (p L1 L2 : List UInt8) (E1 E2 : Int) (K V : Nat) (h1 : Cur.rnum p 0 1 = (L1, E1, K)) (h2 : Cur.rnum L1 E1 8 = (L2, E2, V)) :
    K < 256 ∧ V < 18446744073709551616 ∧ Led.one p = if (K = 1 ∨ K = 2) ∧ Led.put K V = p then some (K, V) else none := by
  cases p with
  | nil =>
    have e : Cur.rnum [] 0 1 = ([], 10, 0) := by decide
    rw [e] at h1
    simp only [Prod.mk.injEq] at h1
    obtain ⟨rfl, rfl, rfl⟩ := h1
    have e : Cur.rnum [] 10 8 = ([], 10, 0) := by decide
    rw [e] at h2
    simp only [Prod.mk.injEq] at h2
    obtain ⟨rfl, rfl, rfl⟩ := h2
    exact ⟨by decide, by decide, rfl⟩
  | cons c l =>
    have e : Cur.rnum (c :: l) 0 1 = (l, 0, c.toNat) := by
      have h : ¬ ((((c :: l).length : Nat) : Int) < 1) := by simp only [List.length_cons]; omega
      simp only [Cur.rnum, Cur.rtake]
      rw [if_neg (by simp), if_neg (by decide), if_neg h]
      simp [Cur.le]
    rw [e] at h1
    simp only [Prod.mk.injEq] at h1
    obtain ⟨rfl, rfl, rfl⟩ := h1
    have hc := c.toNat_lt
    rw [Led.one_cons]
    by_cases hl : l.length < 8
    · have e2 : Cur.rnum l 0 8 = (l, 10, 0) := by
        simp only [Cur.rnum, Cur.rtake]
        rw [if_neg (by simp), if_neg (by decide), if_pos (by omega)]
        rfl
      rw [e2] at h2
      simp only [Prod.mk.injEq] at h2
      obtain ⟨rfl, rfl, rfl⟩ := h2
      refine ⟨by omega, by decide, ?_⟩
      have hne : ∀ k v, Led.put k v ≠ c :: l := fun k v e => by
        have h3 := congrArg List.length e
        rw [Led.put_length, List.length_cons] at h3
        omega
      rw [if_neg (fun h => hne _ _ h.2), if_neg (fun h => hne _ _ h.2)]
    · have e2 : Cur.rnum l 0 8 = (l.drop 8, 0, Cur.le (l.take 8)) := by
        simp only [Cur.rnum, Cur.rtake]
        rw [if_neg (by simp), if_neg (by decide), if_neg (by omega)]
        rfl
      rw [e2] at h2
      simp only [Prod.mk.injEq] at h2
      obtain ⟨rfl, rfl, rfl⟩ := h2
      have h3 := Cur.le_lt (l.take 8)
      have h4 : 256 ^ (l.take 8).length ≤ 256 ^ 8 := Nat.pow_le_pow_right (by decide) (by simp; omega)
      exact ⟨by omega, by omega, rfl⟩

/-- What stands between two rounds; what stands when a round has left. -/
def IR (l : List UInt8) (o : Nat) (W0 : World) (pre : List Nat) (W : World) : Prop :=
  (∃ u, Boxed W o 24 u ∧ W.ownsRow (o + 4) 32 2 u (recs l pre).length (cellsR (recs l pre)) ∧ ∀ j ∈ pre, Led.one (Led.part l j) ≠ none) ∧ Boxed W (o + 1) 3 (.int .i64 (13 * pre.length : Nat)) ∧ KpD (o + 4) o (o + 1) W0 W
def IxR (l : List UInt8) (o : Nat) (W0 : World) (c : Code) (pre : List Nat) (W : World) : Prop :=
  ∃ ini x, pre = ini ++ [x] ∧ c = .exit 0 ∧ Led.one (Led.part l x) = none ∧ IR l o W0 ini W
theorem IR.from {l : List UInt8} {o : Nat} {W0 : World} (hA : o + 4 ≤ W0.heap.size) : OwnFrom W0.heap.size (IR l o W0) := by
  refine OwnFrom.and (Own.from (holdsRow_own (o + 4) o _ _ 2 (fun pre => (recs l pre).length) (fun pre => cellsR (recs l pre)) (fun pre _ => ∀ j ∈ pre, Led.one (Led.part l j) ≠ none)) _) (OwnFrom.and (Own.from (boxed_own (o + 1) 3 (fun pre : List Nat => .int .i64 (13 * pre.length : Nat))) _) ?_)
  intro s A B row hs hg hr
  exact hs.grown hA hg (fun k e => .inl (by have := (hr k e).1; omega))
theorem IxR.from {l : List UInt8} {o : Nat} {W0 : World} (hA : o + 4 ≤ W0.heap.size) (c : Code) : OwnFrom W0.heap.size (IxR l o W0 c) := by
  intro s A B row hs hg hr
  obtain ⟨ini, x, e1, e2, e3, h4⟩ := hs
  exact ⟨ini, x, e1, e2, e3, IR.from hA ini A B row h4 hg hr⟩

theorem only_of_kp {w W0 W : World} {o : Nat} (h : Only [] w W0) (ho : w.heap.size = o) (k : KpD (o + 4) o (o + 1) W0 W) : Only [] w W :=
  ⟨k.os.trans h.os, k.tape.trans h.tape, k.output.trans h.output, Nat.le_trans h.size k.size, fun i hi _ => (k.block i (by omega) (by omega) (by omega)).trans (h.block i hi (by simp))⟩

set_option maxRecDepth 100000 in
set_option maxHeartbeats 8000000 in
theorem read_c (w : World) (v : Value) (l : List UInt8) (hv : BS w v l) (hl : l.length ≤ 1000000) (hT : Tab w) : Calls Tryd.prog 10 #[v] w fun e w' =>
    (∃ u, e = .returned (.tuple #[u, .int .i64 (13 * (Led.all l).length : Nat)]) ∧ w'.ownsRow w.heap.size 32 2 u (Led.all l).length (cellsR (Led.all l))) ∧ Only [] w w' := by
  have HV := Lib.hid hv
  obtain ⟨a, cap, rfl, hc1, hc2, -⟩ := hv
  unfold maxLen at hc2
  refine (callsIn_wide (n := 9)).1 ?_
  refine callsIn_of_wp_marks Tryd.func10 rfl trivial ?_ rfl
  simp only [Tryd.ntmps10, List.size_toArray, List.length_cons, List.length_nil, Nat.reduceAdd, Nat.reduceSub, Array.replicate_succ, Array.replicate_zero, List.push_toArray, List.append_toArray, List.nil_append, List.cons_append]
  refine wpIn_wide.2 ?_
  go_wp2_with fail
  refine wp_scope_straight ?_
  go_wp2_with fail
  apply wp_label
  go_wp2_with fail
  refine (chunk_c _ a l.length cap).mono ?_
  rintro e w' ⟨rfl, rfl⟩
  go_wp2_with fail
  refine (wpIn_wide (n := 9)).1 ?_
  obtain ⟨o, ho⟩ : ∃ o, w.heap.size = o := ⟨_, rfl⟩
  have b1 := Boxed.new w 24 (.slice none 0 0)
  have b2 := Boxed.new (w.alloc (.cells #[.slice none 0 0] 24)) 3 (.int .i64 0)
  have b3 := Boxed.new ((w.alloc (.cells #[.slice none 0 0] 24)).alloc (.cells #[.int .i64 0] 3)) 22 (.slice a l.length cap)
  have b4 := Boxed.new (((w.alloc (.cells #[.slice none 0 0] 24)).alloc (.cells #[.int .i64 0] 3)).alloc (.cells #[.slice a l.length cap] 22)) 3 (.int .i64 13)
  have b1' := ((b1.alloc (.cells #[.int .i64 0] 3)).alloc (.cells #[.slice a l.length cap] 22)).alloc (.cells #[.int .i64 13] 3)
  have b2' := (b2.alloc (.cells #[.slice a l.length cap] 22)).alloc (.cells #[.int .i64 13] 3)
  have b3' := b3.alloc (.cells #[.int .i64 13] 3)
  have hO : Only [] w ((((w.alloc (.cells #[.slice none 0 0] 24)).alloc (.cells #[.int .i64 0] 3)).alloc (.cells #[.slice a l.length cap] 22)).alloc (.cells #[.int .i64 13] 3)) := ((((Only.refl [] w).alloc _).alloc _).alloc _).alloc _
  have hsz : ((((w.alloc (.cells #[.slice none 0 0] 24)).alloc (.cells #[.int .i64 0] 3)).alloc (.cells #[.slice a l.length cap] 22)).alloc (.cells #[.int .i64 13] 3)).heap.size = o + 4 := by simp; omega
  simp only [World.size_alloc, ho] at b1' b2' b3' b4 ⊢
  clear b1 b2 b3
  obtain ⟨W0, hW0⟩ : ∃ W0, (((w.alloc (.cells #[.slice none 0 0] 24)).alloc (.cells #[.int .i64 0] 3)).alloc (.cells #[.slice a l.length cap] 22)).alloc (.cells #[.int .i64 13] 3) = W0 := ⟨_, rfl⟩
  rw [hW0] at b1' b2' b3' b4 hO hsz ⊢
  clear hW0
  have HV0 := Lib.hid (HV.out.only hO (by simp))
  have HT0 : Hid (Tab W0) := hT.only hO (by simp)
  --@5
  have hseq : SeqStopsK Fence.wide 8 Tryd.prog 27 #[.pointer (some ⟨o + 1 + 1, 0, none⟩), .pointer (some ⟨o + 1 + 1 + 1, 0, none⟩)] (fun x : Nat => #[partV a l.length x]) (KpD (o + 4) o (o + 1))
      (fun ys => ys = List.range (parts l.length)) (fun pre => ∃ k, k < parts l.length ∧ pre = List.range (k + 1)) (parts l.length) W0 := by
    intro lp J Jx W hW hJ hJx hY h0
    have c3 := (hW.cell (p := ⟨o + 1 + 1, 0, none⟩) (by simp; omega)).trans b3'.cell
    have c4 := (hW.cell (p := ⟨o + 1 + 1 + 1, 0, none⟩) (by simp; omega)).trans b4.cell
    refine chunk1_in 8 (by decide) lp (o + 1 + 1) (o + 1 + 1 + 1) a l.length cap hl hc1 (by omega) (KpD (o + 4) o (o + 1)) (fun A B h => ⟨fun v hv => ?_, fun v hv => ?_⟩) J Jx (fun pre W' m hj => hJ pre W' _ none hj ⟨rfl, rfl, rfl, Nat.le_refl _, fun _ _ _ => rfl⟩ (fun r e => by cases e)) hY W c3 c4 h0
    · exact (World.cell?_of_block (h.block (o + 1 + 1) (by omega) (by omega) (by omega))).trans hv
    · exact (World.cell?_of_block (h.block (o + 1 + 1 + 1) (by omega) (by omega) (by omega))).trans hv
  --@6
  refine wpIn_rangeFunc_ownG rfl (by decide) (gf := 27) (lb := #[.pointer (some ⟨o + 1 + 1, 0, none⟩), .pointer (some ⟨o + 1 + 1 + 1, 0, none⟩)]) rfl trivial (enters_of Tryd.func27 (by kernel_rfl) rfl)
    hseq (fun h k => h.trans k) (fun W lb' x x' hlb hx hc hw => (KpD.refl _ _ _ W).grown (by have := (Array.getElem?_eq_some_iff.1 hx).1; omega) (grownBy_putObj' W lb' x') (fun k e => by cases e; left; omega)) (Below.refl _ _) (fun _ => rfl)
    (IR l o W0) (IxR l o W0)
    ?hI ?hIx ?h0 (fun x => { tmps := #[.slice a l.length cap, undef, .slice none 0 0, .int .i64 0, .pointer (some ⟨o, 0, none⟩), .pointer (some ⟨o + 1, 0, none⟩), partV a l.length x, undef, undef, undef, undef, .slice a l.length cap, .func (.func 27) #[] #[.pointer (some ⟨o + 1 + 1, 0, none⟩), .pointer (some ⟨o + 1 + 1 + 1, 0, none⟩)], partV a l.length x, undef, undef, undef, undef, undef, undef, undef, undef, undef, undef, undef, undef, undef, undef, undef, undef, undef, undef, undef, undef, undef, undef, undef, undef, undef, undef, undef, undef, undef, undef, undef, undef], defers := [] })
    ?assign ?body ?done ?stop
  case hI => exact IR.from (by omega)
  case hIx => exact fun c => IxR.from (by omega) c
  case h0 => exact ⟨⟨_, b1', World.ownsRow_nil _ _ _ _, fun j hj => by simp at hj⟩, b2', KpD.refl _ _ _ _⟩
  case assign =>
    intro lp x W K hK
    gi_wp2
    exact hK
  case done =>
    rintro D ys W hD rfl ⟨⟨u, hbu, hru, hall⟩, hbm, hkp⟩ hK
    have hall' : Led.all l = recs l (List.range (parts l.length)) := recs_all l _ hall (by rw [Led.part_nil _ _ (by unfold parts; omega)]; rfl)
    have hN : (List.range (parts l.length)).length = (Led.all l).length := by rw [hall', recs_length]
    have HN := Lib.hid hN
    rw [← hall'] at hru
    rw [hN] at hbm
    have HRU := Lib.hid hru; have HK := Lib.hid hK
    have HOW := Lib.hid (only_of_kp hO ho hkp)
    have c0 := hbu.cell; have f0 := hbu.frozen; have c1 := hbm.cell; have f1 := hbm.frozen
    clear hru hK hkp hbu hbm hall hall' hN
    simp only [Exit.inBlock, Exit.then, if_true]
    --@31
    go_wp2
    go_quiet (fail)
    rename_i nq
    --@32
    go_wp2
    --@33
    rw [Exit.noGoto_ret]
    have hK' : (W.drewN nq).heap[D]? = some (.deferred (some [])) := HK.out
    refine ⟨by simp, .inl ⟨_, _, rfl, run_takeDeferred hK', ?_⟩⟩
    refine ⟨.tuple #[u, .int .i64 (13 * (Led.all l).length)], ?_, ⟨u, by simp, row_mono (ownsRow_putObj (show (W.drewN nq).ownsRow (o + 4) 32 2 u (Led.all l).length (cellsR (Led.all l)) from HRU.out) _ hK' rfl) (by omega)⟩, ?_⟩
    · simp [results, Tryd.f10, go_sem]
    · have h2 : Only [] w (W.drewN nq) := HOW.out.drewN nq
      have h3 := (Only.of_grown (grownBy_putObj' (W.drewN nq) D (.deferred none)))
      exact h2.trans h3 (by simp) (fun k hk => .inr (by have : k = D := by simpa using hk
                                                        omega))
  case stop =>
    rintro D c pre W hD hsp ⟨ini, x, rfl, rfl, hnone, ⟨u, hbu, hru, hall⟩, hbm, hkp⟩ hK
    obtain ⟨k, hk, hpre⟩ := hsp
    rw [List.range_succ] at hpre
    obtain ⟨rfl, hx⟩ := List.append_inj' hpre rfl
    obtain rfl : x = k := by simpa using hx
    have hall' : Led.all l = recs l (List.range x) := recs_all l _ hall hnone
    have hN : (List.range x).length = (Led.all l).length := by rw [hall', recs_length]
    refine wpIn_exit ?_
    have HN := Lib.hid hN
    rw [← hall'] at hru
    rw [hN] at hbm
    have HRU := Lib.hid hru; have HK := Lib.hid hK
    have HOW := Lib.hid (only_of_kp hO ho hkp)
    have c0 := hbu.cell; have f0 := hbu.frozen; have c1 := hbm.cell; have f1 := hbm.frozen
    clear hru hK hkp hbu hbm hall hall' hN
    simp only [Exit.inBlock, Exit.then, if_true]
    --@41
    go_wp2
    go_quiet (fail)
    rename_i nq
    --@42
    go_wp2
    --@43
    rw [Exit.noGoto_ret]
    have hK' : (W.drewN nq).heap[D]? = some (.deferred (some [])) := HK.out
    refine ⟨by simp, .inl ⟨_, _, rfl, run_takeDeferred hK', ?_⟩⟩
    refine ⟨.tuple #[u, .int .i64 (13 * (Led.all l).length)], ?_, ⟨u, by simp, row_mono (ownsRow_putObj (show (W.drewN nq).ownsRow (o + 4) 32 2 u (Led.all l).length (cellsR (Led.all l)) from HRU.out) _ hK' rfl) (by omega)⟩, ?_⟩
    · simp [results, Tryd.f10, go_sem]
    · have h2 : Only [] w (W.drewN nq) := HOW.out.drewN nq
      have h3 := (Only.of_grown (grownBy_putObj' (W.drewN nq) D (.deferred none)))
      exact h2.trans h3 (by simp) (fun k hk => .inr (by have : k = D := by simpa using hk
                                                        omega))
  case body =>
    rintro lp pre x W ⟨⟨u, hbu, hru, hall⟩, hbm, hkp⟩ hpl
    rw [hsz]
    have hpl' : pre.length ≤ 77000 := by unfold parts at hpl; omega
    have hWs : o + 4 ≤ W.heap.size := by have := hkp.size; omega
    have hBW : BS W (.slice a l.length cap) l := HV0.out.kept fun p u hp hne hc => by
      have hlt := HV.out.lt hne hp
      exact (World.cell?_of_block (hkp.block p.block (by omega) (by omega) (by omega))).trans hc
    have hTW : Tab W := fun i hi => (World.cell?_of_block (hkp.block 0 (by omega) (by have := tab_zero hT; omega) (by omega))).trans (HT0.out i hi)
    have HBP := Lib.hid (BS.part hBW x)
    have HTW := Lib.hid hTW
    obtain ⟨P, hP⟩ : ∃ P, Led.part l x = P := ⟨_, rfl⟩
    have hPl : P.length ≤ 13 := by rw [← hP]; unfold Led.part; rw [List.length_take]; omega
    obtain ⟨⟨L1, E1, K⟩, hn1⟩ : ∃ t, Cur.rnum P 0 1 = t := ⟨_, rfl⟩
    obtain ⟨⟨L2, E2, V⟩, hn2⟩ : ∃ t, Cur.rnum L1 E1 8 = t := ⟨_, rfl⟩
    obtain ⟨hK256, hV64, hone⟩ := one_cd P L1 L2 E1 E2 K V hn1 hn2
    rw [hP] at HBP
    have HN1 := Lib.hid hn1; have HN2 := Lib.hid hn2; have HP := Lib.hid hP; have HONE := Lib.hid hone
    have HBU := Lib.hid hbu; have HRU := Lib.hid hru; have HBM := Lib.hid hbm; have HKP := Lib.hid hkp; have HALL := Lib.hid hall
    clear hBW hTW hn1 hn2 hP hone hbu hru hbm hkp hall hpl
    have hkw : IntKind.u8.wrap (K : Int) = (K : Int) := by rw [IntKind.wrap_u8]; omega
    obtain ⟨pv, hpv⟩ : ∃ pv, partV a l.length x = pv := ⟨_, rfl⟩
    rw [hpv] at HBP ⊢
    clear hpv
    --@8
    gi_wp2
    refine ⟨trivial, (CallsIn.inRound lp (callsIn_wide.2 (newreader_c W pv P HBP.out (by omega)))).mono ?_⟩
    rintro e W1 ⟨r, rfl, hr, ho1⟩
    have hWr : W.heap.size ≤ r := hr.1
    have HR1 := Lib.hid hr; have HO1 := Lib.hid ho1
    clear hr ho1
    --@9
    gi_wp2
    refine ⟨trivial, (CallsIn.inRound lp (callsIn_wide.2 (number_c W1 _ _ r 0 1 _ HR1.out))).mono ?_⟩
    rintro e W2 ⟨rfl, hr2, ho2⟩
    rw [HN1.out] at hr2 ⊢
    have HR2 := Lib.hid hr2; have HO2 := Lib.hid (Lm.only_own HO1.out ho2 hWr)
    clear hr2 ho2 HR1 HO1
    --@10
    gi_wp2
    refine ⟨trivial, (CallsIn.inRound lp (callsIn_wide.2 (number_c W2 _ _ r _ 8 _ HR2.out))).mono ?_⟩
    rintro e W3 ⟨rfl, hr3, ho3⟩
    dsimp only at hr3 ⊢
    rw [HN2.out] at hr3 ⊢
    have HO3 := Lib.hid (Lm.only_own HO2.out ho3 hWr)
    clear hr3 ho3 HR2 HO2
    dsimp only
    --@11
    gi_upto_region 7 with fail
    --@12
    have hrec : P2 (W3.alloc (.cells #[.int .u8 (K : Int), .int .u64 (V : Int)] 32 (0, 0))) W3.heap.size 32 (.int .u8 (K : Int)) (.int .u64 (V : Int)) := P2.new W3 _ _ _
    have HO4 : Hid (Only [] W (W3.alloc (.cells #[.int .u8 (K : Int), .int .u64 (V : Int)] 32 (0, 0)))) := HO3.out.alloc _
    have hq : W.heap.size ≤ W3.heap.size := HO3.out.size
    clear HO3
    generalize World.alloc W3 _ = W4 at *
    generalize W3.heap.size = q at *
    have HREC := Lib.hid hrec
    obtain ⟨c0, c1, cf⟩ := P2.cells hrec
    clear hrec
    -- how a round leaves by the break
    have hbreak : Led.one P = none → ∀ W', Only [] W W' → KeepsFrom (o + 4) W W' ∧ IxR l o W0 (.exit 0) (pre ++ [x]) W' :=
      fun h0 W' ho => ⟨(keeps_of_only ho).from _, pre, x, rfl, rfl, by rw [HP.out]; exact h0, ⟨u, Boxed.only HBU.out ho, row_only HRU.out ho, HALL.out⟩, Boxed.only HBM.out ho, HKP.out.only (by omega) ho⟩
    have HBR := Lib.hid hbreak
    clear hbreak
    by_cases hz : K = 0 ∧ V = 0
    · have h0 : Led.one P = none := by rw [HONE.out, if_neg (by omega)]
      have HF := Lib.hid (HBR.out h0)
      obtain ⟨rfl, rfl⟩ := hz
      --@13
      gi_wp2
      --@14
      exact HF.out _ HO4.out
    · have hznI : ¬ ((K : Int) = 0 ∧ (V : Int) = 0) := by omega
      by_cases hK0 : K = 0
      · have h0 : Led.one P = none := by rw [HONE.out, if_neg (by omega)]
        have HF := Lib.hid (HBR.out h0)
        have hV0 : ¬ (V : Int) = 0 := by omega
        have hV1 : ((V : Int) == 0) = false := by rw [beq_eq_false_iff_ne]; exact hV0
        subst hK0
        clear hz hznI h0
        gi_upto_region 8 with fail
        --@15
        gi_wp2
        --@16
        refine ⟨trivial, (CallsIn.inRound lp (callsIn_wide.2 (put_no W4 0 V (by omega)))).mono ?_⟩
        rintro e W5 ⟨rfl, ho5⟩
        have HO5 := Lib.hid (HO4.out.then ho5)
        clear ho5
        gi_wp2
        refine ⟨trivial, ?_⟩
        gi_wp2
        exact HF.out _ HO5.out
      · have hK1 : ¬ (K : Int) = 0 := by omega
        have hK2 : ((K : Int) == 0) = false := by rw [beq_eq_false_iff_ne]; exact hK1
        clear hznI hz
        by_cases hk : K = 1 ∨ K = 2
        · gi_wp2
          --@17
          refine ⟨trivial, (CallsIn.inRound lp (callsIn_wide.2 (put_yes W4 K V hk hV64 (HTW.out.only HO4.out (by simp))))).mono ?_⟩
          rintro e W5 ⟨pb, rfl, hov5, ho5⟩
          have HO5 := Lib.hid (HO4.out.then ho5)
          have HPB := Lib.hid (BS.of_vs hov5.vs)
          have hrec5 := HREC.out.only ho5 (by simp)
          have HREC5 := Lib.hid hrec5
          clear c0 c1 cf
          obtain ⟨c0, c1, cf⟩ := P2.cells hrec5
          clear ho5 hov5 hrec5 HO4 HREC
          gi_wp2
          --@18
          refine ⟨trivial, (CallsIn.inRound lp (callsIn_wide.2 (equal_c W5 pb pv (Led.put K V) P HPB.out (HBP.out.only HO5.out (by simp)) (by rw [Led.put_length]; decide)))).mono ?_⟩
          rintro e W6 ⟨rfl, ho6⟩
          --@19
          have HO6 := Lib.hid (HO5.out.then ho6)
          have hrec6 := HREC5.out.only ho6 (by simp)
          have hq6 : q < W6.heap.size := hrec6.lt
          clear c0 c1 cf
          obtain ⟨c0, c1, cf⟩ := P2.cells hrec6
          clear ho6 HO5 HPB HREC5 hrec6
          by_cases he : Led.put K V = P
          · have hb : (Led.put K V == P) = true := by rw [beq_iff_eq]; exact he
            have h0 : Led.one P = some (K, V) := by rw [HONE.out, if_pos ⟨hk, he⟩]
            rw [hb]
            have H0 := Lib.hid h0
            clear hb h0 he hk HBR
            have hbu6 := Boxed.only HBU.out HO6.out
            have hbm6 := Boxed.only HBM.out HO6.out
            have hru6 := row_only HRU.out HO6.out
            have hc0 := hbu6.cell
            have hcf := hbu6.frozen
            have hrl : (recs l pre).length = pre.length := recs_length l pre
            have HRL := Lib.hid hrl
            have hW6 : o + 4 ≤ W6.heap.size := by have := HO6.out.size; omega
            obtain ⟨i0, hi, hz0, hz1, hz2⟩ := info_parts info_rec
            have HI := Lib.hid hi; have HZ0 := Lib.hid hz0; have HZ1 := Lib.hid hz1; have HZ2 := Lib.hid hz2
            have HBU6 := Lib.hid hbu6; have HBM6 := Lib.hid hbm6; have HRU6 := Lib.hid hru6
            clear hi hz0 hz1 hz2 hbu6 hbm6 hru6 hrl
            --@20
            gi_wp2_with (gi_at_builtin; refine wpListIn_append_own _ rfl _ _ 24 rfl (o + 4) 32 i0 (.agg #[.int .u8 0, .int .u64 0]) 2 16 Tryd.underlying24 HI.out HZ0.out HZ1.out HZ2.out rfl (by decide) _ _ _ rfl (HRU6.out.alloc _) ⟨W6.heap.size, 0, none⟩ 1 1 [.int .u8 (K : Int), .int .u64 (V : Int)] rfl rfl (two_new _ _ _ _) (by simp [Value.oneCell']) (by rw [HRL.out]; unfold maxLen; omega) (by rw [HRL.out]; omega) (by simp; omega) ?_; intro v' w1 hown' hgrow _; obtain ⟨g', cap', rfl⟩ := ownsRow_succ hown'; obtain ⟨hv1, hv2, hr2, hk2, hb2⟩ := rec_appended (m' := o + 1) HBU6.out (by decide) HRU6.out hW6 hown' hgrow; have hm1 : Boxed (w1.setCell ⟨o, 0, none⟩ (.slice (some ⟨g', 0, none⟩) ((recs l pre).length + 1) cap')) (o + 1) 3 (.int .i64 (13 * pre.length : Nat)) := (Below.heap_setCell _ _ _ (o + 1) (by simp)).trans ((HBM6.out.alloc _).kept hgrow (HBM6.out.not_row (by decide) HRU6.out)); have hc1 := hv1.cell; have hf1 := hv1.frozen; have hmc := hm1.cell; have hmf := hm1.frozen; have HV2 := Lib.hid hv2; have HR2 := Lib.hid hr2; have HK2 := Lib.hid hk2; have HB2 := Lib.hid hb2; have HM1 := Lib.hid hm1; clear hv2 hr2 hk2 hb2 hm1 hown' hgrow hv1)
            --@21
            have hrx : recs l (pre ++ [x]) = recs l pre ++ [(K, V)] := by
              unfold recs
              rw [List.map_append, List.map_singleton, HP.out, H0.out]
              rfl
            have kp1 := ((KpD.refl (o + 4) o (o + 1) W).only hWs HO6.out).trans HB2.out
            have kpf := kp1.grown hWs (grownBy_setCell' _ (o + 1) (.int .i64 (13 * (pre.length : Int) + 13))) (fun k e => by cases e; exact .inr (.inr rfl))
            refine ⟨(((keeps_of_only HO6.out).trans HK2.out).trans (KeepsOthers.setCell _ _ _)).from _, kpf, ⟨_, (Below.heap_setCell _ _ _ o (by simp)).trans HV2.out, ?_, ?_⟩, ?_, HKP.out.trans kpf⟩
            · have h := HR2.out.kept (grownBy_setCell' _ (o + 1) (.int .i64 (13 * (pre.length : Int) + 13))) (.inr (HM1.out.not_row (by decide) HR2.out).symm)
              rw [hrx, cellsR_snoc, List.length_append]
              exact h
            · intro j hj
              rcases List.mem_append.1 hj with h | h
              · exact HALL.out j h
              · obtain rfl := List.mem_singleton.1 h
                rw [HP.out, H0.out]
                simp
            · have h := HM1.out.set (.int .i64 (13 * (pre.length : Int) + 13))
              rw [show ((13 * (pre ++ [x]).length : Nat) : Int) = 13 * (pre.length : Int) + 13 by rw [List.length_append]; simp; omega]
              exact h
          · have hb : (Led.put K V == P) = false := by rw [beq_eq_false_iff_ne]; exact he
            have h0 : Led.one P = none := by rw [HONE.out, if_neg (fun h => he h.2)]
            have HF := Lib.hid (HBR.out h0)
            rw [hb]
            clear hb h0 he
            gi_wp2
            exact HF.out _ HO6.out
        · have h0 : Led.one P = none := by rw [HONE.out, if_neg (fun h => hk h.1)]
          have HF := Lib.hid (HBR.out h0)
          gi_wp2
          refine ⟨trivial, (CallsIn.inRound lp (callsIn_wide.2 (put_no W4 K V hk))).mono ?_⟩
          rintro e W5 ⟨rfl, ho5⟩
          have HO5 := Lib.hid (HO4.out.then ho5)
          clear ho5
          gi_wp2
          refine ⟨trivial, ?_⟩
          gi_wp2
          exact HF.out _ HO5.out
end Go.Proofs.YthdcagdjgkblpaaDoor.led
