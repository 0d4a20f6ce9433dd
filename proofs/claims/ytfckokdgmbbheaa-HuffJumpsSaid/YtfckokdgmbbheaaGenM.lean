/-
  REGIONS THAT DRAW THEIR ORDER AND WHOSE OPERATIONS MAKE MEMORY: an operation that yields one value in every later world may be taken first; behind each operation the world is any later one ('R': a preorder on worlds).
-/
import Derived.Test.YtfckokdgmbbheaaGen
import Derived.Deep.Quiet
import Derived.RegionTactic
import Derived.Laws.Rows
set_option linter.unusedVariables false
set_option linter.unusedSimpArgs false
namespace Go.Proofs.Ytfckokdgmbbheaa
open Go Go.RowKit Go.Lm

section
variable {P : Program} {ops : Array Oper} {Q : Exit → Act → World → Prop} {md : Region.Mode} {R : World → World → Prop}

/-- Operations that do not look at the world. -/
def dull (o : Oper) : Bool := match o.op with | .move _ | .assign _ | .pick _ _ _ | .fieldAddr _ _ _ | .indexAddr _ _ _ | .extract _ _ => true | _ => false
/-- In every world later than 'w0' (in every world, if it does not look at it) the operation yields 'v' and leaves a later world. -/
def YieldsOn (P : Program) (ops : Array Oper) (R : World → World → Prop) (o : Oper) (v : Value) (a : Act) (w0 : World) : Prop :=
  (Region.wanted o (yielded ops a.tmps) = true ∧ ∀ w, dull o = true ∨ R w0 w → o.quietAt P a (fun w' => R w w') w v) ∨ (Region.wanted o (yielded ops a.tmps) = false ∧ v = undef)

theorem YieldsOn.same {o : Oper} {v : Value} {a a' : Act} {w : World} (hy : YieldsOn P ops R o v a w) (he : execOp a'.eval o = execOp a.eval o)
    (hw : Region.wanted o (yielded ops a'.tmps) = Region.wanted o (yielded ops a.tmps)) : YieldsOn P ops R o v a' w := by
  unfold YieldsOn Oper.quietAt at *
  rw [he, hw]
  exact hy

/-- What has come up, all that it waits for has. -/
def closed (md : Region.Mode) (ops : Array Oper) (listed : Array Bool) : Prop := ∀ (k : Nat) (o : Oper), ops[k]? = some o → listed.getD k false = true → ∀ e ∈ o.after, Region.binds md e = true → listed.getD e.on false = true
theorem getD_flip {listed : Array Bool} {k : Nat} (h1 : listed.getD k true = false) (h0 : listed.getD k false = true) : False := by
  rcases Nat.lt_or_ge k listed.size with h' | h'
  · simp [h'] at h0 h1; rw [h0] at h1; cases h1
  · simp [Array.getElem?_eq_none h'] at h1
theorem closed_put {listed : Array Bool} {j : Nat} (hc : closed md ops listed) (hj : j ∈ Region.ready md ops listed) : closed md ops (listed.setIfInBounds j true) := by
  obtain ⟨hj0, oj, hoj, hja⟩ := mem_ready.1 hj
  intro k o ho hk e he hb
  by_cases hjk : j = k
  · subst hjk
    rw [hoj] at ho; cases ho
    exact getD_set_true (hja e he hb)
  · rw [getD_set_ne false hjk] at hk
    exact getD_set_true (hc k o ho hk e he hb)
theorem closed_none (n : Nat) : closed md ops (Array.replicate n false) := fun k o _ hk => by
  rcases Nat.lt_or_ge k n with h | h
  · simp [h] at hk
  · simp [Array.getElem?_eq_none (show (Array.replicate n false).size ≤ k by simpa using h)] at hk

/-- All that may come up without number 'i'. -/
def mwGo (md : Region.Mode) (ops : Array Oper) (i : Nat) : Nat → Nat → Array Bool → Array Bool
  | 0, _, l => l
  | f + 1, k, l => mwGo md ops i f (k + 1) (if (k != i && (match ops[k]? with | some o => o.after.all fun e => !Region.binds md e || l.getD e.on false | none => false)) = true then l.setIfInBounds k true else l)
def mw (md : Region.Mode) (ops : Array Oper) (i : Nat) : Array Bool := mwGo md ops i ops.size 0 (Array.replicate ops.size false)
def topoB (md : Region.Mode) (ops : Array Oper) : Bool := (List.range ops.size).all fun k => match ops[k]? with | some o => o.after.all fun e => !Region.binds md e || decide (e.on < k) | none => true
theorem topo_spec (h : topoB md ops = true) {k : Nat} {o : Oper} (ho : ops[k]? = some o) {e : Edge} (he : e ∈ o.after) (hb : Region.binds md e = true) : e.on < k := by
  have h1 := List.all_eq_true.1 h k (List.mem_range.2 (Array.getElem?_eq_some_iff.1 ho).1)
  simp only [ho] at h1
  have h2 := Array.all_eq_true_iff_forall_mem.1 h1 e he
  simpa [hb] using h2
theorem ite_size (c : Bool) (l : Array Bool) (k : Nat) : (if c = true then l.setIfInBounds k true else l).size = l.size := by cases c <;> simp
theorem ite_getD (c : Bool) {l : Array Bool} {k m : Nat} (h : l.getD m false = true) : (if c = true then l.setIfInBounds k true else l).getD m false = true := by
  cases c
  · exact h
  · exact getD_set_true h
theorem mwGo_spec (ht : topoB md ops = true) {listed : Array Bool} (hc : closed md ops listed) {i : Nat} (hi : listed.getD i true = false) :
    ∀ (f k : Nat) (l : Array Bool), k + f = ops.size → l.size = ops.size → (∀ m, m < k → m ≠ i → ∀ o, ops[m]? = some o → (∀ e ∈ o.after, Region.binds md e = true → listed.getD e.on false = true) → l.getD m false = true) →
      ∀ m, m ≠ i → ∀ o, ops[m]? = some o → (∀ e ∈ o.after, Region.binds md e = true → listed.getD e.on false = true) → (mwGo md ops i f k l).getD m false = true
  | 0, k, l, hk, _, hl => fun m hm o ho hd => hl m (by have := (Array.getElem?_eq_some_iff.1 ho).1; omega) hm o ho hd
  | f + 1, k, l, hk, hs, hl => by
    refine mwGo_spec ht hc hi f (k + 1) _ (by omega) (by rw [ite_size]; exact hs) ?_
    intro m hm hmi o ho hd
    by_cases hmk : m = k
    · subst hmk
      have hcond : (m != i && (match ops[m]? with | some o => o.after.all fun e => !Region.binds md e || l.getD e.on false | none => false)) = true := by
        simp only [ho, Bool.and_eq_true, bne_iff_ne, ne_eq]
        refine ⟨hmi, Array.all_eq_true_iff_forall_mem.2 fun e he => ?_⟩
        cases hb : Region.binds md e with
        | false => rfl
        | true =>
          have hlt := topo_spec ht ho he hb
          have hon := hd e he hb
          have hne : e.on ≠ i := fun h => getD_flip hi (h ▸ hon)
          obtain ⟨o2, ho2⟩ : ∃ o2, ops[e.on]? = some o2 := ⟨_, Array.getElem?_eq_getElem (by omega)⟩
          simpa using hl e.on hlt hne o2 ho2 (hc e.on o2 ho2 hon)
      rw [if_pos hcond]
      have : m < l.size := by have := (Array.getElem?_eq_some_iff.1 ho).1; omega
      simp [this]
    · have h0 := hl m (by omega) hmi o ho hd
      exact ite_getD _ h0
/-- Every other operation that looks at the world is one that it waits for, or that waits for it. -/
def lastB (md : Region.Mode) (ops : Array Oper) (j : Nat) : Bool := topoB md ops && (List.range ops.size).all fun i => i == j || (match ops[i]? with | some o => dull o | none => true) || !(mw md ops i).getD j false || !(mw md ops j).getD i false
theorem lastB_spec {listed : Array Bool} (hc : closed md ops listed) {i j : Nat} {oi : Oper} (hoi : ops[i]? = some oi) (hi : i ∈ Region.ready md ops listed) (hj : j ∈ Region.ready md ops listed) (hne : j ≠ i) (hl : lastB md ops j = true) : dull oi = true := by
  obtain ⟨hi0, oi', hoi', hia⟩ := mem_ready.1 hi
  obtain ⟨hj0, oj, hoj, hja⟩ := mem_ready.1 hj
  rw [hoi] at hoi'; cases hoi'
  unfold lastB at hl
  rw [Bool.and_eq_true] at hl
  have h1 := List.all_eq_true.1 hl.2 i (List.mem_range.2 (Array.getElem?_eq_some_iff.1 hoi).1)
  have m1 := mwGo_spec hl.1 hc hi0 ops.size 0 (Array.replicate ops.size false) (by omega) (by simp) (fun m hm => absurd hm (by omega)) j hne oj hoj hja
  have m2 := mwGo_spec hl.1 hc hj0 ops.size 0 (Array.replicate ops.size false) (by omega) (by simp) (fun m hm => absurd hm (by omega)) i (Ne.symm hne) oi hoi hia
  simp only [hoi, Bool.or_eq_true, beq_iff_eq, Bool.not_eq_true'] at h1
  unfold mw at h1
  rw [m1, m2] at h1
  simpa [Ne.symm hne] using h1

/-- Whatever comes up, from any later world. -/
def wpAnyM (P : Program) (md : Region.Mode) (ops : Array Oper) (Q : Exit → Act → World → Prop) (R : World → World → Prop) : Nat → Array Bool → Act → World → Prop
  | 0, listed, a, w => closed md ops listed → ∀ w', R w w' → Region.ready md ops listed = [] ∧ Q .normal a w'
  | fuel + 1, listed, a, w => closed md ops listed → ∀ w', R w w' → (Region.ready md ops listed = [] → Q .normal a w') ∧
      ∀ i ∈ Region.ready md ops listed, wpOp P ops Q i (fun a' w'' => (R w' w'' ∨ lastB md ops i = true) ∧ wpAnyM P md ops Q R fuel (listed.setIfInBounds i true) a' w'') a w'

theorem wpAny_of_M (hr : ∀ w, R w w) : ∀ (fuel : Nat) (listed : Array Bool) (a : Act) (w : World), closed md ops listed → wpAnyM P md ops Q R fuel listed a w → wpAny P md ops Q fuel listed a w
  | 0, _, _, w, hc, h => h hc w (hr w)
  | fuel + 1, _, _, w, hc, h => ⟨(h hc w (hr w)).1, fun i hi => wpOp_mono (fun a' w' h' => wpAny_of_M hr fuel _ a' w' (closed_put hc hi) h'.2) ((h hc w (hr w)).2 i hi)⟩

theorem wpAnyM_on (ht : ∀ a b c, R a b → R b c → R a c) : ∀ (fuel : Nat) (listed : Array Bool) (a : Act) (w w' : World), R w w' → wpAnyM P md ops Q R fuel listed a w → wpAnyM P md ops Q R fuel listed a w'
  | 0, _, _, _, _, hw, h => fun hc w2 h2 => h hc w2 (ht _ _ _ hw h2)
  | _ + 1, _, _, _, _, hw, h => fun hc w2 h2 => h hc w2 (ht _ _ _ hw h2)

/-- The operation itself, from a later world. -/
theorem YieldsOn.run (ht : ∀ a b c, R a b → R b c → R a c) {i : Nat} {o : Oper} {v : Value} {a : Act} {w w' : World} (hi : ops[i]? = some o) (hr : ∀ w, R w w) (hw : R w w') (hy : YieldsOn P ops R o v a w) {K : Act → World → Prop}
    (h : ∀ w'', R w' w'' → K (a.put o.dst v) w'') : wpOp P ops Q i K a w' := by
  have hh : qOp P ops (fun x => R w' x) i (fun a' => a' = a.put o.dst v) a := by
    unfold qOp
    rw [hi]
    show if Region.wanted o (yielded ops a.tmps) = true then _ else _
    rcases hy with ⟨hwd, hq⟩ | ⟨hwd, rfl⟩
    · rw [if_pos hwd]
      refine ⟨v, fun x hx => ?_, rfl⟩
      have h1 := hq x (.inr (ht _ _ _ hw hx))
      unfold Oper.quietAt at *
      generalize (execOp a.eval o).run P x = r at *
      cases r with
      | ok n x' =>
        cases n <;> simp only [Oper.quietUpon] at h1 ⊢
        case value => exact h1
        case skip => exact h1
        case enter => exact ⟨h1.1, h1.2.mono fun e y hy => ⟨hy.1, ht _ _ _ hx hy.2⟩⟩
      | halt => simp only [Oper.quietUpon] at h1
    · rw [if_neg (by simp [hwd])]
  exact wpOp_of_qOp (hr w') (fun a' x hx he => by subst he; exact h x hx) hh

theorem wpOp_putOn {j : Nat} {oi oj : Oper} {v : Value} (ht : ∀ a b c, R a b → R b c → R a c) (hj : ops[j]? = some oj) (hap : oi.apart ops oj = true)
    (hsi : ∀ cs b, oi.op ≠ .select cs b) (hsj : ∀ cs b, oj.op ≠ .select cs b)
    (hQ : ∀ c a w, Q (.panic c) (a.put oi.dst v) w → Q (.panic c) a w) {K : Act → World → Prop} {E : Prop} {a : Act} {w w' : World} (hw : R w w')
    (hd : dull oi = true ∨ E = False) (hy : YieldsOn P ops R oi v a w) (h : wpOp P ops Q j (fun a' w'' => (R w' w'' ∨ E) ∧ K a' w'') (a.put oi.dst v) w') :
    wpOp P ops Q j (fun a' w'' => (R w' w'' ∨ E) ∧ YieldsOn P ops R oi v a' w'' ∧ K (a'.put oi.dst v) w'') a w' := by
  obtain ⟨h1, h2, h3⟩ := Oper.apart_spec hap
  have on : ∀ (a : Act) (x : World), R w' x ∨ E → YieldsOn P ops R oi v a w → YieldsOn P ops R oi v a x := fun a x hx hy =>
    hy.imp (fun ⟨p, q⟩ => ⟨p, fun y hy => hd.elim (fun h => q y (.inl h)) fun hE => hy.elim (fun h => q y (.inl h)) fun hy => q y (.inr (ht _ _ _ (ht _ _ _ hw (hx.resolve_right (by rw [hE]; exact id))) hy))⟩) id
  have keep : ∀ (a : Act), YieldsOn P ops R oi v a w → ∀ u, YieldsOn P ops R oi v (a.put oj.dst u) w := fun a hy u =>
    hy.same (execOp_put oi hsi a oj.dst u h3) (wanted_put oi a oj.dst u h3)
  have fin : ∀ (b : Act) (x : World) (u : Value), YieldsOn P ops R oi v b w → ((R w' x ∨ E) ∧ K ((b.put oi.dst v).put oj.dst u) x) →
      (R w' x ∨ E) ∧ YieldsOn P ops R oi v (b.put oj.dst u) x ∧ K ((b.put oj.dst u).put oi.dst v) x := fun b x u hb hx =>
    ⟨hx.1, on _ x hx.1 (keep b hb u), by rw [← Act.put_comm b v u h2]; exact hx.2⟩
  unfold wpOp at *
  simp only [hj] at *
  rw [wanted_put oj a oi.dst v h1] at h
  split
  · rename_i hwd
    rw [if_pos hwd] at h
    rcases h with h | ⟨ha, hl⟩
    · refine .inl ?_
      unfold Oper.wp at *
      rw [execOp_put oj hsj a oi.dst v h1] at h
      generalize (execOp a.eval oj).run P w' = r at *
      cases r with
      | ok n x =>
        cases n <;> simp only [Oper.upon] at h ⊢
        case value u => exact fin a x u hy h
        case skip => exact fin a x _ hy h
        case defer d =>
          refine fin _ x _ (hy.same rfl rfl) ?_
          rw [← Act.put_defers]
          exact h
        case enter f args =>
          refine Calls.mono h fun e y he => ?_
          cases e with
          | returned u => exact fin a y u hy he
          | panicked c => exact hQ _ _ _ he
          | outgrown => exact he
        case row row args => exact Rows.mono h fun u y he => fin a y u hy he
      | halt e x =>
        cases e <;> simp only [Oper.upon] at h ⊢
        case panic u => exact hQ _ _ _ h
    · exact .inr ⟨by unfold Oper.asks at *; rw [execOp_put oj hsj a oi.dst v h1] at ha; exact ha, hl⟩
  · rename_i hwd
    rw [if_neg hwd] at h
    exact fin a w' undef hy h

/-- **It may be taken first.** -/
theorem wpAnyM_first (hrf : ∀ w, R w w) (ht : ∀ a b c, R a b → R b c → R a c) {i : Nat} {oi : Oper} {v : Value} (hi : ops[i]? = some oi) (hsel : ∀ (j : Nat) (o : Oper) cs b, ops[j]? = some o → o.op ≠ .select cs b)
    (hQ : ∀ c a w, Q (.panic c) (a.put oi.dst v) w → Q (.panic c) a w) :
    ∀ (fuel : Nat) (listed : Array Bool) (a : Act) (w : World),
      (∀ j oj, ops[j]? = some oj → j ≠ i → listed.getD j true = false → (∀ e ∈ oj.after, Region.binds md e = true → e.on ≠ i) → oi.apart ops oj = true) →
      i ∈ Region.ready md ops listed → YieldsOn P ops R oi v a w →
      wpAnyM P md ops Q R fuel (listed.setIfInBounds i true) (a.put oi.dst v) w → wpAnyM P md ops Q R (fuel + 1) listed a w
  | 0, listed, a, w, _, hr, hy, H => fun hc w' hw => by
    refine ⟨fun h => (by rw [h] at hr; cases hr), fun j hj => ?_⟩
    by_cases hji : j = i
    · subst hji
      exact hy.run ht hi hrf hw fun x hx => ⟨.inl hx, wpAnyM_on ht _ _ _ _ _ (ht _ _ _ hw hx) H⟩
    · have := ready_mono hj hji
      rw [(H (closed_put hc hr) w' hw).1] at this
      cases this
  | fuel + 1, listed, a, w, hfree, hr, hy, H => fun hc w' hw => by
    refine ⟨fun h => (by rw [h] at hr; cases hr), fun j hj => ?_⟩
    by_cases hji : j = i
    · subst hji
      exact hy.run ht hi hrf hw fun x hx => ⟨.inl hx, wpAnyM_on ht _ _ _ _ _ (ht _ _ _ hw hx) H⟩
    · have h1 := (H (closed_put hc hr) w' hw).2 j (ready_mono hj hji)
      have hd : dull oi = true ∨ (lastB md ops j = true) = False := by
        cases hl : lastB md ops j with
        | true => exact .inl (lastB_spec hc hi hr hj hji hl)
        | false => exact .inr (by simp)
      obtain ⟨hjun, oj, hoj, hall⟩ := mem_ready.1 hj
      have hnot : ∀ e ∈ oj.after, Region.binds md e = true → e.on ≠ i := fun e he hb heq => by
        have h1 := hall e he hb
        have h0 := (mem_ready.1 hr).1
        rw [heq] at h1
        rcases Nat.lt_or_ge i listed.size with h' | h'
        · simp [h'] at h0 h1; rw [h0] at h1; cases h1
        · simp [Array.getElem?_eq_none h'] at h1
      have h2 := wpOp_putOn ht hoj (hfree j oj hoj hji hjun hnot) (fun cs b => hsel i oi cs b hi) (fun cs b => hsel j oj cs b hoj) hQ hw hd hy h1
      refine wpOp_mono (fun a' x h3 => ⟨h3.1, wpAnyM_first hrf ht hi hsel hQ fuel (listed.setIfInBounds j true) a' x (fun k ok hk hki hun hno => ?_) (ready_mono hr (Ne.symm hji)) h3.2.1 ?_⟩) h2
      · refine hfree k ok hk hki ?_ hno
        by_cases hjk : j = k
        · subst hjk; exact hjun
        · rw [getD_set_ne true hjk] at hun; exact hun
      · rw [Array.setIfInBounds_comm _ _ hji]
        exact h3.2.2

/-! The moves, at 'Only S' -/
variable {S : List Nat}
theorem only_tr (a b c : World) (h : Only S a b) (k : Only S b c) : Only S a c := h.then k

theorem wpAnyM_take {i : Nat} {oi : Oper} {v : Value} {fuel : Nat} {listed : Array Bool} {a : Act} {w : World} (hi : ops[i]? = some oi)
    (hs : Region.noSelect ops = true) (hf : Region.free md ops listed i = true) (hr : (Region.ready md ops listed).contains i = true)
    (hy : YieldsOn P ops (Only S) oi v a w) (hQ : ∀ c a w, Q (.panic c) (a.put oi.dst v) w → Q (.panic c) a w)
    (h : wpAnyM P md ops Q (Only S) fuel (listed.setIfInBounds i true) (a.put oi.dst v) w) : wpAnyM P md ops Q (Only S) (fuel + 1) listed a w :=
  wpAnyM_first (Only.refl S) only_tr hi (Region.noSelect_spec hs) hQ fuel listed a w (Region.free_spec hi hf) (by simpa using hr) hy h

/-- It alone may come up: it is carried out, in any later world. -/
theorem wpAnyM_one {i : Nat} {o : Oper} {fuel : Nat} {listed : Array Bool} {a : Act} {w : World} (hr : Region.ready md ops listed = [i]) (ho : ops[i]? = some o)
    (h : ∀ w', Only S w w' → ∀ K' : Act → World → Prop, (∀ a x, Only S w' x → wpAnyM P md ops Q (Only S) fuel (listed.setIfInBounds i true) a x → K' a x) → if Region.wanted o (yielded ops a.tmps) = true then Oper.wp P o a w' K' Q else K' (a.put o.dst undef) w') :
    wpAnyM P md ops Q (Only S) (fuel + 1) listed a w := fun _ w' hw => by
  refine ⟨fun h0 => absurd (hr ▸ h0) (by simp), fun j hj => ?_⟩
  rw [hr] at hj
  obtain rfl : j = i := by simpa using hj
  exact wpOp_step ho fun K' hK => h w' hw K' fun a x h1 h2 => hK a x ⟨.inl h1, h2⟩

/-- The same, where every other one is waited for, or waits: it may turn what it will. -/
theorem wpAnyM_last {i : Nat} {o : Oper} {fuel : Nat} {listed : Array Bool} {a : Act} {w : World} (hr : Region.ready md ops listed = [i]) (ho : ops[i]? = some o) (hl : lastB md ops i = true)
    (h : ∀ w', Only S w w' → ∀ K' : Act → World → Prop, (∀ a x, wpAnyM P md ops Q (Only S) fuel (listed.setIfInBounds i true) a x → K' a x) → if Region.wanted o (yielded ops a.tmps) = true then Oper.wp P o a w' K' Q else K' (a.put o.dst undef) w') :
    wpAnyM P md ops Q (Only S) (fuel + 1) listed a w := fun _ w' hw => by
  refine ⟨fun h0 => absurd (hr ▸ h0) (by simp), fun j hj => ?_⟩
  rw [hr] at hj
  obtain rfl : j = i := by simpa using hj
  exact wpOp_step ho fun K' hK => h w' hw K' fun a x h2 => hK a x ⟨.inr hl, h2⟩

theorem wpAnyM_done {listed : Array Bool} {a : Act} {w : World} (hr : Region.ready md ops listed = []) (h : ∀ w', Only S w w' → Q .normal a w') :
    ∀ fuel, wpAnyM P md ops Q (Only S) fuel listed a w
  | 0 => fun _ w' hw => ⟨hr, h w' hw⟩
  | _ + 1 => fun _ w' hw => ⟨fun _ => h w' hw, by rw [hr]; simp⟩

theorem wp_region_M (S : List Nat) {id : Nat} {a : Act} {w : World} (hm : P.follows .mixedOrders = true)
    (h : wpAnyM P .any ops Q (Only S) ops.size (Array.replicate ops.size false) a w.drew) : (Code.region id ops true).wp P Q a w :=
  wp_region_any hm (wpAny_of_M (Only.refl S) _ _ _ _ (closed_none _) h)

/-- an operation of plain values, a load -/
theorem YieldsOn.value {o : Oper} {v : Value} {a : Act} {w : World} (hw : Region.wanted o (yielded ops a.tmps) = true) (hd : dull o = false) (h : ∀ x : Later S w, (execOp a.eval o).run P x.at' = .ok (.value v) x.at') : YieldsOn P ops (Only S) o v a w :=
  .inl ⟨hw, fun x hx => by unfold Oper.quietAt; rw [h ⟨x, hx.resolve_left (by rw [hd]; exact Bool.false_ne_true)⟩]; exact ⟨rfl, rfl⟩⟩
/-- an operation that does not look at the world -/
theorem YieldsOn.pure {o : Oper} {v : Value} {a : Act} {w : World} (hw : Region.wanted o (yielded ops a.tmps) = true) (h : ∀ x : World, (execOp a.eval o).run P x = .ok (.value v) x) : YieldsOn P ops (Only S) o v a w :=
  .inl ⟨hw, fun x _ => by unfold Oper.quietAt; rw [h x]; exact ⟨rfl, rfl⟩⟩
/-- a call that returns one value in every later world -/
theorem YieldsOn.call {o : Oper} {v : Value} {a : Act} {w : World} {f : FuncId} {args : Array Value} (hw : Region.wanted o (yielded ops a.tmps) = true) (hd : dull o = false) (h : ∀ x : Later S w, (execOp a.eval o).run P x.at' = .ok (.enter f args) x.at')
    (hc : ∀ x : Later S w, Calls P f args x.at' fun e w' => e = .returned v ∧ Only S x.at' w') : YieldsOn P ops (Only S) o v a w :=
  .inl ⟨hw, fun x hx => by have hx := hx.resolve_left (by rw [hd]; exact Bool.false_ne_true); unfold Oper.quietAt; rw [h ⟨x, hx⟩]; exact ⟨rfl, hc ⟨x, hx⟩⟩⟩
/-- a whole array, or a whole struct, out of a block that nobody turns -/
theorem YieldsOn.row {o : Oper} {a : Act} {w : World} (hw : Region.wanted o (yielded ops a.tmps) = true) (ty : TypeId) (x : Operand) (ho : o.op = .load ty x) (g : Nat) (hx : a.eval x = .pointer (some ⟨g, 0, none⟩))
    (cs : Array Value) (t : TypeId) (fr : Nat × Nat) (d : TypeDesc) (hg : w.heap[g]? = some (.cells cs t fr)) (hn : g ∉ S) (hu : P.underlying ty = some d) (hd : (match d with | .struct _ | .array _ _ => true | _ => false) = true)
    (hi : (P.info? ty).map (·.size) = some cs.size) : YieldsOn P ops (Only S) o (.agg cs) a w :=
  YieldsOn.value hw (by simp [dull, ho]) fun x => by
    unfold execOp
    simp only [ho, hx, Instr.loadAt, Instr.sureAddr, Sem.run_bind, Sem.run_pure, Result.andThen_ok, run_loadVar_row x.at' g t ty cs fr d (x.only.heap hg hn) hu hd hi]
/-- a slice of a slice, whose run is known -/
theorem YieldsOn.slice {o : Oper} {a : Act} {w : World} (hw : Region.wanted o (yielded ops a.tmps) = true) (hd : dull o = false) {t e : TypeId} {x : Operand} {lo hi : Option Operand} (ho : o.op = .slice t x lo hi none) (ht : P.underlying t = some (.slice e))
    {v vx : Value} {vl vh : Option Value} (hx : a.eval x = vx) (hl : lo.map a.eval = vl) (hh : hi.map a.eval = vh) (h : ∀ W, (Instr.slice t vx vl vh none).run P W = .ok v W) : YieldsOn P ops (Only S) o v a w :=
  YieldsOn.value hw hd fun y => by
    simp [execOp, ho, Instr.sliceAt, underlying, ht, hx, hl, hh, h, Sem.run_bind, Result.andThen]
theorem YieldsOn.not {o : Oper} {a : Act} {w : World} (hw : Region.wanted o (yielded ops a.tmps) = false) : YieldsOn P ops (Only S) o undef a w := .inr ⟨hw, rfl⟩
end
end Go.Proofs.Ytfckokdgmbbheaa
