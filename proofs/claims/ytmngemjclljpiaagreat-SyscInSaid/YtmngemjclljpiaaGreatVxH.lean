/- A region that draws its order (the proof). -/
import Derived.Test.YtmngemjclljpiaaGreatVxG
namespace Go.Vx

/-- A step of the text's order. -/
def StepR (P : Program) (cfg : Cfg) (call : Caller) (f : FuncId) (ro : Bool) (ops : Array Oper) (t : List Value) (s : XS) (o : Oper) (v : Value) (s1 : XS) : Prop :=
  (wantedV ops t o = false ∧ v = undef ∧ s1 = s) ∨
  (wantedV ops t o = true ∧ ∃ lg lg' u s', vop P cfg call f ro (opr t) o { s with log := lg } = some (u, s') ∧ s'.concr f (Oper.dn o) u = (v, { s1 with log := lg' }))

/-- The text's order, written down. -/
structure TRun (P : Program) (cfg : Cfg) (call : Caller) (f : FuncId) (ro : Bool) (ops : Array Oper) (T : Nat → List Value) (S : Nat → XS) (val : Nat → Value) : Prop where
  step : ∀ i o, ops[i]? = some o → StepR P cfg call f ro ops (T i) (S i) o (val i) (S (i + 1))
  put : ∀ i o, ops[i]? = some o → T (i + 1) = putT (T i) o.dst (val i)

section
variable {P : Program} {cfg : Cfg} {call : Caller} {f : FuncId} {ro : Bool} {ops : Array Oper} {T : Nat → List Value} {S : Nat → XS} {val : Nat → Value} {dyn : Bool}

theorem putT_length (t : List Value) (d : Option Tmp) (v : Value) : (putT t d v).length = t.length := by
  cases d <;> simp [putT]

theorem StepR.ob (hs : cfg.Sound P) (hc : CallOK P cfg call) {t : List Value} {s s1 : XS} {o : Oper} {v : Value} (h : StepR P cfg call f ro ops t s o v s1) (ho : s1.ob) :
    s.ob ∧ (ro = true → s1.heap = s.heap) ∧ (eff cfg o = false → s1.heap = s.heap) := by
  rcases h with ⟨_, _, rfl⟩ | ⟨_, lg, lg', u, s', hv, hcon⟩
  · exact ⟨ho, fun _ => rfl, fun _ => rfl⟩
  · have ho' : (s'.concr f (Oper.dn o) u).2.ob := by rw [hcon]; exact ho
    obtain ⟨h1, _, h3, _⟩ := XS.concr_spec s' f (Oper.dn o) u ho'
    rw [hcon] at h3
    obtain ⟨g1, g2, g3, _, _⟩ := vop_sound hs hc (fun _ => rfl) hv h1
    refine ⟨g1, fun hr => h3.trans (g2 hr), fun he => ?_⟩
    unfold eff at he
    cases hsil : isSil o.op with
    | true => exact h3.trans (vop_sil hs hsil hv h1).2.1
    | false => exact h3.trans (g3 (by simpa [hsil] using he))

theorem TRun.obs (hs : cfg.Sound P) (hc : CallOK P cfg call) (hr : TRun P cfg call f ro ops T S val) (ho : (S ops.size).ob) : ∀ i, i ≤ ops.size → (S i).ob := by
  intro i hi
  obtain ⟨d, hd⟩ : ∃ d, d = ops.size - i := ⟨_, rfl⟩
  induction d generalizing i with
  | zero => have : i = ops.size := by omega
            rw [this]; exact ho
  | succ d ih =>
    have := ih (i + 1) (by omega) (by omega)
    exact ((hr.step i _ (Array.getElem?_eq_getElem (show i < ops.size by omega))).ob hs hc this).1

theorem TRun.heaps (hs : cfg.Sound P) (hc : CallOK P cfg call) (hr : TRun P cfg call f ro ops T S val) (ho : (S ops.size).ob) (i : Nat) : ∀ k, i ≤ k → k ≤ ops.size →
    (∀ j o, i ≤ j → j < k → ops[j]? = some o → eff cfg o = false) → (S k).heap = (S i).heap := by
  intro k
  induction k with
  | zero => intro h _ _; have : i = 0 := by omega
            rw [this]
  | succ k ih =>
    intro h hk hn
    rcases Nat.lt_or_ge i (k + 1) with hlt | hge
    · have := ih (by omega) (by omega) (fun j o h1 h2 => hn j o h1 (by omega))
      rw [← this]
      have hkk : ops[k]? = some ops[k] := Array.getElem?_eq_getElem (show k < ops.size by omega)
      exact ((hr.step k _ hkk).ob hs hc (hr.obs hs hc ho (k + 1) hk)).2.2 (hn k _ (by omega) (by omega) hkk)
    · have : i = k + 1 := by omega
      rw [this]

/-- One block. -/
theorem TRun.block (hs : cfg.Sound P) (hc : CallOK P cfg call) (hr : TRun P cfg call f ro ops T S val) (ho : (S ops.size).ob) (b i : Nat) : ∀ k, i ≤ k → k ≤ ops.size →
    (∀ (j : Nat) (o : Oper), i ≤ j → j < k → ops[j]? = some o → eff cfg o = true → (S (j + 1)).heap[b]? = (S j).heap[b]?) → (S k).heap[b]? = (S i).heap[b]? := by
  intro k
  induction k with
  | zero => intro h _ _; have : i = 0 := by omega
            rw [this]
  | succ k ih =>
    intro h hk hn
    rcases Nat.lt_or_ge i (k + 1) with hlt | hge
    · have := ih (by omega) (by omega) (fun j o h1 h2 => hn j o h1 (by omega))
      rw [← this]
      have hkk : ops[k]? = some ops[k] := Array.getElem?_eq_getElem (show k < ops.size by omega)
      cases he : eff cfg ops[k] with
      | true => exact hn k _ (by omega) (by omega) hkk he
      | false => rw [((hr.step k _ hkk).ob hs hc (hr.obs hs hc ho (k + 1) hk)).2.2 he]
    · have : i = k + 1 := by omega
      rw [this]

/-- What loads read is not written where no order stands between. -/
def DynOK (cfg : Cfg) (ops : Array Oper) (T : Nat → List Value) (S : Nat → XS) : Prop :=
  ∀ (i j : Nat) (oi oj : Oper), ops[i]? = some oi → ops[j]? = some oj → isLoad cfg oi.op = true → eff cfg oj = true → wantedV ops (T i) oi = true → ¬ Bef ops i j → ¬ Bef ops j i →
    ∀ b, ownOf (loadAddr cfg (opr (T i)) oi.op) = some b → (S (j + 1)).heap[b]? = (S j).heap[b]?

theorem TRun.length (hr : TRun P cfg call f ro ops T S val) : ∀ i, i ≤ ops.size → (T i).length = (T 0).length := by
  intro i
  induction i with
  | zero => intro _; rfl
  | succ i ih =>
    intro hi
    rw [hr.put i _ (Array.getElem?_eq_getElem (show i < ops.size by omega)), putT_length, ih (by omega)]

/-- What a slot holds ahead of the k-th operation, if nothing ahead of it writes it. -/
theorem TRun.unwritten (hr : TRun P cfg call f ro ops T S val) (τ : Nat) : ∀ k, k ≤ ops.size → (∀ j o, j < k → ops[j]? = some o → o.dst ≠ some τ) → (T k)[τ]? = (T 0)[τ]? := by
  intro k
  induction k with
  | zero => intro _ _; rfl
  | succ k ih =>
    intro hk hn
    have hkk : ops[k]? = some ops[k] := Array.getElem?_eq_getElem (show k < ops.size by omega)
    rw [hr.put k _ hkk, ← ih (by omega) fun j o h => hn j o (by omega)]
    have hne := hn k _ (by omega) hkk
    cases hd : ops[k].dst with
    | none => rfl
    | some d =>
      rw [hd] at hne
      simp only [putT]
      rw [List.getElem?_set_ne (fun h => hne (by rw [h]))]

theorem TRun.written (hd : drawOK cfg dyn ops = true) (hr : TRun P cfg call f ro ops T S val) (τ : Nat) (i : Nat) (o : Oper) (hi : ops[i]? = some o) (ho : o.dst = some τ) (hτ : τ < (T 0).length) :
    ∀ k, i < k → k ≤ ops.size → (T k)[τ]? = some (val i) := by
  intro k
  induction k with
  | zero => intro h; omega
  | succ k ih =>
    intro h hk
    have hkk : ops[k]? = some ops[k] := Array.getElem?_eq_getElem (show k < ops.size by omega)
    rcases Nat.lt_or_ge i k with hlt | hge
    · rw [hr.put k _ hkk]
      have hs := (drawOK_pair hd hlt hi hkk).1
      unfold sameDst at hs
      rw [ho] at hs
      cases hdk : ops[k].dst with
      | none => exact ih hlt (by omega)
      | some d =>
        rw [hdk] at hs
        simp only [putT]
        rw [List.getElem?_set_ne (fun h => by subst h; simp at hs)]
        exact ih hlt (by omega)
    · have hik : i = k := by omega
      subst hik
      rw [hi] at hkk
      cases hkk
      rw [hr.put i _ hi, ho]
      simp only [putT]
      rw [List.getElem?_set_self (by rw [hr.length i (by omega)]; exact hτ)]

structure Inv (cfg : Cfg) (ops : Array Oper) (T : Nat → List Value) (S : Nat → XS) (val : Nat → Value) (ds : List Deferred) (L : Array Bool) (bs : List Blk) (a : Act) (w : World) : Prop where
  size : L.size = ops.size
  len : a.tmps.size = (T 0).length
  defers : a.defers = ds
  down : ∀ j o e, L.getD j false = true → ops[j]? = some o → e ∈ o.after → Region.binds .any e = true → L.getD e.on false = true
  wr : ∀ τ, τ < (T 0).length → ∀ i o, ops[i]? = some o → o.dst = some τ → L.getD i false = true → VR cfg.ext bs (val i) (a.tmps.getD τ undef)
  un : ∀ τ, τ < (T 0).length → (∀ i o, ops[i]? = some o → o.dst = some τ → L.getD i false = false) → VR cfg.ext bs ((T 0).getD τ undef) (a.tmps.getD τ undef)
  heap : ∃ m, m ≤ ops.size ∧ (∀ i o, ops[i]? = some o → eff cfg o = true → (L.getD i false = true ↔ i < m)) ∧ Emb cfg.ext bs (S m).heap w

theorem Inv.bef {ds : List Deferred} {L : Array Bool} {bs : List Blk} {a : Act} {w : World} (h : Inv cfg ops T S val ds L bs a w) {k j : Nat} (hb : Bef ops k j) (hj : L.getD j false = true) : L.getD k false = true := by
  induction hb with
  | base j o e ho he hb => exact h.down j o e hj ho he hb
  | step k j o e ho he hb _ ih => exact ih (h.down j o e hj ho he hb)

theorem Inv.ready {ds : List Deferred} {L : Array Bool} {bs : List Blk} {a : Act} {w : World} (h : Inv cfg ops T S val ds L bs a w) {k i : Nat} (hb : Bef ops k i) {o : Oper} (ho : ops[i]? = some o)
    (hr : ∀ e ∈ o.after, Region.binds .any e = true → L.getD e.on false = true) : L.getD k false = true := by
  cases hb with
  | base _ o' e ho' he hb => rw [ho] at ho'; cases ho'; exact hr e he hb
  | step _ _ o' e ho' he hb hb' => rw [ho] at ho'; cases ho'; exact h.bef hb' (hr e he hb)

/-- What an operation that may come now looks at is what it looked at in the text's order. -/
theorem Inv.looks (hd : drawOK cfg dyn ops = true) (hr : TRun P cfg call f ro ops T S val) {ds : List Deferred} {L : Array Bool} {bs : List Blk} {a : Act} {w : World} (h : Inv cfg ops T S val ds L bs a w)
    {i : Nat} {o : Oper} (ho : ops[i]? = some o) (hL : L.getD i false = false) (hrd : ∀ e ∈ o.after, Region.binds .any e = true → L.getD e.on false = true) (τ : Nat) (hτ : τ ∈ o.looksAt ops) :
    VR cfg.ext bs ((T i).getD τ undef) (a.tmps.getD τ undef) := by
  have hi : i < ops.size := (Array.getElem?_eq_some_iff.1 ho).1
  have hlen := hr.length i (by omega)
  rcases Nat.lt_or_ge τ (T 0).length with hlt | hge
  · by_cases hw : ∃ (j : Nat) (oj : Oper), ops[j]? = some oj ∧ oj.dst = some τ
    · obtain ⟨j, oj, hj, hdj⟩ := hw
      have huniq : ∀ k ok, ops[k]? = some ok → ok.dst = some τ → k = j := by
        intro k ok hk hdk
        rcases Nat.lt_trichotomy k j with hkj | hkj | hkj
        · have := (drawOK_pair hd hkj hk hj).1; unfold sameDst at this; rw [hdk, hdj] at this; simp at this
        · exact hkj
        · have := (drawOK_pair hd hkj hj hk).1; unfold sameDst at this; rw [hdk, hdj] at this; simp at this
      rcases Nat.lt_or_ge j i with hji | hji
      · have hb := (drawOK_pair hd hji hj ho).2 (by simp [confl, hits, hdj, hτ])
        have hLj := h.ready hb ho hrd
        have h1 := h.wr τ hlt j oj hj hdj hLj
        have h2 := hr.written hd τ j oj hj hdj hlt i hji (by omega)
        rw [List.getD_eq_getElem?_getD, h2]; exact h1
      · have hLj : L.getD j false = false := by
          rcases Nat.lt_or_ge i j with hij | hij
          · have hb := (drawOK_pair hd hij ho hj).2 (by simp [confl, hits, hdj, hτ])
            cases hx : L.getD j false with
            | false => rfl
            | true => rw [h.bef hb hx] at hL; cases hL
          · have : i = j := by omega
            rw [← this]; exact hL
        have h1 := h.un τ hlt fun k ok hk hdk => by rw [huniq k ok hk hdk]; exact hLj
        have h2 := hr.unwritten τ i (by omega) fun k ok hk hok hdk => by have := huniq k ok hok hdk; omega
        rw [List.getD_eq_getElem?_getD, h2, ← List.getD_eq_getElem?_getD]; exact h1
    · have h1 := h.un τ hlt fun k ok hk hdk => (hw ⟨k, ok, hk, hdk⟩).elim
      have h2 := hr.unwritten τ i (by omega) fun k ok hk hok hdk => (hw ⟨k, ok, hok, hdk⟩).elim
      rw [List.getD_eq_getElem?_getD, h2, ← List.getD_eq_getElem?_getD]; exact h1
  · have h1 : (T i).getD τ undef = undef := by rw [List.getD_eq_getElem?_getD, List.getElem?_eq_none (by omega)]; rfl
    have h2 : a.tmps.getD τ undef = undef := by simp [Array.getD, show ¬ τ < a.tmps.size by rw [h.len]; omega]
    rw [h1, h2]; exact .undef

theorem getD_set {L : Array Bool} {i j : Nat} (hi : i < L.size) : (L.setIfInBounds i true).getD j false = if i = j then true else L.getD j false := by
  by_cases h : i = j
  · subst h; simp [hi]
  · rw [if_neg h]; simp [Array.getElem?_setIfInBounds_ne h]

theorem Inv.put {ds : List Deferred} {L : Array Bool} {bs bs' : List Blk} {a : Act} {w w' : World} (h : Inv cfg ops T S val ds L bs a w)
    {i : Nat} {o : Oper} (ho : ops[i]? = some o) (hL : L.getD i false = false) (hrd : ∀ e ∈ o.after, Region.binds .any e = true → L.getD e.on false = true) (hd : drawOK cfg dyn ops = true) {v' : Value} (hg : Grow bs w bs' w') (hv : VR cfg.ext bs' (val i) v')
    (hh : ∃ m, m ≤ ops.size ∧ (∀ j o, ops[j]? = some o → eff cfg o = true → ((L.setIfInBounds i true).getD j false = true ↔ j < m)) ∧ Emb cfg.ext bs' (S m).heap w') :
    Inv cfg ops T S val ds (L.setIfInBounds i true) bs' (a.put o.dst v') w' := by
  have hi : i < L.size := by rw [h.size]; exact (Array.getElem?_eq_some_iff.1 ho).1
  refine ⟨by simp [h.size], by cases hod : o.dst <;> simp [Act.put, h.len], by cases hod : o.dst <;> simp [Act.put, h.defers], ?_, ?_, ?_, hh⟩
  · intro j oj e hj hoj he hb
    rw [getD_set hi] at hj ⊢
    split
    · rfl
    · by_cases hij : i = j
      · subst hij; rw [ho] at hoj; cases hoj; exact hrd e he hb
      · rw [if_neg hij] at hj; exact h.down j oj e hj hoj he hb
  · intro τ hτ j oj hoj hdj hj
    rw [getD_set hi] at hj
    by_cases hij : i = j
    · subst hij
      rw [ho] at hoj; cases hoj
      rw [hdj]
      have : τ < a.tmps.size := by rw [h.len]; exact hτ
      have hq : (a.put (some τ) v').tmps.getD τ undef = v' := by
        simp [Act.put, this]
      rw [hq]; exact hv
    · rw [if_neg hij] at hj
      have h1 := hg.vr (h.wr τ hτ j oj hoj hdj hj)
      have hne : o.dst ≠ some τ := fun hx => by
        rcases Nat.lt_or_gt_of_ne hij with hlt | hlt
        · have := (drawOK_pair hd hlt ho hoj).1; unfold sameDst at this; rw [hx, hdj] at this; simp at this
        · have := (drawOK_pair hd hlt hoj ho).1; unfold sameDst at this; rw [hx, hdj] at this; simp at this
      cases hod : o.dst with
      | none => exact h1
      | some d =>
        have hdt : d ≠ τ := fun hx => hne (by rw [hod, hx])
        simpa [Act.put, Array.getElem?_setIfInBounds_ne hdt] using h1
  · intro τ hτ hun
    have hne : o.dst ≠ some τ := fun hx => by
      have := hun i o ho hx
      rw [getD_set hi, if_pos rfl] at this; cases this
    have h1 := hg.vr (h.un τ hτ fun j oj hoj hdj => by
      have := hun j oj hoj hdj
      rw [getD_set hi] at this
      split at this
      · cases this
      · exact this)
    cases hod : o.dst with
    | none => exact h1
    | some d =>
      have hdt : d ≠ τ := fun hx => hne (by rw [hod, hx])
      simpa [Act.put, Array.getElem?_setIfInBounds_ne hdt] using h1

theorem opr_rel {ex : XTab} {bs : List Blk} {t : List Value} {a : Act} {x : Operand} (hx : okOperand x = true) (h : ∀ τ, x = .tmp τ → VR ex bs (t.getD τ undef) (a.tmps.getD τ undef)) : VR ex bs (opr t x) (a.eval x) := by
  cases x with
  | tmp τ => exact h τ rfl
  | const v => exact .plain hx
  | global g => simp [okOperand] at hx
  | func f => exact .func _ [] [] [] [] .nil .nil

theorem mem_looks {ops : Array Oper} {o : Oper} {τ : Nat} (h : Operand.tmp τ ∈ o.op.operands) : τ ∈ o.looksAt ops := by
  unfold Oper.looksAt
  exact List.mem_append_left _ (List.mem_filterMap.2 ⟨.tmp τ, by simpa using h, rfl⟩)

def okOps (ops : Array Oper) : Bool := ops.toList.all fun o => o.op.operands.toList.all okOperand

theorem okOps_spec {i : Nat} {o : Oper} (h : okOps ops = true) (ho : ops[i]? = some o) {x : Operand} (hx : x ∈ o.op.operands) : okOperand x = true := by
  have h1 := List.all_eq_true.1 h o (by simpa using Array.mem_of_getElem? ho)
  exact List.all_eq_true.1 h1 x (by simpa using hx)

theorem bef_lt (hd : drawOK cfg dyn ops = true) {k j : Nat} (h : Bef ops k j) : k < j := by
  induction h with
  | base j o e ho he hb => exact drawOK_edge hd ho he hb
  | step k j o e ho he hb _ ih => exact Nat.lt_trans ih (drawOK_edge hd ho he hb)

/-- Every order comes to the text's. -/
theorem draw_any (hs : cfg.Sound P) (hc : CallOK P cfg call) (hd : drawOK cfg dyn ops = true) (hk : okOps ops = true) (hr : TRun P cfg call f ro ops T S val) (hy : DynOK cfg ops T S) (ho : (S ops.size).ob) (ds : List Deferred) (bs0 : List Blk) (w0 : World)
    (Q : Exit → Act → World → Prop) (hQ : ∀ bs a w, Grow bs0 w0 bs w → Emb cfg.ext bs (S ops.size).heap w → VRs cfg.ext bs (T ops.size) a.tmps.toList → a.defers = ds → Q .normal a w) :
    ∀ (fuel : Nat) (L : Array Bool) (bs : List Blk) (a : Act) (w : World), Inv cfg ops T S val ds L bs a w → Grow bs0 w0 bs w → (∀ i, i < ops.size → L.getD i false = false → True) →
      ((List.range ops.size).filter fun i => !L.getD i false).length = fuel → wpAny P .any ops Q fuel L a w := by
  have hdone : ∀ (L : Array Bool) (bs : List Blk) (a : Act) (w : World), Inv cfg ops T S val ds L bs a w → Grow bs0 w0 bs w → Region.ready .any ops L = [] → Q .normal a w := by
    intro L bs a w hI hg hnil
    have hall : ∀ i, i < ops.size → L.getD i false = true := by
      intro i
      induction i using Nat.strongRecOn with
      | _ i ih =>
        intro hi
        cases hx : L.getD i false with
        | true => rfl
        | false =>
          exfalso
          have hoi : ops[i]? = some ops[i] := Array.getElem?_eq_getElem hi
          have : i ∈ Region.ready .any ops L := by
            rw [mem_ready]
            refine ⟨?_, ops[i], hoi, fun e he hb => ?_⟩
            · have : i < L.size := by rw [hI.size]; exact hi
              simpa [this] using hx
            · have hlt := drawOK_edge hd hoi he hb
              exact ih e.on hlt (by omega)
          rw [hnil] at this; cases this
    obtain ⟨m, hm, hme, hemb⟩ := hI.heap
    have hh := hr.heaps hs hc ho m ops.size hm (Nat.le_refl _) fun j o hj1 hj2 hoj => by
      cases he : eff cfg o with
      | false => rfl
      | true => have := (hme j o hoj he).1 (hall j hj2); omega
    refine hQ bs a w hg (by rw [hh]; exact hemb) ?_ hI.defers
    have hlen : (T ops.size).length = a.tmps.toList.length := by rw [hr.length _ (Nat.le_refl _)]; simp [hI.len]
    refine VRs.of_get hlen fun τ v v' hv hv' => ?_
    have hτ : τ < (T 0).length := by rw [← hr.length _ (Nat.le_refl ops.size)]; exact (List.getElem?_eq_some_iff.1 hv).1
    have hv2 : a.tmps.getD τ undef = v' := by
      have h1 : a.tmps[τ]? = some v' := by simpa using hv'
      have hsz : τ < a.tmps.size := (Array.getElem?_eq_some_iff.1 h1).1
      have h2 : a.tmps[τ] = v' := by rw [Array.getElem?_eq_getElem hsz] at h1; simpa using h1
      simp [Array.getD, hsz, h2]
    by_cases hw : ∃ (j : Nat) (oj : Oper), ops[j]? = some oj ∧ oj.dst = some τ
    · obtain ⟨j, oj, hj, hdj⟩ := hw
      have hjlt : j < ops.size := (Array.getElem?_eq_some_iff.1 hj).1
      have h1 := hI.wr τ hτ j oj hj hdj (hall j hjlt)
      rw [hr.written hd τ j oj hj hdj hτ ops.size hjlt (Nat.le_refl _)] at hv
      cases hv
      rw [← hv2]; exact h1
    · have h1 := hI.un τ hτ fun k ok hk hdk => (hw ⟨k, ok, hk, hdk⟩).elim
      rw [hr.unwritten τ ops.size (Nat.le_refl _) fun k ok hk hok hdk => (hw ⟨k, ok, hok, hdk⟩).elim] at hv
      rw [← hv2]
      rw [List.getD_eq_getElem?_getD, hv] at h1; exact h1
  intro fuel
  induction fuel with
  | zero =>
    intro L bs a w hI hg _ hfuel
    have hall : Region.ready .any ops L = [] := by
      cases hx : Region.ready .any ops L with
      | nil => rfl
      | cons i r =>
        exfalso
        have hi : i ∈ Region.ready .any ops L := by rw [hx]; exact List.mem_cons_self
        obtain ⟨hun, o, hoi, _⟩ := mem_ready.1 hi
        have hlt : i < ops.size := (Array.getElem?_eq_some_iff.1 hoi).1
        have : i ∈ (List.range ops.size).filter fun i => !L.getD i false := by
          rw [List.mem_filter]
          refine ⟨List.mem_range.2 hlt, ?_⟩
          have : i < L.size := by rw [hI.size]; exact hlt
          simpa [this] using hun
        rw [List.eq_nil_of_length_eq_zero hfuel] at this; cases this
    exact ⟨hall, hdone L bs a w hI hg hall⟩
  | succ fuel ih =>
    intro L bs a w hI hg _ hfuel
    refine ⟨hdone L bs a w hI hg, fun i hi => ?_⟩
    obtain ⟨hun, o, hoi, hrd⟩ := mem_ready.1 hi
    have hlt : i < ops.size := (Array.getElem?_eq_some_iff.1 hoi).1
    have hiL : i < L.size := by rw [hI.size]; exact hlt
    have hL : L.getD i false = false := by simpa [hiL] using hun
    have hfuel' : ((List.range ops.size).filter fun j => !(L.setIfInBounds i true).getD j false).length = fuel := by
      have key : ∀ l : List Nat, l.Nodup → i ∈ l → (l.filter fun j => !(L.setIfInBounds i true).getD j false).length + 1 = (l.filter fun j => !L.getD j false).length := by
        intro l
        induction l with
        | nil => intro _ h; cases h
        | cons x r ihr =>
          intro hnd hmem
          rw [List.nodup_cons] at hnd
          have hother : ∀ l' : List Nat, i ∉ l' → (l'.filter fun j => !(L.setIfInBounds i true).getD j false) = (l'.filter fun j => !L.getD j false) := by
            intro l' hn
            apply List.filter_congr
            intro y hy
            have hiy : i ≠ y := fun h => hn (by rw [h]; exact hy)
            rw [getD_set hiL, if_neg hiy]
          rcases List.mem_cons.1 hmem with rfl | hmem
          · rw [List.filter_cons, List.filter_cons, hother r hnd.1, getD_set hiL, if_pos rfl, hL]
            simp
          · have hne : i ≠ x := fun h => hnd.1 (by rw [← h]; exact hmem)
            rw [List.filter_cons, List.filter_cons, getD_set hiL, if_neg hne]
            have := ihr hnd.2 hmem
            cases L.getD x false
            · simp only [Bool.not_false, if_true, List.length_cons]; omega
            · simp only [Bool.not_true, Bool.false_eq_true, if_false]; omega
      have := key (List.range ops.size) List.nodup_range (List.mem_range.2 hlt)
      omega
    have hlooks := fun τ hτ => hI.looks hd hr hoi hL hrd τ hτ
    have hopr : ∀ x ∈ o.op.operands, VR cfg.ext bs (opr (T i) x) (a.eval x) := fun x hx =>
      opr_rel (okOps_spec hk hoi hx) fun τ hτ => hlooks τ (mem_looks (by rw [← hτ]; exact hx))
    have hwant : Region.wanted o (yielded ops a.tmps) = wantedV ops (T i) o := by
      refine wantedV_eq (ex := cfg.ext) (bs := bs) (by rw [hr.length i (by omega), hI.len]) fun g want τ hg hτ => hlooks τ ?_
      unfold Oper.looksAt
      refine List.mem_append_right _ ?_
      rw [hg]; simp only; rw [hτ]; simp
    -- the heap's clause, for an operation that does not act
    have hquiet : eff cfg o = false → ∃ m, m ≤ ops.size ∧ (∀ j oj, ops[j]? = some oj → eff cfg oj = true → ((L.setIfInBounds i true).getD j false = true ↔ j < m)) ∧ Emb cfg.ext bs (S m).heap w := by
      intro he
      obtain ⟨m, hm, hme, hemb⟩ := hI.heap
      refine ⟨m, hm, fun j oj hj hej => ?_, hemb⟩
      rw [getD_set hiL]
      by_cases hij : i = j
      · subst hij; rw [hoi] at hj; cases hj; rw [he] at hej; cases hej
      · rw [if_neg hij]; exact hme j oj hj hej
    -- where it is not silent, the heap is the text's
    have hloud : isSil o.op = false → isLoad cfg o.op = false → ∃ m, m ≤ ops.size ∧ (∀ j oj, ops[j]? = some oj → eff cfg oj = true → (L.getD j false = true ↔ j < m)) ∧ (S m).heap = (S i).heap ∧ Emb cfg.ext bs (S i).heap w ∧ (∀ j oj, ops[j]? = some oj → eff cfg oj = true → j ≠ i → (L.getD j false = true ↔ j < i)) := by
      intro hsil hnl
      obtain ⟨m, hm, hme, hemb⟩ := hI.heap
      have hbefore : ∀ j oj, ops[j]? = some oj → eff cfg oj = true → j ≠ i → (L.getD j false = true ↔ j < i) := by
        intro j oj hj hej hne
        constructor
        · intro hLj
          rcases Nat.lt_or_ge j i with h | h
          · exact h
          · exfalso
            have hij : i < j := by omega
            have hb := (drawOK_pair hd hij hoi hj).2 (by simp [confl, hej, hsil, loud, hnl])
            rw [hI.bef hb hLj] at hL; cases hL
        · intro hji
          have hb := (drawOK_pair hd hji hj hoi).2 (by simp [confl, hej, hsil, loud, hnl])
          exact hI.ready hb hoi hrd
      have hheap : (S m).heap = (S i).heap := by
        rcases Nat.le_total m i with hmi | him
        · exact (hr.heaps hs hc ho m i hmi (by omega) fun j oj h1 h2 hj => by
            cases he : eff cfg oj with
            | false => rfl
            | true =>
              have h3 := (hme j oj hj he)
              have h4 := (hbefore j oj hj he (by omega))
              have := h3.1 (h4.2 h2); omega).symm
        · exact hr.heaps hs hc ho i m him hm fun j oj h1 h2 hj => by
            cases he : eff cfg oj with
            | false => rfl
            | true =>
              have h3 := (hme j oj hj he).2 h2
              by_cases hji : j = i
              · subst hji; rw [hL] at h3; cases h3
              · have := (hbefore j oj hj he hji).1 h3; omega
      exact ⟨m, hm, hme, hheap, by rw [← hheap]; exact hemb, hbefore⟩
    have hob := hr.obs hs hc ho (i + 1) (by omega)
    have hcont : ∀ bs' w' v', Grow bs w bs' w' → VR cfg.ext bs' (val i) v' →
        (∃ m, m ≤ ops.size ∧ (∀ j oj, ops[j]? = some oj → eff cfg oj = true → ((L.setIfInBounds i true).getD j false = true ↔ j < m)) ∧ Emb cfg.ext bs' (S m).heap w') →
        wpAny P .any ops Q fuel (L.setIfInBounds i true) (a.put o.dst v') w' := fun bs' w' v' hg' hv' hh =>
      ih _ bs' _ w' (hI.put hoi hL hrd hd hg' hv' hh) (hg.trans hg') (fun _ _ _ => trivial) hfuel'
    unfold wpOp
    rw [hoi]
    simp only
    have heffload : eff cfg o = true → isSil o.op = false ∧ isLoad cfg o.op = false := by
      intro he
      unfold eff at he
      simp only [Bool.and_eq_true, Bool.not_eq_true'] at he
      refine ⟨he.1, ?_⟩
      cases hx : isLoad cfg o.op with
      | false => rfl
      | true =>
        have := he.2
        unfold isRead at this
        unfold isLoad at hx
        split at hx
        · rename_i e; rw [e] at this; simp at this
        · rename_i g _ _ e
          rw [e] at this
          simp only at this
          cases hq : accOf cfg g with
          | none => rw [hq] at hx; cases hx
          | some q => rw [hq] at this; simp at this
        · cases hx
    rcases hr.step i o hoi with ⟨hw, hval, hS⟩ | ⟨hw, lg, lg', u, s', hv, hcon⟩
    · rw [hwant, hw]
      simp only [Bool.false_eq_true, if_false]
      refine hcont bs w undef (.refl _ _) (by rw [hval]; exact .undef) ?_
      cases he : eff cfg o with
      | false => exact hquiet he
      | true =>
        obtain ⟨m, hm, hme, hheap, hemb, hbefore⟩ := hloud (heffload he).1 (heffload he).2
        refine ⟨i + 1, by omega, fun j oj hj hej => ?_, by rw [hS]; exact hemb⟩
        rw [getD_set hiL]
        by_cases hij : i = j
        · subst hij; simp
        · rw [if_neg hij, hbefore j oj hj hej (Ne.symm hij)]; omega
    · rw [hwant, hw]
      simp only [if_true]
      left
      have ho' : (s'.concr f (Oper.dn o) u).2.ob := by rw [hcon]; exact hob
      obtain ⟨g1, g2, g3, _⟩ := XS.concr_spec s' f (Oper.dn o) u ho'
      rw [hcon] at g2 g3
      simp only at g2 g3
      cases hsil : isSil o.op with
      | true =>
        obtain ⟨m, hm, hme, hemb⟩ := hI.heap
        refine (vop_sil hs hsil hv g1).2.2.2 (S m).heap bs a w _ Q hopr hemb fun v' hv' => ?_
        exact hcont bs w v' (.refl _ _) (by rw [g2]; exact hv') (hquiet (by simp [eff, hsil]))
      | false =>
        cases hnl : isLoad cfg o.op with
        | true =>
          have heff : eff cfg o = false := by
            cases he : eff cfg o with
            | false => rfl
            | true => rw [(heffload he).2] at hnl; cases hnl
          obtain ⟨m, hm, hme, hemb⟩ := hI.heap
          obtain ⟨_, _, _, _, hld⟩ := vop_load hs hc hnl (fun _ => rfl) hv g1
          have hblk : ∀ b, ownOf (loadAddr cfg (opr (T i)) o.op) = some b → (S m).heap[b]? = (S i).heap[b]? := by
            intro b hb
            rcases Nat.le_total m i with hmi | him
            · refine (hr.block hs hc ho _ m i hmi (by omega) fun j oj h1 h2 hj he => ?_).symm
              have hLj : ¬ L.getD j false = true := fun h => by have := (hme j oj hj he).1 h; omega
              exact hy i j o oj hoi hj hnl he hw (fun hb => by
                have := bef_lt hd hb; omega) (fun hb => hLj (hI.ready hb hoi hrd)) b hb
            · refine hr.block hs hc ho _ i m him hm fun j oj h1 h2 hj he => ?_
              have hLj := (hme j oj hj he).2 h2
              exact hy i j o oj hoi hj hnl he hw (fun hb => by rw [hI.bef hb hLj] at hL; cases hL) (fun hb => by
                have := bef_lt hd hb; omega) b hb
          refine hld (S m).heap bs a w _ Q hblk hopr hemb fun bs' w' v' hg' he' hv' => ?_
          refine hcont bs' w' v' hg' (by rw [g2]; exact hv') ⟨m, hm, fun j oj hj hej => ?_, he'⟩
          rw [getD_set hiL]
          by_cases hij : i = j
          · subst hij; rw [hoi] at hj; cases hj; rw [heff] at hej; cases hej
          · rw [if_neg hij]; exact hme j oj hj hej
        | false =>
        obtain ⟨m, hm, hme, hheap, hemb, hbefore⟩ := hloud hsil hnl
        refine (vop_sound hs hc (fun _ => rfl) hv g1).2.2.2.2 bs a w _ Q hopr hemb fun bs' w' v' hg' he' hv' => ?_
        refine hcont bs' w' v' hg' (by rw [g2]; exact hv') ?_
        cases he : eff cfg o with
        | false =>
          refine ⟨m, hm, fun j oj hj hej => ?_, ?_⟩
          · rw [getD_set hiL]
            by_cases hij : i = j
            · subst hij; rw [hoi] at hj; cases hj; rw [he] at hej; cases hej
            · rw [if_neg hij]; exact hme j oj hj hej
          · have h5 := ((hr.step i o hoi).ob hs hc hob).2.2 he
            rw [hheap, ← h5, g3]; exact he'
        | true =>
          refine ⟨i + 1, by omega, fun j oj hj hej => ?_, by rw [g3]; exact he'⟩
          rw [getD_set hiL]
          by_cases hij : i = j
          · subst hij; simp
          · rw [if_neg hij, hbefore j oj hj hej (Ne.symm hij)]; omega

end
end Go.Vx
