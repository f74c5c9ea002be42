/- The run of a function over the virtual heap, and that memory goes the same way. -/
import Derived.Test.YtmngemjclljpiaaGreatVxH
namespace Go.Vx

inductive X where
  | normal
  | exit (id : Nat)
  | ret

def X.real : X → Exit
  | .normal => .normal
  | .exit id => .exit id
  | .ret => .ret

def vops (P : Program) (cfg : Cfg) (call : Caller) (f : FuncId) (ro : Bool) (ops : Array Oper) : List Oper → List Value → XS → Option (List Value × XS)
  | [], t, s => some (t, s)
  | o :: r, t, s => match wantedV ops t o with
    | false => vops P cfg call f ro ops r (putT t o.dst undef) s
    | true => match vop P cfg call f ro (opr t) o s with
      | some (u, s') => match s'.concr f (Oper.dn o) u with
        | (v, s1) => vops P cfg call f ro ops r (putT t o.dst v) s1
      | none => none

structure DRec where
  at' : Option Nat
  new : List Nat
  len : Nat

def vopsD (P : Program) (cfg : Cfg) (call : Caller) (f : FuncId) (ro : Bool) (ops : Array Oper) : List Oper → List Value → XS → List DRec → Option (List Value × XS × List DRec)
  | [], t, s, acc => some (t, s, acc)
  | o :: r, t, s, acc => match wantedV ops t o with
    | false => vopsD P cfg call f ro ops r (putT t o.dst undef) s (acc ++ [⟨none, [], s.heap.length⟩])
    | true => match vop P cfg call f ro (opr t) o { s with log := [] } with
      | some (u, s') => match s'.concr f (Oper.dn o) u with
        | (v, s1) => vopsD P cfg call f ro ops r (putT t o.dst v) { s1 with log := s1.log ++ s.log }
            (acc ++ [⟨match isLoad cfg o.op with | true => ownOf (loadAddr cfg (opr t) o.op) | false => none, s1.log, s.heap.length⟩])
      | none => none

def ordered (ms : List Nat) (i j : Nat) : Bool :=
  match Nat.ble i j with
  | true => (ms.getD j 0).testBit i
  | false => (ms.getD i 0).testBit j

def dynOne (ms : List Nat) (i j : Nat) (ri rj : DRec) : Bool :=
  match ri.at' with
  | none => true
  | some b => ordered ms i j || (Nat.blt b rj.len && !rj.new.contains b)

def dynCheck (cfg : Cfg) (ops : Array Oper) (recs : List DRec) : Bool :=
  (List.range ops.size).all fun j => match ops[j]?, recs[j]? with
    | some oj, some rj => !eff cfg oj || (List.range ops.size).all fun i => match recs[i]? with
      | some ri => dynOne (masks ops.toList []) i j ri rj
      | none => false
    | _, _ => false

def loopN : Nat → (List Value → XS → Option (X × List Value × XS)) → List Value → XS → Option (X × List Value × XS)
  | 0, _, _, _ => none
  | n + 1, body, t, s => match body t s with
    | some (.normal, t', s') => loopN n body t' s'
    | r => r

def vcode (P : Program) (cfg : Cfg) (call : Caller) (f : FuncId) (ro : Bool) : Code → List Value → XS → Option (X × List Value × XS)
  | .skip, t, s => some (.normal, t, s)
  | .region _ ops d, t, s => match d && cfg.dyn f with
    | true => match vopsD P cfg call f ro ops ops.toList t s [] with
      | some (t', s', recs) => match dynCheck cfg ops recs with
        | true => some (.normal, t', s')
        | false => none
      | none => none
    | false => match vops P cfg call f ro ops ops.toList t s with
      | some (t', s') => some (.normal, t', s')
      | none => none
  | .seq a b, t, s => match vcode P cfg call f ro a t s with
    | some (.normal, t', s') => vcode P cfg call f ro b t' s'
    | r => r
  | .cond c a b, t, s => match opr t c with
    | .bool true => vcode P cfg call f ro a t s
    | .bool false => vcode P cfg call f ro b t s
    | _ => none
  | .block id c, t, s => match vcode P cfg call f ro c t s with
    | some (.exit id', t', s') => match Nat.beq id' id with
      | true => some (.normal, t', s')
      | false => some (.exit id', t', s')
    | r => r
  | .loop c, t, s => loopN cfg.rounds (vcode P cfg call f ro c) t s
  | .exit id, t, s => some (.exit id, t, s)
  | .ret, t, s => some (.ret, t, s)
  | _, _, _ => none

def vresults (P : Program) (ex : XTab) (t : List Value) (h : VHeap) : List ResultVar → Option (List Value)
  | [] => some []
  | .tmp i :: r => match vresults P ex t h r with
    | some l => some (t.getD i undef :: l)
    | none => none
  | .cell a ty :: r => match vload P ex ty h (t.getD a undef) with
    | some (v, true) => match vresults P ex t h r with
      | some l => some (v :: l)
      | none => none
    | _ => none

def tupled : List Value → Value
  | [v] => v
  | l => .tuple ⟨l⟩

def vrun (P : Program) (cfg : Cfg) : Nat → Caller
  | 0, _, _, _, _ => none
  | n + 1, f, args, s, ro => match cfg.spec f with
    | some (p, sp) => match sp (s.told f) args s.heap with
      | some (v, h', b, tl) => match !ro || p with
        | true => match s.needG f b with
          | some s' => some (v, { s' with heap := h', log := tl ++ s'.log })
          | none => none
        | false => none
      | none => none
    | none => match cfg.ok f with
      | true => match P.funcs.toList[f]? with
        | some fn => match fn.body with
          | some c => match vcode P cfg (vrun P cfg n) f ro c (args ++ List.replicate (fn.ntmps - args.length) undef) s with
            | some (.normal, t, s') => match vresults P cfg.ext t s'.heap fn.results.toList with
              | some l => some (tupled l, s')
              | none => none
            | some (.ret, t, s') => match vresults P cfg.ext t s'.heap fn.results.toList with
              | some l => some (tupled l, s')
              | none => none
            | _ => none
          | none => none
        | none => none
      | false => none

/-- Is a code of the kind that runs here? -/
def okCode (cfg : Cfg) (dyn : Bool) : Code → Bool
  | .region _ ops d => okOps ops && (!d || drawOK cfg dyn ops)
  | .seq a b => okCode cfg dyn a && okCode cfg dyn b
  | .cond c a b => okOperand c && okCode cfg dyn a && okCode cfg dyn b
  | .block _ c => okCode cfg dyn c
  | .loop c => okCode cfg dyn c
  | _ => true

def okFn (P : Program) (cfg : Cfg) (f : FuncId) : Bool :=
  match P.funcs.toList[f]? with
  | some fn => match fn.body with
    | some c => okCode cfg (cfg.dyn f) c
    | none => true
  | none => true

structure Cfg.Good (P : Program) (cfg : Cfg) : Prop extends cfg.Sound P, AccOK P cfg where
  fns : ∀ f, cfg.ok f = true → okFn P cfg f = true
  specs : ∀ f p sp, cfg.spec f = some (p, sp) → ∀ o args h v h' b tl, sp o args h = some (v, h', b, tl) → b = true → VCalls P cfg.ext f args h v h' ∧ (p = true → h' = h) ∧ h.length ≤ h'.length ∧ ∀ i, i < h.length → i ∉ tl → h'[i]? = h[i]?

theorem VRs.getA {ex : XTab} {bs : List Blk} {t : List Value} {a : Array Value} (h : VRs ex bs t a.toList) (τ : Nat) : VR ex bs (t.getD τ undef) (a.getD τ undef) := by
  have h1 := h.getD τ (VR.undef (ex := ex) (bs := bs))
  have h2 : a.toList.getD τ undef = a.getD τ undef := by
    rcases Nat.lt_or_ge τ a.size with hlt | hge
    · simp [List.getD_eq_getElem?_getD, Array.getD, hlt]
    · simp [List.getD_eq_getElem?_getD, Array.getD, Nat.not_lt.2 hge, Array.getElem?_eq_none hge]
  rw [h2] at h1; exact h1

section
variable {P : Program} {cfg : Cfg} {call : Caller} {f : FuncId} {ro : Bool}

/-- The text's order. -/
theorem vops_sound (hs : cfg.Sound P) (hc : CallOK P cfg call) (ops : Array Oper) (hk : okOps ops = true) : ∀ (l : List Oper), (∀ o ∈ l, ∃ i : Nat, ops[i]? = some o) → ∀ (t : List Value) (s : XS) (t' : List Value) (s' : XS),
    vops P cfg call f ro ops l t s = some (t', s') → s'.ob → s.ob ∧ (ro = true → s'.heap = s.heap) ∧ Logs s s' ∧
    ∀ (bs : List Blk) (a : Act) (w : World) (Q : Exit → Act → World → Prop), VRs cfg.ext bs t a.tmps.toList → Emb cfg.ext bs s.heap w →
      (∀ bs' a' w', Grow bs w bs' w' → Emb cfg.ext bs' s'.heap w' → VRs cfg.ext bs' t' a'.tmps.toList → a'.defers = a.defers → Q .normal a' w') → wpList P ops Q l a w := by
  intro l
  induction l with
  | nil =>
    intro _ t s t' s' h ho
    cases h
    exact ⟨ho, fun _ => rfl, .of_same rfl rfl, fun bs a w Q hv he hQ => hQ bs a w (.refl _ _) he hv rfl⟩
  | cons o r ih =>
    intro hmem t s t' s' h ho
    obtain ⟨i, hoi⟩ := hmem o (by simp)
    simp only [vops] at h
    split at h
    · rename_i hw
      obtain ⟨h1, h2, h2', h3⟩ := ih (fun o ho => hmem o (List.mem_cons_of_mem _ ho)) _ _ _ _ h ho
      refine ⟨h1, h2, h2', fun bs a w Q hv he hQ => ?_⟩
      unfold wpList
      have hwant : Region.wanted o (yielded ops a.tmps) = wantedV ops t o := wantedV_eq (ex := cfg.ext) (bs := bs) (by rw [hv.length]; simp) fun g want τ _ _ => hv.getA τ
      rw [hwant, hw]
      simp only [Bool.false_eq_true, if_false]
      refine h3 bs (a.put o.dst undef) w Q ?_ he fun bs' a' w' hg he' hv' hd => hQ bs' a' w' hg he' hv' (by rw [hd]; cases o.dst <;> rfl)
      cases hod : o.dst with
      | none => exact hv
      | some d => simpa [putT, Act.put] using hv.set d .undef
    · rename_i hw
      split at h
      · rename_i u s1 hu
        obtain ⟨v, s2, hcon⟩ : ∃ v s2, s1.concr f (Oper.dn o) u = (v, s2) := ⟨_, _, rfl⟩
        simp only [hcon] at h
        obtain ⟨h1, h2, h2', h3⟩ := ih (fun o ho => hmem o (List.mem_cons_of_mem _ ho)) _ _ _ _ h ho
        have ho' : (s1.concr f (Oper.dn o) u).2.ob := by rw [hcon]; exact h1
        obtain ⟨g1, g2, g3, g4⟩ := XS.concr_spec s1 f (Oper.dn o) u ho'
        rw [hcon] at g2 g3 g4
        simp only at g2 g3 g4
        obtain ⟨k1, k2, _, k2', k3⟩ := vop_sound hs hc (fun _ => rfl) hu g1
        refine ⟨k1, fun hr => (h2 hr).trans (g3.trans (k2 hr)), k2'.trans ((Logs.of_same g3 g4).trans h2'), fun bs a w Q hv he hQ => ?_⟩
        unfold wpList
        have hgetD : ∀ τ, VR cfg.ext bs (t.getD τ undef) (a.tmps.getD τ undef) := fun τ => hv.getA τ
        have hwant : Region.wanted o (yielded ops a.tmps) = wantedV ops t o := wantedV_eq (ex := cfg.ext) (bs := bs) (by rw [hv.length]; simp) fun g want τ _ _ => hgetD τ
        rw [hwant, hw]
        simp only [if_true]
        left
        refine k3 bs a w _ Q (fun x hx => opr_rel (okOps_spec hk hoi hx) fun τ _ => hgetD τ) he fun bs' w' v' hg he' hv' => ?_
        refine h3 bs' (a.put o.dst v') w' Q ?_ (by rw [g3]; exact he') fun bs2 a2 w2 hg2 he2 hv2 hd => hQ bs2 a2 w2 (hg.trans hg2) he2 hv2 (by rw [hd]; cases o.dst <;> rfl)
        cases hod : o.dst with
        | none => exact hg.vrs hv
        | some d => rw [g2]; simpa [putT, Act.put] using (hg.vrs hv).set d hv'
      · cases h

/-- The text's order, written down. -/
theorem vops_run (ops : Array Oper) : ∀ (l : List Oper) (k : Nat) (t : List Value) (s : XS) (t' : List Value) (s' : XS), (∀ j, l[j]? = ops[k + j]?) → vops P cfg call f ro ops l t s = some (t', s') →
    ∃ (T : Nat → List Value) (S : Nat → XS) (val : Nat → Value), T k = t ∧ S k = s ∧ T (k + l.length) = t' ∧ S (k + l.length) = s' ∧
      ∀ i o, k ≤ i → ops[i]? = some o → StepR P cfg call f ro ops (T i) (S i) o (val i) (S (i + 1)) ∧ T (i + 1) = putT (T i) o.dst (val i) := by
  intro l
  induction l with
  | nil =>
    intro k t s t' s' hl h
    cases h
    refine ⟨fun _ => t, fun _ => s, fun _ => undef, rfl, rfl, rfl, rfl, fun i o hi ho => ?_⟩
    have := hl (i - k)
    rw [show k + (i - k) = i by omega, ho] at this; simp at this
  | cons o r ih =>
    intro k t s t' s' hl h
    have h0 : ops[k]? = some o := by simpa using (hl 0).symm
    have hl' : ∀ j, r[j]? = ops[k + 1 + j]? := fun j => by have := hl (j + 1); simpa [Nat.add_assoc, Nat.add_comm 1 j] using this
    have key : ∀ (v : Value) (s1 : XS), StepR P cfg call f ro ops t s o v s1 → vops P cfg call f ro ops r (putT t o.dst v) s1 = some (t', s') →
        ∃ (T : Nat → List Value) (S : Nat → XS) (val : Nat → Value), T k = t ∧ S k = s ∧ T (k + (o :: r).length) = t' ∧ S (k + (o :: r).length) = s' ∧
          ∀ i o, k ≤ i → ops[i]? = some o → StepR P cfg call f ro ops (T i) (S i) o (val i) (S (i + 1)) ∧ T (i + 1) = putT (T i) o.dst (val i) := by
      intro v s1 hst hrun
      obtain ⟨T, S, val, h1, h2, h3, h4, h5⟩ := ih (k + 1) _ _ _ _ hl' hrun
      refine ⟨fun i => if i = k then t else T i, fun i => if i = k then s else S i, fun i => if i = k then v else val i, by simp, by simp, ?_, ?_, ?_⟩
      · simp only [List.length_cons]
        rw [if_neg (by omega), show k + (r.length + 1) = k + 1 + r.length by omega]; exact h3
      · simp only [List.length_cons]
        rw [if_neg (by omega), show k + (r.length + 1) = k + 1 + r.length by omega]; exact h4
      · intro i oi hi hoi
        by_cases hik : i = k
        · subst hik
          rw [h0] at hoi; cases hoi
          simp only [if_true]
          simp only [if_neg (show i + 1 ≠ i by omega), h2, h1]
          exact ⟨hst, trivial⟩
        · simp only [if_neg hik, if_neg (show i + 1 ≠ k by omega)]
          exact h5 i oi (by omega) hoi
    simp only [vops] at h
    split at h
    · rename_i hw
      exact key undef s (.inl ⟨hw, rfl, rfl⟩) h
    · rename_i hw
      split at h
      · rename_i u s1 hu
        obtain ⟨v, s2, hcon⟩ : ∃ v s2, s1.concr f (Oper.dn o) u = (v, s2) := ⟨_, _, rfl⟩
        simp only [hcon] at h
        exact key v s2 (.inr ⟨hw, s.log, s2.log, u, s1, hu, hcon⟩) h
      · cases h

def DStep (P : Program) (cfg : Cfg) (call : Caller) (f : FuncId) (ro : Bool) (ops : Array Oper) (T : Nat → List Value) (S : Nat → XS) (val : Nat → Value) (recs : List DRec) (i : Nat) (o : Oper) : Prop :=
  StepR P cfg call f ro ops (T i) (S i) o (val i) (S (i + 1)) ∧ T (i + 1) = putT (T i) o.dst (val i) ∧
        ∃ rc : DRec, recs[i]? = some rc ∧ rc.len = (S i).heap.length ∧ (wantedV ops (T i) o = true → isLoad cfg o.op = true → rc.at' = ownOf (loadAddr cfg (opr (T i)) o.op)) ∧
          (wantedV ops (T i) o = false → S (i + 1) = S i) ∧
          (wantedV ops (T i) o = true → ∃ u s1, vop P cfg call f ro (opr (T i)) o { (S i) with log := [] } = some (u, s1) ∧ (s1.concr f (Oper.dn o) u).2.log = rc.new ∧ (s1.concr f (Oper.dn o) u).2.heap = (S (i + 1)).heap ∧ (s1.concr f (Oper.dn o) u).2.ob = (S (i + 1)).ob ∧ (S (i + 1)).log = rc.new ++ (S i).log)

/-- The text's order, written down, where each operation's writing is noted. -/
theorem vopsD_run (ops : Array Oper) : ∀ (l : List Oper) (k : Nat) (t : List Value) (s : XS) (acc : List DRec) (t' : List Value) (s' : XS) (recs : List DRec), acc.length = k → (∀ j, l[j]? = ops[k + j]?) → vopsD P cfg call f ro ops l t s acc = some (t', s', recs) →
    ∃ (T : Nat → List Value) (S : Nat → XS) (val : Nat → Value), T k = t ∧ S k = s ∧ T (k + l.length) = t' ∧ S (k + l.length) = s' ∧ (∀ i, i < k → recs[i]? = acc[i]?) ∧
      ∀ i o, k ≤ i → ops[i]? = some o → DStep P cfg call f ro ops T S val recs i o := by
  intro l
  induction l with
  | nil =>
    intro k t s acc t' s' recs hk hl h
    cases h
    refine ⟨fun _ => t, fun _ => s, fun _ => undef, rfl, rfl, rfl, rfl, fun _ _ => rfl, fun i o hi ho => ?_⟩
    have := hl (i - k)
    rw [show k + (i - k) = i by omega, ho] at this; simp at this
  | cons o r ih =>
    intro k t s acc t' s' recs hk hl h
    have h0 : ops[k]? = some o := by simpa using (hl 0).symm
    have hl' : ∀ j, r[j]? = ops[k + 1 + j]? := fun j => by have := hl (j + 1); simpa [Nat.add_assoc, Nat.add_comm 1 j] using this
    have key : ∀ (v : Value) (s1 : XS) (rc : DRec), StepR P cfg call f ro ops t s o v s1 → rc.len = s.heap.length → (wantedV ops t o = true → isLoad cfg o.op = true → rc.at' = ownOf (loadAddr cfg (opr t) o.op)) →
          (wantedV ops t o = false → s1 = s) → (wantedV ops t o = true → ∃ u s2, vop P cfg call f ro (opr t) o { s with log := [] } = some (u, s2) ∧ (s2.concr f (Oper.dn o) u).2.log = rc.new ∧ (s2.concr f (Oper.dn o) u).2.heap = s1.heap ∧ (s2.concr f (Oper.dn o) u).2.ob = s1.ob ∧ s1.log = rc.new ++ s.log) →
          vopsD P cfg call f ro ops r (putT t o.dst v) s1 (acc ++ [rc]) = some (t', s', recs) → ∃ (T : Nat → List Value) (S : Nat → XS) (val : Nat → Value), T k = t ∧ S k = s ∧ T (k + (o :: r).length) = t' ∧ S (k + (o :: r).length) = s' ∧ (∀ i, i < k → recs[i]? = acc[i]?) ∧
        ∀ i o, k ≤ i → ops[i]? = some o → DStep P cfg call f ro ops T S val recs i o := by
      intro v s1 rc hst hrl hra hrw hrv hrun
      obtain ⟨T, S, val, h1, h2, h3, h4, h6, h5⟩ := ih (k + 1) _ _ _ _ _ _ (by simp [hk]) hl' hrun
      have hrc : recs[k]? = some rc := by rw [h6 k (by omega)]; simp [← hk]
      refine ⟨fun i => if i = k then t else T i, fun i => if i = k then s else S i, fun i => if i = k then v else val i, by simp, by simp, ?_, ?_, ?_, ?_⟩
      · simp only [List.length_cons]
        rw [if_neg (by omega), show k + (r.length + 1) = k + 1 + r.length by omega]; exact h3
      · simp only [List.length_cons]
        rw [if_neg (by omega), show k + (r.length + 1) = k + 1 + r.length by omega]; exact h4
      · intro i hi
        rw [h6 i (by omega), List.getElem?_append_left (by omega)]
      · intro i oi hi hoi
        by_cases hik : i = k
        · subst hik
          rw [h0] at hoi; cases hoi
          unfold DStep
          simp only [if_true]
          simp only [if_neg (show i + 1 ≠ i by omega), h2, h1]
          exact ⟨hst, trivial, rc, hrc, hrl, hra, hrw, hrv⟩
        · have := h5 i oi (by omega) hoi
          unfold DStep at this ⊢
          simp only [if_neg hik, if_neg (show i + 1 ≠ k by omega)]
          exact this
    simp only [vopsD] at h
    split at h
    · rename_i hw
      exact key undef s _ (.inl ⟨hw, rfl, rfl⟩) rfl (fun h => by rw [hw] at h; cases h) (fun _ => rfl) (fun h => by rw [hw] at h; cases h) h
    · rename_i hw
      split at h
      · rename_i u s1 hu
        obtain ⟨v, s2, hcon⟩ : ∃ v s2, s1.concr f (Oper.dn o) u = (v, s2) := ⟨_, _, rfl⟩
        simp only [hcon] at h
        exact key v { s2 with log := s2.log ++ s.log } _ (.inr ⟨hw, [], s2.log, u, s1, hu, hcon⟩) rfl (fun _ hl => by simp only [hl]) (fun h => by rw [hw] at h; cases h)
          (fun _ => ⟨u, s1, hu, by rw [hcon], by rw [hcon], by rw [hcon], rfl⟩) h
      · cases h

theorem ordered_sound {ops : Array Oper} {i j : Nat} (h : ordered (masks ops.toList []) i j = true) : Bef ops i j ∨ Bef ops j i := by
  have key : ∀ a b : Nat, ((masks ops.toList []).getD a 0).testBit b = true → Bef ops b a := by
    intro a b hb
    rw [List.getD_eq_getElem?_getD] at hb
    cases hq : (masks ops.toList [])[a]? with
    | none => rw [hq] at hb; simp at hb
    | some m => rw [hq] at hb; exact masks_sound ops ops.toList [] (by simp) (by simp) a m hq b hb
  unfold ordered at h
  split at h
  · exact .inl (key j i h)
  · exact .inr (key i j h)

theorem regionD_sound (hs : cfg.Sound P) (hc : CallOK P cfg call) (id : Nat) (ops : Array Oper) (hk : okOps ops = true) (hd : drawOK cfg true ops = true) {t : List Value} {s : XS} {t' : List Value} {s' : XS} {recs : List DRec}
    (h : vopsD P cfg call f ro ops ops.toList t s [] = some (t', s', recs)) (hdy : dynCheck cfg ops recs = true) (ho : s'.ob) : s.ob ∧ (ro = true → s'.heap = s.heap) ∧ Logs s s' ∧
    ∀ (bs : List Blk) (a : Act) (w : World) (Q : Exit → Act → World → Prop), VRs cfg.ext bs t a.tmps.toList → Emb cfg.ext bs s.heap w →
      (∀ bs' a' w', Grow bs w bs' w' → Emb cfg.ext bs' s'.heap w' → VRs cfg.ext bs' t' a'.tmps.toList → a'.defers = a.defers → Q .normal a' w') → (Code.region id ops true).wp P Q a w := by
  obtain ⟨T, S, val, e1, e2, e3, e4, _, e5⟩ := vopsD_run ops ops.toList 0 _ _ _ _ _ _ rfl (by simp) h
  simp only [Nat.zero_add, Array.length_toList] at e3 e4
  have hr : TRun P cfg call f ro ops T S val := ⟨fun i o hi => (e5 i o (by omega) hi).1, fun i o hi => (e5 i o (by omega) hi).2.1⟩
  have hoo : (S ops.size).ob := by rw [e4]; exact ho
  have hobs := hr.obs hs hc hoo
  have hlogs : ∀ i, i < ops.size → Logs (S i) (S (i + 1)) ∧ ∀ rc, recs[i]? = some rc → ∀ b, b < (S i).heap.length → b ∉ rc.new → (S (i + 1)).heap[b]? = (S i).heap[b]? := by
    intro i hi
    have hoi : ops[i]? = some ops[i] := Array.getElem?_eq_getElem hi
    obtain ⟨_, _, rc, h1, h2, h3, h4, h5⟩ := e5 i _ (by omega) hoi
    cases hw : wantedV ops (T i) ops[i] with
    | false =>
      rw [h4 hw]
      exact ⟨.of_same rfl rfl, fun _ _ _ _ _ => rfl⟩
    | true =>
      obtain ⟨u, s1, k1, k2, k3, k4, k5⟩ := h5 hw
      have hob1 : (s1.concr f (Oper.dn ops[i]) u).2.ob := by rw [k4]; exact hobs (i + 1) (by omega)
      obtain ⟨g1, g2, g3, g4⟩ := XS.concr_spec s1 f (Oper.dn ops[i]) u hob1
      obtain ⟨_, _, _, ⟨l0, new, l1, l2⟩, _⟩ := vop_sound hs hc (fun _ => rfl) k1 g1
      have hnew : rc.new = new := by rw [← k2, g4, l1]; simp
      have hheap : (S (i + 1)).heap = s1.heap := by rw [← k3, g3]
      refine ⟨⟨by rw [hheap]; exact l0, rc.new, k5, fun b hb hn => by rw [hheap]; exact l2 b hb (by rw [← hnew]; exact hn)⟩, fun rc' hrc' b hb hn => ?_⟩
      rw [h1] at hrc'; cases hrc'
      rw [hheap]; exact l2 b hb (by rw [← hnew]; exact hn)
  have hchain : ∀ k, k ≤ ops.size → Logs s (S k) := by
    intro k
    induction k with
    | zero => intro _; rw [e2]; exact .of_same rfl rfl
    | succ k ih => intro hk; exact (ih (by omega)).trans (hlogs k (by omega)).1
  have hro : ro = true → s'.heap = s.heap := by
    intro hro
    have : ∀ k, k ≤ ops.size → (S k).heap = s.heap := by
      intro k
      induction k with
      | zero => intro _; rw [e2]
      | succ k ih =>
        intro hk
        have hok : ops[k]? = some ops[k] := Array.getElem?_eq_getElem (by omega)
        rw [← ih (by omega)]
        exact ((hr.step k _ hok).ob hs hc (hobs (k + 1) hk)).2.1 hro
    rw [← e4]; exact this _ (Nat.le_refl _)
  have hy : DynOK cfg ops T S := by
    intro i j oi oj hi hj hl he hw hn1 hn2 b hb
    have hilt : i < ops.size := (Array.getElem?_eq_some_iff.1 hi).1
    have hjlt : j < ops.size := (Array.getElem?_eq_some_iff.1 hj).1
    obtain ⟨_, _, ri, r1, r2, r3, _, _⟩ := e5 i oi (by omega) hi
    obtain ⟨_, _, rj, q1, q2, _, _, _⟩ := e5 j oj (by omega) hj
    have hat := (r3 hw hl).trans hb
    have hc1 := List.all_eq_true.1 hdy j (List.mem_range.2 hjlt)
    rw [hj, q1] at hc1
    simp only [he, Bool.not_true, Bool.false_or] at hc1
    have hc2 := List.all_eq_true.1 hc1 i (List.mem_range.2 hilt)
    rw [r1] at hc2
    simp only [dynOne, hat, Bool.or_eq_true, Bool.and_eq_true, Bool.not_eq_true'] at hc2
    have hno : ¬ ordered (masks ops.toList []) i j = true := fun hor => by
      rcases ordered_sound hor with hb | hb
      · exact hn1 hb
      · exact hn2 hb
    obtain ⟨c1, c2⟩ := hc2.resolve_left hno
    refine (hlogs j hjlt).2 rj q1 _ ?_ ?_
    · rw [← q2]; exact Nat.lt_of_lt_of_le (Nat.lt_of_succ_le (Nat.le_of_ble_eq_true c1)) (Nat.le_refl _)
    · intro hm
      have : rj.new.contains b = true := by simpa using hm
      rw [c2] at this; cases this
  refine ⟨by have := hobs 0 (by omega); rw [e2] at this; exact this, hro, by have := hchain ops.size (Nat.le_refl _); rw [e4] at this; exact this, fun bs a w Q hv he hQ => ?_⟩
  refine wp_region_any hs.mixed ?_
  have hgetD : ∀ τ, VR cfg.ext bs (t.getD τ undef) (a.tmps.getD τ undef) := fun τ => hv.getA τ
  have hrep : ∀ i, (Array.replicate ops.size false).getD i false = false := fun i => by
    simp only [Array.getD]; split
    · simp
    · rfl
  refine draw_any hs hc hd hk hr hy hoo a.defers bs w Q (fun bs' a' w' hg he' hv' hd' => hQ bs' a' w' hg (by rw [← e4]; exact he') (by rw [← e3]; exact hv') hd') ops.size _ bs a _ ?_ (.drew _ _) (fun _ _ _ => trivial) ?_
  · refine ⟨by simp, by rw [e1, hv.length]; simp, rfl, fun j o e hj => ?_, fun τ hτ i o _ _ hL => ?_, fun τ hτ _ => by rw [e1]; exact hgetD τ, ⟨0, by omega, fun i o _ _ => ?_, by rw [e2]; exact he.drew⟩⟩
    · rw [hrep] at hj; cases hj
    · rw [hrep] at hL; cases hL
    · rw [hrep]; simp
  · have : ((List.range ops.size).filter fun i => !(Array.replicate ops.size false).getD i false) = List.range ops.size := by
      rw [List.filter_eq_self]; intro i _; rw [hrep]; rfl
    rw [this]; simp

theorem region_sound (hs : cfg.Sound P) (hc : CallOK P cfg call) (id : Nat) (ops : Array Oper) (d : Bool) (hk : okOps ops = true) (hd : d = true → drawOK cfg false ops = true) {t : List Value} {s : XS} {t' : List Value} {s' : XS}
    (h : vops P cfg call f ro ops ops.toList t s = some (t', s')) (ho : s'.ob) : s.ob ∧ (ro = true → s'.heap = s.heap) ∧ Logs s s' ∧
    ∀ (bs : List Blk) (a : Act) (w : World) (Q : Exit → Act → World → Prop), VRs cfg.ext bs t a.tmps.toList → Emb cfg.ext bs s.heap w →
      (∀ bs' a' w', Grow bs w bs' w' → Emb cfg.ext bs' s'.heap w' → VRs cfg.ext bs' t' a'.tmps.toList → a'.defers = a.defers → Q .normal a' w') → (Code.region id ops d).wp P Q a w := by
  obtain ⟨h1, h2, h2', h3⟩ := vops_sound hs hc ops hk ops.toList (fun o ho => by
    obtain ⟨i, hi⟩ := List.getElem?_of_mem ho; exact ⟨i, by simpa using hi⟩) _ _ _ _ h ho
  refine ⟨h1, h2, h2', fun bs a w Q hv he hQ => ?_⟩
  cases d with
  | false => exact wp_region_list (h3 bs a w Q hv he hQ)
  | true =>
    have hdk := hd rfl
    obtain ⟨T, S, val, e1, e2, e3, e4, e5⟩ := vops_run ops ops.toList 0 _ _ _ _ (by simp) h
    simp only [Nat.zero_add, Array.length_toList] at e3 e4
    have hr : TRun P cfg call f ro ops T S val := ⟨fun i o hi => (e5 i o (by omega) hi).1, fun i o hi => (e5 i o (by omega) hi).2⟩
    refine wp_region_any hs.mixed ?_
    have hgetD : ∀ τ, VR cfg.ext bs (t.getD τ undef) (a.tmps.getD τ undef) := fun τ => hv.getA τ
    have hrep : ∀ i, (Array.replicate ops.size false).getD i false = false := fun i => by
      simp only [Array.getD]; split
      · simp
      · rfl
    have hy : DynOK cfg ops T S := by
      intro i j oi oj hi hj hl he _ hn1 hn2
      exfalso
      have hsi : isSil oi.op = false := by
        cases hx : isSil oi.op with
        | false => rfl
        | true =>
          unfold isLoad at hl
          split at hl
          · rename_i e; rw [e] at hx; simp [isSil] at hx
          · rename_i e; rw [e] at hx; simp [isSil] at hx
          · cases hl
      rcases Nat.lt_trichotomy i j with hij | hij | hij
      · exact hn1 ((drawOK_pair hdk hij hi hj).2 (by simp [confl, he, loud, hsi]))
      · subst hij
        rw [hi] at hj; cases hj
        have : isRead cfg oi.op = true := by
          unfold isLoad at hl
          split at hl
          · rename_i e; rw [e]; rfl
          · rename_i g _ _ e
            rw [e]
            simp only [isRead]
            cases hq : accOf cfg g with
            | none => rw [hq] at hl; cases hl
            | some q => rfl
          · cases hl
        unfold eff at he
        rw [this] at he; simp at he
      · exact hn2 ((drawOK_pair hdk hij hj hi).2 (by simp [confl, he, loud, hsi]))
    refine draw_any hs hc hdk hk hr hy (by rw [e4]; exact ho) a.defers bs w Q (fun bs' a' w' hg he' hv' hd' => hQ bs' a' w' hg (by rw [← e4]; exact he') (by rw [← e3]; exact hv') hd') ops.size _ bs a _ ?_ (.drew _ _) (fun _ _ _ => trivial) ?_
    · refine ⟨by simp, by rw [e1, hv.length]; simp, rfl, fun j o e hj => ?_, fun τ hτ i o _ _ hL => ?_, fun τ hτ _ => by rw [e1]; exact hgetD τ, ⟨0, by omega, fun i o _ _ => ?_, by rw [e2]; exact he.drew⟩⟩
      · rw [hrep] at hj; cases hj
      · rw [hrep] at hL; cases hL
      · rw [hrep]; simp
    · have : ((List.range ops.size).filter fun i => !(Array.replicate ops.size false).getD i false) = List.range ops.size := by
        rw [List.filter_eq_self]; intro i _; rw [hrep]; rfl
      rw [this]; simp

theorem code_sound (hs : cfg.Sound P) (hc : CallOK P cfg call) : ∀ (c : Code), okCode cfg (cfg.dyn f) c = true → ∀ (t : List Value) (s : XS) (x : X) (t' : List Value) (s' : XS), vcode P cfg call f ro c t s = some (x, t', s') → s'.ob →
    s.ob ∧ (ro = true → s'.heap = s.heap) ∧ Logs s s' ∧
    ∀ (bs : List Blk) (a : Act) (w : World) (Q : Exit → Act → World → Prop), VRs cfg.ext bs t a.tmps.toList → Emb cfg.ext bs s.heap w →
      (∀ bs' a' w', Grow bs w bs' w' → Emb cfg.ext bs' s'.heap w' → VRs cfg.ext bs' t' a'.tmps.toList → a'.defers = a.defers → Q x.real a' w') → c.wp P Q a w := by
  intro c
  induction c with
  | skip => intro _ t s x t' s' h ho; cases h; exact ⟨ho, fun _ => rfl, .of_same rfl rfl, fun bs a w Q hv he hQ => wp_skip (hQ bs a w (.refl _ _) he hv rfl)⟩
  | region id ops d =>
    intro hk t s x t' s' h ho
    simp only [okCode, Bool.and_eq_true, Bool.or_eq_true, Bool.not_eq_true'] at hk
    simp only [vcode] at h
    split at h
    · rename_i hdd
      rw [Bool.and_eq_true] at hdd
      obtain ⟨rfl, hdyn⟩ := hdd
      split at h
      · rename_i t1 s1 recs h1
        split at h
        · rename_i hck
          cases h
          exact regionD_sound hs hc id ops hk.1 (by have := hk.2.resolve_left (by simp); rw [hdyn] at this; exact this) h1 hck ho
        · cases h
      · cases h
    · rename_i hdd
      split at h
      · rename_i t1 s1 h1
        cases h
        refine region_sound hs hc id ops d hk.1 (fun hd => ?_) h1 ho
        subst hd
        have h2 : cfg.dyn f = false := by simpa using hdd
        have := hk.2.resolve_left (by simp)
        rw [h2] at this; exact this
      · cases h
  | seq c d ihc ihd =>
    intro hk t s x t' s' h ho
    simp only [okCode, Bool.and_eq_true] at hk
    simp only [vcode] at h
    split at h
    · rename_i t1 s1 h1
      obtain ⟨g1, g2, g2', g3⟩ := ihd hk.2 _ _ _ _ _ h ho
      obtain ⟨k1, k2, k2', k3⟩ := ihc hk.1 _ _ _ _ _ h1 g1
      refine ⟨k1, fun hr => (g2 hr).trans (k2 hr), k2'.trans g2', fun bs a w Q hv he hQ => wp_seq (k3 bs a w _ hv he fun bs' a' w' hg he' hv' hd => ?_)⟩
      exact g3 bs' a' w' Q hv' he' fun bs2 a2 w2 hg2 he2 hv2 hd2 => hQ bs2 a2 w2 (hg.trans hg2) he2 hv2 (hd2.trans hd)
    · rename_i hne
      obtain ⟨k1, k2, k2', k3⟩ := ihc hk.1 _ _ _ _ _ h ho
      refine ⟨k1, k2, k2', fun bs a w Q hv he hQ => wp_seq (k3 bs a w _ hv he fun bs' a' w' hg he' hv' hd => ?_)⟩
      have := hQ bs' a' w' hg he' hv' hd
      cases x with
      | normal => exact (hne _ _ h).elim
      | exit id => exact this
      | ret => exact this
  | cond c x y ihx ihy =>
    intro hk t s e t' s' h ho
    simp only [okCode, Bool.and_eq_true] at hk
    simp only [vcode] at h
    have hcv : ∀ (bs : List Blk) (a : Act), VRs cfg.ext bs t a.tmps.toList → VR cfg.ext bs (opr t c) (a.eval c) := fun bs a hv => opr_rel hk.1.1 fun τ _ => hv.getA τ
    split at h
    · rename_i hb
      obtain ⟨g1, g2, g2', g3⟩ := ihx hk.1.2 _ _ _ _ _ h ho
      refine ⟨g1, g2, g2', fun bs a w Q hv he hQ => ?_⟩
      have h1 := hcv bs a hv
      rw [hb] at h1
      generalize hz : a.eval c = z at h1
      cases h1
      exact wp_cond_true hz (g3 bs a w Q hv he hQ)
    · rename_i hb
      obtain ⟨g1, g2, g2', g3⟩ := ihy hk.2 _ _ _ _ _ h ho
      refine ⟨g1, g2, g2', fun bs a w Q hv he hQ => ?_⟩
      have h1 := hcv bs a hv
      rw [hb] at h1
      generalize hz : a.eval c = z at h1
      cases h1
      exact wp_cond_false hz (g3 bs a w Q hv he hQ)
    · cases h
  | block id c ih =>
    intro hk t s x t' s' h ho
    simp only [vcode] at h
    split at h
    · rename_i id' t1 s1 h1
      split at h
      · rename_i hb
        cases h
        have hb := Nat.eq_of_beq_eq_true hb
        subst hb
        obtain ⟨g1, g2, g2', g3⟩ := ih hk _ _ _ _ _ h1 ho
        refine ⟨g1, g2, g2', fun bs a w Q hv he hQ => wp_block (g3 bs a w _ hv he fun bs' a' w' hg he' hv' hd => ?_)⟩
        simp only [X.real, Exit.inBlock, if_true]
        exact hQ bs' a' w' hg he' hv' hd
      · rename_i hb
        cases h
        obtain ⟨g1, g2, g2', g3⟩ := ih hk _ _ _ _ _ h1 ho
        refine ⟨g1, g2, g2', fun bs a w Q hv he hQ => wp_block (g3 bs a w _ hv he fun bs' a' w' hg he' hv' hd => ?_)⟩
        have hne : id' ≠ id := fun h => by subst h; simp at hb
        simp only [X.real, Exit.inBlock, if_neg hne]
        exact hQ bs' a' w' hg he' hv' hd
    · rename_i hne
      obtain ⟨g1, g2, g2', g3⟩ := ih hk _ _ _ _ _ h ho
      refine ⟨g1, g2, g2', fun bs a w Q hv he hQ => wp_block (g3 bs a w _ hv he fun bs' a' w' hg he' hv' hd => ?_)⟩
      have := hQ bs' a' w' hg he' hv' hd
      cases x with
      | normal => exact this
      | exit id' => exact (hne _ _ _ h).elim
      | ret => exact this
  | loop c ih =>
    intro hk t s x t' s' h ho
    simp only [vcode] at h
    have key : ∀ (n : Nat) (t : List Value) (s : XS), loopN n (vcode P cfg call f ro c) t s = some (x, t', s') → s.ob ∧ (ro = true → s'.heap = s.heap) ∧ Logs s s' ∧
        ∀ (bs : List Blk) (a : Act) (w : World) (Q : Exit → Act → World → Prop), VRs cfg.ext bs t a.tmps.toList → Emb cfg.ext bs s.heap w →
          (∀ bs' a' w', Grow bs w bs' w' → Emb cfg.ext bs' s'.heap w' → VRs cfg.ext bs' t' a'.tmps.toList → a'.defers = a.defers → Q x.real a' w') → Code.rounds P c Q n a w := by
      intro n
      induction n with
      | zero => intro t s h; cases h
      | succ n ihn =>
        intro t s h
        simp only [loopN] at h
        split at h
        · rename_i t1 s1 h1
          obtain ⟨g1, g2, g2', g3⟩ := ihn _ _ h
          obtain ⟨k1, k2, k2', k3⟩ := ih hk _ _ _ _ _ h1 g1
          refine ⟨k1, fun hr => (g2 hr).trans (k2 hr), k2'.trans g2', fun bs a w Q hv he hQ => ?_⟩
          rw [rounds_succ]
          exact k3 bs a w _ hv he fun bs' a' w' hg he' hv' hd => g3 bs' a' w' Q hv' he' fun bs2 a2 w2 hg2 he2 hv2 hd2 => hQ bs2 a2 w2 (hg.trans hg2) he2 hv2 (hd2.trans hd)
        · rename_i hne
          obtain ⟨k1, k2, k2', k3⟩ := ih hk _ _ _ _ _ h ho
          refine ⟨k1, k2, k2', fun bs a w Q hv he hQ => ?_⟩
          rw [rounds_succ]
          refine k3 bs a w _ hv he fun bs' a' w' hg he' hv' hd => ?_
          have := hQ bs' a' w' hg he' hv' hd
          cases x with
          | normal => exact (hne _ _ h).elim
          | exit id => exact this
          | ret => exact this
    obtain ⟨g1, g2, g2', g3⟩ := key _ _ _ h
    exact ⟨g1, g2, g2', fun bs a w Q hv he hQ => wp_loop_rounds cfg.rounds (g3 bs a w Q hv he hQ)⟩
  | exit id => intro _ t s x t' s' h ho; cases h; exact ⟨ho, fun _ => rfl, .of_same rfl rfl, fun bs a w Q hv he hQ => wp_exit (hQ bs a w (.refl _ _) he hv rfl)⟩
  | ret => intro _ t s x t' s' h ho; cases h; exact ⟨ho, fun _ => rfl, .of_same rfl rfl, fun bs a w Q hv he hQ => wp_ret (hQ bs a w (.refl _ _) he hv rfl)⟩
  | _ => intro _ t s x t' s' h ho; simp [vcode] at h

def resOne (tmps : Array Value) : ResultVar → Sem Value
  | .tmp t => pure (tmps.getD t undef)
  | .cell a t => (asAddr (tmps.getD a undef)) >>= fun x => loadVar t x

theorem vresults_sound {w : World} {bs : List Blk} {h : VHeap} {t : List Value} {tmps : Array Value} (hv : VRs cfg.ext bs t tmps.toList) (he : Emb cfg.ext bs h w) : ∀ (rs : List ResultVar) (l : List Value), vresults P cfg.ext t h rs = some l →
    ∃ l', (rs.mapM (resOne tmps) : Sem (List Value)).run P w = .ok l' w ∧ VRs cfg.ext bs l l' := by
  have hgetD : ∀ τ, VR cfg.ext bs (t.getD τ undef) (tmps.getD τ undef) := fun τ => hv.getA τ
  intro rs
  induction rs with
  | nil => intro l h; cases h; exact ⟨[], by simp, .nil⟩
  | cons r rest ih =>
    intro l hl
    cases r with
    | tmp i =>
      simp only [vresults] at hl
      split at hl
      · rename_i l1 h1
        cases hl
        obtain ⟨l', g1, g2⟩ := ih _ h1
        exact ⟨tmps.getD i undef :: l', by simp only [List.mapM_cons, resOne, Sem.run_bind, Sem.run_pure, Result.andThen_ok, g1], .cons _ _ _ _ (hgetD i) g2⟩
      · cases hl
    | cell a ty =>
      simp only [vresults] at hl
      split at hl
      · rename_i v hld
        split at hl
        · rename_i l1 h1
          cases hl
          obtain ⟨l', g1, g2⟩ := ih _ h1
          obtain ⟨v', k1, k2⟩ := vload_sound (w := w) hld rfl he (hgetD a)
          have hz : ∃ x, tmps.getD a undef = .pointer (some x) := by
            have := hgetD a
            unfold vload at hld
            split at hld
            · rename_i i off k hh; rw [hh] at this; cases hq : tmps.getD a undef <;> rw [hq] at this <;> cases this; exact ⟨_, rfl⟩
            · rename_i i off hh; rw [hh] at this; cases hq : tmps.getD a undef <;> rw [hq] at this <;> cases this; exact ⟨_, rfl⟩
            · cases hld
          obtain ⟨x, hx⟩ := hz
          rw [hx] at k1
          simp only [Instr.loadAt, Instr.sureAddr, Sem.run_bind, Sem.run_pure, Result.andThen_ok] at k1
          have k0 : (resOne tmps (.cell a ty)).run P w = .ok v' w := by
            simp only [resOne, hx, asAddr, Sem.run_bind, Sem.run_pure, Result.andThen_ok, k1]
          exact ⟨v' :: l', by simp only [List.mapM_cons, Sem.run_bind, Sem.run_pure, Result.andThen_ok, k0, g1], .cons _ _ _ _ k2 g2⟩
        · cases hl
      · cases hl

theorem results_eq (fn : Func) (tmps : Array Value) : results fn tmps = (fn.results.mapM (resOne tmps) >>= fun vs => pure (if h : vs.size = 1 then vs[0] else .tuple vs)) := rfl

theorem results_sound {w : World} {bs : List Blk} {h : VHeap} {t : List Value} {a : Act} {fn : Func} (hv : VRs cfg.ext bs t a.tmps.toList) (he : Emb cfg.ext bs h w) {l : List Value} (hl : vresults P cfg.ext t h fn.results.toList = some l) :
    ∃ v', (results fn a.tmps).run P w = .ok v' w ∧ VR cfg.ext bs (tupled l) v' := by
  obtain ⟨l', h1, h2⟩ := vresults_sound (P := P) hv he _ _ hl
  rw [results_eq, Array.mapM_eq_mapM_toList]
  simp only [Sem.run_bind, Sem.run_map, h1, Result.andThen_ok, Sem.run_pure]
  cases h2 with
  | nil => exact ⟨_, rfl, .tuple _ _ .nil⟩
  | cons v v' r r' hv hr => cases hr with
    | nil => exact ⟨v', rfl, hv⟩
    | cons u u' q q' hu hq =>
      refine ⟨.tuple ⟨v' :: u' :: q'⟩, ?_, .tuple _ _ (.cons _ _ _ _ hv (.cons _ _ _ _ hu hq))⟩
      rw [dif_neg (by simp)]

theorem vrun_sound (hg : cfg.Good P) : ∀ n, CallOK P cfg (vrun P cfg n) := by
  intro n
  induction n with
  | zero => exact ⟨hg.toAccOK, fun f args s ro v s' h => by cases h⟩
  | succ n ih =>
    refine ⟨hg.toAccOK, ?_⟩
    intro f args s ro v s' h ho
    simp only [vrun] at h
    split at h
    · rename_i p sp hsp
      split at h
      · rename_i u h' b tl hq
        split at h
        · rename_i hro
          split at h
          · rename_i s1 hn
            cases h
            obtain ⟨g1, g2, g3, g4⟩ := XS.needG_spec hn ho
            obtain ⟨k1, k2, k3, k4⟩ := hg.specs f p sp hsp (s.told f) args s.heap _ _ b tl hq g2
            exact ⟨g1, k1, fun hr => k2 (by rw [hr] at hro; simpa using hro), k3, tl, by simp [g4], k4⟩
          · cases h
        · cases h
      · cases h
    · split at h
      · rename_i hok
        split at h
        · rename_i fn hfn
          split at h
          · rename_i c hbody
            have hkc : okCode cfg (cfg.dyn f) c = true := by
              have := hg.fns f hok
              unfold okFn at this
              rw [hfn] at this; simp only [hbody] at this; exact this
            have hP : P.funcs[f]? = some fn := by simpa using hfn
            have fin : ∀ (x : X) (t : List Value) (s1 : XS) (l : List Value), (x = .normal ∨ x = .ret) → vcode P cfg (vrun P cfg n) f ro c (args ++ List.replicate (fn.ntmps - args.length) undef) s = some (x, t, s1) →
                vresults P cfg.ext t s1.heap fn.results.toList = some l → s1.ob → s.ob ∧ VCalls P cfg.ext f args s.heap (tupled l) s1.heap ∧ (ro = true → s1.heap = s.heap) ∧ Logs s s1 := by
              intro x t s1 l hx h1 h2 ho
              obtain ⟨g1, g2, g2', g3⟩ := code_sound hg.toSound ih c hkc _ _ _ _ _ h1 ho
              refine ⟨g1, fun bs w args' he hv => ?_, g2, g2'⟩
              refine calls_of_wp hP hbody ?_
              refine g3 bs _ w _ ?_ he fun bs' a' w' hgr he' hv' hd => ?_
              · have hlen := hv.length
                have : ((⟨args'⟩ : Array Value) ++ Array.replicate (fn.ntmps - (⟨args'⟩ : Array Value).size) undef).toList = args' ++ List.replicate (fn.ntmps - args.length) undef := by simp [hlen]
                simp only
                rw [this]
                exact hv.append (.replicate _ .undef)
              · obtain ⟨v', k1, k2⟩ := results_sound hv' he' h2
                rcases hx with rfl | rfl
                · exact ⟨hd, v', k1, v', bs', rfl, k2, he', hgr⟩
                · exact ⟨hd, v', k1, v', bs', rfl, k2, he', hgr⟩
            split at h
            · rename_i t s1 h1
              split at h
              · rename_i l hl; cases h; exact fin .normal _ _ _ (.inl rfl) h1 hl ho
              · cases h
            · rename_i t s1 h1
              split at h
              · rename_i l hl; cases h; exact fin .ret _ _ _ (.inr rfl) h1 hl ho
              · cases h
            · cases h
          · cases h
        · cases h
      · cases h

def expOb : List Hint → Prop → Prop
  | [], p => p
  | h :: r, p => expOb r (p ∧ h.q)

theorem expOb_true : ∀ (l : List Hint) (p : Prop), p → expOb l p
  | [], _, h => h
  | x :: r, _, h => expOb_true r _ ⟨h, x.holds⟩

/-- THE USE: a run that was looked at is a contract. -/
theorem contract (hg : cfg.Good P) (n : Nat) (hints : List Hint) (args : List Value) (h : VHeap) (v : Value) (h' : VHeap)
    (lg : List Nat)
    (hr : vrun P cfg n f args ⟨h, hints, True, []⟩ false = some (v, ⟨h', [], expOb hints True, lg⟩)) : VCalls P cfg.ext f args h v h' :=
  ((vrun_sound hg n).sound f args _ false v _ hr (expOb_true _ _ trivial)).2.1

end
end Go.Vx
