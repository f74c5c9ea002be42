/- The run over the virtual heap; one operation of it. -/
import Derived.Test.YtmngemjclljpiaaGreatVxEb
namespace Go.Vx

def XS.need (s : XS) (f t : Nat) (b : Bool) : Option XS :=
  match s.hints with
  | .fact f' t' q hq :: r => match Nat.beq f f' && Nat.beq t t' with
    | true => some { s with hints := r, ob := s.ob ∧ b = true }
    | false => match b with
      | true => some s
      | false => none
  | _ => match b with
    | true => some s
    | false => none

/-- What is told to a contract. -/
def XS.told (s : XS) (f : Nat) : Value :=
  match s.hints with
  | .give f' v _ _ :: _ => match Nat.beq f f' with
    | true => v
    | false => .nilIface
  | _ => .nilIface

def XS.needG (s : XS) (f : Nat) (b : Bool) : Option XS :=
  match s.hints with
  | .give f' _ _ _ :: r => match Nat.beq f f' with
    | true => some { s with hints := r, ob := s.ob ∧ b = true }
    | false => match b with
      | true => some s
      | false => none
  | _ => s.need f 0 b

def XS.concr (s : XS) (f t : Nat) (u : Value) : Value × XS :=
  match s.hints with
  | .val f' t' v v' _ :: r => match Nat.beq f f' && Nat.beq t t' with
    | true => (v', { s with hints := r, ob := s.ob ∧ u = v })
    | false => (u, s)
  | _ => (u, s)

def opr (t : List Value) : Operand → Value
  | .tmp i => t.getD i undef
  | .const v => v
  | .global g => .pointer (some ⟨g, 0, none⟩)
  | .func f => .func (.func f) #[] #[]

def okOperand : Operand → Bool
  | .const v => plain v
  | .global _ => false
  | _ => true

def putT (t : List Value) (dst : Option Tmp) (v : Value) : List Value :=
  match dst with
  | some d => t.set d v
  | none => t

def Oper.dn (o : Oper) : Nat := o.dst.getD 0

def blockOf : Value → Nat
  | .pointer (some a) => a.block
  | _ => 0

/-- The block of its own at which an address lies. -/
def ownOf : Value → Option Nat
  | .pointer (some ⟨b, _, none⟩) => some b
  | _ => none

/-- The address at which an accessor reads. -/
def accAddr (off : Nat) : List Value → Value
  | [.pointer (some ⟨b, o, none⟩)] => .pointer (some ⟨b, o + off, none⟩)
  | _ => .nilIface

abbrev Caller := FuncId → List Value → XS → Bool → Option (Value × XS)

def accOf (cfg : Cfg) : Operand → Option (TypeId × Nat)
  | .func k => match cfg.callable k with
    | true => cfg.acc k
    | false => none
  | _ => none

def vop (P : Program) (cfg : Cfg) (call : Caller) (f : FuncId) (ro : Bool) (ρ : Operand → Value) (o : Oper) (s : XS) : Option (Value × XS) :=
  match o.op with
  | .load ty a => match vload P cfg.ext ty s.heap (ρ a) with
    | some (v, b) => match s.need f (Oper.dn o) b with
      | some s' => some (v, s')
      | none => none
    | none => none
  | .store ty a x => match ro with
    | true => none
    | false => match vstore P ty s.heap (ρ a) (ρ x) with
      | some (h', b) => match s.need f (Oper.dn o) b with
        | some s' => some (undef, { s' with heap := h', log := blockOf (ρ a) :: s'.log })
        | none => none
      | none => none
  | .call { callee := .value g, args, .. } => match accOf cfg g with
    | some (ty, off) => match vload P cfg.ext ty s.heap (accAddr off (args.toList.map ρ)) with
      | some (v, true) => some (v, s)
      | _ => none
    | none => match ρ g with
      | .func (.func k) ⟨a⟩ ⟨c⟩ => match cfg.callable k with
        | true => call k (a ++ args.toList.map ρ ++ c) s (ro || cfg.ro k)
        | false => none
      | _ => none
  | .call { callee := .invoke r name, args, .. } => match ρ r with
    | .iface ty v => match cfg.meth ty name with
      | some k => match cfg.callable k with
        | true => call k (v :: args.toList.map ρ) s (ro || cfg.ro k)
        | false => none
      | none => none
    | _ => none
  | .call { callee := .builtin .append, args, argTypes } => match ro, args.toList with
    | false, [x, y] => match vappend P s.heap argTypes.toList (ρ x) (ρ y) with
      | some (v, h', b, tl) => match s.need f (Oper.dn o) b with
        | some s' => some (v, { s' with heap := h', log := tl ++ s'.log })
        | none => none
      | none => none
    | _, _ => none
  | op => match vopN P ρ op with
    | some (ob, n, b) => match ro with
      | true => none
      | false => match s.need f (Oper.dn o) b with
        | some s' => some (newValue s.heap.length n, { s' with heap := s.heap ++ [ob] })
        | none => none
    | none => match vopS P cfg ρ op with
      | some (v, b) => match s.need f (Oper.dn o) b with
        | some s' => some (v, s')
        | none => none
      | none => none

def VCalls (P : Program) (ex : XTab) (f : FuncId) (args : List Value) (h : VHeap) (v : Value) (h' : VHeap) : Prop :=
  ∀ (bs : List Blk) (w : World) (args' : List Value), Emb ex bs h w → VRs ex bs args args' →
    Calls P f ⟨args'⟩ w fun e w' => ∃ v' bs', e = .returned v' ∧ VR ex bs' v v' ∧ Emb ex bs' h' w' ∧ Grow bs w bs' w'

/-- What was written is written down. -/
def Logs (s s' : XS) : Prop := s.heap.length ≤ s'.heap.length ∧ ∃ new, s'.log = new ++ s.log ∧ ∀ b, b < s.heap.length → b ∉ new → s'.heap[b]? = s.heap[b]?

theorem Logs.of_same {s s' : XS} (h : s'.heap = s.heap) (hl : s'.log = s.log) : Logs s s' := ⟨by rw [h]; exact Nat.le_refl _, [], by simp [hl], fun b _ _ => by rw [h]⟩

theorem Logs.trans {s s1 s2 : XS} (h : Logs s s1) (h' : Logs s1 s2) : Logs s s2 := by
  obtain ⟨h0, n1, e1, g1⟩ := h
  obtain ⟨h0', n2, e2, g2⟩ := h'
  refine ⟨Nat.le_trans h0 h0', n2 ++ n1, by rw [e2, e1]; simp, fun b hb hn => ?_⟩
  rw [g2 b (Nat.lt_of_lt_of_le hb h0) (fun hm => hn (List.mem_append_left _ hm)), g1 b hb (fun hm => hn (List.mem_append_right _ hm))]

structure AccOK (P : Program) (cfg : Cfg) : Prop where
  acc : ∀ k ty off, cfg.acc k = some (ty, off) → ∀ (h : VHeap) (b o : Nat) (v : Value), vload P cfg.ext ty h (.pointer (some ⟨b, o + off, none⟩)) = some (v, true) → VCalls P cfg.ext k [.pointer (some ⟨b, o, none⟩)] h v h

structure CallOK (P : Program) (cfg : Cfg) (call : Caller) : Prop extends AccOK P cfg where
  sound : ∀ f args s ro v s', call f args s ro = some (v, s') → s'.ob → s.ob ∧ VCalls P cfg.ext f args s.heap v s'.heap ∧ (ro = true → s'.heap = s.heap) ∧ Logs s s'

theorem XS.need_spec {s s' : XS} {f t : Nat} {b : Bool} (h : s.need f t b = some s') (ho : s'.ob) : s.ob ∧ b = true ∧ s'.heap = s.heap ∧ s'.log = s.log := by
  unfold XS.need at h
  split at h
  · split at h
    · cases h; exact ⟨ho.1, ho.2, rfl, rfl⟩
    · split at h
      · cases h; exact ⟨ho, rfl, rfl, rfl⟩
      · cases h
  · split at h
    · cases h; exact ⟨ho, rfl, rfl, rfl⟩
    · cases h

theorem XS.needG_spec {s s' : XS} {f : Nat} {b : Bool} (h : s.needG f b = some s') (ho : s'.ob) : s.ob ∧ b = true ∧ s'.heap = s.heap ∧ s'.log = s.log := by
  unfold XS.needG at h
  split at h
  · split at h
    · cases h; exact ⟨ho.1, ho.2, rfl, rfl⟩
    · split at h
      · cases h; exact ⟨ho, rfl, rfl, rfl⟩
      · cases h
  · exact XS.need_spec h ho

theorem XS.concr_spec (s : XS) (f t : Nat) (u : Value) (ho : (s.concr f t u).2.ob) : s.ob ∧ (s.concr f t u).1 = u ∧ (s.concr f t u).2.heap = s.heap ∧ (s.concr f t u).2.log = s.log := by
  unfold XS.concr at *
  split at ho
  · rename_i f' t' v v' hv r hh
    split at ho
    · rename_i hb
      simp only [hb]
      exact ⟨ho.1, by rw [ho.2]; exact hv.symm, trivial, trivial⟩
    · rename_i hb
      simp only [hb]
      exact ⟨ho, trivial, trivial, trivial⟩
  · exact ⟨ho, rfl, rfl, rfl⟩

def isSil : Op → Bool
  | .load .. | .store .. | .alloc _ | .box .. | .buildSlice .. | .makeSlice .. => false
  | .call { callee := .builtin .append, .. } => false
  | .call { callee := .value _, .. } => false
  | .call { callee := .invoke .., .. } => false
  | _ => true

def isLoad (cfg : Cfg) : Op → Bool
  | .load .. => true
  | .call { callee := .value g, .. } => match accOf cfg g with
    | some _ => true
    | none => false
  | _ => false

def isRead (cfg : Cfg) : Op → Bool
  | .load .. => true
  | .call { callee := .value g, .. } => match accOf cfg g with
    | some _ => true
    | none => match g with
      | .func k => cfg.ro k
      | _ => false
  | _ => false

/-- Where a load, or an accessor, reads. -/
def loadAddr (cfg : Cfg) (ρ : Operand → Value) : Op → Value
  | .load _ a => ρ a
  | .call { callee := .value g, args, .. } => match accOf cfg g with
    | some (_, off) => accAddr off (args.toList.map ρ)
    | none => .nilIface
  | _ => .nilIface

section
variable {P : Program} {w : World} {bs : List Blk} {h : VHeap} {ex : XTab}

theorem vopN_none_of_sil {ρ : Operand → Value} {op : Op} (h : isSil op = true) : vopN P ρ op = none := by
  cases op <;> first | rfl | simp [isSil] at h

/-- A silent operation: its value hangs on no memory. -/
theorem vop_sil {cfg : Cfg} (hs : cfg.Sound P) {call : Caller} {f : FuncId} {ro : Bool} {ρ : Operand → Value} {o : Oper} {s s' : XS} {v : Value} (hsil : isSil o.op = true)
    (hv : vop P cfg call f ro ρ o s = some (v, s')) (ho : s'.ob) :
    s.ob ∧ s'.heap = s.heap ∧ s'.log = s.log ∧ ∀ (h : VHeap) (bs : List Blk) (a : Act) (w : World) (K : Act → World → Prop) (Q : Exit → Act → World → Prop), (∀ x ∈ o.op.operands, VR cfg.ext bs (ρ x) (a.eval x)) → Emb cfg.ext bs h w →
      (∀ v', VR cfg.ext bs v v' → K (a.put o.dst v') w) → o.wp P a w K Q := by
  have hv' : (match vopS P cfg ρ o.op with
      | some (v, b) => match s.need f (Oper.dn o) b with
        | some s' => some (v, s')
        | none => none
      | none => none) = some (v, s') := by
    unfold vop at hv
    split at hv
    · rename_i e; rw [e] at hsil; simp [isSil] at hsil
    · rename_i e; rw [e] at hsil; simp [isSil] at hsil
    · rename_i e; rw [e] at hsil; simp [isSil] at hsil
    · rename_i e; rw [e] at hsil; simp [isSil] at hsil
    · rename_i e; rw [e] at hsil; simp [isSil] at hsil
    · rw [vopN_none_of_sil hsil] at hv; exact hv
  cases hq : vopS P cfg ρ o.op with
  | none => rw [hq] at hv'; cases hv'
  | some q =>
    obtain ⟨u, b⟩ := q
    rw [hq] at hv'
    simp only at hv'
    split at hv'
    · rename_i s1 hn
      cases hv'
      obtain ⟨h1, h2, h3, h4⟩ := XS.need_spec hn ho
      refine ⟨h1, h3, h4, ?_⟩
      intro h bs a w K Q hρ he hK
      obtain ⟨v', hr, hvr⟩ := vopS_sound (w := w) hs hq h2 he hρ
      unfold Oper.wp
      rw [hr]
      exact hK v' hvr
    · cases hv'

/-- A load, or an accessor: what it comes to hangs on one block. -/
theorem vop_load {cfg : Cfg} (hs : cfg.Sound P) {call : Caller} (hc : CallOK P cfg call) {f : FuncId} {ro : Bool} {ρ : Operand → Value} {o : Oper} {s s' : XS} {v : Value} (hld : isLoad cfg o.op = true)
    (hf : ∀ k, ρ (.func k) = .func (.func k) #[] #[]) (hv : vop P cfg call f ro ρ o s = some (v, s')) (ho : s'.ob) :
    s.ob ∧ s'.heap = s.heap ∧ s'.log = s.log ∧ (∀ b, ownOf (loadAddr cfg ρ o.op) = some b → b < s.heap.length) ∧
    ∀ (h : VHeap) (bs : List Blk) (a : Act) (w : World) (K : Act → World → Prop) (Q : Exit → Act → World → Prop), (∀ b, ownOf (loadAddr cfg ρ o.op) = some b → h[b]? = s.heap[b]?) →
      (∀ x ∈ o.op.operands, VR cfg.ext bs (ρ x) (a.eval x)) → Emb cfg.ext bs h w →
      (∀ bs' w' v', Grow bs w bs' w' → Emb cfg.ext bs' h w' → VR cfg.ext bs' v v' → K (a.put o.dst v') w') → o.wp P a w K Q := by
  have hblk : ∀ (ty : TypeId) (h : VHeap) (p : Value) (r : Value × Bool), vload P cfg.ext ty s.heap p = some r → (∀ b, ownOf p = some b → b < s.heap.length) ∧ ((∀ b, ownOf p = some b → h[b]? = s.heap[b]?) → vload P cfg.ext ty h p = some r) := by
    intro ty h p r hl
    unfold vload at hl
    split at hl
    · rename_i i off k
      refine ⟨fun b hb => by simp [ownOf] at hb, fun _ => ?_⟩
      unfold vload
      exact hl
    · rename_i i off
      split at hl
      · cases hl
      · rename_i ob hob
        refine ⟨fun b hb => ?_, fun hh => ?_⟩
        · simp only [ownOf, Option.some.injEq] at hb; subst hb
          exact (List.getElem?_eq_some_iff.1 hob).1
        · have hh := hh i rfl
          unfold vload
          simp only
          rw [hh, hob]
          exact hl
    · cases hl
  unfold vop at hv
  split at hv
  · rename_i ty x e
    cases hl : vload P cfg.ext ty s.heap (ρ x) with
    | none => rw [hl] at hv; cases hv
    | some q =>
      obtain ⟨u, b⟩ := q
      rw [hl] at hv
      simp only at hv
      split at hv
      · rename_i s1 hn
        cases hv
        obtain ⟨h1, h2, h3, h4⟩ := XS.need_spec hn ho
        have hla : loadAddr cfg ρ o.op = ρ x := by rw [e]; rfl
        rw [hla]
        refine ⟨h1, h3, h4, (hblk ty s.heap _ _ hl).1, ?_⟩
        intro h bs a w K Q hh hρ he hK
        rw [e] at hρ
        obtain ⟨v', hr, hvr⟩ := vload_sound (w := w) ((hblk ty h _ _ hl).2 hh) h2 he (hρ x (by simp [Op.operands]))
        unfold Oper.wp
        have : (execOp a.eval o).run P w = .ok (.value v') w := by
          obtain ⟨dst, op, type, pos, after, guard⟩ := o
          simp only at e; subst e
          simp [execOp, hr]
        rw [this]
        exact hK bs w v' (.refl _ _) he hvr
      · cases hv
  · rename_i e; rw [e] at hld; simp [isLoad] at hld
  · rename_i g args at' e
    rw [e] at hld
    simp only [isLoad] at hld
    cases hacc : accOf cfg g with
    | none => rw [hacc] at hld; cases hld
    | some q =>
      obtain ⟨ty, off⟩ := q
      rw [hacc] at hv
      simp only at hv
      split at hv
      · rename_i u hl
        cases hv
        have hla : loadAddr cfg ρ o.op = accAddr off (args.toList.map ρ) := by rw [e]; simp [loadAddr, hacc]
        rw [hla]
        refine ⟨ho, rfl, rfl, (hblk ty s.heap _ _ hl).1, ?_⟩
        intro h bs a w K Q hh hρ he hK
        rw [e] at hρ
        obtain ⟨k, rfl, hcall, hk⟩ : ∃ k, g = .func k ∧ cfg.callable k = true ∧ cfg.acc k = some (ty, off) := by
          cases g <;> simp [accOf] at hacc
          rename_i k
          cases hcl : cfg.callable k
          · rw [hcl] at hacc; cases hacc
          · rw [hcl] at hacc; exact ⟨k, rfl, hcl, hacc⟩
        have hl' := (hblk ty h _ _ hl).2 hh
        have hargs : VRs cfg.ext bs (args.toList.map ρ) (args.toList.map a.eval) := VRs.map_operands _ fun x hx => hρ x (by simp only [Op.operands, Call.operands]; simp at hx ⊢; exact .inr hx)
        generalize hz : args.toList.map ρ = zs at hl' hargs
        obtain ⟨b, o', rfl⟩ : ∃ b o', zs = [.pointer (some ⟨b, o', none⟩)] := by
          unfold accAddr at hl'
          split at hl'
          · exact ⟨_, _, rfl⟩
          · simp [vload] at hl'
        have h2 := hc.acc k ty off hk h b o' _ hl'
        have hrun : (execOp a.eval o).run P w = .ok (.enter k ⟨args.toList.map a.eval⟩) w := by
          obtain ⟨dst, op, type, pos, after, guard⟩ := o
          simp only at e; subst e
          have hh := hs.call k hcall ((#[] ++ args.map a.eval) ++ #[]) w
          have hq : ((#[] ++ args.map a.eval) ++ #[] : Array Value) = ⟨args.toList.map a.eval⟩ := by apply Array.ext'; simp
          rw [hq] at hh
          have hev : a.eval (.func k) = .func (.func k) #[] #[] := rfl
          simp only [execOp, resolve, hev, Deferred.ofValue, Sem.run_bind, Sem.run_pure, Result.andThen_ok, invoke, hq, hh]
        unfold Oper.wp
        rw [hrun]
        refine Calls.mono (h2 bs w _ he hargs) ?_
        rintro e' w' ⟨v', bs', rfl, hv', he', hg'⟩
        exact hK bs' w' v' hg' he' hv'
      · cases hv
  · rename_i r name args at' e; rw [e] at hld; simp [isLoad] at hld
  · rename_i e; rw [e] at hld; simp [isLoad] at hld
  · rename_i op h1 h2 h3 h4 h5
    cases hop : o.op <;> rw [hop] at hld <;> first | (simp [isLoad] at hld; done) | skip
    · exact (h1 _ _ hop).elim
    · rename_i c
      obtain ⟨callee, args, argTypes⟩ := c
      cases callee <;> first | (simp [isLoad] at hld; done) | exact (h3 _ _ _ hop).elim

theorem vappend_heap {ts : List TypeId} {x y v : Value} {h h' : VHeap} {b : Bool} {tl : List Nat} (ha : vappend P h ts x y = some (v, h', b, tl)) :
    h.length ≤ h'.length ∧ ∀ b, b < h.length → b ∉ tl → h'[b]? = h[b]? := by
  unfold vappend at ha
  repeat (first | (split at ha) | fail)
  all_goals first | (cases ha; done) | skip
  · cases ha
    refine ⟨by simp, fun k hk hn => ?_⟩
    rw [List.getElem?_append_left (by simpa using hk), List.getElem?_set_ne (by intro h; apply hn; simp [h])]
  · cases ha
    refine ⟨by simp, fun k hk hn => ?_⟩
    rw [List.getElem?_append_left hk]

/-- Any operation. -/
theorem vop_sound {cfg : Cfg} (hs : cfg.Sound P) {call : Caller} (hc : CallOK P cfg call) {f : FuncId} {ro : Bool} {ρ : Operand → Value} {o : Oper} {s s' : XS} {v : Value}
    (hf : ∀ k, ρ (.func k) = .func (.func k) #[] #[]) (hv : vop P cfg call f ro ρ o s = some (v, s')) (ho : s'.ob) :
    s.ob ∧ (ro = true → s'.heap = s.heap) ∧ (isRead cfg o.op = true → s'.heap = s.heap) ∧ Logs s s' ∧
    ∀ (bs : List Blk) (a : Act) (w : World) (K : Act → World → Prop) (Q : Exit → Act → World → Prop), (∀ x ∈ o.op.operands, VR cfg.ext bs (ρ x) (a.eval x)) → Emb cfg.ext bs s.heap w →
      (∀ bs' w' v', Grow bs w bs' w' → Emb cfg.ext bs' s'.heap w' → VR cfg.ext bs' v v' → K (a.put o.dst v') w') → o.wp P a w K Q := by
  have hsame := hv
  by_cases hld : isLoad cfg o.op = true
  · obtain ⟨g1, g2, g3, _, g4⟩ := vop_load hs hc hld hf hv ho
    exact ⟨g1, fun _ => g2, fun _ => g2, .of_same g2 g3, fun bs a w K Q hρ he hK => g4 s.heap bs a w K Q (fun _ _ => rfl) hρ he (by rw [g2] at hK; exact hK)⟩
  unfold vop at hv
  split at hv
  · rename_i ty x e; rw [e] at hld; exact (hld rfl).elim
  · rename_i ty x y e
    split at hv
    · cases hv
    · cases hl : vstore P ty s.heap (ρ x) (ρ y) with
      | none => rw [hl] at hv; cases hv
      | some q =>
        obtain ⟨h', b⟩ := q
        rw [hl] at hv
        simp only at hv
        split at hv
        · rename_i s1 hn
          cases hv
          obtain ⟨h1, h2, h3, h4⟩ := XS.need_spec hn ho
          have hst : h'.length = s.heap.length ∧ ∀ b, b ≠ blockOf (ρ x) → h'[b]? = s.heap[b]? := by
            unfold vstore at hl
            split at hl
            · rename_i hpx
              have hblk := congrArg blockOf hpx
              simp only [blockOf] at hblk
              simp only [blockOf]
              rw [hblk]
              split at hl
              · split at hl
                · cases hl; exact ⟨by simp, fun b hb => by rw [List.getElem?_set_ne (Ne.symm hb)]⟩
                · cases hl
              · split at hl
                · split at hl
                  · cases hl; exact ⟨by simp, fun b hb => by rw [List.getElem?_set_ne (Ne.symm hb)]⟩
                  · cases hl
                · cases hl
              · cases hl
            · cases hl
          refine ⟨h1, fun h => (by cases h), fun h => (by rw [e] at h; simp [isRead] at h), ⟨by simp [hst.1], [blockOf (ρ x)], by simp [h4], fun b _ hb => hst.2 b (by simpa using hb)⟩, ?_⟩
          intro bs a w K Q hρ he hK
          rw [e] at hρ
          obtain ⟨w', hr, he', hg⟩ := vstore_sound (P := P) hl h2 he (hρ x (by simp [Op.operands])) (hρ y (by simp [Op.operands]))
          unfold Oper.wp
          have : (execOp a.eval o).run P w = .ok .skip w' := by
            obtain ⟨dst, op, type, pos, after, guard⟩ := o
            simp only at e; subst e
            simp [execOp, hr]
          rw [this]
          exact hK bs w' undef hg he' .undef
        · cases hv
  · rename_i g args at' e
    have hacc : accOf cfg g = none := by
      cases hx : accOf cfg g with
      | none => rfl
      | some q => exfalso; apply hld; rw [e]; simp [isLoad, hx]
    rw [hacc] at hv
    simp only at hv
    split at hv
    · rename_i k fa fc hk
      split at hv
      · rename_i hcall
        obtain ⟨h1, h2, h3, h4⟩ := hc.sound _ _ _ _ _ _ hv ho
        refine ⟨h1, fun h => h3 (by rw [h]; rfl), ?_, h4, ?_⟩
        · intro hr
          rw [e] at hr
          simp only [isRead, hacc] at hr
          cases g with
          | func k0 =>
            rw [hf] at hk
            cases hk
            simp only at hr
            exact h3 (by rw [hr]; simp)
          | _ => cases hr
        · intro bs a w K Q hρ he hK
          rw [e] at hρ
          have hg := hρ g (by simp [Op.operands, Call.operands])
          rw [hk] at hg
          generalize hz : a.eval g = z at hg
          cases hg with | func _ _ a' _ c' ha' hc' =>
          have hargs : VRs cfg.ext bs (args.toList.map ρ) (args.toList.map a.eval) := VRs.map_operands _ fun x hx => hρ x (by simp only [Op.operands, Call.operands]; simp at hx ⊢; exact .inr hx)
          have hrun : (execOp a.eval o).run P w = .ok (.enter k ⟨a' ++ args.toList.map a.eval ++ c'⟩) w := by
            obtain ⟨dst, op, type, pos, after, guard⟩ := o
            simp only at e; subst e
            have hh := hs.call k hcall ((⟨a'⟩ ++ args.map a.eval) ++ ⟨c'⟩) w
            have hq : ((⟨a'⟩ ++ args.map a.eval) ++ ⟨c'⟩ : Array Value) = ⟨a' ++ args.toList.map a.eval ++ c'⟩ := by apply Array.ext'; simp
            rw [hq] at hh
            simp only [execOp, resolve, hz, Deferred.ofValue, Sem.run_bind, Sem.run_pure, Result.andThen_ok, invoke, hq, hh]
          unfold Oper.wp
          rw [hrun]
          refine Calls.mono (h2 bs w _ he ((ha'.append hargs).append hc')) ?_
          rintro e' w' ⟨v', bs', rfl, hv', he', hg'⟩
          exact hK bs' w' v' hg' he' hv'
      · cases hv
    · cases hv
  · rename_i r name args at' e
    split at hv
    · rename_i ty u hk
      split at hv
      · rename_i k hm
        split at hv
        · rename_i hcall
          obtain ⟨h1, h2, h3, h4⟩ := hc.sound _ _ _ _ _ _ hv ho
          refine ⟨h1, fun h => h3 (by rw [h]; rfl), fun h => (by rw [e] at h; simp [isRead] at h), h4, ?_⟩
          intro bs a w K Q hρ he hK
          rw [e] at hρ
          have hg := hρ r (by simp [Op.operands, Call.operands])
          rw [hk] at hg
          generalize hz : a.eval r = z at hg
          cases hg with | iface _ _ u' hu' =>
          have hargs : VRs cfg.ext bs (args.toList.map ρ) (args.toList.map a.eval) := VRs.map_operands _ fun x hx => hρ x (by simp only [Op.operands, Call.operands]; simp at hx ⊢; exact .inr hx)
          obtain ⟨i, m, el, g1, g2, g3, g4, g5⟩ := hs.meth _ _ _ hm
          have hrun : (execOp a.eval o).run P w = .ok (.enter k ⟨u' :: args.toList.map a.eval⟩) w := by
            obtain ⟨dst, op, type, pos, after, guard⟩ := o
            simp only at e; subst e
            have hh := hs.call k hcall (#[u'] ++ (args.map a.eval)) w
            have hq : (#[u'] ++ (args.map a.eval) : Array Value) = ⟨u' :: args.toList.map a.eval⟩ := by apply Array.ext'; simp
            rw [hq] at hh
            have hex : (#[Value.iface ty u'] ++ args.map a.eval).extract 1 (#[Value.iface ty u'] ++ args.map a.eval).size = args.map a.eval := by
              apply Array.ext'; simp [List.take_of_length_le]
            have hget : (#[Value.iface ty u'] ++ args.map a.eval : Array Value)[0]? = some (Value.iface ty u') := by rw [Array.getElem?_append_left (Nat.zero_lt_one)]; rfl
            have hmeth : ∀ n, (method (n + 1) ty u' name).run P w = .ok (k, u') w := by
              intro n
              simp [method, run_typeInfo' g1, g2, g3, g4, follow, receiverAt, run_underlying' g5, Place.get]
            have hsz : P.types.size + Made.depth = (P.types.size + Made.depth - 1) + 1 := by
              have : 0 < Made.depth := by decide
              omega
            simp only [execOp, resolve, hz, Sem.run_bind, Sem.run_pure, Result.andThen_ok, invoke, hget, hex, callMethod, run_program]
            rw [hsz, hmeth]
            simp only [Result.andThen_ok]
            rw [hq, hh]
          unfold Oper.wp
          rw [hrun]
          refine Calls.mono (h2 bs w _ he (.cons _ _ _ _ hu' hargs)) ?_
          rintro e' w' ⟨v', bs', rfl, hv', he', hg'⟩
          exact hK bs' w' v' hg' he' hv'
        · cases hv
      · cases hv
    · cases hv
  · rename_i args ats e
    split at hv
    · rename_i x y hxy
      split at hv
      · rename_i u h' b tl hap
        split at hv
        · rename_i s1 hn
          cases hv
          obtain ⟨h1, h2, h3, h4⟩ := XS.need_spec hn ho
          have hst := vappend_heap hap
          refine ⟨h1, fun h => (by cases h), fun h => (by rw [e] at h; simp [isRead] at h), ⟨hst.1, tl, by simp [h4], fun b hb hn => hst.2 b hb hn⟩, ?_⟩
          intro bs a w K Q hρ he hK
          rw [e] at hρ
          have hx := hρ x (by simp only [Op.operands, Call.operands]; simp; rw [← Array.mem_toList_iff, hxy]; simp)
          have hy := hρ y (by simp only [Op.operands, Call.operands]; simp; rw [← Array.mem_toList_iff, hxy]; simp)
          obtain ⟨v', w', bs', g1, g2, g3, g4⟩ := vappend_sound (P := P) o.type hap h2 he hx hy
          have hrun : (execOp a.eval o).run P w = .ok (.value v') w' := by
            obtain ⟨dst, op, type, pos, after, guard⟩ := o
            simp only at e; subst e
            have hargs : args.map a.eval = #[a.eval x, a.eval y] := by
              apply Array.ext'; rw [Array.toList_map, hxy]; rfl
            simp only [Array.toArray_toList] at g1
            simp only [execOp, resolve, Sem.run_bind, Sem.run_pure, Result.andThen_ok, invoke, builtin, hargs, g1]
          unfold Oper.wp
          rw [hrun]
          exact hK bs' w' v' g4 g3 g2
        · cases hv
      · cases hv
    · cases hv
  · rename_i op h1 h2 h3 h4 h5
    by_cases hsil : isSil o.op = true
    · obtain ⟨g1, g2, g2', g3⟩ := vop_sil hs hsil hsame ho
      exact ⟨g1, fun _ => g2, fun _ => g2, .of_same g2 g2', fun bs a w K Q hρ he hK => g3 s.heap bs a w K Q hρ he fun v' hv' => hK bs w v' (.refl _ _) (by rw [g2]; exact he) hv'⟩
    · cases hn : vopN P ρ o.op with
      | none =>
        exfalso
        rw [hn] at hv
        simp only at hv
        cases hq : vopS P cfg ρ o.op with
        | none => rw [hq] at hv; cases hv
        | some q =>
          cases hop : o.op <;> rw [hop] at hq hsil <;> first | (simp [vopS] at hq; done) | (simp [isSil] at hsil; done) | skip
          rename_i c
          obtain ⟨callee, args, argTypes⟩ := c
          cases callee <;> first | (simp [vopS] at hq; done) | (simp [isSil] at hsil; done) | skip
          rename_i bi
          cases bi <;> first | (simp [vopS] at hq; done) | (simp [isSil] at hsil; done)
      | some q =>
        obtain ⟨ob, n, b⟩ := q
        rw [hn] at hv
        simp only at hv
        split at hv
        · cases hv
        · split at hv
          · rename_i s1 hnd
            cases hv
            obtain ⟨h1, h2, h3, h4⟩ := XS.need_spec hnd ho
            refine ⟨h1, fun h => (by cases h), fun hr => ?_, ⟨by simp, [], by simp [h4], fun b hb _ => by simp [List.getElem?_append_left hb]⟩, ?_⟩
            · exfalso
              cases hop : o.op <;> rw [hop] at hn hr <;> first | (simp [vopN] at hn; done) | (simp [isRead] at hr; done)
            · intro bs a w K Q hρ he hK
              obtain ⟨l', e, v', hr, hl, hvv⟩ := vopN_sound (w := w) hn h2 hρ
              unfold Oper.wp
              rw [hr]
              refine hK (bs ++ [⟨w.heap.size, l'.length, []⟩]) _ _ (.push bs w _ _) (he.push ob l' e hl) ?_
              have hget : (bs ++ [⟨w.heap.size, l'.length, []⟩])[s.heap.length]? = some ⟨w.heap.size, l'.length, []⟩ := by
                rw [← he.len]; simp
              exact hvv _ _ hget
          · cases hv

end
end Go.Vx
