/- The base of the runs holds. -/
import Derived.Test.YtmngemjclljpiaaGreatVsCfg
namespace Go.Vx
open Go.Proofs

theorem base_calls : ((List.range 2000).all fun f => !(base.callable f) || (match Tryz.prog.funcs.toList[f]? with | some fn => callB fn | none => false)) = true := by decide +kernel
theorem base_fns : ((List.range 2000).all fun f => !(base.ok f) || okFn Tryz.prog base f) = true := by decide +kernel

def methB (P : Program) (name : String) (t f : Nat) : Bool :=
  match P.info? t with
  | some i => match i.methods.find? (fun m => m.name == name) with
    | some m => m.path.isEmpty && (match m.func with | some (g, true) => Nat.beq g f | _ => false) && (match P.underlying t with | some (.pointer _) => true | _ => false)
    | none => false
  | none => false

theorem methB_spec {P : Program} {name : String} {t f : Nat} (h : methB P name t f = true) :
    ∃ i m e, P.info? t = some i ∧ i.methods.find? (fun m => m.name == name) = some m ∧ m.path = #[] ∧ m.func = some (f, true) ∧ P.underlying t = some (.pointer e) := by
  unfold methB at h
  split at h
  · rename_i i hi
    split at h
    · rename_i m hm
      simp only [Bool.and_eq_true] at h
      obtain ⟨⟨h1, h2⟩, h3⟩ := h
      split at h2
      · rename_i g hg
        have := Nat.eq_of_beq_eq_true h2
        subst this
        split at h3
        · rename_i e he; exact ⟨i, m, e, hi, hm, by simpa using h1, hg, he⟩
        · cases h3
      · cases h2
    · cases h
  · cases h

theorem base_methL : (methL.all fun p => methB Tryz.prog "Step" p.1 p.2) = true := by decide +kernel
theorem base_methA : (methA.all fun p => methB Tryz.prog "Asleep" p.1 p.2) = true := by decide +kernel

def lacks (want : Array (String × TypeId)) (got : Array Method) : List String :=
  (want.toList.filter fun (name, sig) => !got.any fun m => m.name == name && m.sig == sig).map (·.1)

theorem least_none (l : List String) : (Instr.least l).isNone = l.isEmpty := by cases l <;> rfl

theorem both_empty (p : String → Bool) (l : List String) : ((l.filter (not ∘ p)).isEmpty && (l.filter p).isEmpty) = l.isEmpty := by
  cases l with
  | nil => rfl
  | cons x r => cases hx : p x <;> simp [List.filter_cons, hx]

theorem missing_isNone (want : Array (String × TypeId)) (got : Array Method) : (Instr.missingMethod want got).isNone = (lacks want got).isEmpty := by
  unfold Instr.missingMethod
  have e : (want.toList.filter fun (name, sig) => !got.any fun m => m.name == name && m.sig == sig).map (·.1) = lacks want got := rfl
  simp only [e]
  rw [List.partition_eq_filter_filter]
  simp only
  have key : ∀ (a b : Option String), (a <|> b).isNone = (a.isNone && b.isNone) := by intro a b; cases a <;> cases b <;> rfl
  rw [key, least_none, least_none, List.isEmpty_map]
  exact both_empty _ _

def assB (P : Program) (a t : Nat) (b : Bool) : Bool :=
  match P.underlying a, P.info? t with
  | some (.interface ms), some i => (lacks ms i.methods).isEmpty == b
  | _, _ => false

theorem assB_spec {P : Program} {a t : Nat} {b : Bool} (h : assB P a t b = true) : ∃ ms i, P.underlying a = some (.interface ms) ∧ P.info? t = some i ∧ (Instr.missingMethod ms i.methods).isNone = b := by
  unfold assB at h
  split at h
  · rename_i ms i h1 h2; exact ⟨ms, i, h1, h2, by rw [missing_isNone]; simpa using h⟩
  · cases h

theorem base_ass : ((assT.all fun t => assB Tryz.prog slpT t true) && (assF.all fun t => assB Tryz.prog slpT t false)) = true := by decide +kernel

theorem who_any (c o : Nat) (w : World) (v : Value) (hc : w.cell? ⟨c, o, none⟩ = some v) :
    Calls Tryz.prog whoF #[.pointer (some ⟨c, o, none⟩)] w fun e w' => e = .returned v ∧ w' = w := by
  go_enter Tryz.func94, Tryz.ntmps94
  go_wp2
  go_ret
  exact ⟨rfl, rfl⟩

def isInt64 (P : Program) (t : Nat) : Bool := match P.underlying t with | some (.int .i64) => true | _ => false
theorem isInt64_spec {P : Program} {t : Nat} (h : isInt64 P t = true) : P.underlying t = some (.int .i64) := by
  unfold isInt64 at h; split at h
  · assumption
  · cases h
theorem who_int : Tryz.prog.underlying intT = some (.int .i64) := isInt64_spec (by decide +kernel)

theorem base_acc (ex : XTab) (k : Nat) (ty : TypeId) (off : Nat) (hk : base.acc k = some (ty, off)) (h : VHeap) (b o : Nat) (v : Value) (hl : vload Tryz.prog ex ty h (.pointer (some ⟨b, o + off, none⟩)) = some (v, true)) :
    VCalls Tryz.prog ex k [.pointer (some ⟨b, o, none⟩)] h v h := by
  simp only [base] at hk
  split at hk
  · rename_i hkk
    have hkk := Nat.eq_of_beq_eq_true hkk
    subst hkk
    cases hk
    intro bs w args' he ha
    cases ha with | cons _ a' _ _ h1 h2 =>
    cases h2
    cases h1 with | ptr _ _ c hc =>
    obtain ⟨v', hr, hv⟩ := vload_sound (w := w) hl rfl he (.ptr b (o + 0) c hc)
    simp only [Instr.loadAt, Instr.sureAddr, Sem.run_bind, Sem.run_pure, Result.andThen_ok, loadVar, isAgg, run_underlying' who_int, Bool.false_eq_true, if_false] at hr
    have hcell : w.cell? ⟨c.1, o, none⟩ = some v' := by
      rw [run_load] at hr
      simp only [Nat.add_zero] at hr
      obtain ⟨ob, hob, hh⟩ := he.at hc
      cases hcc : w.cell? ⟨c.1, o, none⟩ with
      | some u => rw [hcc] at hr; simp at hr; rw [hr]
      | none =>
        have hcl : ∃ l e, w.heap[c.1]? = some (.cells ⟨l⟩ e (0, 0)) := by
          cases ob with
          | cells l e => obtain ⟨l', t, e', h1, _⟩ := hh; exact ⟨_, _, h1⟩
          | fn n k g e => obtain ⟨l', e', h1, _⟩ := hh; exact ⟨_, _, h1⟩
          | dead =>
            exfalso
            unfold vload at hl
            simp only [hob] at hl
            split at hl
            · split at hl <;> cases hl
            · cases hl
            · cases hl
          | box q =>
            exfalso
            unfold vload at hl
            simp only [hob] at hl
            split at hl
            · split at hl <;> cases hl
            · cases hl
            · cases hl
          | pay q => cases q with
            | mem u => obtain ⟨x, c, e, e', t, l, h1, _⟩ := hh; exact ⟨_, _, h1⟩
            | run r => obtain ⟨s, e, t, h1, _⟩ := hh; exact ⟨_, _, h1⟩
        obtain ⟨l', e', hl'⟩ := hcl
        rw [hcc] at hr
        simp only [World.farLoad, hl'] at hr
        cases hr
    refine Calls.mono (who_any c.1 o w v' hcell) ?_
    rintro e w' ⟨rfl, rfl⟩
    exact ⟨v', bs, rfl, hv, he, .refl _ _⟩
  · cases hk

set_option maxRecDepth 100000 in
theorem baseGood (ex : XTab) : (withExt base ex).Good Tryz.prog where
  call := fun f hf args w => by
    refine call_of_B ?_ args w
    have hlt : f < 2000 := by
      simp only [withExt, base, Bool.and_eq_true] at hf
      exact Nat.lt_of_lt_of_le (Nat.le_of_ble_eq_true hf.1) (by decide)
    have := List.all_eq_true.1 base_calls f (List.mem_range.2 hlt)
    have hf' : base.callable f = true := hf
    rw [hf'] at this; exact (Bool.or_eq_true _ _ ▸ this).resolve_left (by simp)
  meth := fun t name f hm => by
    simp only [withExt, base] at hm
    split at hm
    · rename_i hn; subst hn
      exact methB_spec (List.all_eq_true.1 base_methL _ (lookN_mem hm))
    · split at hm
      · rename_i hn; subst hn
        exact methB_spec (List.all_eq_true.1 base_methA _ (lookN_mem hm))
      · cases hm
  asserts := fun a t b hb => by
    have hall := base_ass
    rw [Bool.and_eq_true] at hall
    simp only [withExt, base] at hb
    split at hb
    · rename_i ha
      have ha := Nat.eq_of_beq_eq_true ha
      subst ha
      split at hb
      · rename_i ht; cases hb
        exact assB_spec (List.all_eq_true.1 hall.1 t (by simpa using ht))
      · split at hb
        · rename_i ht; cases hb
          exact assB_spec (List.all_eq_true.1 hall.2 t (by simpa using ht))
        · cases hb
    · cases hb
  mixed := by decide +kernel
  acc := base_acc ex
  fns := fun f hf => by
    have hlt : f < 2000 := by
      simp only [withExt, base, Bool.and_eq_true] at hf
      exact Nat.lt_of_lt_of_le (Nat.le_of_ble_eq_true hf.1) (by decide)
    have := List.all_eq_true.1 base_fns f (List.mem_range.2 hlt)
    rw [okFn_ext]
    have hf' : base.ok f = true := hf
    rw [hf'] at this; simpa using this
  specs := fun f p sp h => by cases h

end Go.Vx
