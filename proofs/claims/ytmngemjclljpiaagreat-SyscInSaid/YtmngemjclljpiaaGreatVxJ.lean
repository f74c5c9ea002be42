/- Small words for the base of the runs. -/
import Derived.Test.YtmngemjclljpiaaGreatVxI
namespace Go.Vx
def lookN (k : Nat) : List (Nat × Nat) → Option Nat
  | [] => none
  | (a, b) :: r => match Nat.beq k a with
    | true => some b
    | false => lookN k r
theorem lookN_mem {k b : Nat} : ∀ {l : List (Nat × Nat)}, lookN k l = some b → (k, b) ∈ l
  | [], h => by cases h
  | (a, c) :: r, h => by
    unfold lookN at h
    split at h
    · rename_i hk; cases h; have := Nat.eq_of_beq_eq_true hk; subst this; exact List.mem_cons_self
    · exact List.mem_cons_of_mem _ (lookN_mem h)

def withSpec (cfg : Cfg) (sp : FuncId → Option (Bool × (Value → List Value → VHeap → Option (Value × VHeap × Bool × List Nat)))) : Cfg := { cfg with spec := sp }

theorem isLoad_spec (cfg : Cfg) (sp) : isLoad (withSpec cfg sp) = isLoad cfg := rfl
theorem isRead_spec (cfg : Cfg) (sp) : isRead (withSpec cfg sp) = isRead cfg := rfl
theorem drawOK_spec (cfg : Cfg) (sp) (d : Bool) (ops : Array Oper) : drawOK (withSpec cfg sp) d ops = drawOK cfg d ops := rfl
theorem okCode_spec (cfg : Cfg) (sp) (d : Bool) (c : Code) : okCode (withSpec cfg sp) d c = okCode cfg d c := by
  induction c <;> simp_all only [okCode, drawOK_spec]
theorem okFn_spec (P : Program) (cfg : Cfg) (sp) (f : FuncId) : okFn P (withSpec cfg sp) f = okFn P cfg f := by
  unfold okFn
  split
  · split
    · exact okCode_spec cfg sp _ _
    · rfl
  · rfl

/-- With rows that are only read. -/
def withExt (cfg : Cfg) (ex : XTab) : Cfg := { cfg with ext := ex }

theorem drawOK_ext (cfg : Cfg) (ex) (d : Bool) (ops : Array Oper) : drawOK (withExt cfg ex) d ops = drawOK cfg d ops := rfl
theorem okCode_ext (cfg : Cfg) (ex) (d : Bool) (c : Code) : okCode (withExt cfg ex) d c = okCode cfg d c := by
  induction c <;> simp_all only [okCode, drawOK_ext]
theorem okFn_ext (P : Program) (cfg : Cfg) (ex) (f : FuncId) : okFn P (withExt cfg ex) f = okFn P cfg f := by
  unfold okFn
  split
  · split
    · exact okCode_ext cfg ex _ _
    · rfl
  · rfl

def callB (fn : Func) : Bool := fn.body.isSome && !(fn.name == "runtime.NumGoroutine")

theorem call_of_B {P : Program} {f : FuncId} (h : (match P.funcs.toList[f]? with | some fn => callB fn | none => false) = true) (args : Array Value) (w : World) : (callFunc f args).run P w = .ok (.enter f args) w := by
  split at h
  · rename_i fn hfn
    simp only [callB, Bool.and_eq_true, Bool.not_eq_true'] at h
    have hP : P.funcs[f]? = some fn := by simpa using hfn
    have hb : fn.body.isNone = false := by
      cases hx : fn.body with
      | none => rw [hx] at h; simp at h
      | some c => rfl
    have hn : (fn.name == "runtime.NumGoroutine") = false := h.2
    have hn' : ¬ fn.name = "runtime.NumGoroutine" := by simpa using hn
    have hb' : ¬ fn.body = none := by intro hx; rw [hx] at hb; cases hb
    simp [callFunc, hP, hn', hb']
  · cases h

/-- What holds of the base holds of it with contracts. -/
theorem Cfg.Good.with {P : Program} {cfg : Cfg} (hg : cfg.Good P) (sp : FuncId → Option (Bool × (Value → List Value → VHeap → Option (Value × VHeap × Bool × List Nat))))
    (hs : ∀ f p g, sp f = some (p, g) → ∀ o args h v h' b tl, g o args h = some (v, h', b, tl) → b = true → VCalls P cfg.ext f args h v h' ∧ (p = true → h' = h) ∧ h.length ≤ h'.length ∧ ∀ i, i < h.length → i ∉ tl → h'[i]? = h[i]?) :
    (withSpec cfg sp).Good P where
  call := hg.call
  meth := hg.meth
  asserts := hg.asserts
  mixed := hg.mixed
  acc := hg.acc
  fns := fun f h => (okFn_spec P cfg sp f).trans (hg.fns f h)
  specs := hs
end Go.Vx
