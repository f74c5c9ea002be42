/- Machines replayed; what the document's routines answer. -/
import Derived.Test.YtmngemjclljpiaaGreatVtD
namespace Go.Vx
open Go.Proofs

/-- A machine goes on with answers: where it is then, and which of them are left. -/
def Mach.replay {S : Type} (M : Mach S) : S → List Int → S × List Int
  | s, [] => (s, [])
  | s, a :: l => match M.want s with
    | none => (s, a :: l)
    | some _ => M.replay (M.next s a) l

theorem Mach.replay_nil {S : Type} (M : Mach S) (s : S) : M.replay s [] = (s, []) := rfl
theorem Mach.replay_cons {S : Type} (M : Mach S) {s : S} {k : AskT} (h : M.want s = some k) (a : Int) (l : List Int) : M.replay s (a :: l) = M.replay (M.next s a) l := by
  simp [Mach.replay, h]
theorem Mach.replay_done {S : Type} (M : Mach S) {s : S} (h : M.want s = none) (l : List Int) : M.replay s l = (s, l) := by
  cases l <;> simp [Mach.replay, h]

/-- One answer more. -/
theorem Mach.replay_snoc {S : Type} (M : Mach S) (a : Int) : ∀ (l : List Int) (s : S), (M.replay s l).2 = [] → M.replay s (l ++ [a]) = match M.want (M.replay s l).1 with | none => ((M.replay s l).1, [a]) | some _ => (M.next (M.replay s l).1 a, [])
  | [], s, _ => by
    simp only [List.nil_append, Mach.replay]
  | b :: l, s, h => by
    simp only [List.cons_append, Mach.replay] at h ⊢
    cases hw : M.want s with
    | none => rw [hw] at h; simp at h
    | some k => rw [hw] at h; exact M.replay_snoc a l _ h

/-- What is left is nothing, as long as all is not done. -/
theorem Mach.replay_left {S : Type} (M : Mach S) {k : AskT} : ∀ (l : List Int) (s : S), M.want (M.replay s l).1 = some k → (M.replay s l).2 = []
  | [], s, _ => rfl
  | b :: l, s, h => by
    simp only [Mach.replay] at h ⊢
    cases hw : M.want s with
    | none => rw [hw] at h; simp only at h; rw [hw] at h; cases h
    | some k' => rw [hw] at h; exact M.replay_left l _ h

/-- A machine within another one. -/
theorem Mach.replay_sub {S T : Type} (M : Mach S) (N : Mach T) (e : T → S) (k : T → S) (hw : ∀ s a, N.want s = some a → M.want (e s) = some a) (hn : ∀ s a x, N.want s = some a → M.next (e s) x = if N.fin (N.next s x) then k (N.next s x) else e (N.next s x)) :
    ∀ (l : List Int) (s : T), N.fin s = false → M.replay (e s) l = if N.fin (N.replay s l).1 then M.replay (k (N.replay s l).1) (N.replay s l).2 else (e (N.replay s l).1, [])
  | [], s, h => by simp [Mach.replay, h]
  | x :: l, s, h => by
    cases hs : N.want s with
    | none => simp [Mach.fin, hs] at h
    | some a =>
      rw [M.replay_cons (hw s a hs), N.replay_cons hs, hn s a x hs]
      cases hf : N.fin (N.next s x) with
      | true =>
        rw [if_pos rfl]
        have hd : N.want (N.next s x) = none := by unfold Mach.fin at hf; simpa using hf
        rw [N.replay_done hd]
        simp [hf]
      | false =>
        simp only [Bool.false_eq_true, if_false]
        exact Mach.replay_sub M N e k hw hn l _ hf

/-- A run behind a routine. -/
def RunP.out {S : Type} (r : RunP) (M : Mach S) (s : S) : RunP :=
  match r.st with
  | true => r
  | false => match M.want (M.replay s r.rem).1 with
    | none => { r with rem := (M.replay s r.rem).2 }
    | some a => ({ r with rem := [] } : RunP).stops a

theorem RunP.out_stop {S : Type} {r : RunP} {M : Mach S} {s : S} {a : AskT} (hr : r.st = false) (h : M.want (M.replay s r.rem).1 = some a) : r.out M s = ({ r with rem := [] } : RunP).stops a := by
  simp [RunP.out, h, hr]
theorem RunP.out_done {S : Type} {r : RunP} {M : Mach S} {s : S} (hr : r.st = false) (h : M.want (M.replay s r.rem).1 = none) : r.out M s = { r with rem := (M.replay s r.rem).2 } := by
  simp [RunP.out, h, hr]

/-- A routine of the document's is a machine: from a run that goes on; from one that stopped. -/
structure RefOK (ex : XTab) (f : Nat) (args : List Value) {S : Type} (M : Mach S) (s : S) (ret : S → Value) : Prop where
  go : ∀ r : RunP, r.st = false → VCalls Tryz.prog ex f (ptr 0 :: args) [run r] (ret (M.replay s r.rem).1) [run (r.out M s)]

/-- A function's slots, and where its results lie. -/
def fnOK (P : Program) (f N : Nat) (res : List Nat) : Bool := match P.funcs.toList[f]? with
  | some fn => fn.body.isSome && Nat.beq fn.ntmps N && resOK fn.results.toList res
  | none => false
  where
  resOK : List ResultVar → List Nat → Bool
    | [], [] => true
    | .tmp i :: r, j :: s => Nat.beq i j && resOK r s
    | _, _ => false

theorem resOK_spec : ∀ (rs : List ResultVar) (res : List Nat), fnOK.resOK rs res = true → rs = res.map ResultVar.tmp
  | [], [], _ => rfl
  | .tmp i :: r, j :: s, h => by
    unfold fnOK.resOK at h
    rw [Bool.and_eq_true] at h
    rw [Nat.eq_of_beq_eq_true h.1, resOK_spec r s h.2]; rfl
  | .cell _ _ :: _, _, h => by cases h
  | [], _ :: _, h => by cases h
  | .tmp _ :: _, [], h => by cases h

theorem VCalls.body {P : Program} {ex : XTab} {f : FuncId} {N n : Nat} {res : List Nat} (hf : fnOK P f N res = true) {args : List Value} {h h' : VHeap} {x : X} {lv' : List (Nat × Value)} {v : Value} (hn : h.length = n) (hle : args.length ≤ N)
    (hx : x = .normal ∨ x = .ret) (hc : Goes P ex N n (bodyOf P f) (args.zipIdx.map fun p => (p.2, p.1)) h x lv' h') {l : List Value} (hres : res.map (fun i => assoc i lv') = l.map some) (hv : v = tupled l) : VCalls P ex f args h v h' := by
  unfold fnOK at hf
  split at hf
  case h_2 => cases hf
  rename_i fn hfn
  rw [Bool.and_eq_true, Bool.and_eq_true] at hf
  obtain ⟨⟨h1, h2⟩, h3⟩ := hf
  obtain ⟨c, hc'⟩ := Option.isSome_iff_exists.1 h1
  have hb : bodyOf P f = c := by unfold bodyOf; rw [hfn]; simp only [hc']
  rw [hb] at hc
  refine VCalls.of_goes (fn := fn) (by rw [← Array.getElem?_toList]; exact hfn) hc' (Nat.eq_of_beq_eq_true h2) hn hle hx hc ?_ hv
  rw [resOK_spec _ _ h3, List.map_map, ← hres]; rfl

/-- An entry: a routine, from one run to another. -/
noncomputable def refS (r : RunP) (rest : List Value) (v : Value) (r' : RunP) : SpecFn
  | _, .pointer (some ⟨i, 0, none⟩) :: more, h => match h[i]? with
    | some (.pay (.run p)) => match plains rest && plainR v with
      | true => some (v, h.set i (run r'), dec (p = r ∧ more = rest), [i])
      | false => none
    | _ => none
  | _, _, _ => none

theorem sameR (r : RunP) (l : List Value) : dec (r = r ∧ l = l) = true := dec_true ⟨rfl, rfl⟩

theorem refOK {ex : XTab} {f : Nat} {r r' : RunP} {rest : List Value} {v : Value} (hs : VCalls Tryz.prog ex f (ptr 0 :: rest) [run r] v [run r']) : SpecOK Tryz.prog ex ⟨f, false, refS r rest v r'⟩ := by
  intro o args h v' h' bb tl hs' hb
  change refS r rest v r' o args h = _ at hs'
  unfold refS at hs'
  split at hs'
  case h_2 => cases hs'
  rename_i i more
  split at hs'
  case h_2 => cases hs'
  rename_i p hi
  split at hs'
  case h_2 => cases hs'
  rename_i hp
  cases hs'
  obtain ⟨rfl, rfl⟩ := dec_of hb
  rw [Bool.and_eq_true] at hp
  refine ⟨liftC h i hs hi (by simp) (.pay _) (.pay _) (.plains hp.1) (.plainR hp.2), (fun h => by cases h), by simp, fun m _ hm => ?_⟩
  simp at hm
  rw [List.getElem?_set_ne (fun h => hm h.symm)]

section
variable (r0 r1 r2 : XRow) (d : Lay)
theorem goodR {l : List SpecE} (h : TabOK (exL r0 r1 r2 d) l) : (cfgT (exL r0 r1 r2 d) (l ++ tabRun)).Good Tryz.prog := goodT (.app h (tabRun_ok _))
theorem goodR0 (ex : XTab) : (cfgT ex tabRun).Good Tryz.prog := goodT (tabRun_ok _)
end

end Go.Vx
