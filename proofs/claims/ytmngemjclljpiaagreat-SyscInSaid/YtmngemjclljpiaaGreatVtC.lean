/- The document's side: a run over answers. -/
import Derived.Test.YtmngemjclljpiaaGreatVtB
namespace Go.Vx
open Go.Proofs

abbrev doF : Nat := 81
abbrev rLoadF : Nat := 46
abbrev rStoreF : Nat := 45
abbrev rSwapF : Nat := 42
abbrev rAddF : Nat := 44

theorem w64_id {x : Int} (h1 : -9223372036854775808 ≤ x) (h2 : x ≤ 9223372036854775807) : w64 x = x := by
  have : (IntKind.i64.wrap x) = x := by
    first
      | (unfold IntKind.wrap; omega)
      | (simp [IntKind.wrap, IntKind.bits, IntKind.signed]; omega)
  exact this

/-- An access that is asked for: its kind, where, what is awaited, what is put. -/
structure AskT where
  k : Int
  at' : Int
  old : Int
  new : Int

/-- A run, an access on. -/
def RunP.stops (r : RunP) (a : AskT) : RunP := { r with st := true, k := a.k, who := 0, at' := a.at', old := a.old, new := a.new, dn := false }
def RunP.ask (r : RunP) (a : AskT) : RunP := match r.st, r.rem with
  | true, _ => r
  | false, _ :: l => { r with rem := l }
  | false, [] => r.stops a
def RunP.ans (r : RunP) : Int := match r.st, r.rem with
  | true, _ => 0
  | false, a :: _ => a
  | false, [] => 0

abbrev run (r : RunP) : VObj := .pay (.run r)

def runS (mk : List Value → Option (AskT × (Int → Value))) : SpecFn
  | _, .pointer (some ⟨i, 0, none⟩) :: rest, h => match h[i]? with
    | some (.pay (.run r)) => match mk rest with
      | some (a, f) => match plains rest with
        | true => some (f r.ans, h.set i (run (r.ask a)), plainR (f r.ans), [i])
        | false => none
      | none => none
    | _ => none
  | _, _, _ => none

theorem payRun {P : Program} {ex : XTab} {f : FuncId} {args : List Value} {r : RunP} {v : Value} {post : VHeap} (h : r.OK → VCalls P ex f args [run r] v post) : VCalls P ex f args [run r] v post := by
  intro bs w args' he ha
  have hl := he.len
  match bs, hl with
  | [b], _ => exact h (payQ_ok (he.holds 0 b _ rfl rfl)) [b] w args' he ha

theorem runOK (ex : XTab) (f : Nat) (mk : List Value → Option (AskT × (Int → Value))) (hr : ∀ rest a g, mk rest = some (a, g) → ∀ (r : RunP), plainR (g r.ans) = true → VCalls Tryz.prog ex f (ptr 0 :: rest) [run r] (g r.ans) [run (r.ask a)]) : SpecOK Tryz.prog ex ⟨f, false, runS mk⟩ := by
  intro o args h v h' b tl hs hb
  change runS mk o args h = _ at hs
  unfold runS at hs
  split at hs
  case h_2 => cases hs
  rename_i i rest
  split at hs
  case h_2 => cases hs
  rename_i r ho
  split at hs
  case h_2 => cases hs
  rename_i a g hm
  split at hs
  case h_2 => cases hs
  rename_i hp
  cases hs
  refine ⟨liftC h i (hr rest a g hm r hb) ho (by simp) (.pay _) (.pay _) (.plains hp) (.plainR hb), (fun h => by cases h), by simp, fun m _ hm => ?_⟩
  simp at hm
  rw [List.getElem?_set_ne (fun h => hm h.symm)]

theorem RunP.OK.next {r : RunP} {a : Int} {l : List Int} (h : r.OK) (hr : r.rem = a :: l) : ({ r with rem := l } : RunP).OK where
  n1 := h.n1
  len := by have := h.len; rw [hr] at this; simp at this; show l.length ≤ r.n; omega
  g := by
    intro j x hx
    have h1 := h.len
    have := h.g (j + 1) x (by rw [hr]; simpa using hx)
    rw [hr] at this h1
    simp at this h1
    show r.g (r.n - l.length + j) = x
    rw [← this]; congr 1; omega
  nl := h.nl

theorem RunP.OK.nlf {r : RunP} {a : Int} {l : List Int} (h : r.OK) (hr : r.rem = a :: l) : r.nl = false := by
  cases hn : r.nl with
  | false => rfl
  | true => have := h.nl hn; have h1 := h.len; rw [hr] at h1; simp at h1; omega

structure Used (n m : Nat) (g : Nat → Int) (a : Int) : Prop where
  lt : ((n - (m + 1) : Nat) : Int) < (n : Int)
  e1 : w64 (((n - (m + 1) : Nat) : Int) + 1) = ((n - m : Nat) : Int)
  e2 : w64 (((n - m : Nat) : Int) - 1) = ((n - (m + 1) : Nat) : Int)
  b1 : 0 ≤ ((n - (m + 1) : Nat) : Int) ∧ ((n - (m + 1) : Nat) : Int) < (n : Int)
  b2 : 0 + ((n - (m + 1) : Nat) : Int).toNat * 1 < n
  e3 : g (0 + ((n - (m + 1) : Nat) : Int).toNat * 1) = a

theorem Used.of {r : RunP} {a : Int} {l : List Int} (h : r.OK) (hr : r.rem = a :: l) : Used r.n l.length r.g a := by
  have h1 := h.len
  have h2 := h.n
  rw [hr] at h1
  simp at h1
  refine ⟨by omega, ?_, ?_, by omega, by omega, ?_⟩
  · rw [w64_id (by omega) (by omega)]; omega
  · rw [w64_id (by omega) (by omega)]; omega
  · have := h.g 0 a (by rw [hr]; rfl)
    rw [hr] at this
    simp at this
    simpa using this

theorem notUsed (n : Nat) : ¬ ((n - 0 : Nat) : Int) < (n : Int) := by omega

theorem load_ask (r : RunP) (ex : XTab) (p : Int) : VCalls Tryz.prog ex rLoadF [ptr 0, I p] [run r] (U r.ans) [run (r.ask ⟨1, p, 0, 0⟩)] := payRun fun hok => by
  obtain ⟨nl, n, g, rem, st, k, who, at', old, new, dn, sl⟩ := r
  cases st with
  | true =>
    have hok' := hok
    cases nl
    · exact boxK ((baseGood ex)) 9 0 [] (opens_run hok) (opens_run hok') rfl rfl rfl rfl rfl (by kernel_rfl)
    · exact boxK ((baseGood ex)) 9 0 [] (opens_run hok) (opens_run hok') rfl rfl rfl rfl rfl (by kernel_rfl)
  | false => cases rem with
    | nil =>
      have hok' : (RunP.stops ⟨nl, n, g, [], false, k, who, at', old, new, dn, sl⟩ ⟨1, p, 0, 0⟩).OK := ⟨hok.n1, hok.len, hok.g, hok.nl⟩
      have h1 := notUsed n
      cases nl
      · exact boxK ((baseGood ex)) 9 0 [.val 81 18 _ _ (congrArg Value.bool (dfalse h1))] (opens_run hok) (opens_run hok') rfl rfl rfl rfl rfl (by kernel_rfl)
      · have hn : n = 0 := hok.nl rfl
        subst hn
        exact boxK ((baseGood ex)) 9 0 [] (opens_run hok) (opens_run hok') rfl rfl rfl rfl rfl (by kernel_rfl)
    | cons a l =>
      have hok' := hok.next rfl
      have hnl : nl = false := hok.nlf rfl
      subst hnl
      obtain ⟨h1, e1, e2, h2, h3, e3⟩ := Used.of hok rfl
      exact boxK ((baseGood ex)) 9 0 [.val 81 18 _ _ (congrArg Value.bool (dtrue h1)), .val 81 24 _ _ (congrArg (Value.int .i64) (e1)), .val 81 35 _ _ (congrArg (Value.int .i64) (e2)), .fact 81 36 _ (dtrue h2), .fact 81 37 _ (dtrue h3), .val 81 37 _ _ (congrArg (Value.int .u64) (e3))] (opens_run hok) (opens_run hok') rfl rfl rfl rfl rfl (by kernel_rfl)

theorem store_ask (r : RunP) (ex : XTab) (p v : Int) : VCalls Tryz.prog ex rStoreF [ptr 0, I p, U v] [run r] (.tuple ⟨[]⟩) [run (r.ask ⟨2, p, 0, v⟩)] := payRun fun hok => by
  obtain ⟨nl, n, g, rem, st, k, who, at', old, new, dn, sl⟩ := r
  cases st with
  | true =>
    have hok' := hok
    cases nl
    · exact boxK ((baseGood ex)) 9 0 [] (opens_run hok) (opens_run hok') rfl rfl rfl rfl rfl (by kernel_rfl)
    · exact boxK ((baseGood ex)) 9 0 [] (opens_run hok) (opens_run hok') rfl rfl rfl rfl rfl (by kernel_rfl)
  | false => cases rem with
    | nil =>
      have hok' : (RunP.stops ⟨nl, n, g, [], false, k, who, at', old, new, dn, sl⟩ ⟨2, p, 0, v⟩).OK := ⟨hok.n1, hok.len, hok.g, hok.nl⟩
      have h1 := notUsed n
      cases nl
      · exact boxK ((baseGood ex)) 9 0 [.val 81 18 _ _ (congrArg Value.bool (dfalse h1))] (opens_run hok) (opens_run hok') rfl rfl rfl rfl rfl (by kernel_rfl)
      · have hn : n = 0 := hok.nl rfl
        subst hn
        exact boxK ((baseGood ex)) 9 0 [] (opens_run hok) (opens_run hok') rfl rfl rfl rfl rfl (by kernel_rfl)
    | cons a l =>
      have hok' := hok.next rfl
      have hnl : nl = false := hok.nlf rfl
      subst hnl
      obtain ⟨h1, e1, e2, h2, h3, e3⟩ := Used.of hok rfl
      exact boxK ((baseGood ex)) 9 0 [.val 81 18 _ _ (congrArg Value.bool (dtrue h1)), .val 81 24 _ _ (congrArg (Value.int .i64) (e1)), .val 81 35 _ _ (congrArg (Value.int .i64) (e2)), .fact 81 36 _ (dtrue h2), .fact 81 37 _ (dtrue h3), .val 81 37 _ _ (congrArg (Value.int .u64) (e3))] (opens_run hok) (opens_run hok') rfl rfl rfl rfl rfl (by kernel_rfl)

theorem swap_ask (r : RunP) (ex : XTab) (p o v : Int) : VCalls Tryz.prog ex rSwapF [ptr 0, I p, U o, U v] [run r] (B (r.ans == 1)) [run (r.ask ⟨3, p, o, v⟩)] := payRun fun hok => by
  obtain ⟨nl, n, g, rem, st, k, who, at', old, new, dn, sl⟩ := r
  cases st with
  | true =>
    have hok' := hok
    cases nl
    · exact boxK ((baseGood ex)) 9 0 [] (opens_run hok) (opens_run hok') rfl rfl rfl rfl rfl (by kernel_rfl)
    · exact boxK ((baseGood ex)) 9 0 [] (opens_run hok) (opens_run hok') rfl rfl rfl rfl rfl (by kernel_rfl)
  | false => cases rem with
    | nil =>
      have hok' : (RunP.stops ⟨nl, n, g, [], false, k, who, at', old, new, dn, sl⟩ ⟨3, p, o, v⟩).OK := ⟨hok.n1, hok.len, hok.g, hok.nl⟩
      have h1 := notUsed n
      cases nl
      · exact boxK ((baseGood ex)) 9 0 [.val 81 18 _ _ (congrArg Value.bool (dfalse h1))] (opens_run hok) (opens_run hok') rfl rfl rfl rfl rfl (by kernel_rfl)
      · have hn : n = 0 := hok.nl rfl
        subst hn
        exact boxK ((baseGood ex)) 9 0 [] (opens_run hok) (opens_run hok') rfl rfl rfl rfl rfl (by kernel_rfl)
    | cons a l =>
      have hok' := hok.next rfl
      have hnl : nl = false := hok.nlf rfl
      subst hnl
      obtain ⟨h1, e1, e2, h2, h3, e3⟩ := Used.of hok rfl
      exact boxK ((baseGood ex)) 9 0 [.val 81 18 _ _ (congrArg Value.bool (dtrue h1)), .val 81 24 _ _ (congrArg (Value.int .i64) (e1)), .val 81 35 _ _ (congrArg (Value.int .i64) (e2)), .fact 81 36 _ (dtrue h2), .fact 81 37 _ (dtrue h3), .val 81 37 _ _ (congrArg (Value.int .u64) (e3))] (opens_run hok) (opens_run hok') rfl rfl rfl rfl rfl (by kernel_rfl)

theorem add_ask (r : RunP) (ex : XTab) (p v : Int) : VCalls Tryz.prog ex rAddF [ptr 0, I p, U v] [run r] (U r.ans) [run (r.ask ⟨4, p, 0, v⟩)] := payRun fun hok => by
  obtain ⟨nl, n, g, rem, st, k, who, at', old, new, dn, sl⟩ := r
  cases st with
  | true =>
    have hok' := hok
    cases nl
    · exact boxK ((baseGood ex)) 9 0 [] (opens_run hok) (opens_run hok') rfl rfl rfl rfl rfl (by kernel_rfl)
    · exact boxK ((baseGood ex)) 9 0 [] (opens_run hok) (opens_run hok') rfl rfl rfl rfl rfl (by kernel_rfl)
  | false => cases rem with
    | nil =>
      have hok' : (RunP.stops ⟨nl, n, g, [], false, k, who, at', old, new, dn, sl⟩ ⟨4, p, 0, v⟩).OK := ⟨hok.n1, hok.len, hok.g, hok.nl⟩
      have h1 := notUsed n
      cases nl
      · exact boxK ((baseGood ex)) 9 0 [.val 81 18 _ _ (congrArg Value.bool (dfalse h1))] (opens_run hok) (opens_run hok') rfl rfl rfl rfl rfl (by kernel_rfl)
      · have hn : n = 0 := hok.nl rfl
        subst hn
        exact boxK ((baseGood ex)) 9 0 [] (opens_run hok) (opens_run hok') rfl rfl rfl rfl rfl (by kernel_rfl)
    | cons a l =>
      have hok' := hok.next rfl
      have hnl : nl = false := hok.nlf rfl
      subst hnl
      obtain ⟨h1, e1, e2, h2, h3, e3⟩ := Used.of hok rfl
      exact boxK ((baseGood ex)) 9 0 [.val 81 18 _ _ (congrArg Value.bool (dtrue h1)), .val 81 24 _ _ (congrArg (Value.int .i64) (e1)), .val 81 35 _ _ (congrArg (Value.int .i64) (e2)), .fact 81 36 _ (dtrue h2), .fact 81 37 _ (dtrue h3), .val 81 37 _ _ (congrArg (Value.int .u64) (e3))] (opens_run hok) (opens_run hok') rfl rfl rfl rfl rfl (by kernel_rfl)

def loadM : List Value → Option (AskT × (Int → Value))
  | [.int .i64 p] => some (⟨1, p, 0, 0⟩, U)
  | _ => none
def storeM : List Value → Option (AskT × (Int → Value))
  | [.int .i64 p, .int .u64 w] => some (⟨2, p, 0, w⟩, fun _ => .tuple ⟨[]⟩)
  | _ => none
def swapM : List Value → Option (AskT × (Int → Value))
  | [.int .i64 p, .int .u64 o, .int .u64 w] => some (⟨3, p, o, w⟩, fun x => B (x == 1))
  | _ => none
def addM : List Value → Option (AskT × (Int → Value))
  | [.int .i64 p, .int .u64 w] => some (⟨4, p, 0, w⟩, U)
  | _ => none

theorem rLoadOK (ex : XTab) : SpecOK Tryz.prog ex ⟨rLoadF, false, runS loadM⟩ := runOK ex _ _ fun rest a g h r hp => by
  unfold loadM at h; split at h <;> cases h; exact load_ask r ex _
theorem rStoreOK (ex : XTab) : SpecOK Tryz.prog ex ⟨rStoreF, false, runS storeM⟩ := runOK ex _ _ fun rest a g h r hp => by
  unfold storeM at h; split at h <;> cases h; exact store_ask r ex _ _
theorem rSwapOK (ex : XTab) : SpecOK Tryz.prog ex ⟨rSwapF, false, runS swapM⟩ := runOK ex _ _ fun rest a g h r hp => by
  unfold swapM at h; split at h <;> cases h; exact swap_ask r ex _ _ _
theorem rAddOK (ex : XTab) : SpecOK Tryz.prog ex ⟨rAddF, false, runS addM⟩ := runOK ex _ _ fun rest a g h r hp => by
  unfold addM at h; split at h <;> cases h; exact add_ask r ex _ _

def tabRun : List SpecE := [⟨rLoadF, false, runS loadM⟩, ⟨rStoreF, false, runS storeM⟩, ⟨rSwapF, false, runS swapM⟩, ⟨rAddF, false, runS addM⟩, ⟨rProcF, true, numS rProcR⟩, ⟨rGF, true, numS rGR⟩]
theorem tabRun_ok (ex : XTab) : TabOK ex tabRun := .cons (rLoadOK _) (.cons (rStoreOK _) (.cons (rSwapOK _) (.cons (rAddOK _) (.cons (rProcOK _) (.cons (rGOK _) .nil)))))

end Go.Vx
