/- The memory that all threads share: its accesses; the document's. -/
import Derived.Test.YtmngemjclljpiaaGreatVtA
namespace Go.Vx
open Go.Proofs

def inr (u : Mu) (at' : Int) : Bool := decide (0 ≤ at' ∧ at' < u.n)
def rd (u : Mu) (at' : Int) : Int := if inr u at' then u.w at'.toNat else 0
def wr (u : Mu) (at' v : Int) : Nat → Int := fun i => if i = at'.toNat then v else u.w i

/-- An access: of a kind, by whom, where, what is put, and whether it is done if there is such a word. -/
def acc (u : Mu) (k who at' new : Int) (v : Int) (dn : Bool) (new' : Int) : Mu :=
  match inr u at' with
  | true => { u with w := wr u at' v, clk := w64 (u.clk + 1), k := k, who := who, at' := at', old := u.w at'.toNat, new := new', dn := dn }
  | false => { u with clk := w64 (u.clk + 1), bad := w64 (u.bad + 1), k := k, who := who, at' := at', old := 0, new := new, dn := false }

def addv (x y : Int) : Int := (IntKind.u64.wrap (x.tmod 4294967296 + y.tmod 4294967296)).tmod 4294967296

def muLoad (u : Mu) (who at' : Int) : Mu := acc u 1 who at' 0 (rd u at') true 0
def muStore (u : Mu) (who at' v : Int) : Mu := acc u 2 who at' v v true v
def muSwap (u : Mu) (who at' o v : Int) : Mu := acc u 3 who at' v (if rd u at' = o then v else rd u at') (rd u at' == o) v
def muAdd (u : Mu) (who at' v : Int) : Mu := acc u 4 who at' v (addv (rd u at') v) true (addv (rd u at') v)
def swOK (u : Mu) (at' o : Int) : Bool := inr u at' && (rd u at' == o)
def addA (u : Mu) (at' v : Int) : Int := if inr u at' then addv (rd u at') v else 0

abbrev doesF : Nat := 75
abbrev loadF : Nat := 40
abbrev storeF : Nat := 36
abbrev swapF : Nat := 38
abbrev addF : Nat := 39
abbrev peekF : Nat := 56

theorem words_eq (u : Mu) (at' v : Int) : (fun j => if j = 0 + at'.toNat * 1 then v else u.w j) = wr u at' v := by
  funext j; simp only [wr, Nat.zero_add, Nat.mul_one]
theorem wr_same (u : Mu) (at' : Int) : wr u at' (u.w at'.toNat) = u.w := by
  funext j; unfold wr; split
  · rename_i h; rw [h]
  · rfl

/-- A memory, its words behind it: at a word that is there; at one that is not. -/
theorem acc_in {u : Mu} {k who at' new v new' : Int} {dn : Bool} (hi : inr u at' = true) :
    acc u k who at' new v dn new' = ⟨u.n, fun j => if j = 0 + at'.toNat * 1 then v else u.w j, w64 (u.clk + 1), u.bad, k, who, at', u.w at'.toNat, new', dn⟩ := by
  rw [words_eq]; simp [acc, hi]
theorem acc_out {u : Mu} {k who at' new v new' : Int} {dn : Bool} (hi : inr u at' = false) :
    acc u k who at' new v dn new' = ⟨u.n, u.w, w64 (u.clk + 1), w64 (u.bad + 1), k, who, at', 0, new, false⟩ := by
  simp [acc, hi]

theorem inr_false {u : Mu} {at' : Int} (h : inr u at' = false) : at' < 0 ∨ (0 ≤ at' ∧ (u.n : Int) ≤ at') := by
  have := of_decide_eq_false h
  omega
theorem inr_true {u : Mu} {at' : Int} (h : inr u at' = true) : 0 ≤ at' ∧ at' < u.n := of_decide_eq_true h

structure InR (u : Mu) (at' : Int) : Prop where
  a : ¬ at' < 0
  b : ¬ at' ≥ (u.n : Int)
  c : 0 ≤ at' ∧ at' < (u.n : Int)
  d : 0 + at'.toNat * 1 < u.n
theorem InR.of {u : Mu} {at' : Int} (h : inr u at' = true) : InR u at' := by
  have := inr_true h
  exact ⟨by omega, by omega, this, by omega⟩
theorem at_eq (u : Mu) (at' : Int) : u.w (0 + at'.toNat * 1) = u.w at'.toNat := by simp
theorem wr_at (u : Mu) (at' x : Int) : (if 0 + at'.toNat * 1 = 0 + at'.toNat * 1 then x else u.w (0 + at'.toNat * 1)) = x := by rw [if_pos rfl]

abbrev mem (u : Mu) : VObj := .pay (.mem u)

theorem load_run (u : Mu) (ex : XTab) (who at' : Int) : VCalls Tryz.prog ex loadF [ptr 0, I who, I at'] [mem u] (U (rd u at')) [mem (muLoad u who at')] := by
  cases hi : inr u at' with
  | true =>
    obtain ⟨h1, h2, h3, h4⟩ := InR.of hi
    have hr : rd u at' = u.w at'.toNat := by simp [rd, hi]
    rw [muLoad, acc_in hi, hr]
    exact boxK ((baseGood ex)) 9 0 [.val 75 20 _ _ (congrArg Value.bool (dfalse h1)), .val 75 29 _ _ (congrArg Value.bool (dfalse h2)), .fact 75 44 _ hi, .fact 75 45 _ (dtrue h4), .val 75 45 _ _ (congrArg (Value.int .u64) (at_eq u at')), .fact 75 64 _ hi, .fact 75 0 _ (dtrue h4)] (opens_mem _ _) (opens_mem _ _) rfl rfl rfl rfl rfl (by kernel_rfl)
  | false =>
    have hr : rd u at' = 0 := by simp [rd, hi]
    rw [muLoad, acc_out hi, hr]
    rcases inr_false hi with h0 | ⟨h0, h1⟩
    · exact boxK ((baseGood ex)) 9 0 [.val 75 20 _ _ (congrArg Value.bool (dtrue h0))] (opens_mem _ _) (opens_mem _ _) rfl rfl rfl rfl rfl (by kernel_rfl)
    · have h2 : ¬ at' < 0 := by omega
      have h3 : at' ≥ (u.n : Int) := h1
      exact boxK ((baseGood ex)) 9 0 [.val 75 20 _ _ (congrArg Value.bool (dfalse h2)), .val 75 29 _ _ (congrArg Value.bool (dtrue h1))] (opens_mem _ _) (opens_mem _ _) rfl rfl rfl rfl rfl (by kernel_rfl)

theorem store_run (u : Mu) (ex : XTab) (who at' v : Int) : VCalls Tryz.prog ex storeF [ptr 0, I who, I at', U v] [mem u] (.tuple ⟨[]⟩) [mem (muStore u who at' v)] := by
  cases hi : inr u at' with
  | true =>
    obtain ⟨h1, h2, h3, h4⟩ := InR.of hi
    rw [muStore, acc_in hi]
    exact boxK ((baseGood ex)) 9 0 [.val 75 20 _ _ (congrArg Value.bool (dfalse h1)), .val 75 29 _ _ (congrArg Value.bool (dfalse h2)), .fact 75 44 _ hi, .fact 75 45 _ (dtrue h4), .val 75 45 _ _ (congrArg (Value.int .u64) (at_eq u at')), .fact 75 64 _ hi, .fact 75 0 _ (dtrue h4)] (opens_mem _ _) (opens_mem _ _) rfl rfl rfl rfl rfl (by kernel_rfl)
  | false =>
    rw [muStore, acc_out hi]
    rcases inr_false hi with h0 | ⟨h0, h1⟩
    · exact boxK ((baseGood ex)) 9 0 [.val 75 20 _ _ (congrArg Value.bool (dtrue h0))] (opens_mem _ _) (opens_mem _ _) rfl rfl rfl rfl rfl (by kernel_rfl)
    · have h2 : ¬ at' < 0 := by omega
      have h3 : at' ≥ (u.n : Int) := h1
      exact boxK ((baseGood ex)) 9 0 [.val 75 20 _ _ (congrArg Value.bool (dfalse h2)), .val 75 29 _ _ (congrArg Value.bool (dtrue h1))] (opens_mem _ _) (opens_mem _ _) rfl rfl rfl rfl rfl (by kernel_rfl)

theorem swap_run (u : Mu) (ex : XTab) (who at' o v : Int) : VCalls Tryz.prog ex swapF [ptr 0, I who, I at', U o, U v] [mem u] (B (swOK u at' o)) [mem (muSwap u who at' o v)] := by
  cases hi : inr u at' with
  | true =>
    obtain ⟨h1, h2, h3, h4⟩ := InR.of hi
    have hr : rd u at' = u.w at'.toNat := by simp [rd, hi]
    rw [muSwap, acc_in hi, swOK, hi, hr]
    by_cases ho : u.w at'.toNat = o
    · have e4 : (u.w at'.toNat == o) = true := by simpa using ho
      rw [if_pos ho, e4]
      exact boxK ((baseGood ex)) 9 0 [.val 75 20 _ _ (congrArg Value.bool (dfalse h1)), .val 75 29 _ _ (congrArg Value.bool (dfalse h2)), .fact 75 44 _ hi, .fact 75 45 _ (dtrue h4), .val 75 45 _ _ (congrArg (Value.int .u64) (at_eq u at')), .val 77 8 _ _ (congrArg Value.bool (nfalse ho)), .fact 75 64 _ hi, .fact 75 0 _ (dtrue h4)] (opens_mem _ _) (opens_mem _ _) rfl rfl rfl rfl rfl (by kernel_rfl)
    · have e4 : (u.w at'.toNat == o) = false := by simpa using ho
      rw [if_neg ho, e4]
      exact boxK ((baseGood ex)) 9 0 [.val 75 20 _ _ (congrArg Value.bool (dfalse h1)), .val 75 29 _ _ (congrArg Value.bool (dfalse h2)), .fact 75 44 _ hi, .fact 75 45 _ (dtrue h4), .val 75 45 _ _ (congrArg (Value.int .u64) (at_eq u at')), .val 77 8 _ _ (congrArg Value.bool (ntrue ho)), .fact 75 64 _ hi, .fact 75 0 _ (dtrue h4)] (opens_mem _ _) (opens_mem _ _) rfl rfl rfl rfl rfl (by kernel_rfl)
  | false =>
    rw [muSwap, acc_out hi, swOK, hi]
    rcases inr_false hi with h0 | ⟨h0, h1⟩
    · exact boxK ((baseGood ex)) 9 0 [.val 75 20 _ _ (congrArg Value.bool (dtrue h0))] (opens_mem _ _) (opens_mem _ _) rfl rfl rfl rfl rfl (by kernel_rfl)
    · have h2 : ¬ at' < 0 := by omega
      have h3 : at' ≥ (u.n : Int) := h1
      exact boxK ((baseGood ex)) 9 0 [.val 75 20 _ _ (congrArg Value.bool (dfalse h2)), .val 75 29 _ _ (congrArg Value.bool (dtrue h1))] (opens_mem _ _) (opens_mem _ _) rfl rfl rfl rfl rfl (by kernel_rfl)

theorem add_run (u : Mu) (ex : XTab) (who at' v : Int) : VCalls Tryz.prog ex addF [ptr 0, I who, I at', U v] [mem u] (U (addA u at' v)) [mem (muAdd u who at' v)] := by
  cases hi : inr u at' with
  | true =>
    obtain ⟨h1, h2, h3, h4⟩ := InR.of hi
    have hr : rd u at' = u.w at'.toNat := by simp [rd, hi]
    rw [muAdd, acc_in hi, addA, hi, hr, if_pos rfl]
    exact boxK ((baseGood ex)) 9 0 [.val 75 20 _ _ (congrArg Value.bool (dfalse h1)), .val 75 29 _ _ (congrArg Value.bool (dfalse h2)), .fact 75 44 _ hi, .fact 75 45 _ (dtrue h4), .val 75 45 _ _ (congrArg (Value.int .u64) (at_eq u at')), .fact 75 64 _ hi, .fact 75 0 _ (dtrue h4), .fact 39 30 _ hi, .fact 39 31 _ (dtrue h4), .val 39 31 _ _ (congrArg (Value.int .u64) (wr_at u at' (addv (u.w at'.toNat) v)))] (opens_mem _ _) (opens_mem _ _) rfl rfl rfl rfl rfl (by kernel_rfl)
  | false =>
    rw [muAdd, acc_out hi, addA, hi]
    rcases inr_false hi with h0 | ⟨h0, h1⟩
    · exact boxK ((baseGood ex)) 9 0 [.val 75 20 _ _ (congrArg Value.bool (dtrue h0))] (opens_mem _ _) (opens_mem _ _) rfl rfl rfl rfl rfl (by kernel_rfl)
    · have h2 : ¬ at' < 0 := by omega
      have h3 : at' ≥ (u.n : Int) := h1
      exact boxK ((baseGood ex)) 9 0 [.val 75 20 _ _ (congrArg Value.bool (dfalse h2)), .val 75 29 _ _ (congrArg Value.bool (dtrue h1))] (opens_mem _ _) (opens_mem _ _) rfl rfl rfl rfl rfl (by kernel_rfl)

theorem peek_run (u : Mu) (ex : XTab) (at' : Int) : VCalls Tryz.prog ex peekF [ptr 0, I at'] [mem u] (.tuple ⟨[U (rd u at'), B (inr u at')]⟩) [mem u] := by
  cases hi : inr u at' with
  | true =>
    obtain ⟨h1, h2, h3, h4⟩ := InR.of hi
    have hr : rd u at' = u.w at'.toNat := by simp [rd, hi]
    rw [hr]
    exact boxK ((baseGood ex)) 9 0 [.val 56 10 _ _ (congrArg Value.bool (dfalse h1)), .val 56 19 _ _ (congrArg Value.bool (dfalse h2)), .fact 56 26 _ hi, .fact 56 27 _ (dtrue h4), .val 56 27 _ _ (congrArg (Value.int .u64) (at_eq u at'))] (opens_mem _ _) (opens_mem _ _) rfl rfl rfl rfl rfl (by kernel_rfl)
  | false =>
    have hr : rd u at' = 0 := by simp [rd, hi]
    rw [hr]
    rcases inr_false hi with h0 | ⟨h0, h1⟩
    · exact boxK ((baseGood ex)) 9 0 [.val 56 10 _ _ (congrArg Value.bool (dtrue h0))] (opens_mem _ _) (opens_mem _ _) rfl rfl rfl rfl rfl (by kernel_rfl)
    · have h2 : ¬ at' < 0 := by omega
      have h3 : at' ≥ (u.n : Int) := h1
      exact boxK ((baseGood ex)) 9 0 [.val 56 10 _ _ (congrArg Value.bool (dfalse h2)), .val 56 19 _ _ (congrArg Value.bool (dtrue h1))] (opens_mem _ _) (opens_mem _ _) rfl rfl rfl rfl rfl (by kernel_rfl)

/-! What is asked of a memory, over any objects -/

theorem set_same {h : VHeap} {i : Nat} {o : VObj} (ho : h[i]? = some o) : h.set i o = h := by
  apply List.ext_getElem?; intro m
  by_cases hm : i = m
  · subst hm; rw [List.getElem?_set_self (List.getElem?_eq_some_iff.1 ho).1, ho]
  · rw [List.getElem?_set_ne hm]

/-- What is over one closed object, over many. -/
theorem liftC {P : Program} {ex : XTab} {f : FuncId} {rest : List Value} {o o' : VObj} {v : Value} (h : VHeap) (i : Nat) (hc : VCalls P ex f (.pointer (some ⟨0, 0, none⟩) :: rest) [o] v [o']) (h1 : h[i]? = some o) (hd : o ≠ .dead) (r : RO [i] o o) (r' : RO [i] o' o')
    (hr : RNs false [i] rest rest) (hv : RN false [i] v v) : VCalls P ex f (.pointer (some ⟨i, 0, none⟩) :: rest) h v (h.set i o') :=
  lift1c h i ⟨[], hc⟩ h1 r r' hd hr hv

def memS (r : Mu → List Value → Option (Value × Mu × Bool)) : SpecFn
  | _, .pointer (some ⟨i, 0, none⟩) :: rest, h => match h[i]? with
    | some (.pay (.mem u)) => match plains rest with
      | true => match r u rest with
        | some (v, u', b) => match plainR v with
          | true => some (v, h.set i (mem u'), b, [i])
          | false => none
        | none => none
      | false => none
    | _ => none
  | _, _, _ => none

theorem memOK (ex : XTab) (f : Nat) (r : Mu → List Value → Option (Value × Mu × Bool))
    (hr : ∀ (u : Mu) rest v u' b, r u rest = some (v, u', b) → b = true → VCalls Tryz.prog ex f (ptr 0 :: rest) [mem u] v [mem u']) : SpecOK Tryz.prog ex ⟨f, false, memS r⟩ := by
  intro o args h v h' b tl hs hb
  change memS r o args h = _ at hs
  unfold memS at hs
  split at hs
  case h_2 => cases hs
  rename_i i rest
  split at hs
  case h_2 => cases hs
  rename_i u ho
  split at hs
  case h_2 => cases hs
  rename_i hp
  split at hs
  case h_2 => cases hs
  rename_i v' u' b' hu
  split at hs
  case h_2 => cases hs
  rename_i hv
  cases hs
  refine ⟨liftC h i (hr u rest _ _ _ hu hb) ho (by simp) (.pay _) (.pay _) (.plains hp) (.plainR hv), (fun h => by cases h), by simp, fun m _ hm => ?_⟩
  simp at hm
  rw [List.getElem?_set_ne (fun h => hm h.symm)]

/-- .. that is left alone. -/
def memL (r : Mu → List Value → Option Value) : SpecFn
  | _, .pointer (some ⟨i, 0, none⟩) :: rest, h => match h[i]? with
    | some (.pay (.mem u)) => match plains rest with
      | true => match r u rest with
        | some v => some (v, h, plainR v, [])
        | none => none
      | false => none
    | _ => none
  | _, _, _ => none

theorem memLOK (ex : XTab) (f : Nat) (r : Mu → List Value → Option Value) (hr : ∀ (u : Mu) rest v, r u rest = some v → VCalls Tryz.prog ex f (ptr 0 :: rest) [mem u] v [mem u]) : SpecOK Tryz.prog ex ⟨f, true, memL r⟩ := by
  intro o args h v h' b tl hs hb
  change memL r o args h = _ at hs
  unfold memL at hs
  split at hs
  case h_2 => cases hs
  rename_i i rest
  split at hs
  case h_2 => cases hs
  rename_i u ho
  split at hs
  case h_2 => cases hs
  rename_i hp
  split at hs
  case h_2 => cases hs
  rename_i v' hu
  cases hs
  have := liftC h i (hr u rest _ hu) ho (by simp) (.pay _) (.pay _) (.plains hp) (.plainR hb)
  rw [set_same ho] at this
  exact ⟨this, fun _ => rfl, Nat.le_refl _, fun _ _ _ => rfl⟩

/-- An access of any kind, and what it answers. -/
def muDo (u : Mu) (k who at' o v : Int) : Mu := if k = 2 then muStore u who at' v else if k = 3 then muSwap u who at' o v else if k = 4 then muAdd u who at' v else muLoad u who at'
def doAns (u : Mu) (k at' o v : Int) : Int := if k = 2 then 0 else if k = 3 then (if swOK u at' o then 1 else 0) else if k = 4 then addA u at' v else rd u at'

def loadR (u : Mu) : List Value → Option (Value × Mu × Bool)
  | [.int .i64 who, .int .i64 at'] => some (U (doAns u 1 at' 0 0), muDo u 1 who at' 0 0, true)
  | _ => none
def storeR (u : Mu) : List Value → Option (Value × Mu × Bool)
  | [.int .i64 who, .int .i64 at', .int .u64 v] => some (.tuple ⟨[]⟩, muDo u 2 who at' 0 v, true)
  | _ => none
def swapR (u : Mu) : List Value → Option (Value × Mu × Bool)
  | [.int .i64 who, .int .i64 at', .int .u64 o, .int .u64 v] => some (B (swOK u at' o), muDo u 3 who at' o v, true)
  | _ => none
def addR (u : Mu) : List Value → Option (Value × Mu × Bool)
  | [.int .i64 who, .int .i64 at', .int .u64 v] => some (U (doAns u 4 at' 0 v), muDo u 4 who at' 0 v, true)
  | _ => none
def peekR (u : Mu) : List Value → Option Value
  | [.int .i64 at'] => some (.tuple ⟨[U (rd u at'), B (inr u at')]⟩)
  | _ => none

theorem loadOK (ex : XTab) : SpecOK Tryz.prog ex ⟨loadF, false, memS loadR⟩ := memOK ex _ _ fun u rest v u' b h hb => by
  unfold loadR at h; split at h <;> cases h; exact load_run u ex _ _
theorem storeOK (ex : XTab) : SpecOK Tryz.prog ex ⟨storeF, false, memS storeR⟩ := memOK ex _ _ fun u rest v u' b h hb => by
  unfold storeR at h; split at h <;> cases h; exact store_run u ex _ _ _
theorem swapOK (ex : XTab) : SpecOK Tryz.prog ex ⟨swapF, false, memS swapR⟩ := memOK ex _ _ fun u rest v u' b h hb => by
  unfold swapR at h; split at h <;> cases h; exact swap_run u ex _ _ _ _
theorem addOK (ex : XTab) : SpecOK Tryz.prog ex ⟨addF, false, memS addR⟩ := memOK ex _ _ fun u rest v u' b h hb => by
  unfold addR at h; split at h <;> cases h; exact add_run u ex _ _ _
theorem peekOK (ex : XTab) : SpecOK Tryz.prog ex ⟨peekF, true, memL peekR⟩ := memLOK ex _ _ fun u rest v h => by
  unfold peekR at h; split at h <;> cases h; exact peek_run u ex _

def tabMem : List SpecE := [⟨loadF, false, memS loadR⟩, ⟨storeF, false, memS storeR⟩, ⟨swapF, false, memS swapR⟩, ⟨addF, false, memS addR⟩, ⟨peekF, true, memL peekR⟩]
theorem tabMem_ok (ex : XTab) : TabOK ex tabMem := .cons (loadOK _) (.cons (storeOK _) (.cons (swapOK _) (.cons (addOK _) (.cons (peekOK _) .nil))))

theorem TabOK.app {ex : XTab} {l m : List SpecE} (h : TabOK ex l) (hm : TabOK ex m) : TabOK ex (l ++ m) := fun e he => (List.mem_append.1 he).elim (h e) (hm e)

/-! The document's memory -/

abbrev rDoF : Nat := 37
abbrev rPeekF : Nat := 54

def rng (u : Mu) (at' v : Int) : Prop := 0 ≤ rd u at' ∧ rd u at' < 18446744073709551616 ∧ 0 ≤ v ∧ v < 18446744073709551616

theorem addv_eq {x y : Int} (hx : 0 ≤ x) (hx2 : x < 18446744073709551616) (hy : 0 ≤ y) (hy2 : y < 18446744073709551616) : (IntKind.u64.wrap (x + y)).tmod 4294967296 = addv x y := by
  unfold addv
  rw [IntKind.wrap_u64, IntKind.wrap_u64, Int.tmod_eq_emod_of_nonneg (by omega), Int.tmod_eq_emod_of_nonneg hx, Int.tmod_eq_emod_of_nonneg hy, Int.tmod_eq_emod_of_nonneg (by omega)]
  omega

theorem rDo_run (u : Mu) (ex : XTab) (k who at' o v : Int) (hk : k = 1 ∨ k = 2 ∨ k = 3 ∨ k = 4) (hb : rng u at' v) :
    VCalls Tryz.prog ex rDoF [ptr 0, I k, I who, I at', U o, U v] [mem u] (U (doAns u k at' o v)) [mem (muDo u k who at' o v)] := by
  obtain ⟨r1, r2, r3, r4⟩ := hb
  cases hi : inr u at' with
  | true =>
    obtain ⟨h1, h2, h3, h4⟩ := InR.of hi
    have hr : rd u at' = u.w at'.toNat := by simp [rd, hi]
    rcases hk with rfl | rfl | rfl | rfl
    · have e1 : muDo u 1 who at' o v = muLoad u who at' := rfl
      have e2 : doAns u 1 at' o v = u.w at'.toNat := by simp [doAns, hr]
      rw [e1, e2, muLoad, acc_in hi, hr, words_eq, wr_same]
      exact boxK ((baseGood ex)) 9 0 [.val 37 37 _ _ (congrArg Value.bool (dfalse h1)), .val 37 45 _ _ (congrArg Value.bool (dfalse h2)), .fact 37 60 _ hi, .fact 37 61 _ (dtrue h4), .val 37 61 _ _ (congrArg (Value.int .u64) (at_eq u at'))] (opens_mem _ _) (opens_mem _ _) rfl rfl rfl rfl rfl (by kernel_rfl)
    · have e1 : muDo u 2 who at' o v = muStore u who at' v := rfl
      have e2 : doAns u 2 at' o v = 0 := rfl
      rw [e1, e2, muStore, acc_in hi]
      exact boxK ((baseGood ex)) 9 0 [.val 37 37 _ _ (congrArg Value.bool (dfalse h1)), .val 37 45 _ _ (congrArg Value.bool (dfalse h2)), .fact 37 60 _ hi, .fact 37 61 _ (dtrue h4), .val 37 61 _ _ (congrArg (Value.int .u64) (at_eq u at')), .fact 37 123 _ hi, .fact 37 0 _ (dtrue h4)] (opens_mem _ _) (opens_mem _ _) rfl rfl rfl rfl rfl (by kernel_rfl)
    · have e1 : muDo u 3 who at' o v = muSwap u who at' o v := rfl
      rw [e1, muSwap, acc_in hi, hr]
      by_cases ho : u.w at'.toNat = o
      · have e4 : (u.w at'.toNat == o) = true := by simpa using ho
        have e2 : doAns u 3 at' o v = 1 := by simp [doAns, swOK, hi, hr, ho]
        rw [if_pos ho, e4, e2]
        exact boxK ((baseGood ex)) 9 0 [.val 37 37 _ _ (congrArg Value.bool (dfalse h1)), .val 37 45 _ _ (congrArg Value.bool (dfalse h2)), .fact 37 60 _ hi, .fact 37 61 _ (dtrue h4), .val 37 61 _ _ (congrArg (Value.int .u64) (at_eq u at')), .val 37 73 _ _ (congrArg Value.bool (dtrue ho)), .fact 37 123 _ hi, .fact 37 0 _ (dtrue h4)] (opens_mem _ _) (opens_mem _ _) rfl rfl rfl rfl rfl (by kernel_rfl)
      · have e4 : (u.w at'.toNat == o) = false := by simpa using ho
        have e2 : doAns u 3 at' o v = 0 := by simp [doAns, swOK, hi, hr, ho]
        rw [if_neg ho, e4, e2, words_eq, wr_same]
        exact boxK ((baseGood ex)) 9 0 [.val 37 37 _ _ (congrArg Value.bool (dfalse h1)), .val 37 45 _ _ (congrArg Value.bool (dfalse h2)), .fact 37 60 _ hi, .fact 37 61 _ (dtrue h4), .val 37 61 _ _ (congrArg (Value.int .u64) (at_eq u at')), .val 37 73 _ _ (congrArg Value.bool (dfalse ho))] (opens_mem _ _) (opens_mem _ _) rfl rfl rfl rfl rfl (by kernel_rfl)
    · have e1 : muDo u 4 who at' o v = muAdd u who at' v := rfl
      have e2 : doAns u 4 at' o v = addv (u.w at'.toNat) v := by simp [doAns, addA, hi, hr]
      rw [hr] at r1 r2
      have e5 := addv_eq r1 r2 r3 r4
      rw [e1, e2, muAdd, acc_in hi, hr]
      exact boxK ((baseGood ex)) 9 0 [.val 37 37 _ _ (congrArg Value.bool (dfalse h1)), .val 37 45 _ _ (congrArg Value.bool (dfalse h2)), .fact 37 60 _ hi, .fact 37 61 _ (dtrue h4), .val 37 61 _ _ (congrArg (Value.int .u64) (at_eq u at')), .val 37 91 _ _ (congrArg (Value.int .u64) (e5)), .fact 37 92 _ hi, .fact 37 0 _ (dtrue h4), .fact 37 99 _ hi, .fact 37 100 _ (dtrue h4), .val 37 100 _ _ (congrArg (Value.int .u64) (wr_at u at' (addv (u.w at'.toNat) v))), .fact 37 109 _ hi, .fact 37 110 _ (dtrue h4), .val 37 110 _ _ (congrArg (Value.int .u64) (wr_at u at' (addv (u.w at'.toNat) v)))] (opens_mem _ _) (opens_mem _ _) rfl rfl rfl rfl rfl (by kernel_rfl)
  | false =>
    have hr : rd u at' = 0 := by simp [rd, hi]
    rcases hk with rfl | rfl | rfl | rfl
    · have e1 : muDo u 1 who at' o v = muLoad u who at' := rfl
      have e2 : doAns u 1 at' o v = 0 := by simp [doAns, hr]
      rw [e1, e2, muLoad, acc_out hi]
      rcases inr_false hi with h0 | ⟨h0, h1⟩
      · exact boxK ((baseGood ex)) 9 0 [.val 37 37 _ _ (congrArg Value.bool (dtrue h0))] (opens_mem _ _) (opens_mem _ _) rfl rfl rfl rfl rfl (by kernel_rfl)
      · have h2 : ¬ at' < 0 := by omega
        have h3 : at' ≥ (u.n : Int) := h1
        exact boxK ((baseGood ex)) 9 0 [.val 37 37 _ _ (congrArg Value.bool (dfalse h2)), .val 37 45 _ _ (congrArg Value.bool (dtrue h1))] (opens_mem _ _) (opens_mem _ _) rfl rfl rfl rfl rfl (by kernel_rfl)
    · have e1 : muDo u 2 who at' o v = muStore u who at' v := rfl
      have e2 : doAns u 2 at' o v = 0 := rfl
      rw [e1, e2, muStore, acc_out hi]
      rcases inr_false hi with h0 | ⟨h0, h1⟩
      · exact boxK ((baseGood ex)) 9 0 [.val 37 37 _ _ (congrArg Value.bool (dtrue h0))] (opens_mem _ _) (opens_mem _ _) rfl rfl rfl rfl rfl (by kernel_rfl)
      · have h2 : ¬ at' < 0 := by omega
        have h3 : at' ≥ (u.n : Int) := h1
        exact boxK ((baseGood ex)) 9 0 [.val 37 37 _ _ (congrArg Value.bool (dfalse h2)), .val 37 45 _ _ (congrArg Value.bool (dtrue h1))] (opens_mem _ _) (opens_mem _ _) rfl rfl rfl rfl rfl (by kernel_rfl)
    · have e1 : muDo u 3 who at' o v = muSwap u who at' o v := rfl
      have e2 : doAns u 3 at' o v = 0 := by simp [doAns, swOK, hi]
      rw [e1, e2, muSwap, acc_out hi]
      rcases inr_false hi with h0 | ⟨h0, h1⟩
      · exact boxK ((baseGood ex)) 9 0 [.val 37 37 _ _ (congrArg Value.bool (dtrue h0))] (opens_mem _ _) (opens_mem _ _) rfl rfl rfl rfl rfl (by kernel_rfl)
      · have h2 : ¬ at' < 0 := by omega
        have h3 : at' ≥ (u.n : Int) := h1
        exact boxK ((baseGood ex)) 9 0 [.val 37 37 _ _ (congrArg Value.bool (dfalse h2)), .val 37 45 _ _ (congrArg Value.bool (dtrue h1))] (opens_mem _ _) (opens_mem _ _) rfl rfl rfl rfl rfl (by kernel_rfl)
    · have e1 : muDo u 4 who at' o v = muAdd u who at' v := rfl
      have e2 : doAns u 4 at' o v = 0 := by simp [doAns, addA, hi]
      rw [e1, e2, muAdd, acc_out hi]
      rcases inr_false hi with h0 | ⟨h0, h1⟩
      · exact boxK ((baseGood ex)) 9 0 [.val 37 37 _ _ (congrArg Value.bool (dtrue h0))] (opens_mem _ _) (opens_mem _ _) rfl rfl rfl rfl rfl (by kernel_rfl)
      · have h2 : ¬ at' < 0 := by omega
        have h3 : at' ≥ (u.n : Int) := h1
        exact boxK ((baseGood ex)) 9 0 [.val 37 37 _ _ (congrArg Value.bool (dfalse h2)), .val 37 45 _ _ (congrArg Value.bool (dtrue h1))] (opens_mem _ _) (opens_mem _ _) rfl rfl rfl rfl rfl (by kernel_rfl)

/-- Whether a thing is so, never worked out. -/
noncomputable def dec (p : Prop) : Bool := @decide p (Classical.propDecidable p)
theorem dec_of {p : Prop} (h : dec p = true) : p := @of_decide_eq_true p (Classical.propDecidable p) h
theorem dec_true {p : Prop} (h : p) : dec p = true := @decide_eq_true p (Classical.propDecidable p) h

/-- The bounds of an access. -/
def doOK (u : Mu) (k at' v : Int) : Prop := (k = 1 ∨ k = 2 ∨ k = 3 ∨ k = 4) ∧ rng u at' v

noncomputable def rDoR (u : Mu) : List Value → Option (Value × Mu × Bool)
  | [.int .i64 k, .int .i64 who, .int .i64 at', .int .u64 o, .int .u64 v] => some (U (doAns u k at' o v), muDo u k who at' o v, dec (doOK u k at' v))
  | _ => none

theorem rDoOK (ex : XTab) : SpecOK Tryz.prog ex ⟨rDoF, false, memS rDoR⟩ := memOK ex _ _ fun u rest v u' b h hb => by
  unfold rDoR at h
  split at h
  · cases h
    have := dec_of hb
    exact rDo_run u ex _ _ _ _ _ this.1 this.2
  · cases h

theorem rPeek_run (u : Mu) (ex : XTab) (at' : Int) : VCalls Tryz.prog ex rPeekF [ptr 0, I at'] [mem u] (.tuple ⟨[U (rd u at'), B (inr u at')]⟩) [mem u] := by
  cases hi : inr u at' with
  | true =>
    obtain ⟨h1, h2, h3, h4⟩ := InR.of hi
    have hr : rd u at' = u.w at'.toNat := by simp [rd, hi]
    rw [hr]
    exact boxK ((baseGood ex)) 9 0 [.val 54 7 _ _ (congrArg Value.bool (dfalse h1)), .val 54 15 _ _ (congrArg Value.bool (dfalse h2)), .fact 54 22 _ hi, .fact 54 23 _ (dtrue h4), .val 54 23 _ _ (congrArg (Value.int .u64) (at_eq u at'))] (opens_mem _ _) (opens_mem _ _) rfl rfl rfl rfl rfl (by kernel_rfl)
  | false =>
    have hr : rd u at' = 0 := by simp [rd, hi]
    rw [hr]
    rcases inr_false hi with h0 | ⟨h0, h1⟩
    · exact boxK ((baseGood ex)) 9 0 [.val 54 7 _ _ (congrArg Value.bool (dtrue h0))] (opens_mem _ _) (opens_mem _ _) rfl rfl rfl rfl rfl (by kernel_rfl)
    · have h2 : ¬ at' < 0 := by omega
      have h3 : at' ≥ (u.n : Int) := h1
      exact boxK ((baseGood ex)) 9 0 [.val 54 7 _ _ (congrArg Value.bool (dfalse h2)), .val 54 15 _ _ (congrArg Value.bool (dtrue h1))] (opens_mem _ _) (opens_mem _ _) rfl rfl rfl rfl rfl (by kernel_rfl)
theorem rPeekOK (ex : XTab) : SpecOK Tryz.prog ex ⟨rPeekF, true, memL peekR⟩ := memLOK ex _ _ fun u rest v h => by
  unfold peekR at h; split at h <;> cases h; exact rPeek_run u ex _

end Go.Vx
