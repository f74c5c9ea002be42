/- Contracts as a table. -/
import Derived.Test.YtmngemjclljpiaaGreatVxL
namespace Go.Vx

/-- Results without addresses. -/
def plainR : Value → Bool
  | .tuple ⟨l⟩ => plainAll l
  | v => plain v
theorem VR.plainR {ex : XTab} {bs : List Blk} {v : Value} (h : plainR v = true) : VR ex bs v v := by
  cases v
  case tuple l => obtain ⟨l⟩ := l; exact .tuple _ _ (.plain h)
  all_goals exact .plain h

theorem RN.plainR {wk : Bool} {ps : List Nat} {v : Value} (h : plainR v = true) : RN wk ps v v := by
  cases v
  case tuple l => obtain ⟨l⟩ := l; exact .tuple _ _ (.plain h)
  all_goals exact .plain h

abbrev SpecFn := Value → List Value → VHeap → Option (Value × VHeap × Bool × List Nat)

structure SpecE where
  f : Nat
  pure' : Bool
  sp : SpecFn

def lookS (f : Nat) : List SpecE → Option (Bool × SpecFn)
  | [] => none
  | e :: r => match Nat.beq f e.f with
    | true => some (e.pure', e.sp)
    | false => lookS f r

def SpecOK (P : Program) (ex : XTab) (e : SpecE) : Prop :=
  ∀ o args h v h' b tl, e.sp o args h = some (v, h', b, tl) → b = true → VCalls P ex e.f args h v h' ∧ (e.pure' = true → h' = h) ∧ h.length ≤ h'.length ∧ ∀ i, i < h.length → i ∉ tl → h'[i]? = h[i]?

def withTab (cfg : Cfg) (l : List SpecE) : Cfg := withSpec cfg fun f => lookS f l

theorem lookS_mem {f : Nat} {p : Bool} {g : SpecFn} : ∀ {l : List SpecE}, lookS f l = some (p, g) → ⟨f, p, g⟩ ∈ l
  | [], h => by cases h
  | e :: r, h => by
    unfold lookS at h
    split at h
    · rename_i hk; cases h; have := Nat.eq_of_beq_eq_true hk; subst this; exact List.mem_cons_self
    · exact List.mem_cons_of_mem _ (lookS_mem h)

theorem Cfg.Good.tab {P : Program} {cfg : Cfg} (hg : cfg.Good P) (l : List SpecE) (hl : ∀ e ∈ l, SpecOK P cfg.ext e) : (withTab cfg l).Good P :=
  hg.with _ fun f p g h => hl ⟨f, p, g⟩ (lookS_mem h)

/-- What is over two objects (the second whole numbers), over many. -/
theorem lift2g {P : Program} {ex : XTab} {f : FuncId} {rest : List Value} {o1 o2 o1' o2' : VObj} {v : Value} (h : VHeap) (i j : Nat) (hij : i ≠ j) {q1 q1' q2 q2' : VObj}
    (hc : ∃ g, VCalls P ex f (.pointer (some ⟨0, 0, none⟩) :: rest) [o1, o2] v ([o1', o2'] ++ g)) (h1 : h[i]? = some q1) (h2 : h[j]? = some q2) (r1 : RO [i, j] o1 q1) (r1' : RO [i, j] o1' q1') (r2 : RO [i, j] o2 q2) (r2' : RO [i, j] o2' q2') (hd : q1 ≠ .dead) (hd2 : q2 ≠ .dead)
    (hr : RNs false [i, j] rest rest) (hv : RN false [i, j] v v) : VCalls P ex f (.pointer (some ⟨i, 0, none⟩) :: rest) h v ((h.set i q1').set j q2') := by
  obtain ⟨g, hc⟩ := hc
  have hi : i < h.length := (List.getElem?_eq_some_iff.1 h1).1
  have hj : j < h.length := (List.getElem?_eq_some_iff.1 h2).1
  have hget : ∀ k m : Nat, ([i, j] : List Nat)[k]? = some m → (k = 0 ∧ m = i) ∨ (k = 1 ∧ m = j) := by
    intro k m hk
    match k with
    | 0 => simp at hk; exact .inl ⟨rfl, hk.symm⟩
    | 1 => simp at hk; exact .inr ⟨rfl, hk.symm⟩
    | k + 2 => simp at hk
  have hps : psNew [i, j] h.length 0 = [i, j] := rfl
  refine VCalls.frame [i, j] 0 hc ⟨rfl, by simp [hij], ?_⟩ (.cons _ _ _ _ (.ptr 0 i 0 rfl) (RN_weak.2 _ _ hr)) (by rw [hps]; exact hv) ?_ (by simp) (by simp) ?_ ?_
  · intro k m o hk ho
    rcases hget k m hk with ⟨rfl, rfl⟩ | ⟨rfl, rfl⟩
    · simp at ho; subst ho; exact ⟨_, h1, r1.weak⟩
    · simp at ho; subst ho; exact ⟨_, h2, r2.weak⟩
  · intro k m hk
    rcases hget k m hk with ⟨rfl, rfl⟩ | ⟨rfl, rfl⟩
    · rw [h1]; simpa using hd
    · rw [h2]; simpa using hd2
  · rw [hps]
    intro k m o hk ho
    rcases hget k m hk with ⟨rfl, rfl⟩ | ⟨rfl, rfl⟩
    · simp at ho; subst ho
      refine ⟨q1', ?_, r1'⟩
      rw [List.getElem?_set_ne (Ne.symm hij), List.getElem?_set_self hi]
    · simp at ho; subst ho
      refine ⟨q2', ?_, r2'⟩
      rw [List.getElem?_set_self (by simpa using hj)]
  · intro m _ hm
    simp at hm
    rw [List.getElem?_set_ne (fun h => hm.2 h.symm), List.getElem?_set_ne (fun h => hm.1 h.symm)]

theorem lift2 {P : Program} {ex : XTab} {f : FuncId} {rest : List Value} {o1 o2 o1' o2' : VObj} {v : Value} (h : VHeap) (i j : Nat) (hij : i ≠ j) {q1 q1' : VObj}
    (hc : ∃ g, VCalls P ex f (.pointer (some ⟨0, 0, none⟩) :: rest) [o1, o2] v ([o1', o2'] ++ g)) (h1 : h[i]? = some q1) (h2 : h[j]? = some o2) (r1 : RO [i, j] o1 q1) (r1' : RO [i, j] o1' q1') (r2 : RO [i, j] o2 o2) (r2' : RO [i, j] o2' o2') (hd : q1 ≠ .dead) (hd2 : o2 ≠ .dead)
    (hr : RNs false [i, j] rest rest) (hv : RN false [i, j] v v) : VCalls P ex f (.pointer (some ⟨i, 0, none⟩) :: rest) h v ((h.set i q1').set j o2') :=
  lift2g h i j hij hc h1 h2 r1 r1' r2 r2' hd hd2 hr hv

/-- What is over one object, over many. -/
theorem lift1c {P : Program} {ex : XTab} {f : FuncId} {rest : List Value} {o o' q q' : VObj} {v : Value} (h : VHeap) (i : Nat) (hc : ∃ g, VCalls P ex f (.pointer (some ⟨0, 0, none⟩) :: rest) [o] v ([o'] ++ g)) (h1 : h[i]? = some q) (r : RO [i] o q) (r' : RO [i] o' q') (hd : q ≠ .dead)
    (hr : RNs false [i] rest rest) (hv : RN false [i] v v) : VCalls P ex f (.pointer (some ⟨i, 0, none⟩) :: rest) h v (h.set i q') := by
  obtain ⟨g, hc⟩ := hc
  have hi : i < h.length := (List.getElem?_eq_some_iff.1 h1).1
  have hget : ∀ k m : Nat, ([i] : List Nat)[k]? = some m → k = 0 ∧ m = i := by
    intro k m hk
    match k with
    | 0 => simp at hk; exact ⟨rfl, hk.symm⟩
    | k + 1 => simp at hk
  have hps : psNew [i] h.length 0 = [i] := rfl
  refine VCalls.frame [i] 0 hc ⟨rfl, by simp, ?_⟩ (.cons _ _ _ _ (.ptr 0 i 0 rfl) (RN_weak.2 _ _ hr)) (by rw [hps]; exact hv) ?_ (by simp) (by simp) ?_ ?_
  · intro k m o' hk ho
    obtain ⟨rfl, rfl⟩ := hget k m hk
    simp at ho; subst ho; exact ⟨_, h1, r.weak⟩
  · intro k m hk
    obtain ⟨rfl, rfl⟩ := hget k m hk
    rw [h1]; simpa using hd
  · rw [hps]
    intro k m o' hk ho
    obtain ⟨rfl, rfl⟩ := hget k m hk
    simp at ho; subst ho; exact ⟨_, List.getElem?_set_self hi, r'⟩
  · intro m _ hm
    simp at hm
    rw [List.getElem?_set_ne (fun h => hm h.symm)]

/-- What is over one object that it leaves alone, over many. -/
theorem lift1 {P : Program} {ex : XTab} {f : FuncId} {rest : List Value} {o q : VObj} {v : Value} (h : VHeap) (i : Nat) (hc : ∃ g, VCalls P ex f (.pointer (some ⟨0, 0, none⟩) :: rest) [o] v ([o] ++ g)) (h1 : h[i]? = some q) (r : RO [i] o q) (hd : q ≠ .dead)
    (hr : RNs false [i] rest rest) (hv : RN false [i] v v) : VCalls P ex f (.pointer (some ⟨i, 0, none⟩) :: rest) h v h := by
  obtain ⟨g, hc⟩ := hc
  have hget : ∀ k m : Nat, ([i] : List Nat)[k]? = some m → k = 0 ∧ m = i := by
    intro k m hk
    match k with
    | 0 => simp at hk; exact ⟨rfl, hk.symm⟩
    | k + 1 => simp at hk
  have hps : psNew [i] h.length 0 = [i] := rfl
  refine VCalls.frame [i] 0 hc ⟨rfl, by simp, ?_⟩ (.cons _ _ _ _ (.ptr 0 i 0 rfl) (RN_weak.2 _ _ hr)) (by rw [hps]; exact hv) ?_ (by simp) (by simp) ?_ (fun _ _ _ => rfl)
  · intro k m o' hk ho
    obtain ⟨rfl, rfl⟩ := hget k m hk
    simp at ho; subst ho; exact ⟨_, h1, r.weak⟩
  · intro k m hk
    obtain ⟨rfl, rfl⟩ := hget k m hk
    rw [h1]; simpa using hd
  · rw [hps]
    intro k m o' hk ho
    obtain ⟨rfl, rfl⟩ := hget k m hk
    simp at ho; subst ho; exact ⟨_, h1, r⟩

end Go.Vx
