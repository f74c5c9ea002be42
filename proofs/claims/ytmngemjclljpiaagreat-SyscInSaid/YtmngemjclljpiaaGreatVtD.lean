/- Machines: what is asked of them, over any objects. -/
import Derived.Test.YtmngemjclljpiaaGreatVtC
namespace Go.Vx
open Go.Proofs

abbrev fn0 (k : Nat) : Value := .func (.func k) ⟨[]⟩ ⟨[]⟩
/-- A method of an object, as a value; a function literal with what it took along. -/
abbrev mth (k i : Nat) : Value := .func (.func k) ⟨[ptr i]⟩ ⟨[]⟩
abbrev clo (k : Nat) (l : List Nat) : Value := .func (.func k) ⟨[]⟩ ⟨l.map ptr⟩
/-- The access that comes next, and what follows it. -/
abbrev flw (who k a old w : Int) (th : Value) : List Value := [I who, I k, I a, U old, U w, th, B false, .nilIface, .nilFunc]
abbrev ldF (who a : Int) (F : Nat) : List Value := flw who 1 a 0 0 (mth F 1)
abbrev adF (who a w : Int) (F : Nat) : List Value := flw who 4 a 0 w (mth F 1)
abbrev stF (who a w : Int) : List Value := flw who 2 a 0 w (clo 88 [2])
abbrev swF (who a o w : Int) : List Value := flw who 3 a o w (clo 67 [2])
abbrev idF (who : Int) (sub aft : Value) : List Value := [I who, I 0, top, top, top, .nilFunc, B false, sub, aft]
abbrev endF (who : Int) : List Value := idF who .nilIface .nilFunc
abbrev thn (F : Nat) : VObj := .cells [mth F 1] 0
abbrev ob (l : List Value) : VObj := .cells l 0

section
variable (r0 r1 r2 : XRow) (d : Lay)
def tabM (d : Lay) : List SpecE := tabLay d ++ tabMem
theorem tabM_ok : TabOK (exL r0 r1 r2 d) (tabM d) := .app (tabLay_ok _ _ _ _) (tabMem_ok _)
theorem goodM : (cfgT (exL r0 r1 r2 d) (tabM d)).Good Tryz.prog := goodT (tabM_ok r0 r1 r2 d)
/-- With more contracts. -/
theorem goodX {l : List SpecE} (h : TabOK (exL r0 r1 r2 d) l) : (cfgT (exL r0 r1 r2 d) (l ++ tabM d)).Good Tryz.prog := goodT (.app h (tabM_ok _ _ _ _))
end

/-! Machines -/

structure Mach (S : Type) where
  want : S → Option AskT
  next : S → Int → S

def Mach.fin {S : Type} (M : Mach S) (s : S) : Bool := (M.want s).isNone
def ansOf (u : Mu) (a : AskT) : Int := doAns u a.k a.at' a.old a.new
def muOf (u : Mu) (who : Int) (a : AskT) : Mu := muDo u a.k who a.at' a.old a.new

/-- A machine's steps: one that is an access; one where all is done; one without a memory. -/
structure MachOK (ex : XTab) (f : Nat) (who : Int) {S : Type} (M : Mach S) (H : S → VHeap) : Prop where
  step : ∀ s u a, M.want s = some a → VCalls Tryz.prog ex f [ptr 1, ptr 0] [mem u, Bx ex (H s)] (B (M.fin (M.next s (ansOf u a)))) [mem (muOf u who a), Bx ex (H (M.next s (ansOf u a)))]
  idle : ∀ s u, M.want s = none → VCalls Tryz.prog ex f [ptr 1, ptr 0] [mem u, Bx ex (H s)] (B true) [mem u, Bx ex (H s)]
  nil : ∀ s, VCalls Tryz.prog ex f [ptr 0, nilp] [Bx ex (H s)] (B (M.fin s)) [Bx ex (H s)]

theorem VR.ptr_inv {ex : XTab} {bs : List Blk} {i off : Nat} {v : Value} (h : VR ex bs (.pointer (some ⟨i, off, none⟩)) v) : ∃ b, bs[i]? = some b ∧ v = .pointer (some ⟨b.1, off, none⟩) := by
  cases h with | ptr _ _ b h => exact ⟨b, h, rfl⟩

/-- A dead object ahead is no matter. -/
theorem undead {P : Program} {ex : XTab} {f : FuncId} {rest : List Value} {o o' : VObj} {v : Value} (ho : closedO o = true) (ho' : closedO o' = true) (hr : plains rest = true) (hv : plainR v = true)
    (h : VCalls P ex f (ptr 1 :: rest) [.dead, o] v [.dead, o']) : VCalls P ex f (ptr 0 :: rest) [o] v [o'] := by
  intro bs w args' he ha
  have hl := he.len
  match bs, hl with
  | [b], _ =>
    have hown : ∀ x, x ∈ own [b, b] → x ∈ own [b] := fun x hx => by simp [own_cons, own_nil] at hx ⊢; rcases hx with h | h | h | h <;> simp [h]
    have he2 : Emb ex [b, b] [.dead, o] w := by
      refine ⟨⟨he.x.lt, fun k r hk hn hm => he.x.out k r hk hn (hown _ hm), he.x.cell⟩, rfl, fun x hx => he.lto x (hown x hx), ?_, ?_⟩
      · intro i j c c' p q hb hc hp hq x hx1 hx2
        match i, j with
        | 0, _ => simp at hp; exact .inr (.inl hp.symm)
        | _, 0 => simp at hq; exact .inr (.inr hq.symm)
        | 1, 1 => exact .inl rfl
        | i + 2, _ => simp at hb
        | _, j + 2 => simp at hc
      · intro i c p hb hp
        match i with
        | 0 => simp at hp; subst hp; trivial
        | 1 => simp at hb hp; subst hb; subst hp; exact (he.holds 0 _ _ rfl rfl).closed _ ho
        | i + 2 => simp at hb
    have ha2 : VRs ex [b, b] (ptr 1 :: rest) args' := by
      cases ha with | cons _ a' _ l' h1 h2 =>
      obtain ⟨c, hc, rfl⟩ := h1.ptr_inv
      simp at hc; subst hc
      exact .cons _ _ _ _ (.ptr 1 0 _ rfl) ((VR_back [b, b] (ps := []) (cs := [b]) (fun i j b h => by simp at h)).2 _ _ (.plains hr) _ h2)
    refine Calls.mono (h [b, b] w args' he2 ha2) ?_
    rintro e w' ⟨v', bs', rfl, hv', he', hg⟩
    have hl' := he'.len
    match bs', hl' with
    | [c, d], _ =>
      have hsub : ∀ x, x ∈ own [d] → x ∈ own [c, d] := fun x hx => by rw [own_cons] ; exact List.mem_cons_of_mem _ (List.mem_append_right _ hx)
      refine ⟨v', [d], rfl, by rw [hv'.plainR_eq hv]; exact VR.plainR hv, ⟨⟨he'.x.lt, fun k r hk hn hm => he'.x.out k r hk hn (hsub _ hm), he'.x.cell⟩, rfl, fun x hx => he'.lto x (hsub x hx), ?_, ?_⟩, ⟨?_, ?_, hg.size, fun x hx hn => hg.same x hx fun hm => hn (hown x hm), hg.os, hg.output, hg.tape⟩⟩
      · intro i j c1 c2 p q hb hc hp hq x hx1 hx2
        match i, j with
        | 0, 0 => exact .inl rfl
        | i + 1, _ => simp at hb
        | _, j + 1 => simp at hc
      · intro i c1 p hb hp
        match i with
        | 0 => simp at hb hp; subst hb; subst hp; exact (he'.holds 1 _ _ rfl rfl).closed _ ho'
        | i + 1 => simp at hb
      · intro i b1 hb1
        match i with
        | 0 => simp at hb1; subst hb1; obtain ⟨b', g1, g2⟩ := hg.ext 1 b rfl; exact ⟨b', by simpa using g1, g2⟩
        | i + 1 => simp at hb1
      · intro x hx
        rcases hg.mem x (hsub x hx) with h | h
        · exact .inl (hown x h)
        · exact .inr h

/-! Entries of a table -/

/-- A step of a machine with a memory. -/
noncomputable def stepS (q : BoxP) (u : Mu) (b : Bool) (q' : BoxP) (u' : Mu) : SpecFn
  | _, [.pointer (some ⟨i, 0, none⟩), .pointer (some ⟨m, 0, none⟩)], h => match h[i]?, h[m]? with
    | some (.box p), some (.pay (.mem v)) => some (B b, (h.set m (mem u')).set i (.box q'), dec (p = q ∧ v = u), [m, i])
    | _, _ => none
  | _, _, _ => none

theorem same2 (q : BoxP) (u : Mu) : dec (q = q ∧ u = u) = true := dec_true ⟨rfl, rfl⟩
theorem same1 (q : BoxP) : dec (q = q) = true := dec_true rfl

theorem lift2c {P : Program} {ex : XTab} {f : FuncId} {rest : List Value} {o1 o2 o1' o2' : VObj} {v : Value} (h : VHeap) (i j : Nat) (hij : i ≠ j)
    (hc : VCalls P ex f rest [o1, o2] v [o1', o2']) {rest' : List Value} (hr : RNs true [i, j] rest rest') (h1 : h[i]? = some o1) (h2 : h[j]? = some o2) (r1 : RO [i, j] o1 o1) (r1' : RO [i, j] o1' o1') (r2 : RO [i, j] o2 o2) (r2' : RO [i, j] o2' o2') (hd : o1 ≠ .dead) (hd2 : o2 ≠ .dead)
    (hv : RN false [i, j] v v) : VCalls P ex f rest' h v ((h.set i o1').set j o2') := by
  have hi := (List.getElem?_eq_some_iff.1 h1).1
  have hj := (List.getElem?_eq_some_iff.1 h2).1
  refine VCalls.frame [i, j] 0 hc ⟨rfl, by simp [hij], fun k m o hk ho => ?_⟩ hr (by simpa [psNew] using hv) (fun k m hk => ?_) (by simp) (by simp) (fun k m o hk ho => ?_) (fun m hm hn => ?_)
  · match k with
    | 0 => simp at hk ho; subst hk; subst ho; exact ⟨_, h1, r1.weak⟩
    | 1 => simp at hk ho; subst hk; subst ho; exact ⟨_, h2, r2.weak⟩
    | k + 2 => simp at hk
  · match k with
    | 0 => simp at hk; subst hk; rw [h1]; simpa using hd
    | 1 => simp at hk; subst hk; rw [h2]; simpa using hd2
    | k + 2 => simp at hk
  · have hps : psNew [i, j] h.length 0 = [i, j] := rfl
    rw [hps] at hk ⊢
    match k with
    | 0 => simp at hk ho; subst hk; subst ho; exact ⟨o1', by rw [List.getElem?_set_ne (Ne.symm hij), List.getElem?_set_self hi], r1'⟩
    | 1 => simp at hk ho; subst hk; subst ho; exact ⟨o2', by rw [List.getElem?_set_self (by simpa using hj)], r2'⟩
    | k + 2 => simp at hk
  · simp at hn
    rw [List.getElem?_set_ne (fun h => hn.2 h.symm), List.getElem?_set_ne (fun h => hn.1 h.symm)]

theorem stepOK {ex : XTab} {f : Nat} {q q' : BoxP} {u u' : Mu} {b : Bool} (hs : VCalls Tryz.prog ex f [ptr 1, ptr 0] [mem u, .box q] (B b) [mem u', .box q']) : SpecOK Tryz.prog ex ⟨f, false, stepS q u b q' u'⟩ := by
  intro o args h v h' bb tl hs' hb
  change stepS q u b q' u' o args h = _ at hs'
  unfold stepS at hs'
  split at hs'
  case h_2 => cases hs'
  rename_i i m
  split at hs'
  case h_2 => cases hs'
  rename_i p v' hi hm
  cases hs'
  obtain ⟨rfl, rfl⟩ := dec_of hb
  have him : m ≠ i := fun e => by subst e; rw [hi] at hm; cases hm
  refine ⟨lift2c h m i him hs (.cons _ _ _ _ (.ptr 1 i 0 rfl) (.cons _ _ _ _ (.ptr 0 m 0 rfl) .nil)) hm hi (.pay _) (.pay _) (.box _) (.box _) (by simp) (by simp) (.bool _), (fun h => by cases h), by simp, fun k _ hk => ?_⟩
  simp at hk
  rw [List.getElem?_set_ne (fun h => hk.2 h.symm), List.getElem?_set_ne (fun h => hk.1 h.symm)]

/-- What a machine answers that is left alone. -/
noncomputable def accS (q : BoxP) (rest : List Value) (v : Value) : SpecFn
  | _, .pointer (some ⟨i, 0, none⟩) :: more, h => match h[i]? with
    | some (.box p) => match plains rest && plainR v with
      | true => some (v, h, dec (p = q ∧ more = rest), [])
      | false => none
    | _ => none
  | _, _, _ => none

theorem sameA (q : BoxP) (l : List Value) : dec (q = q ∧ l = l) = true := dec_true ⟨rfl, rfl⟩

theorem accOK {ex : XTab} {f : Nat} {q : BoxP} {rest : List Value} {v : Value} (hs : VCalls Tryz.prog ex f (ptr 0 :: rest) [.box q] v [.box q]) : SpecOK Tryz.prog ex ⟨f, true, accS q rest v⟩ := by
  intro o args h v' h' bb tl hs' hb
  change accS q rest v o args h = _ at hs'
  unfold accS at hs'
  split at hs'
  case h_2 => cases hs'
  rename_i i more
  split at hs'
  case h_2 => cases hs'
  rename_i p hi
  split at hs'
  case h_2 => cases hs'
  rename_i hp
  cases hs'
  obtain ⟨rfl, rfl⟩ := dec_of hb
  rw [Bool.and_eq_true] at hp
  have := liftC h i hs hi (by simp) (.box _) (.box _) (.plains hp.1) (.plainR hp.2)
  rw [set_same hi] at this
  exact ⟨this, fun _ => rfl, Nat.le_refl _, fun _ _ _ => rfl⟩

/-- A step with a memory, and one without. -/
noncomputable def bothS (qn : BoxP) (bn : Bool) (q : BoxP) (u : Mu) (b : Bool) (q' : BoxP) (u' : Mu) : SpecFn
  | o, [p, .pointer none], h => accS qn [nilp] (B bn) o [p, .pointer none] h
  | o, args, h => stepS q u b q' u' o args h

theorem bothOK {ex : XTab} {f : Nat} {qn q q' : BoxP} {u u' : Mu} {bn b : Bool} (hn : VCalls Tryz.prog ex f [ptr 0, nilp] [.box qn] (B bn) [.box qn]) (hs : VCalls Tryz.prog ex f [ptr 1, ptr 0] [mem u, .box q] (B b) [mem u', .box q']) :
    SpecOK Tryz.prog ex ⟨f, false, bothS qn bn q u b q' u'⟩ := by
  intro o args h v h' bb tl hs' hb
  change bothS qn bn q u b q' u' o args h = _ at hs'
  unfold bothS at hs'
  split at hs'
  · have := accOK hn o _ h v h' bb tl hs' hb
    exact ⟨this.1, (fun h => by cases h), this.2.2⟩
  · exact stepOK hs o _ h v h' bb tl hs' hb

/-- A machine is made. -/
def newS (r : List Value → Option (BoxP × Bool)) : SpecFn := fun _ args h => match r args with
  | some (q, b) => some (ptr h.length, h ++ [.box q], b, [])
  | none => none

theorem frame_new {P : Program} {ex : XTab} {f : FuncId} {args args1 : List Value} {o : VObj} (h : VHeap) (hc : VCalls P ex f args1 [] (ptr 0) [o]) (ha : RNs true [] args1 args) (ho : RO [h.length] o o) : VCalls P ex f args h (ptr h.length) (h ++ [o]) := by
  refine VCalls.frame [] 1 hc ⟨rfl, by simp, fun k m o hk ho => by simp at hk⟩ ha ?_ (fun k m hk => by simp at hk) (by simp) (by simp) (fun k m o' hk ho' => ?_) (fun m hm _ => by rw [List.getElem?_append_left hm])
  · exact .ptr 0 h.length 0 (by simp [psNew])
  · have hps : psNew [] h.length 1 = [h.length] := by simp [psNew]
    rw [hps] at hk ⊢
    match k with
    | 0 => simp at hk ho'; subst hk; subst ho'; exact ⟨o, by simp, ho⟩
    | k + 1 => simp at hk

theorem newOK {ex : XTab} (f : Nat) (r : List Value → Option (BoxP × Bool)) (hr : ∀ args q b, r args = some (q, b) → b = true → RNs true [] args args ∧ VCalls Tryz.prog ex f args [] (ptr 0) [.box q]) : SpecOK Tryz.prog ex ⟨f, false, newS r⟩ := by
  intro o args h v h' bb tl hs' hb
  change newS r o args h = _ at hs'
  unfold newS at hs'
  split at hs'
  · rename_i q b hq
    cases hs'
    obtain ⟨h1, h2⟩ := hr args q _ hq hb
    exact ⟨frame_new h h2 h1 (.box _), (fun h => by cases h), by simp, fun i hi _ => by rw [List.getElem?_append_left hi]⟩
  · cases hs'

theorem lptr_any {r0 r1 r2 : XRow} {d : Lay} {P : Program} {f : FuncId} {rest : List Value} {h h' : VHeap} {v : Value} {b : Nat} (hc : VCalls P (exL r0 r1 r2 d) f (lptr d :: rest) h v h') : VCalls P (exL r0 r1 r2 d) f (.pointer (some ⟨b, 0, some 3⟩) :: rest) h v h' := by
  intro bs w args' he ha
  cases ha with | cons _ a' _ l' h1 h2 =>
  cases h1 with | fptr _ _ rr hrr =>
  have e : rr = layRow d := by simp [exL] at hrr; exact hrr.symm
  subst e
  exact hc bs w _ he (.cons _ _ _ _ (.fptr 3 0 (layRow d) hrr) h2)


end Go.Vx
