/- A region that draws its order: where all that meets is ordered, each order comes to what the text's order comes to. -/
import Derived.Test.YtmngemjclljpiaaGreatVxF
namespace Go.Vx

def maskOf (acc : List Nat) (l : List Edge) : Nat :=
  l.foldl (fun s e => if Region.binds .any e then s ||| 2 ^ e.on ||| acc.getD e.on 0 else s) 0

def masks : List Oper → List Nat → List Nat
  | [], acc => acc
  | o :: r, acc => masks r (acc ++ [maskOf acc o.after.toList])

inductive Bef (ops : Array Oper) : Nat → Nat → Prop where
  | base (j : Nat) (o : Oper) (e : Edge) (ho : ops[j]? = some o) (he : e ∈ o.after) (hb : Region.binds .any e = true) : Bef ops e.on j
  | step (k j : Nat) (o : Oper) (e : Edge) (ho : ops[j]? = some o) (he : e ∈ o.after) (hb : Region.binds .any e = true) (h : Bef ops k e.on) : Bef ops k j

theorem foldl_mask (acc : List Nat) : ∀ (l : List Edge) (s k : Nat), (l.foldl (fun s e => if Region.binds .any e then s ||| 2 ^ e.on ||| acc.getD e.on 0 else s) s).testBit k = true →
    s.testBit k = true ∨ ∃ e ∈ l, Region.binds .any e = true ∧ (k = e.on ∨ (acc.getD e.on 0).testBit k = true) := by
  intro l
  induction l with
  | nil => intro s k h; exact .inl h
  | cons e r ih =>
    intro s k h
    simp only [List.foldl_cons] at h
    rcases ih _ _ h with h | ⟨e', he', hb, hk⟩
    · by_cases hb : Region.binds .any e = true
      · rw [if_pos hb, Nat.testBit_or, Nat.testBit_or, Bool.or_eq_true, Bool.or_eq_true] at h
        rcases h with (h | h) | h
        · exact .inl h
        · right
          refine ⟨e, List.mem_cons_self, hb, .inl ?_⟩
          rw [Nat.testBit_two_pow] at h
          exact (of_decide_eq_true h).symm
        · exact .inr ⟨e, List.mem_cons_self, hb, .inr h⟩
      · rw [if_neg hb] at h; exact .inl h
    · exact .inr ⟨e', List.mem_cons_of_mem _ he', hb, hk⟩

theorem masks_sound (ops : Array Oper) : ∀ (l : List Oper) (acc : List Nat), (∀ j, l[j]? = ops[acc.length + j]?) →
    (∀ (j m : Nat), acc[j]? = some m → ∀ k, m.testBit k = true → Bef ops k j) →
    ∀ (j m : Nat), (masks l acc)[j]? = some m → ∀ k, m.testBit k = true → Bef ops k j := by
  intro l
  induction l with
  | nil => intro acc _ h; exact h
  | cons o r ih =>
    intro acc hl h
    have h0 : ops[acc.length]? = some o := by simpa using (hl 0).symm
    refine ih (acc ++ [maskOf acc o.after.toList]) ?_ ?_
    · intro j
      have := hl (j + 1)
      simpa [Nat.add_assoc, Nat.add_comm 1 j] using this
    · intro j m hj k hk
      rcases Nat.lt_or_ge j acc.length with hlt | hge
      · rw [List.getElem?_append_left hlt] at hj; exact h j m hj k hk
      · rw [List.getElem?_append_right hge] at hj
        have hj0 : j = acc.length := by
          rcases Nat.eq_zero_or_pos (j - acc.length) with h | h
          · omega
          · rw [List.getElem?_eq_none (by simp; omega)] at hj; cases hj
        subst hj0
        simp at hj
        subst hj
        rcases foldl_mask acc _ _ _ hk with hk | ⟨e, he, hb, hk⟩
        · simp at hk
        · have he' : e ∈ o.after := by simpa using he
          rcases hk with rfl | hk
          · exact .base _ _ e h0 he' hb
          · refine .step k _ _ e h0 he' hb ?_
            rw [List.getD_eq_getElem?_getD] at hk
            cases hq : acc[e.on]? with
            | none => rw [hq] at hk; simp at hk
            | some m => rw [hq] at hk; exact h _ m hq k hk

def eff (cfg : Cfg) (o : Oper) : Bool := !(isSil o.op) && !(isRead cfg o.op)

def hits (d : Option Tmp) (l : List Tmp) : Bool :=
  match d with
  | some d => l.contains d
  | none => false

def loud (cfg : Cfg) (dyn : Bool) (o : Oper) : Bool := !(isSil o.op) && !(dyn && isLoad cfg o.op)

def confl (cfg : Cfg) (dyn : Bool) (ops : Array Oper) (x y : Oper) : Bool :=
  hits x.dst (y.looksAt ops) || hits y.dst (x.looksAt ops) || (eff cfg x && loud cfg dyn y) || (eff cfg y && loud cfg dyn x)

def sameDst (x y : Oper) : Bool :=
  match x.dst, y.dst with
  | some d, some e => d == e
  | _, _ => false

def drawOK (cfg : Cfg) (dyn : Bool) (ops : Array Oper) : Bool :=
  (List.range ops.size).all fun j => match ops[j]? with
    | some y => (y.after.toList.all fun e => !Region.binds .any e || decide (e.on < j)) && (List.range j).all fun i => match ops[i]? with
      | some x => !sameDst x y && (!confl cfg dyn ops x y || ((masks ops.toList []).getD j 0).testBit i)
      | none => true
    | none => true

theorem drawOK_edge {cfg : Cfg} {dyn : Bool} {ops : Array Oper} (h : drawOK cfg dyn ops = true) {j : Nat} {y : Oper} (hj : ops[j]? = some y) {e : Edge} (he : e ∈ y.after) (hb : Region.binds .any e = true) : e.on < j := by
  have hlt : j < ops.size := (Array.getElem?_eq_some_iff.1 hj).1
  have := List.all_eq_true.1 h j (List.mem_range.2 hlt)
  rw [hj] at this
  simp only [Bool.and_eq_true] at this
  have := List.all_eq_true.1 this.1 e (by simpa using he)
  simpa [hb] using this

theorem drawOK_pair {cfg : Cfg} {dyn : Bool} {ops : Array Oper} (h : drawOK cfg dyn ops = true) {i j : Nat} {x y : Oper} (hij : i < j) (hi : ops[i]? = some x) (hj : ops[j]? = some y) :
    sameDst x y = false ∧ (confl cfg dyn ops x y = true → Bef ops i j) := by
  have hlt : j < ops.size := (Array.getElem?_eq_some_iff.1 hj).1
  have := List.all_eq_true.1 h j (List.mem_range.2 hlt)
  rw [hj] at this
  simp only [Bool.and_eq_true] at this
  have := List.all_eq_true.1 this.2 i (List.mem_range.2 hij)
  rw [hi] at this
  simp only [Bool.and_eq_true, Bool.or_eq_true, Bool.not_eq_true'] at this
  refine ⟨this.1, fun hc => ?_⟩
  have hb := this.2.resolve_left (by rw [hc]; simp)
  rw [List.getD_eq_getElem?_getD] at hb
  cases hq : (masks ops.toList [])[j]? with
  | none => rw [hq] at hb; simp at hb
  | some m =>
    rw [hq] at hb
    exact masks_sound ops ops.toList [] (by simp) (by simp) j m hq i hb

def yieldV (ops : Array Oper) (t : List Value) (j : Nat) : Option Bool :=
  match ((ops[j]?).bind (·.dst)).bind (t[·]?) with
  | some (.bool b) => some b
  | _ => none

def wantedV (ops : Array Oper) (t : List Value) (o : Oper) : Bool :=
  match o.guard with
  | none => true
  | some (j, want) => match yieldV ops t j with
    | some b => b == want
    | none => false

theorem VRo_length {ex : XTab} {bs : List Blk} {t : List Value} {a : Array Value} (hlen : t.length = a.size) (τ : Nat) (h : VR ex bs (t.getD τ undef) (a.getD τ undef)) :
    (∀ b, t[τ]? = some (.bool b) ↔ a[τ]? = some (.bool b)) := by
  intro b
  rcases Nat.lt_or_ge τ t.length with hlt | hge
  · have h1 : t[τ]? = some t[τ] := List.getElem?_eq_getElem hlt
    have h2 : a[τ]? = some a[τ] := Array.getElem?_eq_getElem (by omega)
    have h3 : t.getD τ undef = t[τ] := by rw [List.getD_eq_getElem?_getD, h1]; rfl
    have h4 : a.getD τ undef = a[τ] := by simp [Array.getD, show τ < a.size by omega]
    rw [h3, h4] at h
    rw [h1, h2]
    constructor
    · intro hb
      have hb : t[τ] = .bool b := by simpa using hb
      rw [hb] at h; cases h2 : a[τ] <;> rw [h2] at h <;> cases h; rfl
    · intro hb
      have hb : a[τ] = .bool b := by simpa using hb
      rw [hb] at h; cases h2 : t[τ] <;> rw [h2] at h <;> cases h <;> first | rfl | (rename_i hq; cases hq)
  · rw [List.getElem?_eq_none hge, Array.getElem?_eq_none (by omega)]

theorem wantedV_eq {ex : XTab} {bs : List Blk} {ops : Array Oper} {t : List Value} {a : Array Value} {o : Oper} (hlen : t.length = a.size)
    (h : ∀ g want τ, o.guard = some (g, want) → (ops[g]?).bind (·.dst) = some τ → VR ex bs (t.getD τ undef) (a.getD τ undef)) : Region.wanted o (yielded ops a) = wantedV ops t o := by
  unfold Region.wanted wantedV
  cases hg : o.guard with
  | none => rfl
  | some p =>
    obtain ⟨g, want⟩ := p
    simp only
    have hy : yielded ops a g = yieldV ops t g := by
      unfold yielded yieldV
      cases hd : (ops[g]?).bind (·.dst) with
      | none => rfl
      | some τ =>
        simp only [Option.bind_some]
        have hb := VRo_length (ex := ex) hlen τ (h g want τ hg hd)
        cases ht : t[τ]? with
        | none =>
          have : a[τ]? = none := by
            rw [Array.getElem?_eq_none_iff]; rw [List.getElem?_eq_none_iff] at ht; omega
          rw [this]
        | some v =>
          have hlt : τ < a.size := by rw [← hlen]; exact (List.getElem?_eq_some_iff.1 ht).1
          have ha : a[τ]? = some a[τ] := Array.getElem?_eq_getElem hlt
          rw [ha]
          by_cases hv : ∃ b, v = .bool b
          · obtain ⟨b, rfl⟩ := hv
            have := (hb b).1 ht
            rw [ha] at this
            have : a[τ] = .bool b := by simpa using this
            rw [this]
          · have hn : ∀ b, a[τ] ≠ .bool b := fun b hab => hv ⟨b, by
              have := (hb b).2 (by rw [ha, hab])
              rw [ht] at this; simpa using this⟩
            cases v <;> first | exact (hv ⟨_, rfl⟩).elim | (cases h2 : a[τ] <;> first | exact (hn _ h2).elim | rfl)
    rw [hy]
    cases yieldV ops t g with
    | none => simp
    | some b => simp

end Go.Vx
