/- What the statements do to both memories. -/
import Derived.Test.YtmngemjclljpiaaGreatVtE
namespace Go.Vx
open Go.Proofs

abbrev clockF : Nat := 57
abbrev badF : Nat := 58
abbrev lastF : Nat := 59
abbrev alikeF : Nat := 19
abbrev lDoF : Nat := 9
abbrev turnF : Nat := 17

section
variable (ex : XTab)
theorem clock_run (u : Mu) : VCalls Tryz.prog ex clockF [ptr 0] [mem u] (I u.clk) [mem u] := by exact boxK ((baseGood ex)) 9 0 [] (opens_mem _ _) (opens_mem _ _) rfl rfl rfl rfl rfl (by kernel_rfl)
theorem bad_run (u : Mu) : VCalls Tryz.prog ex badF [ptr 0] [mem u] (I u.bad) [mem u] := by exact boxK ((baseGood ex)) 9 0 [] (opens_mem _ _) (opens_mem _ _) rfl rfl rfl rfl rfl (by kernel_rfl)
theorem last_run (u : Mu) : VCalls Tryz.prog ex lastF [ptr 0] [mem u] (.agg ⟨[I u.k, I u.who, I u.at', U u.old, U u.new, B u.dn]⟩) [mem u] := by exact boxK ((baseGood ex)) 9 0 [] (opens_mem _ _) (opens_mem _ _) rfl rfl rfl rfl rfl (by kernel_rfl)

def clockR (u : Mu) : List Value → Option Value
  | [] => some (I u.clk)
  | _ => none
def badR (u : Mu) : List Value → Option Value
  | [] => some (I u.bad)
  | _ => none
def lastR (u : Mu) : List Value → Option Value
  | [] => some (.agg ⟨[I u.k, I u.who, I u.at', U u.old, U u.new, B u.dn]⟩)
  | _ => none
theorem clockOK : SpecOK Tryz.prog ex ⟨clockF, true, memL clockR⟩ := memLOK ex _ _ fun u rest v h => by
  unfold clockR at h; split at h <;> cases h; exact clock_run ex u
theorem badOK : SpecOK Tryz.prog ex ⟨badF, true, memL badR⟩ := memLOK ex _ _ fun u rest v h => by
  unfold badR at h; split at h <;> cases h; exact bad_run ex u
theorem lastOK : SpecOK Tryz.prog ex ⟨lastF, true, memL lastR⟩ := memLOK ex _ _ fun u rest v h => by
  unfold lastR at h; split at h <;> cases h; exact last_run ex u

noncomputable def tabTwo : List SpecE := [⟨clockF, true, memL clockR⟩, ⟨badF, true, memL badR⟩, ⟨lastF, true, memL lastR⟩, ⟨rDoF, false, memS rDoR⟩, ⟨rPeekF, true, memL peekR⟩] ++ tabMem
theorem tabTwo_ok : TabOK ex tabTwo := .app (.cons (clockOK _) (.cons (badOK _) (.cons (lastOK _) (.cons (rDoOK _) (.cons (rPeekOK _) .nil))))) (tabMem_ok _)

theorem eqI (x : Int) : (x == x) = true := by simp
theorem eqB (x : Bool) : (x == x) = true := by simp

/-- Both memories are alike. -/
theorem alike_run (u : Mu) : VCalls Tryz.prog ex alikeF [ptr 0, ptr 1] [mem u, mem u] (B true) [mem u, mem u] := by
  have h1 : ((u.k == u.k) && ((u.who == u.who) && ((u.at' == u.at') && ((u.old == u.old) && ((u.new == u.new) && ((u.dn == u.dn) && true)))))) = true := by simp
  exact contractP ((goodT (tabTwo_ok ex))) 9 [.val 19 35 _ _ (congrArg Value.bool (eqI u.clk)), .val 19 43 _ _ (congrArg Value.bool (eqI u.bad)), .val 19 52 _ _ (congrArg Value.bool h1), .val 19 57 _ _ (congrArg Value.bool (eqB (inr u u.at'))), .val 19 62 _ _ (congrArg Value.bool (eqI (rd u u.at')))] rfl rfl rfl (by kernel_rfl)

theorem doOK0 {u : Mu} {k at' v : Int} (hk : k = 1 ∨ k = 2 ∨ k = 3 ∨ k = 4) (hr : rng u at' v) : dec (doOK u k at' v) = true := dec_true ⟨hk, hr⟩
theorem rng0 {u : Mu} {at' v : Int} (h : rng u at' v) : rng u at' 0 := ⟨h.1, h.2.1, by omega, by omega⟩

/-- An access of somebody else's, to both. -/
theorem do_run (u : Mu) (k who at' o v : Int) (hr : rng u at' v) : VCalls Tryz.prog ex lDoF [ptr 0, ptr 1, .agg ⟨[I k, I who, I at', U o, U v]⟩] [mem u, mem u] (B true) [mem (muDo u k who at' o v), mem (muDo u k who at' o v)] := by
  by_cases h2 : k = 2
  · subst h2
    exact contractP ((goodT (tabTwo_ok ex))) 9 [.fact 37 0 _ (doOK0 (u := u) (k := 2) (.inr (.inl rfl)) hr)] rfl rfl rfl (by kernel_rfl)
  by_cases h3 : k = 3
  · subst h3
    have e : (swOK u at' o == (doAns u 3 at' o v == 1)) = true := by unfold doAns; cases swOK u at' o <;> simp
    exact contractP ((goodT (tabTwo_ok ex))) 9 [.fact 37 0 _ (doOK0 (u := u) (k := 3) (.inr (.inr (.inl rfl))) hr), .val 9 72 _ _ (congrArg Value.bool e)] rfl rfl rfl (by kernel_rfl)
  by_cases h4 : k = 4
  · subst h4
    exact contractP ((goodT (tabTwo_ok ex))) 9 [.fact 37 0 _ (doOK0 (u := u) (k := 4) (.inr (.inr (.inr rfl))) hr), .val 9 94 _ _ (congrArg Value.bool (eqI (doAns u 4 at' 0 v)))] rfl rfl rfl (by kernel_rfl)
  · have hm : muDo u k who at' o v = muDo u 1 who at' 0 0 := by unfold muDo; rw [if_neg h2, if_neg h3, if_neg h4]; rfl
    rw [hm]
    exact contractP ((goodT (tabTwo_ok ex))) 9 [.val 9 27 _ _ (congrArg Value.bool (dfalse h2)), .val 9 47 _ _ (congrArg Value.bool (dfalse h3)), .val 9 74 _ _ (congrArg Value.bool (dfalse h4)), .fact 37 0 _ (doOK0 (u := u) (k := 1) (.inl rfl) (rng0 hr)), .val 9 25 _ _ (congrArg Value.bool (eqI (doAns u 1 at' 0 0)))] rfl rfl rfl (by kernel_rfl)

/-! Entries over both -/

/-- A function of both memories, where these are alike. -/
noncomputable def twoS (r : Mu → List Value → Option (Value × Mu × Bool)) : SpecFn
  | _, .pointer (some ⟨i, 0, none⟩) :: .pointer (some ⟨j, 0, none⟩) :: rest, h => match h[i]?, h[j]? with
    | some (.pay (.mem u)), some (.pay (.mem v)) => match plains rest, Nat.beq i j with
      | true, false => match r u rest with
        | some (x, u', b) => match plainR x with
          | true => some (x, (h.set i (mem u')).set j (mem u'), dec (u = v ∧ b = true), [i, j])
          | false => none
        | none => none
      | _, _ => none
    | _, _ => none
  | _, _, _ => none

theorem twoOK (f : Nat) (r : Mu → List Value → Option (Value × Mu × Bool)) (hr : ∀ (u : Mu) rest v u' b, r u rest = some (v, u', b) → b = true → VCalls Tryz.prog ex f (ptr 0 :: ptr 1 :: rest) [mem u, mem u] v [mem u', mem u']) : SpecOK Tryz.prog ex ⟨f, false, twoS r⟩ := by
  intro o args h v h' b tl hs hb
  change twoS r o args h = _ at hs
  unfold twoS at hs
  split at hs
  case h_2 => cases hs
  rename_i i j rest
  split at hs
  case h_2 => cases hs
  rename_i u u2 hi hj
  split at hs
  case h_2 => cases hs
  rename_i hp hij
  split at hs
  case h_2 => cases hs
  rename_i x u' b' hu
  split at hs
  case h_2 => cases hs
  rename_i hx
  cases hs
  obtain ⟨rfl, hb'⟩ := dec_of hb
  have hij : i ≠ j := fun e => by subst e; simp at hij
  refine ⟨lift2c h i j hij (hr u rest _ _ _ hu hb') (.cons _ _ _ _ (.ptr 0 i 0 rfl) (.cons _ _ _ _ (.ptr 1 j 0 rfl) (.plains hp))) hi hj (.pay _) (.pay _) (.pay _) (.pay _) (by simp) (by simp) (.plainR hx), (fun h => by cases h), by simp, fun k _ hk => ?_⟩
  simp at hk
  rw [List.getElem?_set_ne (fun h => hk.2 h.symm), List.getElem?_set_ne (fun h => hk.1 h.symm)]

def alikeR (u : Mu) : List Value → Option (Value × Mu × Bool)
  | [] => some (B true, u, true)
  | _ => none
noncomputable def lDoR (u : Mu) : List Value → Option (Value × Mu × Bool)
  | [.agg ⟨[.int .i64 k, .int .i64 who, .int .i64 at', .int .u64 o, .int .u64 v]⟩] => some (B true, muDo u k who at' o v, dec (rng u at' v))
  | _ => none
theorem alikeOK : SpecOK Tryz.prog ex ⟨alikeF, false, twoS alikeR⟩ := twoOK ex _ _ fun u rest v u' b h hb => by
  unfold alikeR at h; split at h <;> cases h; exact alike_run ex u
theorem lDoOK : SpecOK Tryz.prog ex ⟨lDoF, false, twoS lDoR⟩ := twoOK ex _ _ fun u rest v u' b h hb => by
  unfold lDoR at h; split at h <;> cases h; exact do_run ex u _ _ _ _ _ (dec_of hb)

theorem sameU (u : Mu) : dec (u = u ∧ true = true) = true := dec_true ⟨rfl, rfl⟩
theorem sameUD {u : Mu} {at' v : Int} (h : rng u at' v) : dec (u = u ∧ dec (rng u at' v) = true) = true := dec_true ⟨rfl, dec_true h⟩

noncomputable def tabLaw : List SpecE := [⟨alikeF, false, twoS alikeR⟩, ⟨lDoF, false, twoS lDoR⟩, ⟨rDoF, false, memS rDoR⟩, ⟨rPeekF, true, memL peekR⟩, ⟨peekF, true, memL peekR⟩]
theorem tabLaw_ok : TabOK ex tabLaw := .cons (alikeOK _) (.cons (lDoOK _) (.cons (rDoOK _) (.cons (rPeekOK _) (.cons (peekOK _) .nil))))

/-! A routine's run, as the statements have it -/

theorem VR.slice_inv {bs : List Blk} {i off n c : Nat} {v : Value} (h : VR ex bs (.slice (some ⟨i, off, none⟩) n c) v) : ∃ c' b, bs[i]? = some b ∧ off + c' * c ≤ b.2 ∧ n ≤ c' ∧ v = .slice (some ⟨b.1, off, none⟩) n c' := by
  cases h with | slice _ _ _ _ c' b hb hc hn => exact ⟨c', b, hb, hc, hn, rfl⟩

theorem dead_front {h : VHeap} {bs : List Blk} {w : World} {d : Blk} (hd : d.own ⊆ own bs) (hcl : closedAll h = true) (he : Emb ex bs h w) : Emb ex (d :: bs) (.dead :: h) w := by
  have hown : ∀ x, x ∈ own (d :: bs) → x ∈ own bs := fun x hx => by
    have : x ∈ d.own ∨ x ∈ own bs := by simpa [own] using hx
    rcases this with h | h
    · exact hd h
    · exact h
  refine ⟨⟨he.x.lt, fun k r hk hn hm => he.x.out k r hk hn (hown _ hm), he.x.cell⟩, by simp [he.len], fun x hx => he.lto x (hown x hx), ?_, ?_⟩
  · intro i j b c o q hb hc ho hq x hx1 hx2
    match i, j with
    | 0, _ => simp at ho; exact .inr (.inl ho.symm)
    | _, 0 => simp at hq; exact .inr (.inr hq.symm)
    | i + 1, j + 1 =>
      rcases he.sepo i j b c o q (by simpa using hb) (by simpa using hc) (by simpa using ho) (by simpa using hq) x hx1 hx2 with h | h | h
      · exact .inl (by omega)
      · exact .inr (.inl h)
      · exact .inr (.inr h)
  · intro i b o hb ho
    match i with
    | 0 => simp at ho; subst ho; trivial
    | i + 1 =>
      have ho' : h[i]? = some o := by simpa using ho
      exact (he.holds i b o (by simpa using hb) ho').closed _ (closedAll_get hcl ho')

/-- The cells of a run. -/
abbrev runC (got : Value) (r : RunP) : List Value := [got, .int .i64 ((r.n - r.rem.length : Nat) : Int), .bool r.st, .int .i64 r.k, .int .i64 r.who, .int .i64 r.at', .int .u64 r.old, .int .u64 r.new, .bool r.dn, .bool r.sl]

theorem unrun {P : Program} {f : FuncId} {rest : List Value} {r r' : RunP} {v : Value} {e e2 : TypeId} (hok : r.OK) (hnl : r.nl = false) (hnl' : r'.nl = false) (hp : plains rest = true) (hv : plainR v = true) (hc : VCalls P ex f (ptr 0 :: rest) [run r] v [run r']) :
    VCalls P ex f (ptr 1 :: rest) [.fn r.n .u64 r.g e2, .cells (runC (.slice (some ⟨0, 0, none⟩) r.n 1) r) e] v (.dead :: runH 1 r') := by
  intro bs w args' he ha
  have hl := he.len
  match bs, hl with
  | [d0, c0], _ =>
    have hsep : ∀ x, x ∈ d0.own → x ∈ c0.own → False := fun x h1 h2 => by
      rcases he.sepo 0 1 d0 c0 _ _ rfl rfl rfl rfl x h1 h2 with h | h | h
      · cases h
      · cases h
      · cases h
    obtain ⟨l0, e0, k1, k2, k3, k4⟩ := he.holds 0 d0 _ rfl rfl
    obtain ⟨l1, t1, e1, m1, m2, m3⟩ := he.holds 1 c0 _ rfl rfl
    have hr' : ∃ s', VR ex [d0, c0] (.slice (some ⟨0, 0, none⟩) r.n 1) s' ∧ l1 = s' :: [.int .i64 ((r.n - r.rem.length : Nat) : Int), .bool r.st, .int .i64 r.k, .int .i64 r.who, .int .i64 r.at', .int .u64 r.old, .int .u64 r.new, .bool r.dn, .bool r.sl] := by
      cases m3 with | cons _ s' _ q hs' hr => exact ⟨s', hs', by rw [hr.plain_eq rfl]⟩
    obtain ⟨s', hs', rfl⟩ := hr'
    obtain ⟨c', b, hb, hcap, hn, rfl⟩ := hs'.slice_inv
    simp at hb; subst hb
    obtain ⟨B, hB⟩ : ∃ B : Blk, B = ⟨c0.1, c0.2, c0.3 ++ d0.own⟩ := ⟨_, rfl⟩
    have hBo : ∀ x, x ∈ B.own ↔ x ∈ c0.own ∨ x ∈ d0.own := fun x => by subst hB; simp [Blk.own, or_assoc]
    have hpay : payQ B w (.run r) := by
      subst hB
      refine ⟨_, e1, t1, m1, by rw [← m2]; simp; omega, hok.n1, hok.len, hok.g, ?_⟩
      rw [hnl]
      refine ⟨d0.1, c', e0, l0, rfl, by simp [Blk.own], fun h => hsep d0.1 d0.own1 (by rw [h]; exact c0.own1), k1, hn, by rw [k2]; simpa using hcap, k4⟩
    have hown : ∀ x, x ∈ own [B] → x ∈ own [d0, c0] := fun x hx => by
      rw [own_cons, own_nil, List.append_nil] at hx
      have := (hBo x).1 (by simpa [Blk.own] using hx)
      simp only [own, List.flatMap_cons, List.flatMap_nil, List.append_nil, List.mem_append]
      exact this.symm
    have he1 : Emb ex [B] [run r] w := by
      refine ⟨⟨he.x.lt, fun k q hk hn hm => he.x.out k q hk hn (hown _ hm), he.x.cell⟩, rfl, fun x hx => he.lto x (hown x hx), ?_, ?_⟩
      · intro i j b c o q hb hc ho hq x hx1 hx2
        match i, j with
        | 0, 0 => exact .inl rfl
        | i + 1, _ => simp at hb
        | _, j + 1 => simp at hc
      · intro i b o hb ho
        match i with
        | 0 => simp at hb ho; subst hb; subst ho; exact hpay
        | i + 1 => simp at hb
    have ha1 : VRs ex [B] (ptr 0 :: rest) args' := by
      cases ha with | cons _ a' _ l' h1 h2 =>
      obtain ⟨c, hc, rfl⟩ := h1.ptr_inv
      simp at hc; subst hc
      refine .cons _ _ _ _ ?_ ((VR_back [B] (ps := []) (cs := [d0, c0]) (fun i j b h => by simp at h)).2 _ _ (.plains hp) _ h2)
      have : c0.1 = B.1 := by rw [hB]
      rw [this]; exact .ptr 0 0 B rfl
    refine Calls.mono (hc [B] w args' he1 ha1) ?_
    rintro ee w' ⟨v', bs', rfl, hv', he', hg⟩
    have hl' := he'.len
    match bs', hl' with
    | [B'], _ =>
      have hok' : r'.OK := payQ_ok (he'.holds 0 B' _ rfl rfl)
      obtain ⟨B2, g1, g2, g3⟩ := hg.ext 0 B rfl
      simp at g1; subst g1
      obtain ⟨c, bsH, hs, q1, q2, q3⟩ := (opens_run (ex := ex) (f := 1) hok').op B' w' ((he'.holds 0 B' _ rfl rfl).closed [] rfl)
      obtain ⟨d1, hd1⟩ : ∃ d1 : Blk, d1 = ⟨d0.1, d0.2, []⟩ := ⟨_, rfl⟩
      have hB' : ∀ x, x ∈ B'.own → x ∈ own [B'] := fun x hx => by rw [own_cons, own_nil, List.append_nil]; simpa [Blk.own] using hx
      have hx1 : ∀ x, x ∈ own (d1 :: c :: bsH) → x = d0.1 ∨ x ∈ B'.own := fun x hx => by
        have : x ∈ d1.own ∨ x ∈ own (c :: bsH) := by simpa [own] using hx
        rcases this with h | h
        · rw [hd1] at h; simp [Blk.own] at h; exact .inl h
        · exact .inr (q3 x h)
      have hd0 : d0.1 ∈ own [d0, c0] := by simp [own, Blk.own]
      have hd0lt : d0.1 < w'.heap.size := Nat.lt_of_lt_of_le (he.lto d0.1 hd0) hg.size
      have he4 : Emb ex (d1 :: c :: bsH) (.dead :: runH 1 r') w' := by
        refine ⟨⟨he'.x.lt, fun k q hk hn hm => ?_, he'.x.cell⟩, by have := hs.len; simp at this ⊢; exact this, fun x hx => ?_, ?_, ?_⟩
        · rcases hx1 _ hm with h | h
          · exact he.x.out k q hk hn (by rw [h]; exact hd0)
          · exact he'.x.out k q hk hn (hB' _ h)
        · rcases hx1 x hx with h | h
          · rw [h]; exact hd0lt
          · exact he'.lto x (hB' _ h)
        · intro i j b c2 o q hb hc2 ho hq x hx2 hx3
          match i, j with
          | 0, _ => simp at ho; exact .inr (.inl ho.symm)
          | _, 0 => simp at hq; exact .inr (.inr hq.symm)
          | i + 1, j + 1 =>
            rcases hs.sep i j b c2 o q (by simpa using hb) (by simpa using hc2) (by simpa using ho) (by simpa using hq) x hx2 hx3 with h | h | h
            · exact .inl (by omega)
            · exact .inr (.inl h)
            · exact .inr (.inr h)
        · intro i b o hb ho
          match i with
          | 0 => simp at ho; subst ho; trivial
          | i + 1 => exact hs.holds [d1] rfl i b o (by simpa using hb) (by simpa using ho)
      refine ⟨v', _, rfl, by rw [hv'.plainR_eq hv]; exact VR.plainR hv, he4, ⟨?_, ?_, hg.size, fun x hx hn => hg.same x hx fun hm => hn (hown x hm), hg.os, hg.output, hg.tape⟩⟩
      · intro i b hb
        match i with
        | 0 => simp at hb; subst hb; exact ⟨d1, rfl, by rw [hd1], by rw [hd1]⟩
        | 1 => simp at hb; subst hb; exact ⟨c, rfl, by rw [q1, g2, hB], by rw [q2, g3, hB]⟩
        | i + 2 => simp at hb
      · intro x hx
        rcases hx1 x hx with h | h
        · left; rw [h]; exact hd0
        · rcases hg.mem x (hB' x h) with h | h
          · exact .inl (hown x h)
          · exact .inr h

/-- The same, where nothing was answered yet. -/
theorem unrun0 {P : Program} {f : FuncId} {rest : List Value} {r r' : RunP} {v : Value} {e : TypeId} (hok : r.OK) (hnl : r.nl = true) (hnl' : r'.nl = true) (hp : plains rest = true) (hv : plainR v = true) (hc : VCalls P ex f (ptr 0 :: rest) [run r] v [run r']) :
    VCalls P ex f (ptr 0 :: rest) [.cells (runC (.slice none 0 0) r) e] v (runH 0 r') := by
  intro bs w args' he ha
  have hl := he.len
  match bs, hl with
  | [c0], _ =>
    obtain ⟨l1, t1, e1, m1, m2, m3⟩ := he.holds 0 c0 _ rfl rfl
    have hl1 := m3.plain_eq rfl
    subst hl1
    have hpay : payQ c0 w (.run r) := by
      refine ⟨_, e1, t1, m1, by rw [← m2]; simp; omega, hok.n1, hok.len, hok.g, ?_⟩
      rw [hnl]; exact ⟨hok.nl hnl, rfl⟩
    have he1 : Emb ex [c0] [run r] w := by
      refine ⟨he.x, rfl, he.lto, ?_, ?_⟩
      · intro i j b c o q hb hc ho hq x hx1 hx2
        match i, j with
        | 0, 0 => exact .inl rfl
        | i + 1, _ => simp at hb
        | _, j + 1 => simp at hc
      · intro i b o hb ho
        match i with
        | 0 => simp at hb ho; subst hb; subst ho; exact hpay
        | i + 1 => simp at hb
    refine Calls.mono (hc [c0] w args' he1 ha) ?_
    rintro ee w' ⟨v', bs', rfl, hv', he', hg⟩
    have hl' := he'.len
    match bs', hl' with
    | [B'], _ =>
      have hok' : r'.OK := payQ_ok (he'.holds 0 B' _ rfl rfl)
      obtain ⟨B2, g1, g2, g3⟩ := hg.ext 0 c0 rfl
      simp at g1; subst g1
      obtain ⟨c, bsH, he3, q1, q2, q3⟩ := open_emb (F := []) (opens_run hok') rfl rfl (fr := []) rfl he'
      refine ⟨v', _, rfl, by rw [hv'.plainR_eq hv]; exact VR.plainR hv, he3, ⟨?_, ?_, hg.size, hg.same, hg.os, hg.output, hg.tape⟩⟩
      · intro i b hb
        match i with
        | 0 => simp at hb; subst hb; exact ⟨c, rfl, by rw [q1, g2], by rw [q2, g3]⟩
        | i + 1 => simp at hb
      · intro x hx
        exact hg.mem x (by have := q3 x (by simpa using hx); rw [own_cons, own_nil, List.append_nil]; simpa [Blk.own] using this)
end

end Go.Vx
