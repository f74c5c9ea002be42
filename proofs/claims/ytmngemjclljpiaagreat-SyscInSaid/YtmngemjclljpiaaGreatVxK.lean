/- A contract over few objects holds over many; what is had of many, of few. -/
import Derived.Test.YtmngemjclljpiaaGreatVxJ
namespace Go.Vx

variable {ex : XTab}

/-- An object among few, and the same among many. -/
inductive RO (ps : List Nat) : VObj → VObj → Prop where
  | cells (l l' : List Value) (e e' : TypeId) (h : RNs false ps l l') : RO ps (.cells l e) (.cells l' e')
  | fn (n : Nat) (k : IntKind) (g g' : Nat → Int) (e e' : TypeId) (h : ∀ i, i < n → g i = g' i) : RO ps (.fn n k g e) (.fn n k g' e')
  | dead : RO ps .dead .dead
  | box (q : BoxP) : RO ps (.box q) (.box q)
  | pay (p : Pay) : RO ps (.pay p) (.pay p)
  | ints (n : Nat) (k : IntKind) (g : Nat → Int) (l : List Value) (e e' : TypeId) (hn : l.length = n) (h : ∀ i, i < n → l[i]? = some (.int k (g i))) : RO ps (.fn n k g e) (.cells l e')

/-- An object of which less is told. -/
inductive RW (ps : List Nat) : VObj → VObj → Prop where
  | cells (l l' t : List Value) (e e' : TypeId) (h : RNs true ps l l') : RW ps (.cells l e) (.cells (l' ++ t) e')
  | fn (n n' : Nat) (k : IntKind) (g g' : Nat → Int) (e e' : TypeId) (hn : n ≤ n') (h : ∀ i, i < n → g i = g' i) : RW ps (.fn n k g e) (.fn n' k g' e')
  | dead (o : VObj) : RW ps .dead o
  | box (q : BoxP) : RW ps (.box q) (.box q)
  | pay (p : Pay) : RW ps (.pay p) (.pay p)
  | ints (n : Nat) (k : IntKind) (g : Nat → Int) (l : List Value) (e e' : TypeId) (hn : n ≤ l.length) (h : ∀ i, i < n → l[i]? = some (.int k (g i))) : RW ps (.fn n k g e) (.cells l e')

theorem RN.plain1 {wk : Bool} {ps : List Nat} {v : Value} (h : plain1 v = true) : RN wk ps v v := by
  cases v <;> simp [Vx.plain1] at h
  case bool b => exact .bool b
  case int k n => exact .int k n
  case string s => exact .string s
  case pointer a => cases a with
    | none => exact .nilPtr
    | some a => simp [Vx.plain1] at h
  case slice a n c =>
    cases a with
    | none =>
      cases n with
      | zero => cases c with
        | zero => exact .nilSlice
        | succ c => simp [Vx.plain1] at h
      | succ n => simp [Vx.plain1] at h
    | some a => simp [Vx.plain1] at h
  case map a => cases a with
    | none => exact .nilMap
    | some a => simp [Vx.plain1] at h
  case nilFunc => exact .nilFunc
  case nilIface => exact .nilIface

theorem RNs.plain {wk : Bool} {ps : List Nat} : ∀ {l : List Value}, plainAll l = true → RNs wk ps l l
  | [], _ => .nil
  | v :: r, h => by
    unfold plainAll at h
    cases h1 : Vx.plain1 v with
    | true => simp only [h1] at h; exact .cons _ _ _ _ (.plain1 h1) (RNs.plain h)
    | false => simp [h1] at h

theorem RN.plain {wk : Bool} {ps : List Nat} {v : Value} (h : plain v = true) : RN wk ps v v := by
  cases v
  case agg l => obtain ⟨l⟩ := l; exact .agg _ _ (.plain h)
  all_goals exact .plain1 h

theorem RN_weak {ps : List Nat} : (∀ (v u : Value), RN false ps v u → RN true ps v u) ∧ (∀ (l m : List Value), RNs false ps l m → RNs true ps l m) := by
  constructor
  · intro v u h
    exact RN.rec (motive_1 := fun v u _ => RN true ps v u) (motive_2 := fun l m _ => RNs true ps l m)
      (fun b => .bool b) (fun k n => .int k n) (fun s => .string s) .nilPtr (fun i j off h => .ptr i j off h) (fun b k off => .fptr b k off) (fun b k off n c => .fslice b k off n c) .nilSlice (fun i j off n c h => .slice i j off n c h) .nilMap
      (fun fn a a' c c' _ _ h1 h2 => .func fn a a' c c' h1 h2) .nilFunc .nilIface (fun t v v' _ h => .iface t v v' h) (fun l l' _ h => .agg l l' h) (fun l l' _ h => .tuple l l' h)
      (fun u h => .top u (h.elim (fun h => by cases h.1) .inr)) .nil (fun v v' l l' _ _ h1 h2 => .cons v v' l l' h1 h2) h
  · intro v u h
    exact RNs.rec (motive_1 := fun v u _ => RN true ps v u) (motive_2 := fun l m _ => RNs true ps l m)
      (fun b => .bool b) (fun k n => .int k n) (fun s => .string s) .nilPtr (fun i j off h => .ptr i j off h) (fun b k off => .fptr b k off) (fun b k off n c => .fslice b k off n c) .nilSlice (fun i j off n c h => .slice i j off n c h) .nilMap
      (fun fn a a' c c' _ _ h1 h2 => .func fn a a' c c' h1 h2) .nilFunc .nilIface (fun t v v' _ h => .iface t v v' h) (fun l l' _ h => .agg l l' h) (fun l l' _ h => .tuple l l' h)
      (fun u h => .top u (h.elim (fun h => by cases h.1) .inr)) .nil (fun v v' l l' _ _ h1 h2 => .cons v v' l l' h1 h2) h

theorem RO.weak {ps : List Nat} {o o' : VObj} (h : RO ps o o') : RW ps o o' := by
  cases h with
  | cells l l' e e' h => have := RW.cells (ps := ps) l l' [] e e' (RN_weak.2 _ _ h); simpa using this
  | fn n k g g' e e' h => exact .fn n n k g g' e e' (Nat.le_refl _) h
  | dead => exact .dead _
  | box q => exact .box q
  | pay p => exact .pay p
  | ints n k g l e e' hn h => exact .ints n k g l e e' (by omega) h

theorem Holds.comp {ps : List Nat} {bs cs : List Blk} {w : World} {b : Blk} {o o' : VObj} (hx : ∀ (i j : Nat) (b : Blk), ps[i]? = some j → bs[j]? = some b → cs[i]? = some b) (hr : RW ps o o') (h : Holds ex bs w b o') : Holds ex cs w b o := by
  cases hr with
  | cells l l' t e e' hl =>
    obtain ⟨m, u, e2, h1, h2, h3⟩ := h
    have hlen := h3.length
    simp only [List.length_append] at hlen
    have h4 := h3.take l'.length
    rw [List.take_left'  rfl] at h4
    refine ⟨m.take l'.length, m.drop l'.length ++ u, e2, ?_, ?_, (VR_comp cs hx).2 _ _ hl _ h4⟩
    · rw [← List.append_assoc, List.take_append_drop]; exact h1
    · rw [← List.append_assoc, List.take_append_drop]; exact h2
  | fn n n' k g g' e e' hn hg =>
    obtain ⟨l', e2, h1, h2, h3, h4⟩ := h
    exact ⟨l', e2, h1, h2, by omega, fun i hi => by rw [h4 i (by omega), hg i hi]⟩
  | dead => trivial
  | box q => exact h
  | pay p => exact h
  | ints n k g l e e' hn hg =>
    obtain ⟨m, u, e2, h1, h2, h3⟩ := h
    have hlen := h3.length
    refine ⟨m ++ u, e2, h1, h2, by simp; omega, fun i hi => ?_⟩
    obtain ⟨v', g1, g2⟩ := h3.get i _ (hg i hi)
    cases g2
    rw [List.getElem?_append_left (by omega)]; exact g1

theorem Holds.back {ps : List Nat} {bs cs : List Blk} {w : World} {b : Blk} {o o' : VObj} (hx : ∀ (i j : Nat) (b : Blk), ps[i]? = some j → cs[i]? = some b → bs[j]? = some b) (hr : RO ps o o') (h : Holds ex cs w b o) : Holds ex bs w b o' := by
  cases hr with
  | cells l l' e e' hl => obtain ⟨m, u, e2, h1, h2, h3⟩ := h; exact ⟨m, u, e2, h1, h2, (VR_back bs hx).2 _ _ hl _ h3⟩
  | fn n k g g' e e' hg => obtain ⟨l', e2, h1, h2, h3, h4⟩ := h; exact ⟨l', e2, h1, h2, h3, fun i hi => by rw [h4 i hi, hg i hi]⟩
  | dead => trivial
  | box q => exact h
  | pay p => exact h
  | ints n k g l e e' hn hg =>
    obtain ⟨m, e2, h1, h2, h3, h4⟩ := h
    refine ⟨m.take n, m.drop n, e2, by rw [List.take_append_drop]; exact h1, by rw [List.take_append_drop]; exact h2, VRs.of_get (by simp; omega) fun i v v' hv hv' => ?_⟩
    have hi : i < n := by rw [← hn]; exact (List.getElem?_eq_some_iff.1 hv).1
    rw [List.getElem?_take_of_lt hi, h4 i hi] at hv'
    rw [hg i hi] at hv
    cases hv; cases hv'
    exact .int _ _

/-- Few objects among many: where each lies. -/
structure Sub (ps : List Nat) (h1 h : VHeap) : Prop where
  len : ps.length = h1.length
  nodup : ps.Nodup
  obj : ∀ (k j : Nat) (o : VObj), ps[k]? = some j → h1[k]? = some o → ∃ o', h[j]? = some o' ∧ RW ps o o'

def pick (bs : List Blk) (ps : List Nat) : List Blk := ps.map fun j => bs.getD j ⟨0, 0, []⟩

theorem pick_get {bs : List Blk} {ps : List Nat} {i j : Nat} {b : Blk} (h1 : ps[i]? = some j) (h2 : bs[j]? = some b) : (pick bs ps)[i]? = some b := by
  simp [pick, h1, List.getD_eq_getElem?_getD, h2]

theorem Sub.lt {ps : List Nat} {h1 h : VHeap} (hs : Sub ps h1 h) {k j : Nat} (hk : ps[k]? = some j) : j < h.length := by
  have hk1 : k < h1.length := by rw [← hs.len]; exact (List.getElem?_eq_some_iff.1 hk).1
  obtain ⟨o', ho', _⟩ := hs.obj k j h1[k] hk (List.getElem?_eq_getElem hk1)
  exact (List.getElem?_eq_some_iff.1 ho').1

theorem pick_back {bs : List Blk} {ps : List Nat} (hin : ∀ k j : Nat, ps[k]? = some j → j < bs.length) {k : Nat} {b : Blk} (hk : (pick bs ps)[k]? = some b) : ∃ j, ps[k]? = some j ∧ bs[j]? = some b := by
  simp only [pick, List.getElem?_map, Option.map_eq_some_iff] at hk
  obtain ⟨j, hj, hb⟩ := hk
  have := hin k j hj
  refine ⟨j, hj, ?_⟩
  rw [List.getElem?_eq_getElem this]
  rw [List.getD_eq_getElem?_getD, List.getElem?_eq_getElem this] at hb
  simpa using hb

theorem pick_mem {bs : List Blk} {ps : List Nat} (hin : ∀ k j : Nat, ps[k]? = some j → j < bs.length) {x : Nat} (hb : x ∈ own (pick bs ps)) : ∃ (k j : Nat) (c : Blk), ps[k]? = some j ∧ bs[j]? = some c ∧ x ∈ c.own := by
  obtain ⟨k, c, hk, hx⟩ := own_at hb
  obtain ⟨j, hj, hbj⟩ := pick_back hin hk
  exact ⟨k, j, c, hj, hbj, hx⟩

/-- What is had of many objects is had of few. -/
theorem Sub.emb {ps : List Nat} {h1 h : VHeap} {bs : List Blk} {w : World} (hs : Sub ps h1 h) (he : Emb ex bs h w) : Emb ex (pick bs ps) h1 w := by
  have hin : ∀ k j : Nat, ps[k]? = some j → j < bs.length := fun k j hk => by rw [he.len]; exact hs.lt hk
  have hsub : ∀ x, x ∈ own (pick bs ps) → x ∈ own bs := fun x hb => by
    obtain ⟨k, j, c, _, h2, hx⟩ := pick_mem hin hb
    exact own_of h2 hx
  refine ⟨⟨he.x.lt, fun k r hk hn hm => he.x.out k r hk hn (hsub _ hm), he.x.cell⟩, by simp [pick, hs.len], ?_, ?_, ?_⟩
  · intro x hx
    exact he.lto x (hsub x hx)
  · intro i j b c o q hb hc ho hq x hx1 hx2
    obtain ⟨i', hi', hbi⟩ := pick_back hin hb
    obtain ⟨j', hj', hcj⟩ := pick_back hin hc
    obtain ⟨o', ho', hr⟩ := hs.obj i i' o hi' ho
    obtain ⟨q', hq', hr'⟩ := hs.obj j j' q hj' hq
    rcases he.sepo i' j' b c o' q' hbi hcj ho' hq' x hx1 hx2 with h | h | h
    · subst h
      left
      have hlt : i < ps.length := (List.getElem?_eq_some_iff.1 hi').1
      exact (List.getElem?_inj hlt hs.nodup).1 (hi'.trans hj'.symm)
    · right; left; subst h
      generalize hz : VObj.dead = z at hr
      cases hr <;> cases hz <;> rfl
    · right; right; subst h
      generalize hz : VObj.dead = z at hr'
      cases hr' <;> cases hz <;> rfl
  · intro k b o hb ho
    obtain ⟨j, hj, hbj⟩ := pick_back hin hb
    obtain ⟨o', ho', hr⟩ := hs.obj k j o hj ho
    exact (he.holds j b o' hbj ho').comp (fun i j b h1 h2 => pick_get h1 h2) hr

/-- Where the objects of few lie among many, with new ones behind. -/
def psNew (ps : List Nat) (n m : Nat) : List Nat := ps ++ (List.range m).map fun i => n + i

/-- THE FRAME: a contract over few objects, over many; of what it made the first m are kept. -/
theorem VCalls.frame {P : Program} {f : FuncId} {args1 args : List Value} {h1 h h1' h' : VHeap} {v1 v : Value} (ps : List Nat) (m : Nat) (hc : VCalls P ex f args1 h1 v1 h1') (hs : Sub ps h1 h) (ha : RNs true ps args1 args) (hv : RN false (psNew ps h.length m) v1 v)
    (alive : ∀ k j : Nat, ps[k]? = some j → h[j]? ≠ some .dead)
    (hlen : h'.length = h.length + m) (hle : h1.length + m ≤ h1'.length) (hin : ∀ (k j : Nat) (o : VObj), (psNew ps h.length m)[k]? = some j → h1'[k]? = some o → ∃ o', h'[j]? = some o' ∧ RO (psNew ps h.length m) o o')
    (hout : ∀ j, j < h.length → j ∉ ps → h'[j]? = h[j]?) : VCalls P ex f args h v h' := by
  intro bs w args' he hva
  have he1 := hs.emb he
  have hbin : ∀ k j : Nat, ps[k]? = some j → j < bs.length := fun k j hk => by rw [he.len]; exact hs.lt hk
  have hva1 := (VR_comp (pick bs ps) (fun i j b h1 h2 => pick_get h1 h2)).2 _ _ ha _ hva
  refine Calls.mono (hc (pick bs ps) w args' he1 hva1) ?_
  rintro e w' ⟨v', bs1', rfl, hv', he', hg⟩
  have hpl : (pick bs ps).length = ps.length := by simp [pick]
  have hKlen : (psNew ps h.length m).length ≤ bs1'.length := by
    rw [he'.len]; simp only [psNew, List.length_append, List.length_map, List.length_range, hs.len]; omega
  have hsplit : ∀ k j : Nat, (psNew ps h.length m)[k]? = some j → (k < ps.length ∧ ps[k]? = some j) ∨ (ps.length ≤ k ∧ k - ps.length < m ∧ j = h.length + (k - ps.length)) := by
    intro k j hk
    unfold psNew at hk
    rcases Nat.lt_or_ge k ps.length with hlt | hge
    · rw [List.getElem?_append_left hlt] at hk; exact .inl ⟨hlt, hk⟩
    · rw [List.getElem?_append_right hge] at hk
      simp only [List.getElem?_map, Option.map_eq_some_iff] at hk
      obtain ⟨a, ha, rfl⟩ := hk
      have hlt : k - ps.length < m := by have := (List.getElem?_eq_some_iff.1 ha).1; simpa using this
      rw [List.getElem?_range hlt] at ha
      cases ha
      exact .inr ⟨hge, hlt, rfl⟩
  have hinj : ∀ k k' j : Nat, (psNew ps h.length m)[k]? = some j → (psNew ps h.length m)[k']? = some j → k = k' := by
    intro k k' j hk hk'
    rcases hsplit k j hk with ⟨h1, h2⟩ | ⟨h1, h2, h3⟩
    · rcases hsplit k' j hk' with ⟨g1, g2⟩ | ⟨g1, g2, g3⟩
      · exact (List.getElem?_inj h1 hs.nodup).1 (h2.trans g2.symm)
      · have := hs.lt h2; omega
    · rcases hsplit k' j hk' with ⟨g1, g2⟩ | ⟨g1, g2, g3⟩
      · have := hs.lt g2; omega
      · omega
  -- the blocks behind it
  have hf : ∀ j : Nat, ∃ c : Blk, (∀ k : Nat, (psNew ps h.length m)[k]? = some j → bs1'[k]? = some c) ∧ ((∀ k : Nat, (psNew ps h.length m)[k]? ≠ some j) → ∀ c', bs[j]? = some c' → c = c') := by
    intro j
    by_cases hk : ∃ k : Nat, (psNew ps h.length m)[k]? = some j
    · obtain ⟨k, hk⟩ := hk
      have hlt : k < bs1'.length := Nat.lt_of_lt_of_le (List.getElem?_eq_some_iff.1 hk).1 hKlen
      refine ⟨bs1'[k], fun k' hk' => ?_, fun h => (h k hk).elim⟩
      rw [hinj k' k j hk' hk]; exact List.getElem?_eq_getElem hlt
    · refine ⟨bs.getD j ⟨0, 0, []⟩, fun k hk' => (hk ⟨k, hk'⟩).elim, fun _ c' hc' => ?_⟩
      rw [List.getD_eq_getElem?_getD, hc']; rfl
  obtain ⟨f, hf⟩ := Classical.axiomOfChoice hf
  obtain ⟨nb, hnb⟩ : ∃ nb, nb = (List.range (h.length + m)).map f := ⟨_, rfl⟩
  have hnl : nb.length = h.length + m := by rw [hnb]; simp
  have hnget : ∀ j : Nat, j < h.length + m → nb[j]? = some (f j) := by
    intro j hj; rw [hnb, List.getElem?_map, List.getElem?_range hj]; rfl
  have hKlt : ∀ k j : Nat, (psNew ps h.length m)[k]? = some j → j < h.length + m := by
    intro k j hk
    rcases hsplit k j hk with ⟨_, h2⟩ | ⟨_, h2, h3⟩
    · have := hs.lt h2; omega
    · omega
  have hbx : ∀ (i j : Nat) (b : Blk), (psNew ps h.length m)[i]? = some j → bs1'[i]? = some b → nb[j]? = some b := by
    intro i j b h1 h2
    rw [hnget j (hKlt i j h1)]
    have := (hf j).1 i h1
    rw [h2] at this; exact this.symm
  have hpsK : ∀ k j : Nat, ps[k]? = some j → (psNew ps h.length m)[k]? = some j := by
    intro k j hk; unfold psNew; rw [List.getElem?_append_left (List.getElem?_eq_some_iff.1 hk).1]; exact hk
  have hnotK : ∀ j, j < h.length → j ∉ ps → ∀ k : Nat, (psNew ps h.length m)[k]? ≠ some j := by
    intro j hj hn k hk
    rcases hsplit k j hk with ⟨_, h2⟩ | ⟨_, h2, h3⟩
    · exact hn (List.mem_of_getElem? h2)
    · omega
  have hbo : ∀ j, j < h.length → j ∉ ps → nb[j]? = bs[j]? := by
    intro j hj hn
    have hlt : j < bs.length := by rw [he.len]; exact hj
    rw [hnget j (by omega), List.getElem?_eq_getElem hlt, (hf j).2 (hnotK j hj hn) _ (List.getElem?_eq_getElem hlt)]
  have hpk : ∀ b, b ∉ own bs → b ∉ own (pick bs ps) := by
    intro b hn hm
    obtain ⟨k, j, c, _, h2, hx⟩ := pick_mem hbin hm
    exact hn (own_of h2 hx)
  -- an old object that is none of the few, and what else there is
  have hold : ∀ (j : Nat) (c : Blk) (q : VObj), j < h.length → j ∉ ps → nb[j]? = some c → h'[j]? = some q → bs[j]? = some c ∧ h[j]? = some q := by
    intro j c q hj hn hcj hq
    rw [hbo j hj hn] at hcj
    rw [hout j hj hn] at hq
    exact ⟨hcj, hq⟩
  have houtside : ∀ (j : Nat) (c : Blk) (q : VObj) (x : Nat), j ∉ ps → bs[j]? = some c → h[j]? = some q → x ∈ c.own → x ∈ own (pick bs ps) → q = .dead := by
    intro j c q x hn hcj hq hx hm
    obtain ⟨k, j', c', hk, hc', hx'⟩ := pick_mem hbin hm
    have hj'lt := hs.lt hk
    rcases he.sepo j' j c' c _ q hc' hcj (List.getElem?_eq_getElem hj'lt) hq x hx' hx with h | h | h
    · subst h; exact (hn (List.mem_of_getElem? hk)).elim
    · exact (alive k j' hk (by rw [List.getElem?_eq_getElem hj'lt, h])).elim
    · exact h
  have hcaseB : ∀ (j : Nat) (c : Blk), nb[j]? = some c → (∃ k : Nat, (psNew ps h.length m)[k]? = some j ∧ bs1'[k]? = some c) ∨ (j < h.length ∧ j ∉ ps) := by
    intro j c hcj
    have hjlt : j < h.length + m := by rw [← hnl]; exact (List.getElem?_eq_some_iff.1 hcj).1
    have hback : ∀ k : Nat, (psNew ps h.length m)[k]? = some j → ∃ k : Nat, (psNew ps h.length m)[k]? = some j ∧ bs1'[k]? = some c := by
      intro k hk
      refine ⟨k, hk, ?_⟩
      rw [(hf j).1 k hk, ← hnget j hjlt]; exact hcj
    rcases Nat.lt_or_ge j h.length with hlt | hge
    · by_cases hj : j ∈ ps
      · obtain ⟨k, hk⟩ := List.getElem?_of_mem hj
        exact .inl (hback k (hpsK k j hk))
      · exact .inr ⟨hlt, hj⟩
    · refine .inl (hback (ps.length + (j - h.length)) ?_)
      unfold psNew
      rw [List.getElem?_append_right (by omega), List.getElem?_map, show ps.length + (j - h.length) - ps.length = j - h.length by omega, List.getElem?_range (by omega)]
      simp; omega
  have hcase : ∀ (j : Nat) (c : Blk) (q : VObj), nb[j]? = some c → h'[j]? = some q → (∃ (k : Nat) (o : VObj), (psNew ps h.length m)[k]? = some j ∧ bs1'[k]? = some c ∧ h1'[k]? = some o ∧ RO (psNew ps h.length m) o q) ∨ (j < h.length ∧ j ∉ ps) := by
    intro j c q hcj hq
    rcases hcaseB j c hcj with ⟨k, hk, hck⟩ | h
    · have hklt : k < h1'.length := by rw [← he'.len]; exact (List.getElem?_eq_some_iff.1 hck).1
      obtain ⟨o', ho', hr⟩ := hin k j h1'[k] hk (List.getElem?_eq_getElem hklt)
      rw [hq] at ho'; cases ho'
      exact .inl ⟨k, h1'[k], hk, hck, List.getElem?_eq_getElem hklt, hr⟩
    · exact .inr h
  have hownN : ∀ x, x ∈ own nb → x ∈ own bs1' ∨ x ∈ own bs := by
    intro x hx
    obtain ⟨j, c, hj, hxc⟩ := own_at hx
    rcases hcaseB j c hj with ⟨k, _, hck⟩ | ⟨h1, h2⟩
    · exact .inl (own_of hck hxc)
    · rw [hbo j h1 h2] at hj; exact .inr (own_of hj hxc)
  have hpick : ∀ x, x ∈ own (pick bs ps) → x ∈ own bs := fun x hx => Classical.byContradiction fun hn => hpk x hn hx
  have hgrow : Grow bs w nb w' := by
    refine ⟨fun i b hb => ?_, fun x hx => ?_, hg.size, fun b hb hn => hg.same b hb (hpk b hn), hg.os, hg.output, hg.tape⟩
    · have hi : i < h.length := by rw [← he.len]; exact (List.getElem?_eq_some_iff.1 hb).1
      by_cases hip : i ∈ ps
      · obtain ⟨k, hk⟩ := List.getElem?_of_mem hip
        obtain ⟨b', g1, g2, g3⟩ := hg.ext k b (pick_get hk hb)
        exact ⟨b', hbx k i b' (hpsK k i hk) g1, g2, g3⟩
      · exact ⟨b, by rw [hbo i hi hip]; exact hb, rfl, rfl⟩
    · rcases hownN x hx with h | h
      · rcases hg.mem x h with h | h
        · exact .inl (hpick x h)
        · exact .inr h
      · exact .inl h
  refine ⟨v', nb, rfl, (VR_back _ hbx).1 _ _ hv _ hv', ⟨he.x.keep hg.size (fun b hb hn => hg.same b hb (hpk b hn)) (fun b hb => hgrow.mem b hb), by rw [hnl, hlen], ?_, ?_, ?_⟩, hgrow⟩
  · intro x hx
    rcases hownN x hx with h | h
    · exact he'.lto x h
    · exact Nat.lt_of_lt_of_le (he.lto x h) hg.size
  · have mixed : ∀ (j k : Nat) (b c : Blk) (q : VObj) (x : Nat), bs1'[k]? = some b → j < h.length → j ∉ ps → nb[j]? = some c → h'[j]? = some q → x ∈ b.own → x ∈ c.own → q = .dead := by
      intro j k b c q x hbk hj hn hcj hq hx1 hx2
      obtain ⟨hc0, hq0⟩ := hold j c q hj hn hcj hq
      rcases hg.mem x (own_of hbk hx1) with h | h
      · exact houtside j c q x hn hc0 hq0 hx2 h
      · have := he.lto x (own_of hc0 hx2); omega
    intro i j b c o q hb hc ho hq x hx1 hx2
    rcases hcase i b o hb ho with ⟨k1, o1, p1, p2, p3, p4⟩ | ⟨p1, p2⟩
    · rcases hcase j c q hc hq with ⟨k2, o2, q1, q2, q3, q4⟩ | ⟨q1, q2⟩
      · rcases he'.sepo k1 k2 b c o1 o2 p2 q2 p3 q3 x hx1 hx2 with h | h | h
        · subst h; rw [p1] at q1; cases q1; exact .inl rfl
        · subst h; cases p4; exact .inr (.inl rfl)
        · subst h; cases q4; exact .inr (.inr rfl)
      · exact .inr (.inr (mixed j k1 b c q x p2 q1 q2 hc hq hx1 hx2))
    · rcases hcase j c q hc hq with ⟨k2, o2, q1, q2, q3, q4⟩ | ⟨q1, q2⟩
      · exact .inr (.inl (mixed i k2 c b o x q2 p1 p2 hb ho hx2 hx1))
      · obtain ⟨u1, u2⟩ := hold i b o p1 p2 hb ho
        obtain ⟨u3, u4⟩ := hold j c q q1 q2 hc hq
        exact he.sepo i j b c o q u1 u3 u2 u4 x hx1 hx2
  · intro j b o hb ho
    rcases hcase j b o hb ho with ⟨k1, o1, p1, p2, p3, p4⟩ | ⟨p1, p2⟩
    · exact (he'.holds k1 b o1 p2 p3).back hbx p4
    · obtain ⟨u1, u2⟩ := hold j b o p1 p2 hb ho
      by_cases hd : o = .dead
      · subst hd; trivial
      · exact (Holds.congrO (fun x hx => hg.same x (he.lto x (own_of u1 hx)) fun hm => hd (houtside j b o x p2 u1 u2 hx hm)) (he.holds j b o u1 u2)).mono hgrow.ext

end Go.Vx
