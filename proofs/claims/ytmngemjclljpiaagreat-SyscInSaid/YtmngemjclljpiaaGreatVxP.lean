/- Boxes: objects into which nobody looks; how a contract over what lies in them is one over them. -/
import Derived.Test.YtmngemjclljpiaaGreatVxN
namespace Go.Vx
variable {ex : XTab}

def closedO : VObj → Bool
  | .cells l _ => plainAll l
  | _ => true

theorem Holds.closed {bs : List Blk} (bs' : List Blk) {w : World} {b : Blk} {o : VObj} (ho : closedO o = true) (h : Holds ex bs w b o) : Holds ex bs' w b o := by
  cases o with
  | cells l e => obtain ⟨l', t, e', h1, h2, h3⟩ := h; rw [h3.plain_eq ho] at h1 h2; exact ⟨l, t, e', h1, h2, .plain ho⟩
  | fn n k g e => exact h
  | dead => trivial
  | box q => exact h
  | pay p => exact h

/-- Objects that point to one another alone; f others lie ahead of them. -/
structure Self (ex : XTab) (f : Nat) (H : VHeap) (bs : List Blk) (w : World) : Prop where
  len : bs.length = H.length
  sep : ∀ (i j : Nat) (b c : Blk) (o q : VObj), bs[i]? = some b → bs[j]? = some c → H[i]? = some o → H[j]? = some q → ∀ x, x ∈ b.own → x ∈ c.own → i = j ∨ o = .dead ∨ q = .dead
  holds : ∀ (fr : List Blk), fr.length = f → ∀ (i : Nat) (b : Blk) (o : VObj), bs[i]? = some b → H[i]? = some o → Holds ex (fr ++ bs) w b o

theorem Self.congr {f : Nat} {H : VHeap} {bs : List Blk} {w w' : World} (hw : ∀ x ∈ own bs, w'.heap[x]? = w.heap[x]?) (h : Self ex f H bs w) : Self ex f H bs w' :=
  ⟨h.len, h.sep, fun fr hf i b o hb ho => Holds.congrO (fun x hx => hw x (own_of hb hx)) (h.holds fr hf i b o hb ho)⟩

/-- The box of some objects, of which the first one is its root. -/
def boxQ (ex : XTab) (H : VHeap) : BoxP where
  Q B w := ∃ (c : Blk) (bs : List Blk), Self ex 1 H (c :: bs) w ∧ c.1 = B.1 ∧ c.2 = B.2 ∧ ∀ x ∈ own (c :: bs), x ∈ B.own
  loc B w w' hw h := by
    obtain ⟨c, bs, h1, h2, h3, h4⟩ := h
    exact ⟨c, bs, h1.congr fun x hx => hw x (h4 x hx), h2, h3, h4⟩

abbrev Bx (ex : XTab) (H : VHeap) : VObj := .box (boxQ ex H)

/-- What lies in an object. -/
structure Opens (ex : XTab) (f : Nat) (o : VObj) (H : VHeap) : Prop where
  closed : closedO o = true
  alive : o ≠ .dead
  op : ∀ (B : Blk) (w : World), Holds ex [] w B o → ∃ (c : Blk) (bs : List Blk), Self ex f H (c :: bs) w ∧ c.1 = B.1 ∧ c.2 = B.2 ∧ ∀ x ∈ own (c :: bs), x ∈ B.own
  cl : ∀ (c : Blk) (bs : List Blk) (B : Blk) (w : World), Self ex f H (c :: bs) w → c.1 = B.1 → c.2 = B.2 → (∀ x ∈ own (c :: bs), x ∈ B.own) → Holds ex [] w B o

theorem opens_box (H : VHeap) : Opens ex 1 (Bx ex H) H where
  closed := rfl
  alive := by simp
  op := fun B w h => h
  cl := fun c bs B w h1 h2 h3 h4 => ⟨c, bs, h1, h2, h3, h4⟩

/-- A memory's words lie behind it. -/
def memH (f : Nat) (u : Mu) : VHeap :=
  [.cells [.slice (some ⟨f + 1, 0, none⟩) u.n 1, .int .i64 u.clk, .int .i64 u.bad, .int .i64 u.k, .int .i64 u.who, .int .i64 u.at', .int .u64 u.old, .int .u64 u.new, .bool u.dn] 0, .fn u.n .u64 u.w 0]

theorem Self.two {f : Nat} {o q : VObj} {c d : Blk} {w : World} (hs : ∀ x, x ∈ c.own → x ∈ d.own → False) (h1 : ∀ fr : List Blk, fr.length = f → Holds ex (fr ++ [c, d]) w c o) (h2 : ∀ fr : List Blk, fr.length = f → Holds ex (fr ++ [c, d]) w d q) : Self ex f [o, q] [c, d] w where
  len := rfl
  sep := by
    intro i j b b' o o' hb hb' ho ho' x hx hx'
    match i, j with
    | 0, 0 => exact .inl rfl
    | 1, 1 => exact .inl rfl
    | 0, 1 => simp at hb hb'; subst hb; subst hb'; exact (hs x hx hx').elim
    | 1, 0 => simp at hb hb'; subst hb; subst hb'; exact (hs x hx' hx).elim
    | i + 2, _ => simp at hb
    | _, j + 2 => simp at hb'
  holds := by
    intro fr hf i b o hb ho
    match i with
    | 0 => simp at hb ho; subst hb; subst ho; exact h1 fr hf
    | 1 => simp at hb ho; subst hb; subst ho; exact h2 fr hf
    | i + 2 => simp at hb

theorem vrs_plain9 {bs : List Blk} {s s' : Value} {l : List Value} (h : VR ex bs s s') (hl : plainAll l = true) : VRs ex bs (s :: l) (s' :: l) := .cons _ _ _ _ h (.plain hl)

theorem opens_mem (f : Nat) (u : Mu) : Opens ex f (.pay (.mem u)) (memH f u) where
  closed := rfl
  alive := by simp
  op := fun B w h => by
    obtain ⟨x, c, e, e', t, l, h1, h2, h3, h4, h5, h6, h7, h8⟩ := h
    refine ⟨⟨B.1, B.2, []⟩, [⟨x, l.length, []⟩], .two (fun y h1 h2 => ?_) (fun fr hf => ?_) (fun fr hf => ?_), rfl, rfl, fun y hy => ?_⟩
    · simp [Blk.own] at h1 h2; exact h4 (by omega)
    · refine ⟨_, t, e, h1, by simp [← h2]; omega, vrs_plain9 (.slice (f + 1) 0 _ 1 c ⟨x, l.length, []⟩ ?_ (by simp; omega) h6) rfl⟩
      rw [List.getElem?_append_right (by omega)]; simp [hf]
    · exact ⟨l, e', h5, rfl, by omega, h8⟩
    · simp [own_cons, own_nil] at hy
      rcases hy with rfl | rfl
      · exact B.own1
      · exact List.mem_cons_of_mem _ h3
  cl := fun c bs B w hs h1 h2 h3 => by
    have hl := hs.len
    match bs, hl with
    | [d], _ =>
      have g1 := hs.holds (List.replicate f ⟨0, 0, []⟩) (by simp) 0 c _ rfl rfl
      have g2 := hs.holds (List.replicate f ⟨0, 0, []⟩) (by simp) 1 d _ rfl rfl
      obtain ⟨l', t, e, k1, k2, k3⟩ := g1
      obtain ⟨l2, e2, m1, m2, m3, m4⟩ := g2
      have hr' : ∃ s', VR ex (List.replicate f ⟨0, 0, []⟩ ++ [c, d]) (.slice (some ⟨f + 1, 0, none⟩) u.n 1) s' ∧ l' = s' :: [.int .i64 u.clk, .int .i64 u.bad, .int .i64 u.k, .int .i64 u.who, .int .i64 u.at', .int .u64 u.old, .int .u64 u.new, .bool u.dn] := by
        cases k3 with | cons _ s' _ r hs' hr => exact ⟨s', hs', by rw [hr.plain_eq rfl]⟩
      obtain ⟨s', hs', rfl⟩ := hr'
      generalize hq : f + 1 = f1 at hs'
      cases hs' with | slice _ _ _ _ c' b hb hc hn =>
      subst hq
      rw [List.getElem?_append_right (by simp)] at hb
      simp at hb; subst hb
      have hsep : c.1 ≠ d.1 := fun hcd => by
        have := hs.sep 0 1 c d _ _ rfl rfl rfl rfl c.1 c.own1 (by rw [hcd]; exact d.own1)
        simp [memH] at this
      refine ⟨d.1, c', e, e2, t, l2, by rw [← h1]; exact k1, by rw [← h2, ← k2]; simp; omega, ?_, fun hd => hsep (by rw [h1, hd]), m1, hn, ?_, m4⟩
      · have := h3 d.1 (by simp [own_cons])
        simp [Blk.own] at this
        rcases this with h | h
        · exact (hsep (by rw [h1, h])).elim
        · exact h
      · rw [m2]; simp at hc; exact hc

/-- A run's answers lie behind it. -/
structure RunP.OK (r : RunP) : Prop where
  n1 : r.n ≤ 1000000 ∧ ∀ i, i < r.n → 0 ≤ r.g i ∧ r.g i < 18446744073709551616
  len : r.rem.length ≤ r.n
  g : ∀ (j : Nat) (a : Int), r.rem[j]? = some a → r.g (r.n - r.rem.length + j) = a
  nl : r.nl = true → r.n = 0

def runO (got : Value) (used : Int) (st : Bool) (k who at' old new : Int) (dn sl : Bool) : VObj := .cells [got, .int .i64 used, .bool st, .int .i64 k, .int .i64 who, .int .i64 at', .int .u64 old, .int .u64 new, .bool dn, .bool sl] 0

def runH (f : Nat) (r : RunP) : VHeap :=
  match r.nl with
  | true => [runO (.slice none 0 0) ((r.n - r.rem.length : Nat) : Int) r.st r.k r.who r.at' r.old r.new r.dn r.sl]
  | false => [runO (.slice (some ⟨f + 1, 0, none⟩) r.n 1) ((r.n - r.rem.length : Nat) : Int) r.st r.k r.who r.at' r.old r.new r.dn r.sl, .fn r.n .u64 r.g 0]

theorem RunP.OK.n {r : RunP} (h : r.OK) : r.n ≤ 1000000 := h.n1.1

/-- Answers are words. -/
theorem RunP.OK.word {r : RunP} (h : r.OK) {a : Int} (ha : a ∈ r.rem) : 0 ≤ a ∧ a < 18446744073709551616 := by
  obtain ⟨j, hj⟩ := List.getElem?_of_mem ha
  have h1 := h.g j a hj
  have h2 := (List.getElem?_eq_some_iff.1 hj).1
  have h3 := h.len
  rw [← h1]; exact h.n1.2 _ (by omega)

theorem payQ_ok {r : RunP} {b : Blk} {w : World} (h : payQ b w (.run r)) : r.OK := by
  obtain ⟨s, e, t, h1, h2, h3, h4, h5, h6⟩ := h
  refine ⟨h3, h4, h5, fun hn => ?_⟩
  rw [hn] at h6; exact h6.1

theorem Self.one {f : Nat} {o : VObj} {c : Blk} {w : World} (h1 : ∀ fr : List Blk, fr.length = f → Holds ex (fr ++ [c]) w c o) : Self ex f [o] [c] w where
  len := rfl
  sep := by
    intro i j b b' o o' hb hb' ho ho' x hx hx'
    match i, j with
    | 0, 0 => exact .inl rfl
    | i + 1, _ => simp at hb
    | _, j + 1 => simp at hb'
  holds := by
    intro fr hf i b o hb ho
    match i with
    | 0 => simp at hb ho; subst hb; subst ho; exact h1 fr hf
    | i + 1 => simp at hb

theorem opens_run {f : Nat} {r : RunP} (hok : r.OK) : Opens ex f (.pay (.run r)) (runH f r) where
  closed := rfl
  alive := by simp
  op := fun B w h => by
    obtain ⟨s, e, t, h1, h2, h3, h4, h5, h6⟩ := h
    cases hn : r.nl with
    | true =>
      rw [hn] at h6
      obtain ⟨h6, rfl⟩ := h6
      refine ⟨⟨B.1, B.2, []⟩, [], ?_, rfl, rfl, fun y hy => ?_⟩
      · unfold runH; rw [hn]
        refine .one fun fr hf => ⟨_, t, e, h1, by simp [← h2]; omega, .plain rfl⟩
      · simp [own_cons, own_nil] at hy; subst hy; exact B.own1
    | false =>
      rw [hn] at h6
      obtain ⟨x, c, e', l, rfl, g2, g3, g4, g5, g6, g7⟩ := h6
      refine ⟨⟨B.1, B.2, []⟩, [⟨x, l.length, []⟩], ?_, rfl, rfl, fun y hy => ?_⟩
      · unfold runH; rw [hn]
        refine .two (fun y h1 h2 => ?_) (fun fr hf => ?_) (fun fr hf => ?_)
        · simp [Blk.own] at h1 h2; exact g3 (by omega)
        · refine ⟨_, t, e, h1, by simp [← h2]; omega, vrs_plain9 (.slice (f + 1) 0 _ 1 c ⟨x, l.length, []⟩ ?_ (by simp; omega) g5) rfl⟩
          rw [List.getElem?_append_right (by omega)]; simp [hf]
        · exact ⟨l, e', g4, rfl, by omega, g7⟩
      · simp [own_cons, own_nil] at hy
        rcases hy with rfl | rfl
        · exact B.own1
        · exact List.mem_cons_of_mem _ g2
  cl := fun c bs B w hs h1 h2 h3 => by
    cases hn : r.nl with
    | true =>
      have hl := hs.len
      have hrun : runH f r = [runO (.slice none 0 0) ((r.n - r.rem.length : Nat) : Int) r.st r.k r.who r.at' r.old r.new r.dn r.sl] := by unfold runH; rw [hn]
      rw [hrun] at hs hl
      match bs, hl with
      | [], _ =>
        have g1 := hs.holds (List.replicate f ⟨0, 0, []⟩) (by simp) 0 c _ rfl rfl
        obtain ⟨l', t, e, k1, k2, k3⟩ := g1
        rw [k3.plain_eq rfl] at k1 k2
        refine ⟨_, e, t, by rw [← h1]; exact k1, by rw [← h2, ← k2]; simp; omega, hok.n1, hok.len, hok.g, ?_⟩
        rw [hn]; exact ⟨hok.nl hn, rfl⟩
    | false =>
      have hl := hs.len
      have hrun : runH f r = [runO (.slice (some ⟨f + 1, 0, none⟩) r.n 1) ((r.n - r.rem.length : Nat) : Int) r.st r.k r.who r.at' r.old r.new r.dn r.sl, .fn r.n .u64 r.g 0] := by unfold runH; rw [hn]
      rw [hrun] at hs hl
      match bs, hl with
      | [d], _ =>
        have g1 := hs.holds (List.replicate f ⟨0, 0, []⟩) (by simp) 0 c _ rfl rfl
        have g2 := hs.holds (List.replicate f ⟨0, 0, []⟩) (by simp) 1 d _ rfl rfl
        obtain ⟨l', t, e, k1, k2, k3⟩ := g1
        obtain ⟨l2, e2, m1, m2, m3, m4⟩ := g2
        have hr' : ∃ s', VR ex (List.replicate f ⟨0, 0, []⟩ ++ [c, d]) (.slice (some ⟨f + 1, 0, none⟩) r.n 1) s' ∧ l' = s' :: [.int .i64 ((r.n - r.rem.length : Nat) : Int), .bool r.st, .int .i64 r.k, .int .i64 r.who, .int .i64 r.at', .int .u64 r.old, .int .u64 r.new, .bool r.dn, .bool r.sl] := by
          cases k3 with | cons _ s' _ r hs' hr => exact ⟨s', hs', by rw [hr.plain_eq rfl]⟩
        obtain ⟨s', hs', rfl⟩ := hr'
        generalize hq : f + 1 = f1 at hs'
        cases hs' with | slice _ _ _ _ c' b hb hc hn' =>
        subst hq
        rw [List.getElem?_append_right (by simp)] at hb
        simp at hb; subst hb
        have hsep : c.1 ≠ d.1 := fun hcd => by
          have := hs.sep 0 1 c d _ _ rfl rfl rfl rfl c.1 c.own1 (by rw [hcd]; exact d.own1)
          simp [runO] at this
        refine ⟨_, e, t, by rw [← h1]; exact k1, by rw [← h2, ← k2]; simp; omega, hok.n1, hok.len, hok.g, ?_⟩
        rw [hn]
        refine ⟨d.1, c', e2, l2, rfl, ?_, fun hd => hsep (by rw [h1, hd]), m1, hn', ?_, m4⟩
        · have := h3 d.1 (by simp [own_cons])
          simp [Blk.own] at this
          rcases this with h | h
          · exact (hsep (by rw [h1, h])).elim
          · exact h
        · rw [m2]; simp at hc; exact hc

/-! A run among what lies in a box -/

def closedAll : VHeap → Bool
  | [] => true
  | o :: r => match closedO o with
    | true => closedAll r
    | false => false

theorem closedAll_get : ∀ {F : VHeap}, closedAll F = true → ∀ {i : Nat} {o : VObj}, F[i]? = some o → closedO o = true
  | [], _, i, o, h => by simp at h
  | q :: r, hF, i, o, h => by
    unfold closedAll at hF
    cases hq : closedO q with
    | false => simp [hq] at hF
    | true =>
      simp only [hq] at hF
      cases i with
      | zero => simp at h; subst h; exact hq
      | succ i => exact closedAll_get hF (by simpa using h)

def noDead : VHeap → Bool
  | [] => true
  | o :: r => match o.isDead with
    | true => false
    | false => noDead r

theorem noDead_get : ∀ {F : VHeap}, noDead F = true → ∀ {i : Nat} {o : VObj}, F[i]? = some o → o ≠ .dead
  | [], _, i, o, h => by simp at h
  | q :: r, hF, i, o, h => by
    unfold noDead at hF
    cases hq : q.isDead with
    | true => simp [hq] at hF
    | false =>
      simp only [hq] at hF
      cases i with
      | zero => simp at h; subst h; intro hd; subst hd; simp [VObj.isDead] at hq
      | succ i => exact noDead_get hF (by simpa using h)

def allGe (f : Nat) : List Nat → Bool
  | [] => true
  | i :: r => match Nat.ble f i with
    | true => allGe f r
    | false => false

theorem allGe_mem {f : Nat} : ∀ {l : List Nat}, allGe f l = true → ∀ i ∈ l, f ≤ i
  | [], _, i, h => by cases h
  | j :: r, hl, i, h => by
    unfold allGe at hl
    cases hj : Nat.ble f j with
    | false => simp [hj] at hl
    | true =>
      simp only [hj] at hl
      rcases List.mem_cons.1 h with rfl | h
      · exact Nat.le_of_ble_eq_true hj
      · exact allGe_mem hl i h

/-- What is not told is let go. -/
def maskL : List Value → List Value → List Value
  | m :: ms, v :: vs => (match isTop m && !isBool v with
    | true => top
    | false => v) :: maskL ms vs
  | _, _ => []
def maskO : VObj → VObj → VObj
  | .cells m _, .cells l e => .cells (maskL m l) e
  | _, o => o
def maskH : VHeap → VHeap → VHeap
  | m :: ms, o :: os => maskO m o :: maskH ms os
  | [], os => os
  | _ :: _, [] => []

theorem maskH_len : ∀ (M H : VHeap), (maskH M H).length = H.length
  | m :: ms, o :: os => by simp [maskH, maskH_len ms os]
  | [], os => rfl
  | _ :: _, [] => rfl

theorem maskH_get : ∀ (M H : VHeap) (i : Nat) (o : VObj), (maskH M H)[i]? = some o → ∃ q, H[i]? = some q ∧ (o = q ∨ ∃ m, o = maskO m q)
  | m :: ms, q :: os, 0, o, h => by simp [maskH] at h; exact ⟨q, rfl, .inr ⟨m, h.symm⟩⟩
  | m :: ms, q :: os, i + 1, o, h => maskH_get ms os i o (by simpa [maskH] using h)
  | [], os, i, o, h => ⟨o, h, .inl rfl⟩
  | _ :: _, [], i, o, h => by simp [maskH] at h

theorem RN.notBool {wk : Bool} {ps : List Nat} {v u : Value} (h : RN wk ps v u) (hv : isBool v = false) : isBool u = false := by
  cases h with
  | bool => cases hv
  | top u h => rcases h with h | h
               · exact h.2
               · subst h; rfl
  | _ => rfl

theorem mask_rns {ps : List Nat} : ∀ (m l l' : List Value), RNs true ps l l' → ∃ a b, l' = a ++ b ∧ RNs true ps (maskL m l) a
  | m :: ms, v :: vs, _, h => by
    cases h with | cons _ u _ us h1 h2 =>
    obtain ⟨a, b, rfl, h3⟩ := mask_rns ms vs us h2
    refine ⟨u :: a, b, rfl, ?_⟩
    unfold maskL
    split
    · rename_i hc
      rw [Bool.and_eq_true] at hc
      exact .cons _ _ _ _ (.top _ (.inl ⟨rfl, h1.notBool (by simpa using hc.2)⟩)) h3
    · exact .cons _ _ _ _ h1 h3
  | [], l, l', h => ⟨[], l', rfl, by unfold maskL; exact .nil⟩
  | _ :: _, [], _, h => by cases h; exact ⟨[], [], rfl, .nil⟩

theorem mask_rw {ps : List Nat} {o q : VObj} (m : VObj) (h : RW ps o q) : RW ps (maskO m o) q := by
  unfold maskO
  split
  · rename_i ml e l e'
    generalize hz : VObj.cells l e' = z at h
    cases h with
    | cells l1 l' t e1 e2 hl =>
      cases hz
      obtain ⟨a, b, rfl, h3⟩ := mask_rns ml l l' hl
      rw [List.append_assoc]
      exact .cells _ _ _ _ _ h3
    | fn => cases hz
    | dead => cases hz
    | box => cases hz
    | pay => cases hz
    | ints => cases hz
  · exact h

/-- What is reached from an object, as a box of its own (the first f numbers are others'). -/
def rebox (f g root : Nat) (M : VHeap) (h : VHeap) (ps : List Nat) : Option VHeap :=
  match nodupB ps && allGe g ps with
  | true => match ps with
    | r :: _ => match Nat.beq r root with
      | true => match allSome (renH (fun j => idx j f ps) h) ps with
        | some H => match noDead (maskH M H) with
          | true => some (maskH M H)
          | false => none
        | none => none
      | false => none
    | [] => none
  | false => none

theorem RW.alive {ps : List Nat} {o o' : VObj} (h : RW ps o o') (ho : o ≠ .dead) : o' ≠ .dead := by
  cases h <;> first | (intro h; cases h; done) | exact (ho rfl).elim

/-- The objects that are reached are objects of their own. -/
theorem rebox_spec {f g root : Nat} {M h H : VHeap} {ps : List Nat} (hr : rebox f g root M h ps = some H) {bs : List Blk} {w : World} (he : Emb ex bs h w) :
    ∃ (c : Blk) (cs : List Blk), bs[root]? = some c ∧ Self ex f H (c :: cs) w ∧ (∀ o ∈ H, o ≠ .dead) ∧ ∀ x ∈ own (c :: cs), ∃ (j : Nat) (b : Blk) (o : VObj), j ∈ ps ∧ g ≤ j ∧ bs[j]? = some b ∧ h[j]? = some o ∧ o ≠ .dead ∧ x ∈ b.own := by
  unfold rebox at hr
  split at hr
  case h_2 => cases hr
  rename_i hc
  rw [Bool.and_eq_true] at hc
  split at hr
  case h_2 => cases hr
  rename_i r q
  split at hr
  case h_2 => cases hr
  rename_i hroot
  split at hr
  case h_2 => cases hr
  rename_i H' hH
  split at hr
  case h_2 => cases hr
  rename_i hnd
  cases hr
  have hroot := Nat.eq_of_beq_eq_true hroot
  subst hroot
  obtain ⟨hl1', hl2⟩ := allSome_get hH
  have hl1 : (r :: q).length = (maskH M H').length := by rw [maskH_len]; exact hl1'
  have hin : ∀ k j : Nat, (r :: q)[k]? = some j → j < bs.length := by
    intro k j hk
    have hk' : k < H'.length := by rw [← hl1']; exact (List.getElem?_eq_some_iff.1 hk).1
    have := hl2 k j H'[k] hk (List.getElem?_eq_getElem hk')
    unfold renH at this
    split at this
    · rename_i o ho; rw [he.len]; exact (List.getElem?_eq_some_iff.1 ho).1
    · cases this
  have hinv : ∀ i j : Nat, idx j f (r :: q) = some i → (List.replicate f bs.length ++ (r :: q))[i]? = some j := by
    intro i j hj
    obtain ⟨g1, g2⟩ := idx_spec _ _ _ hj
    rw [List.getElem?_append_right (by simp; exact g1)]; simp only [List.length_replicate]; exact g2
  have hobj : ∀ (k j : Nat) (o : VObj), (r :: q)[k]? = some j → (maskH M H')[k]? = some o → ∃ o', h[j]? = some o' ∧ RW (List.replicate f bs.length ++ (r :: q)) o o' := by
    intro k j o hk ho
    obtain ⟨o1, ho1, hm⟩ := maskH_get M H' k o ho
    have := hl2 k j o1 hk ho1
    unfold renH at this
    split at this
    · rename_i o' ho'
      refine ⟨o', ho', ?_⟩
      have hw := renO_spec hinv this
      rcases hm with rfl | ⟨m, rfl⟩
      · exact hw
      · exact mask_rw m hw
    · cases this
  have h0 : r < bs.length := hin 0 r rfl
  have hpick : pick bs (r :: q) = bs[r] :: pick bs q := by
    simp only [pick, List.map_cons, List.getD_eq_getElem?_getD, List.getElem?_eq_getElem h0]; rfl
  refine ⟨bs[r], pick bs q, List.getElem?_eq_getElem h0, ?_, fun o ho => ?_, fun x hx => ?_⟩
  · rw [← hpick]
    refine ⟨by simp only [pick, List.length_map]; exact hl1, ?_, ?_⟩
    · intro i j b c o p hb hc' ho hp x hx1 hx2
      obtain ⟨i', hi', hbi⟩ := pick_back hin hb
      obtain ⟨j', hj', hcj⟩ := pick_back hin hc'
      obtain ⟨o', ho', hr⟩ := hobj i i' o hi' ho
      obtain ⟨q', hq', hr'⟩ := hobj j j' p hj' hp
      rcases he.sepo i' j' b c o' q' hbi hcj ho' hq' x hx1 hx2 with h | h | h
      · subst h
        exact .inl ((List.getElem?_inj (List.getElem?_eq_some_iff.1 hi').1 (nodupB_spec _ hc.1)).1 (hi'.trans hj'.symm))
      · exact (hr.alive (noDead_get hnd ho) h).elim
      · exact (hr'.alive (noDead_get hnd hp) h).elim
    · intro fr hf i b o hb ho
      obtain ⟨j, hj, hbj⟩ := pick_back hin hb
      obtain ⟨o', ho', hr⟩ := hobj i j o hj ho
      refine (he.holds j b o' hbj ho').comp (fun a m d h1 h2 => ?_) hr
      rcases Nat.lt_or_ge a f with hlt | hge
      · rw [List.getElem?_append_left (by simpa using hlt), List.getElem?_replicate] at h1
        simp [hlt] at h1; subst h1
        simp at h2
      · rw [List.getElem?_append_right (by simpa using hge)] at h1
        rw [List.getElem?_append_right (by omega), hf]
        simp only [List.length_replicate] at h1
        exact pick_get h1 h2
  · obtain ⟨k, hk⟩ := List.getElem?_of_mem ho
    exact noDead_get hnd hk
  · rw [← hpick] at hx
    obtain ⟨k, j, c, hk, hcj, hxc⟩ := pick_mem hin hx
    have hk' : k < (maskH M H').length := by rw [← hl1]; exact (List.getElem?_eq_some_iff.1 hk).1
    obtain ⟨o', ho', hr⟩ := hobj k j (maskH M H')[k] hk (List.getElem?_eq_getElem hk')
    exact ⟨j, c, o', List.mem_of_getElem? hk, allGe_mem hc.2 j (List.mem_of_getElem? hk), hcj, ho', hr.alive (noDead_get hnd (List.getElem?_eq_getElem hk')), hxc⟩

theorem VR.plain_eq {bs : List Blk} {v v' : Value} (h : VR ex bs v v') (hp : Vx.plain v = true) : v' = v := by
  cases h
  case agg l l' h => rw [h.plain_eq hp]
  case ptr => simp [Vx.plain, Vx.plain1] at hp
  case fptr => simp [Vx.plain, Vx.plain1] at hp
  case fslice => simp [Vx.plain, Vx.plain1] at hp
  case fnil => simp [Vx.plain, Vx.plain1] at hp
  case slice => simp [Vx.plain, Vx.plain1] at hp
  case func => simp [Vx.plain, Vx.plain1] at hp
  case iface => simp [Vx.plain, Vx.plain1] at hp
  case tuple => simp [Vx.plain, Vx.plain1] at hp
  case top => simp [Vx.plain, Vx.plain1] at hp
  all_goals rfl

theorem VR.plainR_eq {bs : List Blk} {v v' : Value} (h : VR ex bs v v') (hp : Vx.plainR v = true) : v' = v := by
  unfold Vx.plainR at hp
  split at hp
  · cases h with | tuple _ _ h => rw [h.plain_eq hp]
  · exact h.plain_eq hp

theorem split_last {bs : List Blk} {F : VHeap} {o : VObj} (h : bs.length = (F ++ [o]).length) : ∃ (fr : List Blk) (B : Blk), bs = fr ++ [B] ∧ fr.length = F.length := by
  have hne : bs ≠ [] := by intro hn; subst hn; simp at h
  refine ⟨bs.dropLast, bs.getLast hne, (List.dropLast_concat_getLast hne).symm, ?_⟩
  simp at h ⊢; omega

/-- The box is opened. -/
theorem open_emb {f : Nat} {F H : VHeap} {o : VObj} (ho : Opens ex f o H) (hF : closedAll F = true) (hf : F.length = f) {fr : List Blk} {B : Blk} {w : World} (hfr : fr.length = f) (he : Emb ex (fr ++ [B]) (F ++ [o]) w) :
    ∃ (c : Blk) (bs : List Blk), Emb ex (fr ++ c :: bs) (F ++ H) w ∧ c.1 = B.1 ∧ c.2 = B.2 ∧ ∀ x ∈ own (c :: bs), x ∈ B.own := by
  have hB : (fr ++ [B])[f]? = some B := by rw [← hfr]; simp
  have hO : (F ++ [o])[f]? = some o := by rw [← hf]; simp
  obtain ⟨c, bs, hs, h1, h2, h3⟩ := ho.op B w ((he.holds f B o hB hO).closed [] ho.closed)
  have hsub : ∀ x ∈ own (fr ++ c :: bs), x ∈ own (fr ++ [B]) := fun x hx => by
    rw [own_append] at hx ⊢
    rcases List.mem_append.1 hx with h | h
    · exact List.mem_append_left _ h
    · refine List.mem_append_right _ ?_
      have := h3 x h
      rw [own_cons, own_nil]; simpa [Blk.own] using this
  have hlo : ∀ (i : Nat) (b : Blk) (q : VObj), i < f → (fr ++ c :: bs)[i]? = some b → (F ++ H)[i]? = some q → (fr ++ [B])[i]? = some b ∧ (F ++ [o])[i]? = some q := by
    intro i b q hi hb hq
    rw [List.getElem?_append_left (by omega)] at hb hq
    exact ⟨by rw [List.getElem?_append_left (by omega)]; exact hb, by rw [List.getElem?_append_left (by omega)]; exact hq⟩
  have hhi : ∀ (i : Nat) (b : Blk) (q : VObj), f ≤ i → (fr ++ c :: bs)[i]? = some b → (F ++ H)[i]? = some q → (c :: bs)[i - f]? = some b ∧ H[i - f]? = some q := by
    intro i b q hi hb hq
    rw [List.getElem?_append_right (by omega), hfr] at hb
    rw [List.getElem?_append_right (by omega), hf] at hq
    exact ⟨hb, hq⟩
  refine ⟨c, bs, ⟨⟨he.x.lt, fun k r hk hn hm => he.x.out k r hk hn (hsub _ hm), he.x.cell⟩, by simp only [List.length_append, hfr, hf]; rw [hs.len], fun x hx => he.lto x (hsub x hx), ?_, ?_⟩, h1, h2, h3⟩
  · intro i j b d p q hb hd hp hq x hx1 hx2
    rcases Nat.lt_or_ge i f with hi | hi
    · obtain ⟨a1, a2⟩ := hlo i b p hi hb hp
      rcases Nat.lt_or_ge j f with hj | hj
      · obtain ⟨b1, b2⟩ := hlo j d q hj hd hq
        exact he.sepo i j b d p q a1 b1 a2 b2 x hx1 hx2
      · obtain ⟨b1, b2⟩ := hhi j d q hj hd hq
        rcases he.sepo i f b B p o a1 hB a2 hO x hx1 (h3 x (own_of b1 hx2)) with h | h | h
        · omega
        · exact .inr (.inl h)
        · exact (ho.alive h).elim
    · obtain ⟨a1, a2⟩ := hhi i b p hi hb hp
      rcases Nat.lt_or_ge j f with hj | hj
      · obtain ⟨b1, b2⟩ := hlo j d q hj hd hq
        rcases he.sepo j f d B q o b1 hB b2 hO x hx2 (h3 x (own_of a1 hx1)) with h | h | h
        · omega
        · exact .inr (.inr h)
        · exact (ho.alive h).elim
      · obtain ⟨b1, b2⟩ := hhi j d q hj hd hq
        rcases hs.sep _ _ b d p q a1 b1 a2 b2 x hx1 hx2 with h | h | h
        · exact .inl (by omega)
        · exact .inr (.inl h)
        · exact .inr (.inr h)
  · intro i b q hb hq
    rcases Nat.lt_or_ge i f with hi | hi
    · obtain ⟨a1, a2⟩ := hlo i b q hi hb hq
      rw [List.getElem?_append_left (by omega)] at hq
      exact (he.holds i b q a1 a2).closed _ (closedAll_get hF hq)
    · obtain ⟨a1, a2⟩ := hhi i b q hi hb hq
      exact hs.holds fr hfr _ b q a1 a2

/-- .. and closed again. -/
theorem close_emb {f fb : Nat} {F' H' h' : VHeap} {o' : VObj} (ho : Opens ex fb o' H') (hF : closedAll F' = true) (hf : F'.length = f) (root : Nat) (htake : h'.take f = F') {M : VHeap} {ps : List Nat} (hr : rebox fb f root M h' ps = some H') {bs : List Blk} {w : World} (he : Emb ex bs h' w) :
    ∃ (c B' : Blk), bs[root]? = some c ∧ B'.1 = c.1 ∧ B'.2 = c.2 ∧ Emb ex (bs.take f ++ [B']) (F' ++ [o']) w ∧ ∀ x ∈ B'.own, ∃ (j : Nat) (b : Blk) (o : VObj), j ∈ ps ∧ f ≤ j ∧ bs[j]? = some b ∧ h'[j]? = some o ∧ o ≠ .dead ∧ x ∈ b.own := by
  obtain ⟨c, cs, hc, hs, hnd, hx⟩ := rebox_spec hr he
  obtain ⟨B', hB'⟩ : ∃ B' : Blk, B' = ⟨c.1, c.2, own (c :: cs)⟩ := ⟨_, rfl⟩
  have hBo : ∀ x, x ∈ B'.own → x ∈ own (c :: cs) := fun x hx => by
    subst hB'
    simp only [Blk.own, List.mem_cons] at hx
    rcases hx with rfl | h
    · rw [own_cons]; exact List.mem_cons_self
    · exact h
  have hlenh : f ≤ h'.length := by rw [← hf, ← htake]; simp; omega
  have hblen : f ≤ bs.length := by rw [he.len]; exact hlenh
  have htl : (bs.take f).length = f := by simp; omega
  have hsub : ∀ x ∈ own (bs.take f ++ [B']), x ∈ own bs := fun x h => by
    rw [own_append] at h
    rcases List.mem_append.1 h with h | h
    · obtain ⟨b, hb, hxb⟩ := mem_own.1 h
      exact mem_own.2 ⟨b, List.mem_of_mem_take hb, hxb⟩
    · rw [own_cons, own_nil, List.append_nil] at h
      obtain ⟨j, b, o, _, _, h2, _, _, h5⟩ := hx x (hBo x h)
      exact own_of h2 h5
  have hlo : ∀ (i : Nat) (b : Blk) (q : VObj), i < f → (bs.take f ++ [B'])[i]? = some b → (F' ++ [o'])[i]? = some q → bs[i]? = some b ∧ h'[i]? = some q ∧ F'[i]? = some q := by
    intro i b q hi hb hq
    rw [List.getElem?_append_left (by omega), List.getElem?_take_of_lt hi] at hb
    rw [List.getElem?_append_left (by omega)] at hq
    refine ⟨hb, ?_, hq⟩
    rw [← htake, List.getElem?_take_of_lt hi] at hq; exact hq
  have hhi : ∀ (i : Nat) (b : Blk) (q : VObj), f ≤ i → (bs.take f ++ [B'])[i]? = some b → (F' ++ [o'])[i]? = some q → i = f ∧ b = B' ∧ q = o' := by
    intro i b q hi hb hq
    rw [List.getElem?_append_right (by omega), htl] at hb
    rw [List.getElem?_append_right (by omega), hf] at hq
    have : i - f = 0 := by
      rcases Nat.eq_zero_or_pos (i - f) with h | h
      · exact h
      · rw [List.getElem?_eq_none (by simp; omega)] at hb; cases hb
    rw [this] at hb hq
    simp at hb hq
    exact ⟨by omega, hb.symm, hq.symm⟩
  refine ⟨c, B', hc, by rw [hB'], by rw [hB'], ⟨⟨he.x.lt, fun k r hk hn hm => he.x.out k r hk hn (hsub _ hm), he.x.cell⟩, by simp [htl, hf], fun x h => he.lto x (hsub x h), ?_, ?_⟩, fun x h => hx x (hBo x h)⟩
  · have mixed : ∀ (i : Nat) (b : Blk) (q : VObj), bs[i]? = some b → h'[i]? = some q → i < f → ∀ x, x ∈ b.own → x ∈ B'.own → q = .dead := by
      intro i b q hb hq hi x h1 h2
      obtain ⟨j, d, o, _, g1, g2, g3, g4, g5⟩ := hx x (hBo x h2)
      rcases he.sepo i j b d q o hb g2 hq g3 x h1 g5 with h | h | h
      · omega
      · exact h
      · exact (g4 h).elim
    intro i j b d p q hb hd hp hq x hx1 hx2
    rcases Nat.lt_or_ge i f with hi | hi
    · obtain ⟨a1, a2, _⟩ := hlo i b p hi hb hp
      rcases Nat.lt_or_ge j f with hj | hj
      · obtain ⟨b1, b2, _⟩ := hlo j d q hj hd hq
        exact he.sepo i j b d p q a1 b1 a2 b2 x hx1 hx2
      · obtain ⟨b1, b2, b3⟩ := hhi j d q hj hd hq
        subst b2
        exact .inr (.inl (mixed i b p a1 a2 hi x hx1 hx2))
    · obtain ⟨a1, a2, a3⟩ := hhi i b p hi hb hp
      subst a2
      rcases Nat.lt_or_ge j f with hj | hj
      · obtain ⟨b1, b2, _⟩ := hlo j d q hj hd hq
        exact .inr (.inr (mixed j d q b1 b2 hj x hx2 hx1))
      · obtain ⟨b1, b2, b3⟩ := hhi j d q hj hd hq
        exact .inl (by omega)
  · intro i b q hb hq
    rcases Nat.lt_or_ge i f with hi | hi
    · obtain ⟨a1, a2, a3⟩ := hlo i b q hi hb hq
      exact (he.holds i b q a1 a2).closed _ (closedAll_get hF a3)
    · obtain ⟨a1, a2, a3⟩ := hhi i b q hi hb hq
      subst a2; subst a3
      exact (ho.cl c cs b w hs (by rw [hB']) (by rw [hB']) (fun x h => by rw [hB']; exact List.mem_cons_of_mem _ h)).closed _ ho.closed

/-- What a run over a box's objects does: the front, and what lies in the box. -/
def outB (f : Nat) (M : VHeap) (r : Option (Value × XS)) : Option (Value × VHeap × VHeap × List Hint × Prop) :=
  match r with
  | some (v, s) => match rebox f f f M s.heap (reach s.heap 500 [] [f]) with
    | some H => some (v, s.heap.take f, H, s.hints, s.ob)
    | none => none
  | none => none

/-- A RUN AMONG WHAT LIES IN A BOX IS A CONTRACT OVER THE BOX. -/
theorem boxK0 {P : Program} {cfg : Cfg} {fn : FuncId} (hg : cfg.Good P) (n f : Nat) (hints : List Hint) {args : List Value} {F H F' H' : VHeap} {v : Value} {o o' : VObj} (ho : Opens cfg.ext f o H) (ho' : Opens cfg.ext f o' H')
    (hf : F.length = f) (hf' : F'.length = f) (hF : closedAll F = true) (hF' : closedAll F' = true) (hv : plainR v = true)
    (hr : outB f H' (vrun P cfg n fn args ⟨F ++ H, hints, True, []⟩ false) = some (v, F', H', [], expOb hints True)) : VCalls P cfg.ext fn args (F ++ [o]) v (F' ++ [o']) := by
  have hrun : ∃ h' lg, vrun P cfg n fn args ⟨F ++ H, hints, True, []⟩ false = some (v, ⟨h', [], expOb hints True, lg⟩) ∧ h'.take f = F' ∧ rebox f f f H' h' (reach h' 500 [] [f]) = some H' := by
    unfold outB at hr
    split at hr
    · rename_i v' s hs
      split at hr
      · rename_i H2 hH2
        obtain ⟨sh, shi, sob, slg⟩ := s
        simp only [Option.some.injEq, Prod.mk.injEq] at hr
        obtain ⟨rfl, h2, rfl, rfl, rfl⟩ := hr
        exact ⟨sh, slg, hs, h2, hH2⟩
      · cases hr
    · cases hr
  obtain ⟨h', lg, h1, h2, h3⟩ := hrun
  have hc := contract hg n hints args (F ++ H) v h' lg h1
  intro bs w args' he ha
  obtain ⟨fr, B, rfl, hfr⟩ := split_last he.len
  rw [hf] at hfr
  obtain ⟨c, bsH, he1, e1, e2, e3⟩ := open_emb ho hF hf hfr he
  have hmono : ∀ (i : Nat) (b : Blk), (fr ++ [B])[i]? = some b → ∃ b', (fr ++ c :: bsH)[i]? = some b' ∧ b'.1 = b.1 ∧ b'.2 = b.2 := by
    intro i b hb
    rcases Nat.lt_or_ge i fr.length with hi | hi
    · rw [List.getElem?_append_left hi] at hb ⊢; exact ⟨b, hb, rfl, rfl⟩
    · rw [List.getElem?_append_right hi] at hb ⊢
      have : i - fr.length = 0 := by
        rcases Nat.eq_zero_or_pos (i - fr.length) with h | h
        · exact h
        · rw [List.getElem?_eq_none (by simp; omega)] at hb; cases hb
      rw [this] at hb ⊢
      simp at hb; subst hb
      exact ⟨c, rfl, e1, e2⟩
  refine Calls.mono (hc _ w args' he1 ((VR_VRs_mono _ hmono).2 _ _ ha)) ?_
  rintro e w' ⟨v', bs1, rfl, hv', he', hgr⟩
  obtain ⟨c', B', k1, k2, k3, k4, k5⟩ := close_emb ho' hF' hf' f h2 h3 he'
  have hfrC : (fr ++ c :: bsH)[f]? = some c := by rw [← hfr]; simp
  obtain ⟨c2, m1, m2, m3⟩ := hgr.ext f c hfrC
  rw [k1] at m1; cases m1
  have hsubO : ∀ x, x ∈ own (fr ++ c :: bsH) → x ∈ own (fr ++ [B]) := fun x hx => by
    rw [own_append] at hx ⊢
    rcases List.mem_append.1 hx with h | h
    · exact List.mem_append_left _ h
    · refine List.mem_append_right _ ?_
      have := e3 x h
      rw [own_cons, own_nil]; simpa [Blk.own] using this
  have hb1 : f ≤ bs1.length := by have := (List.getElem?_eq_some_iff.1 k1).1; omega
  refine ⟨v', _, rfl, ?_, k4, ⟨?_, ?_, hgr.size, fun b hb hn => hgr.same b hb fun hm => hn (hsubO b hm), hgr.os, hgr.output, hgr.tape⟩⟩
  · rw [hv'.plainR_eq hv]; exact VR.plainR hv
  · intro i b hb
    rcases Nat.lt_or_ge i f with hi | hi
    · rw [List.getElem?_append_left (by omega)] at hb
      obtain ⟨b', g1, g2, g3⟩ := hgr.ext i b (by rw [List.getElem?_append_left (by omega)]; exact hb)
      exact ⟨b', by rw [List.getElem?_append_left (by simp; omega), List.getElem?_take_of_lt hi]; exact g1, g2, g3⟩
    · rw [List.getElem?_append_right (by omega), hfr] at hb
      have h0 : i - f = 0 := by
        rcases Nat.eq_zero_or_pos (i - f) with h | h
        · exact h
        · rw [List.getElem?_eq_none (by simp; omega)] at hb; cases hb
      rw [h0] at hb; simp at hb; subst hb
      refine ⟨B', ?_, by rw [k2, m2, e1], by rw [k3, m3, e2]⟩
      rw [List.getElem?_append_right (by simp; omega)]; simp [Nat.min_eq_left hb1, h0]
  · intro x hx
    have : x ∈ own bs1 := by
      rw [own_append] at hx
      rcases List.mem_append.1 hx with h | h
      · obtain ⟨b, hb, hxb⟩ := mem_own.1 h
        exact mem_own.2 ⟨b, List.mem_of_mem_take hb, hxb⟩
      · rw [own_cons, own_nil, List.append_nil] at h
        obtain ⟨_, _, _, _, _, q1, _, _, q2⟩ := k5 x h
        exact own_of q1 q2
    rcases hgr.mem x this with h | h
    · exact .inl (hsubO x h)
    · exact .inr h

/-- What is made: the front, and what lies in the box. -/
def outN (f fb : Nat) (M : VHeap) (r : Option (Value × XS)) : Option (VHeap × VHeap × List Hint × Prop) :=
  match r with
  | some (.pointer (some ⟨root, 0, none⟩), s) => match rebox fb f root M s.heap (reach s.heap 500 [] [root]) with
    | some H => some (s.heap.take f, H, s.hints, s.ob)
    | none => none
  | _ => none

/-- A box is made. -/
theorem newK0 {P : Program} {cfg : Cfg} {fn : FuncId} (hg : cfg.Good P) (n f : Nat) {fb : Nat} (hints : List Hint) {args : List Value} {F F' H' : VHeap} {o' : VObj} (ho' : Opens cfg.ext fb o' H')
    (hf : F.length = f) (hf' : F'.length = f) (hF' : closedAll F' = true)
    (hr : outN f fb H' (vrun P cfg n fn args ⟨F, hints, True, []⟩ false) = some (F', H', [], expOb hints True)) : VCalls P cfg.ext fn args F (.pointer (some ⟨f, 0, none⟩)) (F' ++ [o']) := by
  have hrun : ∃ h' lg root, vrun P cfg n fn args ⟨F, hints, True, []⟩ false = some (.pointer (some ⟨root, 0, none⟩), ⟨h', [], expOb hints True, lg⟩) ∧ h'.take f = F' ∧ rebox fb f root H' h' (reach h' 500 [] [root]) = some H' := by
    unfold outN at hr
    split at hr
    · rename_i root s hs
      split at hr
      · rename_i H2 hH2
        obtain ⟨sh, shi, sob, slg⟩ := s
        simp only [Option.some.injEq, Prod.mk.injEq] at hr
        obtain ⟨h2, rfl, rfl, rfl⟩ := hr
        exact ⟨sh, slg, root, hs, h2, hH2⟩
      · cases hr
    · cases hr
  obtain ⟨h', lg, root, h1, h2, h3⟩ := hrun
  have hc := contract hg n hints args F _ h' lg h1
  intro bs w args' he ha
  have hbl : bs.length = f := by rw [he.len, hf]
  refine Calls.mono (hc bs w args' he ha) ?_
  rintro e w' ⟨v', bs1, rfl, hv', he', hgr⟩
  obtain ⟨c', B', k1, k2, k3, k4, k5⟩ := close_emb ho' hF' hf' root h2 h3 he'
  cases hv' with | ptr _ _ b hb =>
  rw [k1] at hb; cases hb
  have hb1 : f ≤ bs1.length := by rw [he'.len, ← hf', ← h2]; simp; omega
  refine ⟨_, _, rfl, ?_, k4, ⟨?_, ?_, hgr.size, hgr.same, hgr.os, hgr.output, hgr.tape⟩⟩
  · rw [← k2]; exact .ptr f 0 B' (by rw [List.getElem?_append_right (by simp; omega)]; simp [Nat.min_eq_left hb1])
  · intro i b hb
    have hi : i < f := by rw [← hbl]; exact (List.getElem?_eq_some_iff.1 hb).1
    obtain ⟨b', g1, g2, g3⟩ := hgr.ext i b hb
    exact ⟨b', by rw [List.getElem?_append_left (by simp; omega), List.getElem?_take_of_lt hi]; exact g1, g2, g3⟩
  · intro x hx
    have : x ∈ own bs1 := by
      rw [own_append] at hx
      rcases List.mem_append.1 hx with h | h
      · obtain ⟨b, hb, hxb⟩ := mem_own.1 h
        exact mem_own.2 ⟨b, List.mem_of_mem_take hb, hxb⟩
      · rw [own_cons, own_nil, List.append_nil] at h
        obtain ⟨_, _, _, _, _, q1, _, _, q2⟩ := k5 x h
        exact own_of q1 q2
    exact hgr.mem x this

/-- What a run over a box's objects does that answers with a new row: the front, what lies in the box, the row. -/
def outR (f : Nat) (M : VHeap) (r : Option (Value × XS)) : Option (Value × VHeap × VHeap × VObj × List Hint × Prop) :=
  match r with
  | some (.slice (some ⟨j, 0, none⟩) n c, s) => match rebox f f f M s.heap (reach s.heap 500 [] [f]) with
    | some H => match Nat.ble f j && !hasN j (reach s.heap 500 [] [f]) with
      | true => match s.heap[j]? with
        | some q => match q.isDead with
          | false => some (.slice (some ⟨f + 1, 0, none⟩) n c, s.heap.take f, H, q, s.hints, s.ob)
          | true => none
        | none => none
      | false => none
    | none => none
  | _ => none

theorem add_emb {bs : List Blk} {h : VHeap} {w : World} (he : Emb ex bs h w) {d : Blk} {q : VObj} (hq : closedO q = true) (hlt : ∀ x ∈ d.own, x < w.heap.size) (hx : ∀ (k : Nat) (r : XRow), ex[k]? = some r → 0 < r.n → r.b ∉ d.own)
    (hs : ∀ (i : Nat) (b : Blk) (o : VObj), bs[i]? = some b → h[i]? = some o → ∀ x, x ∈ b.own → x ∈ d.own → o = .dead) (hh : Holds ex [] w d q) : Emb ex (bs ++ [d]) (h ++ [q]) w := by
  have hcase : ∀ (i : Nat) (b : Blk) (o : VObj), (bs ++ [d])[i]? = some b → (h ++ [q])[i]? = some o → (bs[i]? = some b ∧ h[i]? = some o) ∨ (i = bs.length ∧ b = d ∧ o = q) := by
    intro i b o hb ho
    rcases Nat.lt_or_ge i bs.length with hi | hi
    · rw [List.getElem?_append_left hi] at hb
      rw [List.getElem?_append_left (by rw [← he.len]; exact hi)] at ho
      exact .inl ⟨hb, ho⟩
    · rw [List.getElem?_append_right hi] at hb
      rw [List.getElem?_append_right (by rw [← he.len]; exact hi), ← he.len] at ho
      have h0 : i - bs.length = 0 := by
        rcases Nat.eq_zero_or_pos (i - bs.length) with h | h
        · exact h
        · rw [List.getElem?_eq_none (by simp; omega)] at hb; cases hb
      rw [h0] at hb ho; simp at hb ho
      exact .inr ⟨by omega, hb.symm, ho.symm⟩
  have hown : ∀ x ∈ own (bs ++ [d]), x ∈ own bs ∨ x ∈ d.own := fun x hx => by
    rw [own_append] at hx
    rcases List.mem_append.1 hx with h | h
    · exact .inl h
    · rw [own_cons, own_nil, List.append_nil] at h; exact .inr h
  refine ⟨⟨he.x.lt, fun k r hk hn hm => (hown _ hm).elim (he.x.out k r hk hn) (hx k r hk hn), he.x.cell⟩, by simp [he.len], fun x hm => (hown x hm).elim (he.lto x) (hlt x), ?_, ?_⟩
  · intro i j b c o p hb hc ho hp x hx1 hx2
    rcases hcase i b o hb ho with ⟨a1, a2⟩ | ⟨a1, a2, a3⟩
    · rcases hcase j c p hc hp with ⟨b1, b2⟩ | ⟨b1, b2, b3⟩
      · exact he.sepo i j b c o p a1 b1 a2 b2 x hx1 hx2
      · exact .inr (.inl (hs i b o a1 a2 x hx1 (by rw [← b2]; exact hx2)))
    · rcases hcase j c p hc hp with ⟨b1, b2⟩ | ⟨b1, b2, b3⟩
      · exact .inr (.inr (hs j c p b1 b2 x hx2 (by rw [← a2]; exact hx1)))
      · exact .inl (by omega)
  · intro i b o hb ho
    rcases hcase i b o hb ho with ⟨a1, a2⟩ | ⟨a1, a2, a3⟩
    · exact (he.holds i b o a1 a2).ext _
    · subst a2; subst a3; exact hh.closed _ hq

theorem boxR0 {P : Program} {cfg : Cfg} {fn : FuncId} (hg : cfg.Good P) (n f : Nat) (hints : List Hint) {args : List Value} {F H F' H' : VHeap} {v : Value} {o o' q : VObj} (ho : Opens cfg.ext f o H) (ho' : Opens cfg.ext f o' H')
    (hf : F.length = f) (hf' : F'.length = f) (hF : closedAll F = true) (hF' : closedAll F' = true) (hq : closedO q = true)
    (hr : outR f H' (vrun P cfg n fn args ⟨F ++ H, hints, True, []⟩ false) = some (v, F', H', q, [], expOb hints True)) : VCalls P cfg.ext fn args (F ++ [o]) v (F' ++ [o', q]) := by
  have hrun : ∃ h' lg j m c, vrun P cfg n fn args ⟨F ++ H, hints, True, []⟩ false = some (.slice (some ⟨j, 0, none⟩) m c, ⟨h', [], expOb hints True, lg⟩) ∧ h'.take f = F' ∧ rebox f f f H' h' (reach h' 500 [] [f]) = some H' ∧ v = .slice (some ⟨f + 1, 0, none⟩) m c ∧ f ≤ j ∧ j ∉ reach h' 500 [] [f] ∧ h'[j]? = some q ∧ q ≠ .dead := by
    unfold outR at hr
    split at hr
    · rename_i j m c s hs
      split at hr
      · rename_i H2 hH2
        split at hr
        · rename_i hj
          split at hr
          · rename_i q2 hq2
            split at hr
            · rename_i hqd
              obtain ⟨sh, shi, sob, slg⟩ := s
              simp only [Option.some.injEq, Prod.mk.injEq] at hr
              obtain ⟨rfl, h2, rfl, rfl, rfl, rfl⟩ := hr
              rw [Bool.and_eq_true] at hj
              refine ⟨sh, slg, j, m, c, hs, h2, hH2, rfl, Nat.le_of_ble_eq_true hj.1, fun hm => ?_, hq2, fun hd => by subst hd; simp [VObj.isDead] at hqd⟩
              rw [(hasN_iff j _).2 hm] at hj; simp at hj
            · cases hr
          · cases hr
        · cases hr
      · cases hr
    · cases hr
  obtain ⟨h', lg, j, m, cc, h1, h2, h3, rfl, hj1, hj2, hj3, hj4⟩ := hrun
  have hc := contract hg n hints args (F ++ H) _ h' lg h1
  intro bs w args' he ha
  obtain ⟨fr, B, rfl, hfr⟩ := split_last he.len
  rw [hf] at hfr
  obtain ⟨c, bsH, he1, e1, e2, e3⟩ := open_emb ho hF hf hfr he
  have hmono : ∀ (i : Nat) (b : Blk), (fr ++ [B])[i]? = some b → ∃ b', (fr ++ c :: bsH)[i]? = some b' ∧ b'.1 = b.1 ∧ b'.2 = b.2 := by
    intro i b hb
    rcases Nat.lt_or_ge i fr.length with hi | hi
    · rw [List.getElem?_append_left hi] at hb ⊢; exact ⟨b, hb, rfl, rfl⟩
    · rw [List.getElem?_append_right hi] at hb ⊢
      have : i - fr.length = 0 := by
        rcases Nat.eq_zero_or_pos (i - fr.length) with h | h
        · exact h
        · rw [List.getElem?_eq_none (by simp; omega)] at hb; cases hb
      rw [this] at hb ⊢
      simp at hb; subst hb
      exact ⟨c, rfl, e1, e2⟩
  refine Calls.mono (hc _ w args' he1 ((VR_VRs_mono _ hmono).2 _ _ ha)) ?_
  rintro e w' ⟨v', bs1, rfl, hv', he', hgr⟩
  obtain ⟨c', B', k1, k2, k3, k4, k5⟩ := close_emb ho' hF' hf' f h2 h3 he'
  cases hv' with | slice _ _ _ _ c3 d hd hcap hn =>
  have hfrC : (fr ++ c :: bsH)[f]? = some c := by rw [← hfr]; simp
  obtain ⟨c2, m1, m2, m3⟩ := hgr.ext f c hfrC
  rw [k1] at m1; cases m1
  have hsubO : ∀ x, x ∈ own (fr ++ c :: bsH) → x ∈ own (fr ++ [B]) := fun x hx => by
    rw [own_append] at hx ⊢
    rcases List.mem_append.1 hx with h | h
    · exact List.mem_append_left _ h
    · refine List.mem_append_right _ ?_
      have := e3 x h
      rw [own_cons, own_nil]; simpa [Blk.own] using this
  have hb1 : f ≤ bs1.length := by have := (List.getElem?_eq_some_iff.1 k1).1; omega
  have htl : (bs1.take f).length = f := by simp; omega
  have hadd : Emb cfg.ext ((bs1.take f ++ [B']) ++ [d]) ((F' ++ [o']) ++ [q]) w' := by
    refine add_emb k4 hq (fun x hx => he'.lto x (own_of hd hx)) (fun k r hk hn hm => he'.x.out k r hk hn (own_of hd hm)) ?_ ((he'.holds j d q hd hj3).closed _ hq)
    intro i b o hb ho2 x hx1 hx2
    rcases Nat.lt_or_ge i f with hi | hi
    · rw [List.getElem?_append_left (by omega), List.getElem?_take_of_lt hi] at hb
      rw [List.getElem?_append_left (by omega), ← h2, List.getElem?_take_of_lt hi] at ho2
      rcases he'.sepo i j b d o q hb hd ho2 hj3 x hx1 hx2 with h | h | h
      · omega
      · exact h
      · exact (hj4 h).elim
    · rw [List.getElem?_append_right (by omega), htl] at hb
      have h0 : i - f = 0 := by
        rcases Nat.eq_zero_or_pos (i - f) with h | h
        · exact h
        · rw [List.getElem?_eq_none (by simp; omega)] at hb; cases hb
      rw [h0] at hb; simp at hb; subst hb
      obtain ⟨jj, b2, o2, q0, _, q1, q2, q3, q4⟩ := k5 x hx1
      rcases he'.sepo jj j b2 d o2 q q1 hd q2 hj3 x q4 hx2 with h | h | h
      · subst h; exact (hj2 q0).elim
      · exact (q3 h).elim
      · exact (hj4 h).elim
  have e4 : (bs1.take f ++ [B']) ++ [d] = bs1.take f ++ [B', d] := by simp
  have e5 : (F' ++ [o']) ++ [q] = F' ++ [o', q] := by simp
  rw [e4, e5] at hadd
  refine ⟨_, _, rfl, .slice (f + 1) 0 _ _ c3 d ?_ hcap hn, hadd, ⟨?_, ?_, hgr.size, fun b hb hn => hgr.same b hb fun hm => hn (hsubO b hm), hgr.os, hgr.output, hgr.tape⟩⟩
  · rw [List.getElem?_append_right (by omega), htl]; simp
  · intro i b hb
    rcases Nat.lt_or_ge i f with hi | hi
    · rw [List.getElem?_append_left (by omega)] at hb
      obtain ⟨b', g1, g2, g3⟩ := hgr.ext i b (by rw [List.getElem?_append_left (by omega)]; exact hb)
      exact ⟨b', by rw [List.getElem?_append_left (by omega), List.getElem?_take_of_lt hi]; exact g1, g2, g3⟩
    · rw [List.getElem?_append_right (by omega), hfr] at hb
      have h0 : i - f = 0 := by
        rcases Nat.eq_zero_or_pos (i - f) with h | h
        · exact h
        · rw [List.getElem?_eq_none (by simp; omega)] at hb; cases hb
      rw [h0] at hb; simp at hb; subst hb
      refine ⟨B', ?_, by rw [k2, m2, e1], by rw [k3, m3, e2]⟩
      rw [List.getElem?_append_right (by omega), htl]; simp [h0]
  · intro x hx
    have : x ∈ own bs1 := by
      rw [own_append] at hx
      rcases List.mem_append.1 hx with h | h
      · obtain ⟨b, hb, hxb⟩ := mem_own.1 h
        exact mem_own.2 ⟨b, List.mem_of_mem_take hb, hxb⟩
      · rw [own_cons, own_cons, own_nil, List.append_nil] at h
        have h' : x ∈ B'.own ∨ x ∈ d.own := by simpa [Blk.own, or_assoc] using h
        rcases h' with h | h
        · obtain ⟨_, _, _, _, _, q1, _, _, q2⟩ := k5 x h
          exact own_of q1 q2
        · exact own_of hd h
    rcases hgr.mem x this with h | h
    · exact .inl (hsubO x h)
    · exact .inr h

/-! The same, over lists as they are written -/

theorem list_last {f : Nat} {l : VHeap} (h : l.length = f + 1) : l = l.take f ++ [l.getD f .dead] := by
  apply List.ext_getElem?
  intro i
  rcases Nat.lt_or_ge i f with hi | hi
  · rw [List.getElem?_append_left (by simp; omega), List.getElem?_take_of_lt hi]
  · rw [List.getElem?_append_right (by simp; omega)]
    simp only [List.length_take, Nat.min_eq_left (show f ≤ l.length by omega)]
    rcases Nat.eq_or_lt_of_le hi with h1 | h1
    · subst h1; simp [List.getD_eq_getElem?_getD, List.getElem?_eq_getElem (show f < l.length by omega)]
    · rw [List.getElem?_eq_none (by omega), List.getElem?_eq_none (by simp; omega)]

theorem list_last2 {f : Nat} {l : VHeap} (h : l.length = f + 2) : l = l.take f ++ [l.getD f .dead, l.getD (f + 1) .dead] := by
  apply List.ext_getElem?
  intro i
  rcases Nat.lt_or_ge i f with hi | hi
  · rw [List.getElem?_append_left (by simp; omega), List.getElem?_take_of_lt hi]
  · rw [List.getElem?_append_right (by simp; omega)]
    simp only [List.length_take, Nat.min_eq_left (show f ≤ l.length by omega)]
    rcases Nat.eq_or_lt_of_le hi with h1 | h1
    · subst h1; simp [List.getD_eq_getElem?_getD, List.getElem?_eq_getElem (show f < l.length by omega)]
    · rcases Nat.eq_or_lt_of_le h1 with h2 | h2
      · have h2 : i = f + 1 := h2.symm
        subst h2; simp [List.getD_eq_getElem?_getD, List.getElem?_eq_getElem (show f + 1 < l.length by omega)]
      · rw [List.getElem?_eq_none (by omega), List.getElem?_eq_none (by simp; omega)]

theorem boxK {P : Program} {cfg : Cfg} {fn : FuncId} (hg : cfg.Good P) (n f : Nat) (hints : List Hint) {args : List Value} {pre post H H' : VHeap} {v : Value} (ho : Opens cfg.ext f (pre.getD f .dead) H) (ho' : Opens cfg.ext f (post.getD f .dead) H')
    (hf : pre.length = f + 1) (hf' : post.length = f + 1) (hF : closedAll (pre.take f) = true) (hF' : closedAll (post.take f) = true) (hv : plainR v = true)
    (hr : outB f H' (vrun P cfg n fn args ⟨pre.take f ++ H, hints, True, []⟩ false) = some (v, post.take f, H', [], expOb hints True)) : VCalls P cfg.ext fn args pre v post := by
  have := boxK0 hg n f hints (F := pre.take f) (F' := post.take f) ho ho' (by simp; omega) (by simp; omega) hF hF' hv hr
  rw [← list_last hf, ← list_last hf'] at this; exact this

theorem boxR {P : Program} {cfg : Cfg} {fn : FuncId} (hg : cfg.Good P) (n f : Nat) (hints : List Hint) {args : List Value} {pre post H H' : VHeap} {v : Value} (ho : Opens cfg.ext f (pre.getD f .dead) H) (ho' : Opens cfg.ext f (post.getD f .dead) H')
    (hf : pre.length = f + 1) (hf' : post.length = f + 2) (hF : closedAll (pre.take f) = true) (hF' : closedAll (post.take f) = true) (hq : closedO (post.getD (f + 1) .dead) = true)
    (hr : outR f H' (vrun P cfg n fn args ⟨pre.take f ++ H, hints, True, []⟩ false) = some (v, post.take f, H', post.getD (f + 1) .dead, [], expOb hints True)) : VCalls P cfg.ext fn args pre v post := by
  have := boxR0 hg n f hints (F := pre.take f) (F' := post.take f) ho ho' (by simp; omega) (by simp; omega) hF hF' hq hr
  rw [← list_last hf, ← list_last2 hf'] at this; exact this

theorem newK {P : Program} {cfg : Cfg} {fn : FuncId} (hg : cfg.Good P) (n f : Nat) {fb : Nat} (hints : List Hint) {args : List Value} {pre post H' : VHeap} (ho' : Opens cfg.ext fb (post.getD f .dead) H')
    (hf : pre.length = f) (hf' : post.length = f + 1) (hF' : closedAll (post.take f) = true)
    (hr : outN f fb H' (vrun P cfg n fn args ⟨pre, hints, True, []⟩ false) = some (post.take f, H', [], expOb hints True)) : VCalls P cfg.ext fn args pre (.pointer (some ⟨f, 0, none⟩)) post := by
  have := newK0 hg n f hints (F := pre) (F' := post.take f) ho' hf (by simp; omega) hF' hr
  rw [← list_last hf'] at this; exact this

/-- What lies behind is let go. -/
theorem VCalls.drop {P : Program} {f : FuncId} {args : List Value} {h h' g : VHeap} {v : Value} (hc : VCalls P ex f args h v (h' ++ g)) (hl : h.length ≤ h'.length) (hcl : closedAll h' = true) (hv : plainR v = true) : VCalls P ex f args h v h' := by
  intro bs w args' he ha
  refine Calls.mono (hc bs w args' he ha) ?_
  rintro e w' ⟨v', bs', rfl, hv', he', hg⟩
  have hlen : h'.length ≤ bs'.length := by rw [he'.len]; simp
  have hsub : ∀ x ∈ own (bs'.take h'.length), x ∈ own bs' := fun x hx => by
    obtain ⟨b, hb, hxb⟩ := mem_own.1 hx
    exact mem_own.2 ⟨b, List.mem_of_mem_take hb, hxb⟩
  have hget : ∀ (i : Nat) (b : Blk) (o : VObj), (bs'.take h'.length)[i]? = some b → h'[i]? = some o → bs'[i]? = some b ∧ (h' ++ g)[i]? = some o := by
    intro i b o hb ho
    have hi := (List.getElem?_eq_some_iff.1 ho).1
    rw [List.getElem?_take_of_lt hi] at hb
    exact ⟨hb, by rw [List.getElem?_append_left hi]; exact ho⟩
  refine ⟨v', bs'.take h'.length, rfl, by rw [hv'.plainR_eq hv]; exact VR.plainR hv, ⟨⟨he'.x.lt, fun k r hk hn hm => he'.x.out k r hk hn (hsub _ hm), he'.x.cell⟩, by simp; omega, fun x hx => he'.lto x (hsub x hx), ?_, ?_⟩, ⟨?_, fun x hx => hg.mem x (hsub x hx), hg.size, hg.same, hg.os, hg.output, hg.tape⟩⟩
  · intro i j b c o q hb hc' ho hq
    obtain ⟨a1, a2⟩ := hget i b o hb ho
    obtain ⟨b1, b2⟩ := hget j c q hc' hq
    exact he'.sepo i j b c o q a1 b1 a2 b2
  · intro i b o hb ho
    obtain ⟨a1, a2⟩ := hget i b o hb ho
    exact (he'.holds i b o a1 a2).closed _ (closedAll_get hcl ho)
  · intro i b hb
    have hi : i < h'.length := by have := (List.getElem?_eq_some_iff.1 hb).1; rw [he.len] at this; omega
    obtain ⟨b', g1, g2⟩ := hg.ext i b hb
    exact ⟨b', by rw [List.getElem?_take_of_lt hi]; exact g1, g2⟩

theorem contractP {P : Program} {cfg : Cfg} {f : FuncId} (hg : cfg.Good P) (n : Nat) (hints : List Hint) {args : List Value} {h h' : VHeap} {v : Value} (hl : Nat.ble h.length h'.length = true) (hcl : closedAll h' = true) (hv : plainR v = true)
    (hr : outs h'.length (vrun P cfg n f args ⟨h, hints, True, []⟩ false) = some (v, h', [], expOb hints True)) : VCalls P cfg.ext f args h v h' := by
  obtain ⟨g, hc⟩ := contractK hg n h'.length hints args h v h' hr
  exact hc.drop (Nat.le_of_ble_eq_true hl) hcl hv

end Go.Vx
