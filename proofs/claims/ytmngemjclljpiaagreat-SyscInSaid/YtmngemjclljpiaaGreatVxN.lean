/- From cut to cut: what a code does between two places, of which only what lives on is told. -/
import Derived.Test.YtmngemjclljpiaaGreatVxM
namespace Go.Vx

def assoc (i : Nat) : List (Nat × Value) → Option Value
  | [] => none
  | (j, v) :: r => match Nat.beq i j with
    | true => some v
    | false => assoc i r

def mkT (N : Nat) (lv : List (Nat × Value)) (junk : Nat → Value) : List Value :=
  (List.range N).map fun i => match assoc i lv with
    | some v => v
    | none => junk i

/-- What is had at a place: the memory, and what is in the slots that live on. -/
structure At (ex : XTab) (N : Nat) (lv : List (Nat × Value)) (h : VHeap) (bs : List Blk) (a : Act) (w : World) : Prop where
  emb : Emb ex bs h w
  size : a.tmps.size = N
  slots : ∀ i v, assoc i lv = some v → VR ex bs v (a.tmps.getD i undef)

theorem At.vrs {ex : XTab} {N : Nat} {lv : List (Nat × Value)} {h : VHeap} {bs : List Blk} {a : Act} {w : World} (hat : At ex N lv h bs a w) : ∃ junk, VRs ex bs (mkT N lv junk) a.tmps.toList := by
  have hj : ∀ i, ∃ u, VR ex bs u (a.tmps.getD i undef) := fun i => VR.any ex bs _
  obtain ⟨junk, hjunk⟩ := Classical.axiomOfChoice hj
  refine ⟨junk, VRs.of_get (by simp [mkT, hat.size]) fun i v v' hv hv' => ?_⟩
  have hlt : i < N := by
    have := (List.getElem?_eq_some_iff.1 hv).1
    simpa [mkT] using this
  have hv2 : a.tmps.getD i undef = v' := by
    simp only [Array.getElem?_toList] at hv'
    simp [Array.getD_eq_getD_getElem?, hv']
  simp only [mkT, List.getElem?_map, List.getElem?_range hlt, Option.map_some, Option.some.injEq] at hv
  rw [← hv, ← hv2]
  cases hq : assoc i lv with
  | some u => exact hat.slots i u hq
  | none => exact hjunk i

/-! Renumbering -/

def allSome {α β : Type} (f : α → Option β) : List α → Option (List β)
  | [] => some []
  | x :: r => match f x with
    | some y => match allSome f r with
      | some l => some (y :: l)
      | none => none
    | none => none

def ren (inv : Nat → Option Nat) : Nat → Value → Option Value
  | 0, _ => none
  | n + 1, v => match v with
    | .bool b => some (.bool b)
    | .int k x => some (.int k x)
    | .string s => some (.string s)
    | .pointer none => some (.pointer none)
    | .pointer (some ⟨j, off, none⟩) => match inv j with
      | some i => some (.pointer (some ⟨i, off, none⟩))
      | none => none
    | .pointer (some ⟨b, off, some k⟩) => some (.pointer (some ⟨b, off, some k⟩))
    | .slice (some ⟨b, off, some k⟩) len c => some (.slice (some ⟨b, off, some k⟩) len c)
    | .slice none 0 0 => some (.slice none 0 0)
    | .slice (some ⟨j, off, none⟩) len c => match inv j with
      | some i => some (.slice (some ⟨i, off, none⟩) len c)
      | none => none
    | .map none => some (.map none)
    | .func fn ⟨a⟩ ⟨c⟩ => match allSome (ren inv n) a with
      | some a' => match allSome (ren inv n) c with
        | some c' => some (.func fn ⟨a'⟩ ⟨c'⟩)
        | none => none
      | none => none
    | .nilFunc => some .nilFunc
    | .nilIface => some .nilIface
    | .iface t v => match ren inv n v with
      | some v' => some (.iface t v')
      | none => none
    | .agg ⟨l⟩ => match allSome (ren inv n) l with
      | some l' => some (.agg ⟨l'⟩)
      | none => none
    | .tuple ⟨l⟩ => match allSome (ren inv n) l with
      | some l' => some (.tuple ⟨l'⟩)
      | none => none
    | .chan none => some (.chan none)
    | _ => none

theorem ren_spec {inv : Nat → Option Nat} {ps : List Nat} (hi : ∀ i j, inv j = some i → ps[i]? = some j) : ∀ (n : Nat) (v u : Value), ren inv n v = some u → RN true ps u v := by
  intro n
  induction n with
  | zero => intro v u h; cases h
  | succ n ih =>
    have hall : ∀ (l m : List Value), allSome (ren inv n) l = some m → RNs true ps m l := by
      intro l
      induction l with
      | nil => intro m h; cases h; exact .nil
      | cons x r ihr =>
        intro m h
        unfold allSome at h
        split at h
        · rename_i y hy
          split at h
          · rename_i l' hl'; cases h; exact .cons _ _ _ _ (ih _ _ hy) (ihr _ hl')
          · cases h
        · cases h
    intro v u h
    unfold ren at h
    split at h
    · cases h; exact .bool _
    · cases h; exact .int _ _
    · cases h; exact .string _
    · cases h; exact .nilPtr
    · split at h
      · rename_i hq; cases h; exact .ptr _ _ _ (hi _ _ hq)
      · cases h
    · cases h; exact .fptr _ _ _
    · cases h; exact .fslice _ _ _ _ _
    · cases h; exact .nilSlice
    · split at h
      · rename_i hq; cases h; exact .slice _ _ _ _ _ (hi _ _ hq)
      · cases h
    · cases h; exact .nilMap
    · split at h
      · rename_i ha
        split at h
        · rename_i hc; cases h; exact .func _ _ _ _ _ (hall _ _ ha) (hall _ _ hc)
        · cases h
      · cases h
    · cases h; exact .nilFunc
    · cases h; exact .nilIface
    · split at h
      · rename_i hq; cases h; exact .iface _ _ _ (ih _ _ hq)
      · cases h
    · split at h
      · rename_i hq; cases h; exact .agg _ _ (hall _ _ hq)
      · cases h
    · split at h
      · rename_i hq; cases h; exact .tuple _ _ (hall _ _ hq)
      · cases h
    · cases h; exact .top _ (.inr rfl)
    · cases h

/-- The objects to which a value points. -/
def ptrs : Nat → Value → List Nat
  | 0, _ => []
  | n + 1, v => match v with
    | .pointer (some ⟨j, _, none⟩) => [j]
    | .slice (some ⟨j, _, none⟩) _ _ => [j]
    | .func _ ⟨a⟩ ⟨c⟩ => a.flatMap (ptrs n) ++ c.flatMap (ptrs n)
    | .iface _ v => ptrs n v
    | .agg ⟨l⟩ => l.flatMap (ptrs n)
    | .tuple ⟨l⟩ => l.flatMap (ptrs n)
    | _ => []

def ptrsO (h : VHeap) (i : Nat) : List Nat :=
  match h[i]? with
  | some (.cells l _) => l.flatMap (ptrs 5)
  | _ => []

def hasN (i : Nat) : List Nat → Bool
  | [] => false
  | j :: r => match Nat.beq i j with
    | true => true
    | false => hasN i r

def reach (h : VHeap) : Nat → List Nat → List Nat → List Nat
  | 0, seen, _ => seen
  | _, seen, [] => seen
  | n + 1, seen, i :: q => match hasN i seen with
    | true => reach h n seen q
    | false => reach h n (seen ++ [i]) (q ++ ptrsO h i)

def nodupB : List Nat → Bool
  | [] => true
  | i :: r => match hasN i r with
    | true => false
    | false => nodupB r

theorem hasN_iff (i : Nat) : ∀ l : List Nat, hasN i l = true ↔ i ∈ l
  | [] => by simp [hasN]
  | j :: r => by
    unfold hasN
    cases h : Nat.beq i j with
    | true => have := Nat.eq_of_beq_eq_true h; simp [this]
    | false =>
      have : i ≠ j := fun e => by subst e; simp at h
      simp [this, hasN_iff i r]

theorem nodupB_spec : ∀ l : List Nat, nodupB l = true → l.Nodup
  | [], _ => List.nodup_nil
  | i :: r, h => by
    unfold nodupB at h
    cases hh : hasN i r with
    | true => rw [hh] at h; cases h
    | false =>
      rw [hh] at h
      exact List.nodup_cons.2 ⟨fun hm => (by rw [(hasN_iff i r).2 hm] at hh; cases hh), nodupB_spec r h⟩

def idx (j : Nat) : Nat → List Nat → Option Nat
  | _, [] => none
  | k, i :: r => match Nat.beq i j with
    | true => some k
    | false => idx j (k + 1) r

theorem idx_spec {j : Nat} : ∀ (l : List Nat) (k i : Nat), idx j k l = some i → k ≤ i ∧ (l[i - k]? : Option Nat) = some j
  | [], _, _, h => by simp [idx] at h
  | x :: r, k, i, h => by
    unfold idx at h
    split at h
    · rename_i hb; cases h; have h0 := Nat.eq_of_beq_eq_true hb; exact ⟨Nat.le_refl _, by rw [Nat.sub_self, h0]; rfl⟩
    · obtain ⟨h1, h2⟩ := idx_spec r (k + 1) i h
      refine ⟨by omega, ?_⟩
      rw [show i - k = (i - (k + 1)) + 1 by omega, List.getElem?_cons_succ]; exact h2

def startsB : Nat → Nat → List Nat → Bool
  | 0, _, _ => true
  | _, _, [] => false
  | n + 1, k, i :: r => match Nat.beq i k with
    | true => startsB n (k + 1) r
    | false => false

theorem startsB_spec : ∀ (n k : Nat) (l : List Nat), startsB n k l = true → ∃ t, l = (List.range n).map (k + ·) ++ t
  | 0, k, l, _ => ⟨l, by simp⟩
  | n + 1, k, [], h => by cases h
  | n + 1, k, i :: r, h => by
    unfold startsB at h
    split at h
    · rename_i hb
      have := Nat.eq_of_beq_eq_true hb
      obtain ⟨t, ht⟩ := startsB_spec n (k + 1) r h
      refine ⟨t, ?_⟩
      rw [List.range_succ_eq_map, List.map_cons, List.map_map, ht, this]
      simp only [Nat.add_zero, List.cons_append, List.cons.injEq, true_and]
      congr 1
      apply List.map_congr_left; intro a _; simp; omega
    · cases h

def renO (inv : Nat → Option Nat) : VObj → Option VObj
  | .cells l _ => match allSome (ren inv 6) l with
    | some l' => some (.cells l' 0)
    | none => none
  | .fn n k g _ => some (.fn n k g 0)
  | .dead => some .dead
  | .box q => some (.box q)
  | .pay p => some (.pay p)

def renS (inv : Nat → Option Nat) (t : List Value) (i : Nat) : Option (Nat × Value) :=
  match ren inv 6 (t.getD i undef) with
  | some v => some (i, v)
  | none => none

def renH (inv : Nat → Option Nat) (h : VHeap) (j : Nat) : Option VObj :=
  match h[j]? with
  | some o => renO inv o
  | none => none

/-- What lives on, in the order in which it is reached; the first n objects keep their places. -/
def renumW (n : Nat) (live : List Nat) (t : List Value) (h : VHeap) (ps : List Nat) : Option (List (Nat × Value) × VHeap) :=
  match nodupB ps && startsB n 0 ps with
  | true => match allSome (renS (fun j => idx j 0 ps) t) live with
    | some lv => match allSome (renH (fun j => idx j 0 ps) h) ps with
      | some h1 => some (lv, h1)
      | none => none
    | none => none
  | false => none

def renum (n : Nat) (live : List Nat) (t : List Value) (h : VHeap) : Option (List (Nat × Value) × VHeap) :=
  renumW n live t h (reach h 500 [] (List.range n ++ live.flatMap fun i => ptrs 5 (t.getD i undef)))

theorem allSome_get {α β : Type} {f : α → Option β} : ∀ {l : List α} {m : List β}, allSome f l = some m → l.length = m.length ∧ ∀ (i : Nat) (x : α) (y : β), l[i]? = some x → m[i]? = some y → f x = some y
  | [], m, h => by cases h; simp
  | a :: r, m, h => by
    unfold allSome at h
    split at h
    · rename_i y hy
      split at h
      · rename_i l' hl'
        cases h
        obtain ⟨h1, h2⟩ := allSome_get hl'
        refine ⟨by simp [h1], fun i x z hx hz => ?_⟩
        cases i with
        | zero => simp at hx hz; subst hx; subst hz; exact hy
        | succ i => exact h2 i x z (by simpa using hx) (by simpa using hz)
      · cases h
    · cases h

theorem assoc_mem {i : Nat} {v : Value} : ∀ {lv : List (Nat × Value)}, assoc i lv = some v → (i, v) ∈ lv
  | [], h => by cases h
  | (j, u) :: r, h => by
    unfold assoc at h
    split at h
    · rename_i hb; cases h; have := Nat.eq_of_beq_eq_true hb; subst this; exact List.mem_cons_self
    · exact List.mem_cons_of_mem _ (assoc_mem h)

theorem renO_spec {inv : Nat → Option Nat} {ps : List Nat} (hi : ∀ i j, inv j = some i → ps[i]? = some j) {o o1 : VObj} (h : renO inv o = some o1) : RW ps o1 o := by
  unfold renO at h
  split at h
  · rename_i l e
    split at h
    · rename_i l' hl
      cases h
      have hr : RNs true ps l' l := by
        obtain ⟨h1, h2⟩ := allSome_get hl
        clear hl
        induction l generalizing l' with
        | nil => cases l' with
          | nil => exact .nil
          | cons => simp at h1
        | cons x r ih => cases l' with
          | nil => simp at h1
          | cons y s => exact .cons _ _ _ _ (ren_spec hi 6 _ _ (h2 0 x y rfl rfl)) (ih s (by simpa using h1) fun i a b ha hb => h2 (i + 1) a b (by simpa using ha) (by simpa using hb))
      have := RW.cells (ps := ps) l' l [] 0 e hr
      simpa using this
    · cases h
  · cases h; exact .fn _ _ _ _ _ _ _ (Nat.le_refl _) fun _ _ => rfl
  · cases h; exact .dead _
  · cases h; exact .box _
  · cases h; exact .pay _

theorem renum_sound {ex : XTab} {n N : Nat} {live : List Nat} {t : List Value} {h h1 : VHeap} {lv : List (Nat × Value)} (hr : renum n live t h = some (lv, h1)) {bs0 bs : List Blk} {w0 w : World} {a : Act}
    (hn : bs0.length = n) (hg : Grow bs0 w0 bs w) (he : Emb ex bs h w) (hN : a.tmps.size = N) (hv : VRs ex bs t a.tmps.toList) :
    ∃ cs, Grow bs0 w0 cs w ∧ At ex N lv h1 cs a w := by
  unfold renum at hr
  generalize hps : reach h 500 [] (List.range n ++ live.flatMap fun i => ptrs 5 (t.getD i undef)) = ps at hr
  clear hps
  unfold renumW at hr
  split at hr
  case h_2 => cases hr
  rename_i hc
  rw [Bool.and_eq_true] at hc
  split at hr
  case h_2 => cases hr
  rename_i lv' hlv
  split at hr
  case h_2 => cases hr
  rename_i h1' hh1
  cases hr
  have hinv : ∀ i j, idx j 0 ps = some i → ps[i]? = some j := fun i j hq => by have := (idx_spec ps 0 i hq).2; simpa using this
  obtain ⟨hl1, hl2⟩ := allSome_get hh1
  have hsub : Sub ps h1 h := by
    refine ⟨hl1, nodupB_spec _ hc.1, fun k j o hk ho => ?_⟩
    have := hl2 k j o hk ho
    unfold renH at this
    split at this
    · rename_i o' ho'; exact ⟨o', ho', renO_spec hinv this⟩
    · cases this
  refine ⟨pick bs ps, ?_, hsub.emb he, hN, fun i v hq => ?_⟩
  · obtain ⟨q, hq⟩ := startsB_spec _ _ _ hc.2
    have hin : ∀ k j : Nat, ps[k]? = some j → j < bs.length := fun k j hk => by rw [he.len]; exact hsub.lt hk
    refine ⟨fun i b hb => ?_, fun x hx => ?_, hg.size, hg.same, hg.os, hg.output, hg.tape⟩
    · have hi : i < n := by rw [← hn]; exact (List.getElem?_eq_some_iff.1 hb).1
      obtain ⟨b', g1, g2, g3⟩ := hg.ext i b hb
      refine ⟨b', pick_get ?_ g1, g2, g3⟩
      rw [hq, List.getElem?_append_left (by simp; exact hi), List.getElem?_map, List.getElem?_range hi]; simp
    · obtain ⟨k, j, c, _, h2, hx'⟩ := pick_mem hin hx
      exact hg.mem x (own_of h2 hx')
  · have hm := assoc_mem hq
    obtain ⟨k, hk⟩ := List.getElem?_of_mem hm
    obtain ⟨g1, g2⟩ := allSome_get hlv
    have hkl : k < live.length := by rw [g1]; exact (List.getElem?_eq_some_iff.1 hk).1
    have := g2 k live[k] (i, v) (List.getElem?_eq_getElem hkl) hk
    unfold renS at this
    split at this
    · rename_i u hu
      cases this
      exact (VR_comp (pick bs ps) (fun i j b h1 h2 => pick_get h1 h2)).1 _ _ (ren_spec hinv 6 _ _ hu) _ (hv.getA _)
    · cases this

/-! The slots stay as many -/

theorem vops_len {P : Program} {cfg : Cfg} {call : Caller} {f : FuncId} {ro : Bool} {ops : Array Oper} : ∀ (l : List Oper) (t : List Value) (s : XS) (t' : List Value) (s' : XS), vops P cfg call f ro ops l t s = some (t', s') → t'.length = t.length
  | [], t, s, t', s', h => by cases h; rfl
  | o :: r, t, s, t', s', h => by
    unfold vops at h
    split at h
    · rw [vops_len r _ _ _ _ h, putT_length]
    · split at h
      · rename_i u s1 _
        have := vops_len r _ _ _ _ h
        rw [this, putT_length]
      · cases h

theorem vopsD_len {P : Program} {cfg : Cfg} {call : Caller} {f : FuncId} {ro : Bool} {ops : Array Oper} : ∀ (l : List Oper) (t : List Value) (s : XS) (acc : List DRec) (t' : List Value) (s' : XS) (rc : List DRec), vopsD P cfg call f ro ops l t s acc = some (t', s', rc) → t'.length = t.length
  | [], t, s, acc, t', s', rc, h => by cases h; rfl
  | o :: r, t, s, acc, t', s', rc, h => by
    unfold vopsD at h
    split at h
    · rw [vopsD_len r _ _ _ _ _ _ h, putT_length]
    · split at h
      · have := vopsD_len r _ _ _ _ _ _ h
        rw [this, putT_length]
      · cases h

theorem vcode_len {P : Program} {cfg : Cfg} {call : Caller} {f : FuncId} {ro : Bool} : ∀ (c : Code) (t : List Value) (s : XS) (x : X) (t' : List Value) (s' : XS), vcode P cfg call f ro c t s = some (x, t', s') → t'.length = t.length := by
  intro c
  induction c with
  | skip => intro t s x t' s' h; cases h; rfl
  | region id ops d =>
    intro t s x t' s' h
    simp only [vcode] at h
    split at h
    · split at h
      · rename_i hv
        split at h
        · cases h; exact vopsD_len _ _ _ _ _ _ _ hv
        · cases h
      · cases h
    · split at h
      · rename_i hv; cases h; exact vops_len _ _ _ _ _ hv
      · cases h
  | seq a b iha ihb =>
    intro t s x t' s' h
    simp only [vcode] at h
    split at h
    · rename_i h1; rw [ihb _ _ _ _ _ h, iha _ _ _ _ _ h1]
    · exact iha _ _ _ _ _ h
  | cond c a b iha ihb =>
    intro t s x t' s' h
    simp only [vcode] at h
    split at h
    · exact iha _ _ _ _ _ h
    · exact ihb _ _ _ _ _ h
    · cases h
  | block id c ih =>
    intro t s x t' s' h
    simp only [vcode] at h
    split at h
    · rename_i h1
      split at h <;> (cases h; exact ih _ _ _ _ _ h1)
    · exact ih _ _ _ _ _ h
  | loop c ih =>
    intro t s x t' s' h
    simp only [vcode] at h
    have key : ∀ (n : Nat) (t : List Value) (s : XS), loopN n (vcode P cfg call f ro c) t s = some (x, t', s') → t'.length = t.length := by
      intro n
      induction n with
      | zero => intro t s h; cases h
      | succ n ihn =>
        intro t s h
        simp only [loopN] at h
        split at h
        · rename_i h1; rw [ihn _ _ h, ih _ _ _ _ _ h1]
        · exact ih _ _ _ _ _ h
    exact key _ _ _ h
  | exit id => intro t s x t' s' h; cases h; rfl
  | ret => intro t s x t' s' h; cases h; rfl
  | _ => intro t s x t' s' h; simp [vcode] at h

/-- A function's code, and the pieces of a code. -/
def bodyOf (P : Program) (f : Nat) : Code :=
  match P.funcs.toList[f]? with
  | some fn => match fn.body with
    | some c => c
    | none => .skip
  | none => .skip

def piece : List Nat → Code → Code
  | [], c => c
  | 0 :: r, .seq a _ => piece r a
  | 1 :: r, .seq _ b => piece r b
  | 0 :: r, .cond _ a _ => piece r a
  | 1 :: r, .cond _ _ b => piece r b
  | 0 :: r, .block _ c => piece r c
  | 0 :: r, .loop c => piece r c
  | _, _ => .skip

/-! What a code does -/

section
variable {P : Program} {cfg : Cfg} {f : FuncId} {N n : Nat}

/-- From one place to another. -/
def Goes (P : Program) (ex : XTab) (N n : Nat) (c : Code) (lv : List (Nat × Value)) (h : VHeap) (x : X) (lv' : List (Nat × Value)) (h' : VHeap) : Prop :=
  ∀ (bs0 : List Blk) (w0 : World) (bs : List Blk) (a : Act) (w : World) (Q : Exit → Act → World → Prop), bs0.length = n → Grow bs0 w0 bs w → At ex N lv h bs a w →
    (∀ bs' a' w', Grow bs0 w0 bs' w' → At ex N lv' h' bs' a' w' → a'.defers = a.defers → Q x.real a' w') → c.wp P Q a w

def cut (n : Nat) (live : List Nat) (r : Option (X × List Value × XS)) : Option (X × List (Nat × Value) × VHeap × List Hint × Prop) :=
  match r with
  | some (x, t, s) => match renum n live t s.heap with
    | some (lv, h) => some (x, lv, h, s.hints, s.ob)
    | none => none
  | none => none

theorem Goes.run (hg : cfg.Good P) (k : Nat) (live : List Nat) (hints : List Hint) {c : Code} (hok : okCode cfg (cfg.dyn f) c = true) {lv lv' : List (Nat × Value)} {h h' : VHeap} {x : X}
    (hr : ∀ junk, cut n live (vcode P cfg (vrun P cfg k) f false c (mkT N lv junk) ⟨h, hints, True, []⟩) = some (x, lv', h', [], expOb hints True)) : Goes P cfg.ext N n c lv h x lv' h' := by
  intro bs0 w0 bs a w Q hn hgr hat hQ
  obtain ⟨junk, hv⟩ := hat.vrs
  have hj := hr junk
  cases hx : vcode P cfg (vrun P cfg k) f false c (mkT N lv junk) ⟨h, hints, True, []⟩ with
  | none => rw [hx] at hj; cases hj
  | some r =>
    obtain ⟨x', t, s⟩ := r
    rw [hx] at hj
    simp only [cut] at hj
    split at hj
    · rename_i lv1 h1 hren
      simp only [Option.some.injEq, Prod.mk.injEq] at hj
      obtain ⟨rfl, rfl, rfl, h3, h4⟩ := hj
      obtain ⟨_, _, _, key⟩ := code_sound hg.toSound (vrun_sound hg k) c hok _ _ _ _ _ hx (by rw [h4]; exact expOb_true _ _ trivial)
      refine key bs a w Q hv hat.emb fun bs' a' w' hg' he' hv' hd' => ?_
      have hN : a'.tmps.size = N := by
        have h1 := hv'.length
        rw [vcode_len _ _ _ _ _ _ hx] at h1
        simpa [mkT] using h1.symm
      obtain ⟨cs, hgc, hatc⟩ := renum_sound hren hn (hgr.trans hg') he' hN hv'
      exact hQ cs a' w' hgc hatc hd'
    · cases hj

theorem Goes.seq {ex : XTab} {c d : Code} {lv lv1 lv2 : List (Nat × Value)} {h h1 h2 : VHeap} {x : X} (hc : Goes P ex N n c lv h .normal lv1 h1) (hd : Goes P ex N n d lv1 h1 x lv2 h2) : Goes P ex N n (.seq c d) lv h x lv2 h2 := by
  intro bs0 w0 bs a w Q hn hgr hat hQ
  refine wp_seq (hc bs0 w0 bs a w _ hn hgr hat fun bs' a' w' hg' hat' hd' => ?_)
  exact hd bs0 w0 bs' a' w' Q hn hg' hat' fun bs2 a2 w2 hg2 hat2 hd2 => hQ bs2 a2 w2 hg2 hat2 (hd2.trans hd')

theorem Goes.seq_out {ex : XTab} {c d : Code} {lv lv1 : List (Nat × Value)} {h h1 : VHeap} {x : X} (hx : x ≠ .normal) (hc : Goes P ex N n c lv h x lv1 h1) : Goes P ex N n (.seq c d) lv h x lv1 h1 := by
  intro bs0 w0 bs a w Q hn hgr hat hQ
  refine wp_seq (hc bs0 w0 bs a w _ hn hgr hat fun bs' a' w' hg' hat' hd' => ?_)
  have := hQ bs' a' w' hg' hat' hd'
  cases x with
  | normal => exact (hx rfl).elim
  | exit id => exact this
  | ret => exact this

theorem Goes.block {ex : XTab} {id : Nat} {c : Code} {lv lv1 : List (Nat × Value)} {h h1 : VHeap} (hc : Goes P ex N n c lv h (.exit id) lv1 h1) : Goes P ex N n (.block id c) lv h .normal lv1 h1 := by
  intro bs0 w0 bs a w Q hn hgr hat hQ
  refine wp_block (hc bs0 w0 bs a w _ hn hgr hat fun bs' a' w' hg' hat' hd' => ?_)
  simp only [X.real, Exit.inBlock, if_true]
  exact hQ bs' a' w' hg' hat' hd'

theorem Goes.block_out {ex : XTab} {id : Nat} {c : Code} {lv lv1 : List (Nat × Value)} {h h1 : VHeap} {x : X} (hx : x ≠ .exit id) (hc : Goes P ex N n c lv h x lv1 h1) : Goes P ex N n (.block id c) lv h x lv1 h1 := by
  intro bs0 w0 bs a w Q hn hgr hat hQ
  refine wp_block (hc bs0 w0 bs a w _ hn hgr hat fun bs' a' w' hg' hat' hd' => ?_)
  have := hQ bs' a' w' hg' hat' hd'
  cases x with
  | normal => exact this
  | exit id' =>
    have hne : id' ≠ id := fun h => hx (by rw [h])
    simp only [X.real, Exit.inBlock, if_neg hne]
    exact this
  | ret => exact this

/-- Rounds of a loop, as many as it takes. -/
inductive Rounds (P : Program) (ex : XTab) (N n : Nat) (c : Code) (x : X) (lv' : List (Nat × Value)) (h' : VHeap) : Nat → List (Nat × Value) → VHeap → Prop where
  | out (lv : List (Nat × Value)) (h : VHeap) (hx : x ≠ .normal) (hc : Goes P ex N n c lv h x lv' h') : Rounds P ex N n c x lv' h' 1 lv h
  | more (k : Nat) (lv lv1 : List (Nat × Value)) (h h1 : VHeap) (hc : Goes P ex N n c lv h .normal lv1 h1) (hr : Rounds P ex N n c x lv' h' k lv1 h1) : Rounds P ex N n c x lv' h' (k + 1) lv h

theorem Rounds.goes {ex : XTab} {c : Code} {x : X} {lv' : List (Nat × Value)} {h' : VHeap} {k : Nat} {lv : List (Nat × Value)} {h : VHeap} (hr : Rounds P ex N n c x lv' h' k lv h) : Goes P ex N n (.loop c) lv h x lv' h' := by
  intro bs0 w0 bs a w Q hn hgr hat hQ
  refine wp_loop_rounds k ?_
  have key : ∀ (k : Nat) (lv : List (Nat × Value)) (h : VHeap), Rounds P ex N n c x lv' h' k lv h → ∀ (bs : List Blk) (a1 : Act) (w : World), Grow bs0 w0 bs w → At ex N lv h bs a1 w → a1.defers = a.defers → Code.rounds P c Q k a1 w := by
    intro k lv h hr
    induction hr with
    | out lv h hx hc =>
      intro bs a1 w hgr hat hd
      rw [rounds_succ]
      refine hc bs0 w0 bs a1 w _ hn hgr hat fun bs' a' w' hg' hat' hd' => ?_
      have := hQ bs' a' w' hg' hat' (hd'.trans hd)
      cases x with
      | normal => exact (hx rfl).elim
      | exit id => exact this
      | ret => exact this
    | more k lv lv1 h h1 hc _ ih =>
      intro bs a1 w hgr hat hd
      rw [rounds_succ]
      exact hc bs0 w0 bs a1 w _ hn hgr hat fun bs' a' w' hg' hat' hd' => ih bs' a' w' hg' hat' (hd'.trans hd)
  exact key k lv h hr bs a w hgr hat rfl

/-- A function's body, from its arguments to its results. -/
theorem VCalls.of_goes {ex : XTab} {fn : Func} {c : Code} (hP : P.funcs[f]? = some fn) (hbody : fn.body = some c) (hN : fn.ntmps = N) {args : List Value} {h h' : VHeap} {x : X} {lv' : List (Nat × Value)} {v : Value} (hn : h.length = n) (hle : args.length ≤ N)
    (hx : x = .normal ∨ x = .ret) (hc : Goes P ex N n c (args.zipIdx.map fun p => (p.2, p.1)) h x lv' h') {l : List Value} (hres : fn.results.toList.map (fun r => match r with | .tmp i => assoc i lv' | .cell _ _ => none) = l.map some) (hv : v = tupled l) : VCalls P ex f args h v h' := by
  intro bs w args' he ha
  refine calls_of_wp hP hbody ?_
  have hlen := ha.length
  refine hc bs w bs _ w _ (by rw [he.len, hn]) (.refl _ _) ⟨he, ?_, ?_⟩ fun bs' a' w' hgr hat hd => ?_
  · simp; omega
  · intro i u hu
    have hm := assoc_mem hu
    rw [List.mem_map] at hm
    obtain ⟨p, hp, hpe⟩ := hm
    obtain ⟨p1, p2⟩ := p
    cases hpe
    have hg := List.mem_zipIdx hp
    simp only [Nat.zero_add, Nat.sub_zero] at hg
    obtain ⟨_, h2, h3⟩ := hg
    obtain ⟨u', hu1, hu2⟩ := ha.get p2 p1 (by rw [List.getElem?_eq_getElem h2, h3])
    have hi : p2 < args'.length := by omega
    have : ((⟨args'⟩ : Array Value) ++ Array.replicate (fn.ntmps - (⟨args'⟩ : Array Value).size) undef).getD p2 undef = u' := by
      rw [Array.getD_eq_getD_getElem?, Array.getElem?_append_left (by simpa using hi)]
      simp [hu1]
    simp only
    rw [this]; exact hu2
  · have key : ∀ (rs : List ResultVar) (l : List Value), rs.map (fun r => match r with | .tmp i => assoc i lv' | .cell _ _ => none) = l.map some → ∃ l', (rs.mapM (resOne a'.tmps) : Sem (List Value)).run P w' = .ok l' w' ∧ VRs ex bs' l l' := by
      intro rs
      induction rs with
      | nil => intro l hl; cases l with
        | nil => exact ⟨[], by simp, .nil⟩
        | cons => simp at hl
      | cons r rest ih =>
        intro l hl
        cases l with
        | nil => simp at hl
        | cons u l1 =>
          simp only [List.map_cons, List.cons.injEq] at hl
          obtain ⟨l', g1, g2⟩ := ih l1 hl.2
          cases r with
          | tmp i => exact ⟨a'.tmps.getD i undef :: l', by simp only [List.mapM_cons, resOne, Sem.run_bind, Sem.run_pure, Result.andThen_ok, g1], .cons _ _ _ _ (hat.slots i u hl.1) g2⟩
          | cell _ _ => exact absurd hl.1 (by simp)
    obtain ⟨l', g1, g2⟩ := key _ _ hres
    have hr : ∃ v', (results fn a'.tmps).run P w' = .ok v' w' ∧ VR ex bs' v v' := by
      rw [results_eq, Array.mapM_eq_mapM_toList]
      simp only [Sem.run_bind, Sem.run_map, g1, Result.andThen_ok, Sem.run_pure]
      rw [hv]
      clear hv
      cases g2 with
      | nil => exact ⟨_, rfl, .tuple _ _ .nil⟩
      | cons v v' r r' hv hr => cases hr with
        | nil => exact ⟨v', rfl, hv⟩
        | cons u u' q q' hu hq =>
          refine ⟨.tuple ⟨v' :: u' :: q'⟩, ?_, .tuple _ _ (.cons _ _ _ _ hv (.cons _ _ _ _ hu hq))⟩
          rw [dif_neg (by simp)]
    obtain ⟨v', k1, k2⟩ := hr
    rcases hx with rfl | rfl
    · exact ⟨hd, v', k1, v', bs', rfl, k2, hat.emb, hgr⟩
    · exact ⟨hd, v', k1, v', bs', rfl, k2, hat.emb, hgr⟩

end
end Go.Vx
