/- The virtual heap: values and rows of cells named by small numbers, and what it means that memory holds them. -/
import Derived.WalkKit
namespace Go.Vx

/-- A block of memory, how many cells it has, and the blocks that lie behind it and are nobody else's. -/
structure Blk where
  b : Nat
  n : Nat
  fp : List Nat

def Blk.own (b : Blk) : List Nat := b.1 :: b.3

/-- What a block, and those behind it, hold; nobody looks into it. -/
structure BoxP where
  Q : Blk → World → Prop
  loc : ∀ (b : Blk) (w w' : World), (∀ x ∈ b.own, w'.heap[x]? = w.heap[x]?) → Q b w → Q b w'

/-- A memory: how many words, the words, the clock, how many bad accesses, the last access. -/
structure Mu where
  n : Nat
  w : Nat → Int
  clk : Int
  bad : Int
  k : Int
  who : Int
  at' : Int
  old : Int
  new : Int
  dn : Bool

/-- How far a routine is: what was answered (nl: nothing yet), what is left of it, whether it stopped, and where. -/
structure RunP where
  nl : Bool
  n : Nat
  g : Nat → Int
  rem : List Int
  st : Bool
  k : Int
  who : Int
  at' : Int
  old : Int
  new : Int
  dn : Bool
  sl : Bool

inductive Pay where
  | mem (u : Mu)
  | run (r : RunP)

/-- A row of cells, from its begin on: written out, or whole numbers by a function; or nothing is told of it. -/
inductive VObj where
  | cells (l : List Value) (elem : TypeId)
  | fn (n : Nat) (k : IntKind) (g : Nat → Int) (elem : TypeId)
  | dead
  | box (q : BoxP)
  | pay (p : Pay)

abbrev VHeap := List VObj

def own (bs : List Blk) : List Nat := bs.flatMap Blk.own

/-- A value without addresses, of one cell or none. -/
def plain1 : Value → Bool
  | .bool _ | .int _ _ | .string _ | .pointer none | .slice none 0 0 | .nilFunc | .nilIface | .map none => true
  | _ => false

def plainAll : List Value → Bool
  | [] => true
  | v :: r => match plain1 v with
    | true => plainAll r
    | false => false

def plain : Value → Bool
  | .agg ⟨l⟩ => plainAll l
  | v => plain1 v

/-- A row of memory that is only read: its block, from which cell on, how many, and what they hold. -/
structure XRow where
  b : Nat
  lo : Nat
  n : Nat
  g : Nat → Value

abbrev XTab := List XRow

/-- Nothing is told. -/
abbrev top : Value := .chan none

def isBool : Value → Bool
  | .bool _ => true
  | _ => false

def isTop : Value → Bool
  | .chan _ => true
  | _ => false

mutual
inductive VR (ex : XTab) (bs : List Blk) : Value → Value → Prop
  | bool (b : Bool) : VR ex bs (.bool b) (.bool b)
  | int (k : IntKind) (n : Int) : VR ex bs (.int k n) (.int k n)
  | string (s : ByteArray) : VR ex bs (.string s) (.string s)
  | nilPtr : VR ex bs (.pointer none) (.pointer none)
  | ptr (i off : Nat) (b : Blk) (h : bs[i]? = some b) : VR ex bs (.pointer (some ⟨i, off, none⟩)) (.pointer (some ⟨b.1, off, none⟩))
  | fptr (k off : Nat) (r : XRow) (h : ex[k]? = some r) : VR ex bs (.pointer (some ⟨r.b, off, some k⟩)) (.pointer (some ⟨r.b, off, none⟩))
  | fslice (k off n c c' : Nat) (r : XRow) (h : ex[k]? = some r) : VR ex bs (.slice (some ⟨r.b, off, some k⟩) n c) (.slice (some ⟨r.b, off, none⟩) n c')
  | fnil (k off b c : Nat) (a' : Option Addr) (c' : Nat) : VR ex bs (.slice (some ⟨b, off, some k⟩) 0 c) (.slice a' 0 c')
  | nilSlice : VR ex bs (.slice none 0 0) (.slice none 0 0)
  | slice (i off n c c' : Nat) (b : Blk) (h : bs[i]? = some b) (hc : off + c' * c ≤ b.2) (hn : n ≤ c') : VR ex bs (.slice (some ⟨i, off, none⟩) n c) (.slice (some ⟨b.1, off, none⟩) n c')
  | nilMap : VR ex bs (.map none) (.map none)
  | func (fn : Fn) (a a' c c' : List Value) (ha : VRs ex bs a a') (hc : VRs ex bs c c') : VR ex bs (.func fn ⟨a⟩ ⟨c⟩) (.func fn ⟨a'⟩ ⟨c'⟩)
  | nilFunc : VR ex bs .nilFunc .nilFunc
  | nilIface : VR ex bs .nilIface .nilIface
  | iface (t : TypeId) (v v' : Value) (h : VR ex bs v v') : VR ex bs (.iface t v) (.iface t v')
  | agg (l l' : List Value) (h : VRs ex bs l l') : VR ex bs (.agg ⟨l⟩) (.agg ⟨l'⟩)
  | tuple (l l' : List Value) (h : VRs ex bs l l') : VR ex bs (.tuple ⟨l⟩) (.tuple ⟨l'⟩)
  | top (v' : Value) (h : isBool v' = false) : VR ex bs top v'
inductive VRs (ex : XTab) (bs : List Blk) : List Value → List Value → Prop
  | nil : VRs ex bs [] []
  | cons (v v' : Value) (l l' : List Value) (h : VR ex bs v v') (hs : VRs ex bs l l') : VRs ex bs (v :: l) (v' :: l')
end

variable {ex : XTab}

theorem VR.plain1 {bs : List Blk} {v : Value} (h : plain1 v = true) : VR ex bs v v := by
  cases v <;> simp [Vx.plain1] at h
  case bool b => exact .bool b
  case int k n => exact .int k n
  case string s => exact .string s
  case pointer a => cases a with
    | none => exact .nilPtr
    | some a => simp [Vx.plain1] at h
  case slice a n c =>
    cases a with
    | none =>
      cases n with
      | zero => cases c with
        | zero => exact .nilSlice
        | succ c => simp [Vx.plain1] at h
      | succ n => simp [Vx.plain1] at h
    | some a => simp [Vx.plain1] at h
  case map a => cases a with
    | none => exact .nilMap
    | some a => simp [Vx.plain1] at h
  case nilFunc => exact .nilFunc
  case nilIface => exact .nilIface

theorem VRs.plain {bs : List Blk} : ∀ {l : List Value}, plainAll l = true → VRs ex bs l l
  | [], _ => .nil
  | v :: r, h => by
    unfold plainAll at h
    cases h1 : Vx.plain1 v with
    | true => simp only [h1] at h; exact .cons _ _ _ _ (.plain1 h1) (VRs.plain h)
    | false => simp [h1] at h

theorem VR.plain {bs : List Blk} {v : Value} (h : plain v = true) : VR ex bs v v := by
  cases v
  case agg l => obtain ⟨l⟩ := l; exact .agg _ _ (.plain h)
  all_goals exact .plain1 h

theorem mono_ptr {bs bs' : List Blk} (hx : ∀ (i : Nat) (b : Blk), bs[i]? = some b → ∃ b', bs'[i]? = some b' ∧ b'.1 = b.1 ∧ b'.2 = b.2) {i off : Nat} {b : Blk} (h : bs[i]? = some b) : VR ex bs' (.pointer (some ⟨i, off, none⟩)) (.pointer (some ⟨b.1, off, none⟩)) := by
  obtain ⟨b', h1, h2, h3⟩ := hx i b h
  rw [← h2]; exact .ptr i off b' h1
theorem mono_slice {bs bs' : List Blk} (hx : ∀ (i : Nat) (b : Blk), bs[i]? = some b → ∃ b', bs'[i]? = some b' ∧ b'.1 = b.1 ∧ b'.2 = b.2) {i off n c c' : Nat} {b : Blk} (h : bs[i]? = some b) (hc : off + c' * c ≤ b.2) (hn : n ≤ c') : VR ex bs' (.slice (some ⟨i, off, none⟩) n c) (.slice (some ⟨b.1, off, none⟩) n c') := by
  obtain ⟨b', h1, h2, h3⟩ := hx i b h
  rw [← h2]; exact .slice i off n c c' b' h1 (by rw [h3]; exact hc) hn

theorem VR_VRs_mono {bs : List Blk} (bs' : List Blk) (hx : ∀ (i : Nat) (b : Blk), bs[i]? = some b → ∃ b', bs'[i]? = some b' ∧ b'.1 = b.1 ∧ b'.2 = b.2) :
    (∀ (v v' : Value), VR ex bs v v' → VR ex bs' v v') ∧ (∀ (l l' : List Value), VRs ex bs l l' → VRs ex bs' l l') := by
  constructor
  · intro v v' h
    exact VR.rec (motive_1 := fun v v' _ => VR ex bs' v v') (motive_2 := fun l l' _ => VRs ex bs' l l')
      (fun b => .bool b) (fun k n => .int k n) (fun s => .string s) .nilPtr (fun i off b h => mono_ptr hx h) (fun k off r h => .fptr k off r h) (fun k off n c c' r h => .fslice k off n c c' r h) (fun k off b c a' c' => .fnil k off b c a' c') .nilSlice
      (fun i off n c c' b h hc hn => mono_slice hx h hc hn) .nilMap (fun fn a a' c c' _ _ h1 h2 => .func fn a a' c c' h1 h2) .nilFunc .nilIface
      (fun t v v' _ h => .iface t v v' h) (fun l l' _ h => .agg l l' h) (fun l l' _ h => .tuple l l' h) (fun v' h => .top v' h) .nil (fun v v' l l' _ _ h1 h2 => .cons v v' l l' h1 h2) h
  · intro v v' h
    exact VRs.rec (motive_1 := fun v v' _ => VR ex bs' v v') (motive_2 := fun l l' _ => VRs ex bs' l l')
      (fun b => .bool b) (fun k n => .int k n) (fun s => .string s) .nilPtr (fun i off b h => mono_ptr hx h) (fun k off r h => .fptr k off r h) (fun k off n c c' r h => .fslice k off n c c' r h) (fun k off b c a' c' => .fnil k off b c a' c') .nilSlice
      (fun i off n c c' b h hc hn => mono_slice hx h hc hn) .nilMap (fun fn a a' c c' _ _ h1 h2 => .func fn a a' c c' h1 h2) .nilFunc .nilIface
      (fun t v v' _ h => .iface t v v' h) (fun l l' _ h => .agg l l' h) (fun l l' _ h => .tuple l l' h) (fun v' h => .top v' h) .nil (fun v v' l l' _ _ h1 h2 => .cons v v' l l' h1 h2) h

theorem ext_get' {bs t : List Blk} (i : Nat) (b : Blk) (h : bs[i]? = some b) : (bs ++ t)[i]? = some b := by
  have hlt : i < bs.length := (List.getElem?_eq_some_iff.1 h).1
  rw [List.getElem?_append_left hlt]; exact h
theorem ext_get {bs t : List Blk} (i : Nat) (b : Blk) (h : bs[i]? = some b) : ∃ b', (bs ++ t)[i]? = some b' ∧ b'.1 = b.1 ∧ b'.2 = b.2 := ⟨b, ext_get' i b h, rfl, rfl⟩

theorem VR.ext {bs : List Blk} (t : List Blk) {v v' : Value} (h : VR ex bs v v') : VR ex (bs ++ t) v v' := (VR_VRs_mono (bs ++ t) ext_get).1 _ _ h
theorem VRs.ext {bs : List Blk} (t : List Blk) {l l' : List Value} (h : VRs ex bs l l') : VRs ex (bs ++ t) l l' := (VR_VRs_mono (bs ++ t) ext_get).2 _ _ h

mutual
/-- A virtual value, and the same under other numbers (wk: of some nothing is told). -/
inductive RN (wk : Bool) (ps : List Nat) : Value → Value → Prop
  | bool (b : Bool) : RN wk ps (.bool b) (.bool b)
  | int (k : IntKind) (n : Int) : RN wk ps (.int k n) (.int k n)
  | string (s : ByteArray) : RN wk ps (.string s) (.string s)
  | nilPtr : RN wk ps (.pointer none) (.pointer none)
  | ptr (i j off : Nat) (h : ps[i]? = some j) : RN wk ps (.pointer (some ⟨i, off, none⟩)) (.pointer (some ⟨j, off, none⟩))
  | fptr (b k off : Nat) : RN wk ps (.pointer (some ⟨b, off, some k⟩)) (.pointer (some ⟨b, off, some k⟩))
  | fslice (b k off n c : Nat) : RN wk ps (.slice (some ⟨b, off, some k⟩) n c) (.slice (some ⟨b, off, some k⟩) n c)
  | nilSlice : RN wk ps (.slice none 0 0) (.slice none 0 0)
  | slice (i j off n c : Nat) (h : ps[i]? = some j) : RN wk ps (.slice (some ⟨i, off, none⟩) n c) (.slice (some ⟨j, off, none⟩) n c)
  | nilMap : RN wk ps (.map none) (.map none)
  | func (fn : Fn) (a a' c c' : List Value) (ha : RNs wk ps a a') (hc : RNs wk ps c c') : RN wk ps (.func fn ⟨a⟩ ⟨c⟩) (.func fn ⟨a'⟩ ⟨c'⟩)
  | nilFunc : RN wk ps .nilFunc .nilFunc
  | nilIface : RN wk ps .nilIface .nilIface
  | iface (t : TypeId) (v v' : Value) (h : RN wk ps v v') : RN wk ps (.iface t v) (.iface t v')
  | agg (l l' : List Value) (h : RNs wk ps l l') : RN wk ps (.agg ⟨l⟩) (.agg ⟨l'⟩)
  | tuple (l l' : List Value) (h : RNs wk ps l l') : RN wk ps (.tuple ⟨l⟩) (.tuple ⟨l'⟩)
  | top (u : Value) (h : (wk = true ∧ isBool u = false) ∨ u = top) : RN wk ps top u
inductive RNs (wk : Bool) (ps : List Nat) : List Value → List Value → Prop
  | nil : RNs wk ps [] []
  | cons (v v' : Value) (l l' : List Value) (h : RN wk ps v v') (hs : RNs wk ps l l') : RNs wk ps (v :: l) (v' :: l')
end

theorem VR.notBool {bs : List Blk} {u v' : Value} (h : VR ex bs u v') (hu : isBool u = false) : isBool v' = false := by
  cases h <;> first | rfl | (cases hu; done) | assumption

theorem VR.any (ex : XTab) (bs : List Blk) (v' : Value) : ∃ u, VR ex bs u v' := by
  cases h : isBool v' with
  | false => exact ⟨Vx.top, .top v' h⟩
  | true => cases v' <;> first | exact ⟨_, .bool _⟩ | cases h

/-- Renaming, then what memory holds. -/
theorem VR_comp {wk : Bool} {ps : List Nat} {bs : List Blk} (cs : List Blk) (hx : ∀ (i j : Nat) (b : Blk), ps[i]? = some j → bs[j]? = some b → cs[i]? = some b) :
    (∀ (v u : Value), RN wk ps v u → ∀ v', VR ex bs u v' → VR ex cs v v') ∧ (∀ (l m : List Value), RNs wk ps l m → ∀ l', VRs ex bs m l' → VRs ex cs l l') := by
  constructor
  · intro v v' h
    exact RN.rec (motive_1 := fun v u _ => ∀ v', VR ex bs u v' → VR ex cs v v') (motive_2 := fun l m _ => ∀ l', VRs ex bs m l' → VRs ex cs l l')
      (fun b _ h => by cases h; exact .bool b) (fun k n _ h => by cases h; exact .int k n) (fun s _ h => by cases h; exact .string s) (fun _ h => by cases h; exact .nilPtr)
      (fun i j off h0 _ h => by cases h with | ptr _ _ b h => exact .ptr i off b (hx _ _ _ h0 h)) (fun b k off _ h => by cases h with | fptr _ _ r h => exact .fptr k off r h) (fun b k off n c _ h => by cases h with | fslice _ _ _ _ c' r h => exact .fslice k off n c c' r h | fnil => exact .fnil _ _ _ _ _ _) (fun _ h => by cases h; exact .nilSlice)
      (fun i j off n c h0 _ h => by cases h with | slice _ _ _ _ c' b h hc hn => exact .slice i off n c c' b (hx _ _ _ h0 h) hc hn) (fun _ h => by cases h; exact .nilMap)
      (fun fn a a' c c' _ _ h1 h2 _ h => by cases h with | func _ _ _ _ _ g1 g2 => exact .func fn a _ c _ (h1 _ g1) (h2 _ g2)) (fun _ h => by cases h; exact .nilFunc) (fun _ h => by cases h; exact .nilIface)
      (fun t v v' _ h0 _ h => by cases h with | iface _ _ _ h => exact .iface t v _ (h0 _ h)) (fun l l' _ h0 _ h => by cases h with | agg _ _ h => exact .agg l _ (h0 _ h)) (fun l l' _ h0 _ h => by cases h with | tuple _ _ h => exact .tuple l _ (h0 _ h))
      (fun u h0 v' h => .top v' (h.notBool (h0.elim (fun h => h.2) (fun h => by rw [h]; rfl)))) (fun _ h => by cases h; exact .nil) (fun v v' l l' _ _ h1 h2 _ h => by cases h with | cons _ _ _ _ g1 g2 => exact .cons v _ l _ (h1 _ g1) (h2 _ g2)) h
  · intro v v' h
    exact RNs.rec (motive_1 := fun v u _ => ∀ v', VR ex bs u v' → VR ex cs v v') (motive_2 := fun l m _ => ∀ l', VRs ex bs m l' → VRs ex cs l l')
      (fun b _ h => by cases h; exact .bool b) (fun k n _ h => by cases h; exact .int k n) (fun s _ h => by cases h; exact .string s) (fun _ h => by cases h; exact .nilPtr)
      (fun i j off h0 _ h => by cases h with | ptr _ _ b h => exact .ptr i off b (hx _ _ _ h0 h)) (fun b k off _ h => by cases h with | fptr _ _ r h => exact .fptr k off r h) (fun b k off n c _ h => by cases h with | fslice _ _ _ _ c' r h => exact .fslice k off n c c' r h | fnil => exact .fnil _ _ _ _ _ _) (fun _ h => by cases h; exact .nilSlice)
      (fun i j off n c h0 _ h => by cases h with | slice _ _ _ _ c' b h hc hn => exact .slice i off n c c' b (hx _ _ _ h0 h) hc hn) (fun _ h => by cases h; exact .nilMap)
      (fun fn a a' c c' _ _ h1 h2 _ h => by cases h with | func _ _ _ _ _ g1 g2 => exact .func fn a _ c _ (h1 _ g1) (h2 _ g2)) (fun _ h => by cases h; exact .nilFunc) (fun _ h => by cases h; exact .nilIface)
      (fun t v v' _ h0 _ h => by cases h with | iface _ _ _ h => exact .iface t v _ (h0 _ h)) (fun l l' _ h0 _ h => by cases h with | agg _ _ h => exact .agg l _ (h0 _ h)) (fun l l' _ h0 _ h => by cases h with | tuple _ _ h => exact .tuple l _ (h0 _ h))
      (fun u h0 v' h => .top v' (h.notBool (h0.elim (fun h => h.2) (fun h => by rw [h]; rfl)))) (fun _ h => by cases h; exact .nil) (fun v v' l l' _ _ h1 h2 _ h => by cases h with | cons _ _ _ _ g1 g2 => exact .cons v _ l _ (h1 _ g1) (h2 _ g2)) h

/-- What is related to a renamed value: back. -/
theorem VR_back {ps : List Nat} {cs : List Blk} (bs : List Blk) (hx : ∀ (i j : Nat) (b : Blk), ps[i]? = some j → cs[i]? = some b → bs[j]? = some b) :
    (∀ (v u : Value), RN false ps v u → ∀ v', VR ex cs v v' → VR ex bs u v') ∧ (∀ (l m : List Value), RNs false ps l m → ∀ l', VRs ex cs l l' → VRs ex bs m l') := by
  constructor
  · intro v v' h
    exact RN.rec (motive_1 := fun v u _ => ∀ v', VR ex cs v v' → VR ex bs u v') (motive_2 := fun l m _ => ∀ l', VRs ex cs l l' → VRs ex bs m l')
      (fun b _ h => by cases h; exact .bool b) (fun k n _ h => by cases h; exact .int k n) (fun s _ h => by cases h; exact .string s) (fun _ h => by cases h; exact .nilPtr)
      (fun i j off h0 _ h => by cases h with | ptr _ _ b h => exact .ptr j off b (hx _ _ _ h0 h)) (fun b k off _ h => by cases h with | fptr _ _ r h => exact .fptr k off r h) (fun b k off n c _ h => by cases h with | fslice _ _ _ _ c' r h => exact .fslice k off n c c' r h | fnil => exact .fnil _ _ _ _ _ _) (fun _ h => by cases h; exact .nilSlice)
      (fun i j off n c h0 _ h => by cases h with | slice _ _ _ _ c' b h hc hn => exact .slice j off n c c' b (hx _ _ _ h0 h) hc hn) (fun _ h => by cases h; exact .nilMap)
      (fun fn a a' c c' _ _ h1 h2 _ h => by cases h with | func _ _ _ _ _ g1 g2 => exact .func fn a' _ c' _ (h1 _ g1) (h2 _ g2)) (fun _ h => by cases h; exact .nilFunc) (fun _ h => by cases h; exact .nilIface)
      (fun t v v' _ h0 _ h => by cases h with | iface _ _ _ h => exact .iface t v' _ (h0 _ h)) (fun l l' _ h0 _ h => by cases h with | agg _ _ h => exact .agg l' _ (h0 _ h)) (fun l l' _ h0 _ h => by cases h with | tuple _ _ h => exact .tuple l' _ (h0 _ h))
      (fun u h0 v' h => h0.elim (fun h => by cases h.1) (fun h1 => by rw [h1]; exact .top v' (h.notBool rfl))) (fun _ h => by cases h; exact .nil) (fun v v' l l' _ _ h1 h2 _ h => by cases h with | cons _ _ _ _ g1 g2 => exact .cons v' _ l' _ (h1 _ g1) (h2 _ g2)) h
  · intro v v' h
    exact RNs.rec (motive_1 := fun v u _ => ∀ v', VR ex cs v v' → VR ex bs u v') (motive_2 := fun l m _ => ∀ l', VRs ex cs l l' → VRs ex bs m l')
      (fun b _ h => by cases h; exact .bool b) (fun k n _ h => by cases h; exact .int k n) (fun s _ h => by cases h; exact .string s) (fun _ h => by cases h; exact .nilPtr)
      (fun i j off h0 _ h => by cases h with | ptr _ _ b h => exact .ptr j off b (hx _ _ _ h0 h)) (fun b k off _ h => by cases h with | fptr _ _ r h => exact .fptr k off r h) (fun b k off n c _ h => by cases h with | fslice _ _ _ _ c' r h => exact .fslice k off n c c' r h | fnil => exact .fnil _ _ _ _ _ _) (fun _ h => by cases h; exact .nilSlice)
      (fun i j off n c h0 _ h => by cases h with | slice _ _ _ _ c' b h hc hn => exact .slice j off n c c' b (hx _ _ _ h0 h) hc hn) (fun _ h => by cases h; exact .nilMap)
      (fun fn a a' c c' _ _ h1 h2 _ h => by cases h with | func _ _ _ _ _ g1 g2 => exact .func fn a' _ c' _ (h1 _ g1) (h2 _ g2)) (fun _ h => by cases h; exact .nilFunc) (fun _ h => by cases h; exact .nilIface)
      (fun t v v' _ h0 _ h => by cases h with | iface _ _ _ h => exact .iface t v' _ (h0 _ h)) (fun l l' _ h0 _ h => by cases h with | agg _ _ h => exact .agg l' _ (h0 _ h)) (fun l l' _ h0 _ h => by cases h with | tuple _ _ h => exact .tuple l' _ (h0 _ h))
      (fun u h0 v' h => h0.elim (fun h => by cases h.1) (fun h1 => by rw [h1]; exact .top v' (h.notBool rfl))) (fun _ h => by cases h; exact .nil) (fun v v' l l' _ _ h1 h2 _ h => by cases h with | cons _ _ _ _ g1 g2 => exact .cons v' _ l' _ (h1 _ g1) (h2 _ g2)) h

theorem VR.plain1_eq {bs : List Blk} {v v' : Value} (h : VR ex bs v v') (hp : Vx.plain1 v = true) : v' = v := by
  cases h <;> first | rfl | (simp [Vx.plain1] at hp; done)

theorem VRs.plain_eq {bs : List Blk} : ∀ {l l' : List Value}, VRs ex bs l l' → plainAll l = true → l' = l
  | [], _, h, _ => by cases h; rfl
  | v :: r, _, h, hp => by
    cases h with | cons _ v' _ r' h1 h2 =>
    unfold plainAll at hp
    cases hv : Vx.plain1 v with
    | true => simp only [hv] at hp; rw [h1.plain1_eq hv, h2.plain_eq hp]
    | false => simp [hv] at hp

section lists
variable {bs : List Blk}
theorem VRs.length {l l' : List Value} (h : VRs ex bs l l') : l.length = l'.length := by
  induction l generalizing l' with
  | nil => cases h; rfl
  | cons v r ih => cases h with | cons _ _ _ _ _ hs => simp [ih hs]

theorem VRs.get {l l' : List Value} (h : VRs ex bs l l') (i : Nat) (v : Value) (hv : l[i]? = some v) : ∃ v', l'[i]? = some v' ∧ VR ex bs v v' := by
  induction l generalizing l' i with
  | nil => simp at hv
  | cons u r ih => cases h with
    | cons _ u' _ _ h hs => cases i with
      | zero => simp at hv; subst hv; exact ⟨u', rfl, h⟩
      | succ i => exact ih hs i (by simpa using hv)

theorem VRs.of_get {l l' : List Value} (hl : l.length = l'.length) (h : ∀ (i : Nat) (v v' : Value), l[i]? = some v → l'[i]? = some v' → VR ex bs v v') : VRs ex bs l l' := by
  induction l generalizing l' with
  | nil => cases l' with
    | nil => exact .nil
    | cons => simp at hl
  | cons u r ih => cases l' with
    | nil => simp at hl
    | cons u' r' => exact .cons _ _ _ _ (h 0 _ _ rfl rfl) (ih (by simpa using hl) fun i v v' hv hv' => h (i + 1) v v' (by simpa using hv) (by simpa using hv'))

theorem VRs.getD {l l' : List Value} (h : VRs ex bs l l') (i : Nat) {d : Value} (hd : VR ex bs d d) : VR ex bs (l.getD i d) (l'.getD i d) := by
  rw [List.getD_eq_getElem?_getD, List.getD_eq_getElem?_getD]
  cases hv : l[i]? with
  | some v => obtain ⟨v', h1, h2⟩ := h.get i v hv; rw [h1]; exact h2
  | none =>
    have : l'[i]? = none := by rw [List.getElem?_eq_none_iff] at hv ⊢; rw [← h.length]; exact hv
    rw [this]; exact hd

theorem VRs.set {l l' : List Value} (h : VRs ex bs l l') (i : Nat) {v v' : Value} (hv : VR ex bs v v') : VRs ex bs (l.set i v) (l'.set i v') := by
  induction l generalizing l' i with
  | nil => cases h; exact .nil
  | cons u r ih => cases h with
    | cons _ u' _ _ h hs => cases i with
      | zero => exact .cons _ _ _ _ hv hs
      | succ i => exact .cons _ _ _ _ h (ih hs i)

theorem VRs.append {l l' m m' : List Value} (h : VRs ex bs l l') (hm : VRs ex bs m m') : VRs ex bs (l ++ m) (l' ++ m') := by
  induction l generalizing l' with
  | nil => cases h; exact hm
  | cons u r ih => cases h with | cons _ u' _ _ h hs => exact .cons _ _ _ _ h (ih hs)

theorem VRs.take {l l' : List Value} (h : VRs ex bs l l') (n : Nat) : VRs ex bs (l.take n) (l'.take n) := by
  induction n generalizing l l' with
  | zero => exact .nil
  | succ n ih => cases h with
    | nil => exact .nil
    | cons _ _ _ _ h hs => exact .cons _ _ _ _ h (ih hs)

theorem VRs.drop {l l' : List Value} (h : VRs ex bs l l') (n : Nat) : VRs ex bs (l.drop n) (l'.drop n) := by
  induction n generalizing l l' with
  | zero => exact h
  | succ n ih => cases h with
    | nil => exact .nil
    | cons _ _ _ _ h hs => exact ih hs

theorem VRs.replicate (n : Nat) {v v' : Value} (hv : VR ex bs v v') : VRs ex bs (List.replicate n v) (List.replicate n v') := by
  induction n with
  | zero => exact .nil
  | succ n ih => exact .cons _ _ _ _ hv ih

theorem VRs.map {α : Type} (f g : α → Value) (l : List α) (h : ∀ x ∈ l, VR ex bs (f x) (g x)) : VRs ex bs (l.map f) (l.map g) := by
  induction l with
  | nil => exact .nil
  | cons x r ih => exact .cons _ _ _ _ (h x (by simp)) (ih fun y hy => h y (by simp [hy]))
end lists

theorem VR.undef {bs : List Blk} : VR ex bs undef undef := .tuple [] [] .nil

/-- The cells of a value. -/
theorem VR.cells {bs : List Blk} {v v' : Value} (h : VR ex bs v v') (ht : isTop v = false) : VRs ex bs v.cells.toList v'.cells.toList := by
  cases h
  case agg l l' h => exact h
  case top => cases ht
  all_goals exact .cons _ _ _ _ (by constructor <;> assumption) .nil

/-- What a block, and those behind it, have of a memory, or of a run. -/
def payQ (b : Blk) (w : World) : Pay → Prop
  | .mem u => ∃ (x c : Nat) (e e' : TypeId) (t l : List Value), w.heap[b.1]? = some (.cells ⟨[.slice (some ⟨x, 0, none⟩) u.n c, .int .i64 u.clk, .int .i64 u.bad, .int .i64 u.k, .int .i64 u.who, .int .i64 u.at', .int .u64 u.old, .int .u64 u.new, .bool u.dn] ++ t⟩ e (0, 0)) ∧
      9 + t.length = b.2 ∧ x ∈ b.3 ∧ x ≠ b.1 ∧ w.heap[x]? = some (.cells ⟨l⟩ e' (0, 0)) ∧ u.n ≤ c ∧ c ≤ l.length ∧ ∀ i, i < u.n → l[i]? = some (.int .u64 (u.w i))
  | .run r => ∃ (s : Value) (e : TypeId) (t : List Value), w.heap[b.1]? = some (.cells ⟨[s, .int .i64 ((r.n - r.rem.length : Nat) : Int), .bool r.st, .int .i64 r.k, .int .i64 r.who, .int .i64 r.at', .int .u64 r.old, .int .u64 r.new, .bool r.dn, .bool r.sl] ++ t⟩ e (0, 0)) ∧
      10 + t.length = b.2 ∧ (r.n ≤ 1000000 ∧ ∀ i, i < r.n → 0 ≤ r.g i ∧ r.g i < 18446744073709551616) ∧ r.rem.length ≤ r.n ∧ (∀ (j : Nat) (a : Int), r.rem[j]? = some a → r.g (r.n - r.rem.length + j) = a) ∧ match r.nl with
        | true => r.n = 0 ∧ s = .slice none 0 0
        | false => ∃ (x c : Nat) (e' : TypeId) (l : List Value), s = .slice (some ⟨x, 0, none⟩) r.n c ∧ x ∈ b.3 ∧ x ≠ b.1 ∧ w.heap[x]? = some (.cells ⟨l⟩ e' (0, 0)) ∧ r.n ≤ c ∧ c ≤ l.length ∧ ∀ i, i < r.n → l[i]? = some (.int .u64 (r.g i))

theorem payQ_congr {b : Blk} {w w' : World} {p : Pay} (hw : ∀ x, x = b.1 ∨ x ∈ b.3 → w'.heap[x]? = w.heap[x]?) (h : payQ b w p) : payQ b w' p := by
  cases p with
  | mem u =>
    obtain ⟨x, c, e, e', t, l, h1, h2, h3, h4, h5, h6⟩ := h
    exact ⟨x, c, e, e', t, l, (hw _ (.inl rfl)).trans h1, h2, h3, h4, (hw _ (.inr h3)).trans h5, h6⟩
  | run r =>
    obtain ⟨s, e, t, h1, h2, h3, h3', h4, h5⟩ := h
    refine ⟨s, e, t, (hw _ (.inl rfl)).trans h1, h2, h3, h3', h4, ?_⟩
    cases hn : r.nl with
    | true => rw [hn] at h5; exact h5
    | false =>
      rw [hn] at h5
      obtain ⟨x, c, e', l, g1, g2, g3, g4, g5⟩ := h5
      exact ⟨x, c, e', l, g1, g2, g3, (hw _ (.inr g2)).trans g4, g5⟩

/-- What a block of memory has of an object. -/
def Holds (ex : XTab) (bs : List Blk) (w : World) (b : Blk) : VObj → Prop
  | .cells l _ => ∃ (l' t : List Value) (e : TypeId), w.heap[b.1]? = some (.cells ⟨l' ++ t⟩ e (0, 0)) ∧ (l' ++ t).length = b.2 ∧ VRs ex bs l l'
  | .fn n k g _ => ∃ (l' : List Value) (e : TypeId), w.heap[b.1]? = some (.cells ⟨l'⟩ e (0, 0)) ∧ l'.length = b.2 ∧ n ≤ l'.length ∧ ∀ i, i < n → l'[i]? = some (.int k (g i))
  | .dead => True
  | .box q => q.Q b w
  | .pay p => payQ b w p

theorem mem_own {bs : List Blk} {x : Nat} : x ∈ own bs ↔ ∃ b ∈ bs, x = b.1 ∨ x ∈ b.3 := by
  simp [own, Blk.own, List.mem_flatMap]
theorem own_append (bs t : List Blk) : own (bs ++ t) = own bs ++ own t := by simp [own]
theorem own_cons (b : Blk) (t : List Blk) : own (b :: t) = b.1 :: (b.3 ++ own t) := by simp [own, Blk.own]
theorem own_nil : own [] = [] := rfl
theorem own_get {bs : List Blk} {i : Nat} {b : Blk} (h : bs[i]? = some b) : b.1 ∈ own bs := mem_own.2 ⟨b, List.mem_of_getElem? h, .inl rfl⟩
theorem own_of {bs : List Blk} {i x : Nat} {b : Blk} (h : bs[i]? = some b) (hx : x ∈ b.own) : x ∈ own bs := mem_own.2 ⟨b, List.mem_of_getElem? h, by simpa [Blk.own] using hx⟩
theorem own_at {bs : List Blk} {x : Nat} (h : x ∈ own bs) : ∃ (i : Nat) (b : Blk), bs[i]? = some b ∧ x ∈ b.own := by
  obtain ⟨b, hb, hx⟩ := mem_own.1 h
  obtain ⟨i, hi⟩ := List.getElem?_of_mem hb
  exact ⟨i, b, hi, by simpa [Blk.own] using hx⟩

/-- The rows that are only read are there. -/
structure XOK (ex : XTab) (bs : List Blk) (w : World) : Prop where
  lt : ∀ (k : Nat) (r : XRow), ex[k]? = some r → 0 < r.n → r.b < w.heap.size
  out : ∀ (k : Nat) (r : XRow), ex[k]? = some r → 0 < r.n → r.b ∉ own bs
  cell : ∀ (k : Nat) (r : XRow), ex[k]? = some r → ∀ off, r.lo ≤ off → off < r.lo + r.n → w.cell? ⟨r.b, off, none⟩ = some (r.g off) ∧ plain1 (r.g off) = true

def VObj.isDead : VObj → Bool
  | .dead => true
  | _ => false

structure Emb (ex : XTab) (bs : List Blk) (h : VHeap) (w : World) : Prop where
  x : XOK ex bs w
  len : bs.length = h.length
  lto : ∀ x ∈ own bs, x < w.heap.size
  sepo : ∀ (i j : Nat) (b c : Blk) (o q : VObj), bs[i]? = some b → bs[j]? = some c → h[i]? = some o → h[j]? = some q → ∀ x, x ∈ b.own → x ∈ c.own → i = j ∨ o = .dead ∨ q = .dead
  holds : ∀ (i : Nat) (b : Blk) (o : VObj), bs[i]? = some b → h[i]? = some o → Holds ex bs w b o

theorem Blk.own1 (b : Blk) : b.1 ∈ b.own := List.mem_cons_self

theorem Emb.lt {bs : List Blk} {h : VHeap} {w : World} (e : Emb ex bs h w) (b : Blk) (hb : b ∈ bs) : b.1 < w.heap.size := e.lto _ (mem_own.2 ⟨b, hb, .inl rfl⟩)
theorem Emb.sep {bs : List Blk} {h : VHeap} {w : World} (e : Emb ex bs h w) (i j : Nat) (b c : Blk) (o q : VObj) (hb : bs[i]? = some b) (hc : bs[j]? = some c) (ho : h[i]? = some o) (hq : h[j]? = some q) (hbc : b.1 = c.1) : i = j ∨ o = .dead ∨ q = .dead :=
  e.sepo i j b c o q hb hc ho hq b.1 b.own1 (by rw [hbc]; exact c.own1)

theorem Emb.at {bs : List Blk} {h : VHeap} {w : World} (e : Emb ex bs h w) {i : Nat} {b : Blk} (hb : bs[i]? = some b) : ∃ o, h[i]? = some o ∧ Holds ex bs w b o := by
  have hlt : i < h.length := by rw [← e.len]; exact (List.getElem?_eq_some_iff.1 hb).1
  exact ⟨h[i], List.getElem?_eq_getElem hlt, e.holds i b _ hb (List.getElem?_eq_getElem hlt)⟩

theorem Holds.congrO {bs : List Blk} {w w' : World} {b : Blk} {o : VObj} (hw : ∀ x ∈ b.own, w'.heap[x]? = w.heap[x]?) (h : Holds ex bs w b o) : Holds ex bs w' b o := by
  have hw1 := hw b.1 b.own1
  cases o with
  | cells l e => obtain ⟨l', t, e', h, r⟩ := h; exact ⟨l', t, e', hw1.trans h, r⟩
  | fn n k g e => obtain ⟨l', e', h, r⟩ := h; exact ⟨l', e', hw1.trans h, r⟩
  | dead => trivial
  | box q => exact q.loc _ w w' hw h
  | pay p => exact payQ_congr (fun x hx => hw x (by simpa [Blk.own] using hx)) h

theorem Holds.mono {bs bs' : List Blk} (hx : ∀ (i : Nat) (b : Blk), bs[i]? = some b → ∃ b', bs'[i]? = some b' ∧ b'.1 = b.1 ∧ b'.2 = b.2) {w : World} {b : Blk} {o : VObj} (h : Holds ex bs w b o) : Holds ex bs' w b o := by
  cases o with
  | cells l e => obtain ⟨l', u, e', h, hl, r⟩ := h; exact ⟨l', u, e', h, hl, (VR_VRs_mono bs' hx).2 _ _ r⟩
  | fn n k g e => obtain ⟨l', e', h, r⟩ := h; exact ⟨l', e', h, r⟩
  | dead => trivial
  | box q => exact h
  | pay p => exact h
theorem Holds.ext {bs : List Blk} (t : List Blk) {w : World} {b : Blk} {o : VObj} (h : Holds ex bs w b o) : Holds ex (bs ++ t) w b o := h.mono ext_get

/-- How memory may have changed: new blocks, and blocks of the list; the outside world not. -/
structure Grow (bs : List Blk) (w : World) (bs' : List Blk) (w' : World) : Prop where
  ext : ∀ (i : Nat) (b : Blk), bs[i]? = some b → ∃ b', bs'[i]? = some b' ∧ b'.1 = b.1 ∧ b'.2 = b.2
  mem : ∀ x ∈ own bs', x ∈ own bs ∨ w.heap.size ≤ x
  size : w.heap.size ≤ w'.heap.size
  same : ∀ b, b < w.heap.size → b ∉ own bs → w'.heap[b]? = w.heap[b]?
  os : w'.os = w.os
  output : w'.output = w.output
  tape : w'.tape = w.tape

theorem Grow.refl (bs : List Blk) (w : World) : Grow bs w bs w := ⟨fun _ b h => ⟨b, h, rfl, rfl⟩, fun _ h => .inl h, Nat.le_refl _, fun _ _ _ => rfl, rfl, rfl, rfl⟩

theorem Grow.trans {bs bs1 bs2 : List Blk} {w w1 w2 : World} (h : Grow bs w bs1 w1) (h' : Grow bs1 w1 bs2 w2) : Grow bs w bs2 w2 := by
  refine ⟨?_, ?_, Nat.le_trans h.size h'.size, ?_, h'.os.trans h.os, h'.output.trans h.output, h'.tape.trans h.tape⟩
  · intro i b hb
    obtain ⟨b1, g1, g2, g3⟩ := h.ext i b hb
    obtain ⟨b2, k1, k2, k3⟩ := h'.ext i b1 g1
    exact ⟨b2, k1, k2.trans g2, k3.trans g3⟩
  · intro x hx
    rcases h'.mem x hx with hu | hu
    · exact h.mem x hu
    · exact .inr (Nat.le_trans h.size hu)
  · intro b hb hn
    rw [h'.same b (Nat.lt_of_lt_of_le hb h.size) ?_, h.same b hb hn]
    intro hmm
    rcases h.mem b hmm with h | h
    · exact hn h
    · exact absurd h (Nat.not_le.2 hb)

theorem Grow.vr {bs bs' : List Blk} {w w' : World} (h : Grow bs w bs' w') {v v' : Value} (hv : VR ex bs v v') : VR ex bs' v v' := (VR_VRs_mono bs' h.ext).1 _ _ hv
theorem Grow.vrs {bs bs' : List Blk} {w w' : World} (h : Grow bs w bs' w') {v v' : List Value} (hv : VRs ex bs v v') : VRs ex bs' v v' := (VR_VRs_mono bs' h.ext).2 _ _ hv

theorem Grow.drew (bs : List Blk) (w : World) : Grow bs w bs { w with drawn := w.drawn + 1 } := ⟨fun _ b h => ⟨b, h, rfl, rfl⟩, fun _ h => .inl h, Nat.le_refl _, fun _ _ _ => rfl, rfl, rfl, rfl⟩
theorem cell_congr {w w' : World} {b : Nat} (h : w'.heap[b]? = w.heap[b]?) (off : Nat) : w'.cell? ⟨b, off, none⟩ = w.cell? ⟨b, off, none⟩ := by
  simp [World.cell?, h]

/-- What leaves their blocks alone leaves the rows alone. -/
theorem XOK.keep {bs bs' : List Blk} {w w' : World} (hx : XOK ex bs w) (hs : w.heap.size ≤ w'.heap.size) (h : ∀ b, b < w.heap.size → b ∉ own bs → w'.heap[b]? = w.heap[b]?) (hb : ∀ b, b ∈ own bs' → b ∈ own bs ∨ w.heap.size ≤ b) : XOK ex bs' w' where
  lt := fun k r hk hn => Nat.lt_of_lt_of_le (hx.lt k r hk hn) hs
  out := fun k r hk hn hm => by
    rcases hb _ hm with h1 | h1
    · exact hx.out k r hk hn h1
    · exact absurd (hx.lt k r hk hn) (Nat.not_lt.2 h1)
  cell := fun k r hk off h1 h2 => by
    rw [cell_congr (h _ (hx.lt k r hk (by omega)) (hx.out k r hk (by omega)))]; exact hx.cell k r hk off h1 h2

theorem Emb.drew {bs : List Blk} {h : VHeap} {w : World} (e : Emb ex bs h w) : Emb ex bs h { w with drawn := w.drawn + 1 } :=
  ⟨e.x.keep (Nat.le_refl _) (fun _ _ _ => rfl) (fun _ h => .inl h), e.len, e.lto, e.sepo, fun i b o hb ho => Holds.congrO (w := w) (fun _ _ => rfl) (e.holds i b o hb ho)⟩

/-- A new block. -/
theorem Emb.push {bs : List Blk} {h : VHeap} {w : World} (e : Emb ex bs h w) (o : VObj) (l' : List Value) (t : TypeId) (ho : ∀ w' : World, w'.heap[w.heap.size]? = some (.cells ⟨l'⟩ t) → Holds ex bs w' ⟨w.heap.size, l'.length, []⟩ o) :
    Emb ex (bs ++ [⟨w.heap.size, l'.length, []⟩]) (h ++ [o]) { w with heap := w.heap.push (.cells ⟨l'⟩ t) } := by
  have hsplit : ∀ (i : Nat) (b : Blk) (q : VObj), (bs ++ [(⟨w.heap.size, l'.length, []⟩ : Blk)])[i]? = some b → (h ++ [o])[i]? = some q → (bs[i]? = some b ∧ h[i]? = some q) ∨ (i = bs.length ∧ b = ⟨w.heap.size, l'.length, []⟩ ∧ q = o) := by
    intro i b q hb hq
    rcases Nat.lt_or_ge i bs.length with hlt | hge
    · rw [List.getElem?_append_left hlt] at hb
      rw [List.getElem?_append_left (by rw [← e.len]; exact hlt)] at hq
      exact .inl ⟨hb, hq⟩
    · rw [List.getElem?_append_right hge] at hb
      rw [List.getElem?_append_right (by rw [← e.len]; exact hge)] at hq
      have h0 : i - bs.length = 0 := by
        rcases Nat.eq_zero_or_pos (i - bs.length) with h | h
        · exact h
        · rw [List.getElem?_eq_none (by simp; omega)] at hb; cases hb
      rw [h0] at hb
      rw [← e.len, h0] at hq
      simp at hb hq
      exact .inr ⟨by omega, hb.symm, hq.symm⟩
  refine ⟨e.x.keep (by simp) (fun b hb _ => by simp [Array.getElem?_push, Nat.ne_of_lt hb]) (fun b hb => by
    rw [own_append] at hb
    rcases List.mem_append.1 hb with h | h
    · exact .inl h
    · right; simp [own, Blk.own] at h; omega), by simp [e.len], ?_, ?_, ?_⟩
  · intro b hb
    rw [own_append] at hb
    rcases List.mem_append.1 hb with h | h
    · have := e.lto b h; simp; omega
    · simp [own, Blk.own] at h; subst h; simp
  · intro i j b c p q hb hc hp hq x hx1 hx2
    rcases hsplit i b p hb hp with ⟨h1, h2⟩ | ⟨h1, h2, h3⟩
    · rcases hsplit j c q hc hq with ⟨g1, g2⟩ | ⟨g1, g2, g3⟩
      · exact e.sepo i j b c p q h1 g1 h2 g2 x hx1 hx2
      · have := e.lto x (own_of h1 hx1); rw [g2] at hx2; simp [Blk.own] at hx2; omega
    · rcases hsplit j c q hc hq with ⟨g1, g2⟩ | ⟨g1, g2, g3⟩
      · have := e.lto x (own_of g1 hx2); rw [h2] at hx1; simp [Blk.own] at hx1; omega
      · exact .inl (by omega)
  · intro i b q hb hq
    rcases hsplit i b q hb hq with ⟨h1, h2⟩ | ⟨h1, h2, h3⟩
    · refine Holds.congrO ?_ ((e.holds i b q h1 h2).ext _)
      intro x hx
      have := e.lto x (own_of h1 hx)
      simp [Array.getElem?_push, Nat.ne_of_lt this]
    · subst h2; subst h3
      exact (ho _ (by simp)).ext _

theorem Grow.push (bs : List Blk) (w : World) (o : Obj) (n : Nat) : Grow bs w (bs ++ [⟨w.heap.size, n, []⟩]) { w with heap := w.heap.push o } :=
  ⟨fun _ b h => ext_get _ b h, fun x hx => by rw [own_append] at hx; simp [own_cons, own_nil] at hx; rcases hx with h | h; exact .inl h; right; omega, by simp, fun b hb _ => by simp [Array.getElem?_push, Nat.ne_of_lt hb], rfl, rfl, rfl⟩

end Go.Vx
