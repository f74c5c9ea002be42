/- The operations on the virtual heap, and that memory goes the same way. -/
import Derived.Test.YtmngemjclljpiaaGreatVxA
namespace Go.Vx

inductive Hint where
  | val (f t : Nat) (v v' : Value) (h : v = v')
  | fact (f t : Nat) (q : Prop) (h : q)
  | give (f : Nat) (v : Value) (q : Prop) (h : q)

def Hint.q : Hint → Prop
  | .val _ _ v _ _ => v = v
  | .fact _ _ q _ => q
  | .give _ _ q _ => q

theorem Hint.holds : ∀ h : Hint, h.q
  | .val _ _ _ _ _ => rfl
  | .fact _ _ _ h => h
  | .give _ _ _ h => h

structure XS where
  heap : VHeap
  hints : List Hint
  ob : Prop
  log : List Nat

structure Cfg where
  ext : XTab
  spec : FuncId → Option (Bool × (Value → List Value → VHeap → Option (Value × VHeap × Bool × List Nat)))
  acc : FuncId → Option (TypeId × Nat)
  dyn : FuncId → Bool
  ok : FuncId → Bool
  ro : FuncId → Bool
  callable : FuncId → Bool
  meth : TypeId → String → Option FuncId
  asserts : TypeId → TypeId → Option Bool
  rounds : Nat

def setCells : List Value → Nat → List Value → List Value
  | l, _, [] => l
  | l, off, v :: r => setCells (l.set off v) (off + 1) r

def vfill (place : Nat → Option (Nat × Nat)) : List Value → List (Nat × Value) → Option (List Value)
  | cells, [] => some cells
  | cells, (i, v) :: rest =>
    match place i with
    | none => none
    | some (off, size) =>
      match Nat.beq v.cells.toList.length size && Nat.ble (off + v.cells.toList.length) cells.length && !isTop v with
      | true => vfill place (setCells cells off v.cells.toList) rest
      | false => none

def VObj.cell : VObj → Nat → Option (Value × Bool)
  | .cells l _, off => match l[off]? with
    | some v => some (v, true)
    | none => none
  | .fn n k g _, off => some (.int k (g off), decide (off < n))
  | .dead, _ => none
  | .box _, _ => none
  | .pay (.run r), off => match off with
    | 2 => some (.bool r.st, true)
    | _ => none
  | .pay (.mem u), off => match off with
    | 1 => some (.int .i64 u.clk, true)
    | 2 => some (.int .i64 u.bad, true)
    | 3 => some (.int .i64 u.k, true)
    | 4 => some (.int .i64 u.who, true)
    | 5 => some (.int .i64 u.at', true)
    | 6 => some (.int .u64 u.old, true)
    | 7 => some (.int .u64 u.new, true)
    | 8 => some (.bool u.dn, true)
    | _ => none

def VObj.row : VObj → Nat → Nat → Option (Value × Bool)
  | .cells l _, off, n => match Nat.ble (off + n) l.length with
    | true => some (.agg ⟨(l.drop off).take n⟩, true)
    | false => none
  | .fn N k g _, off, n => some (.agg ⟨(List.range n).map fun j => .int k (g (off + j))⟩, decide (off + n ≤ N))
  | .dead, _, _ => none
  | .box _, _, _ => none
  | .pay (.run _), _, _ => none
  | .pay (.mem u), off, n => match Nat.beq off 3 && Nat.beq n 6 with
    | true => some (.agg ⟨[.int .i64 u.k, .int .i64 u.who, .int .i64 u.at', .int .u64 u.old, .int .u64 u.new, .bool u.dn]⟩, true)
    | false => none

def aggT (P : Program) (t : TypeId) : Option Bool :=
  match P.underlying t with
  | some (.struct _) => some true
  | some (.array _ _) => some true
  | some _ => some false
  | none => none

def sizeT (P : Program) (t : TypeId) : Option Nat :=
  match P.info? t with
  | some i => some i.size
  | none => none

def zeroT (P : Program) (t : TypeId) : Option Value :=
  match P.info? t with
  | some i => match i.zero with
    | some v => match plain v with
      | true => some v
      | false => none
    | none => none
  | none => none

def xcell (r : XRow) (off : Nat) : Value × Bool := (r.g off, decide (r.lo ≤ off ∧ off < r.lo + r.n))

def xrow (r : XRow) (off n : Nat) : Value × Bool := (.agg ⟨(List.range n).map fun j => r.g (off + j)⟩, decide (r.lo ≤ off ∧ off + n ≤ r.lo + r.n))

def vload (P : Program) (ex : XTab) (t : TypeId) (h : VHeap) : Value → Option (Value × Bool)
  | .pointer (some ⟨_, off, some k⟩) =>
    match ex[k]? with
    | none => none
    | some r => match aggT P t with
      | some true => match sizeT P t with
        | some n => some (xrow r off n)
        | none => none
      | some false => some (xcell r off)
      | none => none
  | .pointer (some ⟨i, off, none⟩) =>
    match h[i]? with
    | none => none
    | some o => match aggT P t with
      | some true => match sizeT P t with
        | some n => o.row off n
        | none => none
      | some false => o.cell off
      | none => none
  | _ => none

def one : Value → Bool
  | .agg _ | .tuple _ | .chan _ => false
  | _ => true

def oneAll : List Value → Bool
  | [] => true
  | v :: r => match one v with
    | true => oneAll r
    | false => false

def vstore (P : Program) (t : TypeId) (h : VHeap) (a v : Value) : Option (VHeap × Bool) :=
  match a with
  | .pointer (some ⟨i, off, none⟩) =>
    match h[i]?, sizeT P t with
    | some (.cells l e), some n => match Nat.beq v.cells.toList.length n && Nat.ble (off + n) l.length && oneAll v.cells.toList with
      | true => some (h.set i (.cells (setCells l off v.cells.toList) e), true)
      | false => none
    | some (.fn N k g e), some n => match v with
      | .int k' x => match Nat.beq n 1 && decide (k' = k) with
        | true => some (h.set i (.fn N k (fun j => if j = off then x else g j) e), decide (off < N))
        | false => none
      | _ => none
    | _, _ => none
  | _ => none

def isPtrT (P : Program) (t : TypeId) : Bool :=
  match P.underlying t with
  | some (.pointer e) => match sizeT P e with
    | some 0 => false
    | some _ => true
    | none => false
  | _ => false

def isIfaceT (P : Program) (t : TypeId) : Bool :=
  match P.underlying t with
  | some (.interface _) => true
  | _ => false

def isBoolT (P : Program) (t : TypeId) : Bool :=
  match P.underlying t with
  | some .bool => true
  | _ => false

def isSliceT (P : Program) (t : TypeId) : Bool :=
  match P.underlying t with
  | some (.slice _) => true
  | _ => false

def isConst : Operand → Bool
  | .const _ => true
  | _ => false

/-- Structs of numbers and booleans. -/
def veqFlat (P : Program) : List Field → List Value → List Value → Option Bool
  | [], _, _ => some true
  | f :: r, xs, ys => match f.name == "_", P.underlying f.type, xs[f.offset]?, ys[f.offset]?, veqFlat P r xs ys with
    | false, some .bool, some (.bool a), some (.bool b), some q => some ((a == b) && q)
    | false, some (.int _), some (.int k a), some (.int k' b), some q => match decide (k = k') with
      | true => some ((a == b) && q)
      | false => none
    | _, _, _, _, _ => none

/-- Are two values alike? (Booleans, pointers, interfaces against the literal nil.) -/
def veq (P : Program) (t : TypeId) (lit : Bool) : Value → Value → Option Bool
  | .bool a, .bool b => match isBoolT P t with
    | true => some (a == b)
    | false => none
  | .pointer none, .pointer none => match isPtrT P t with
    | true => some true
    | false => none
  | .pointer none, .pointer (some _) => match isPtrT P t with
    | true => some false
    | false => none
  | .pointer (some _), .pointer none => match isPtrT P t with
    | true => some false
    | false => none
  | .nilIface, .nilIface => match isIfaceT P t && lit with
    | true => some true
    | false => none
  | .iface _ _, .nilIface => match isIfaceT P t with
    | true => some false
    | false => none
  | .nilIface, .iface _ _ => match isIfaceT P t with
    | true => some false
    | false => none
  | .slice none 0 0, .slice none 0 0 => match isSliceT P t with
    | true => some true
    | false => none
  | .slice (some ⟨_, _, none⟩) _ _, .slice none 0 0 => match isSliceT P t with
    | true => some false
    | false => none
  | .agg ⟨l⟩, .agg ⟨m⟩ => match P.eqGuardType P.depth t, P.stoodInHeld t, P.underlying t with
    | false, false, some (.struct fs) => veqFlat P fs.toList l m
    | _, _, _ => none
  | _, _ => none

def vbinInt (op : BinOp) (k : IntKind) (x y : Int) : Option (Value × Bool) :=
  match op with
  | .add => some (.int k (k.wrap (x + y)), true)
  | .sub => some (.int k (k.wrap (x - y)), true)
  | .mul => some (.int k (k.wrap (x * y)), true)
  | .quo => some (.int k (k.wrap (x.tdiv y)), !decide (y = 0))
  | .rem => some (.int k (x.tmod y), !decide (y = 0))
  | .and => some (.int k (k.wrap (BitVec.ofInt k.bits x &&& BitVec.ofInt k.bits y).toNat), true)
  | .or => some (.int k (k.wrap (BitVec.ofInt k.bits x ||| BitVec.ofInt k.bits y).toNat), true)
  | .xor => some (.int k (k.wrap (BitVec.ofInt k.bits x ^^^ BitVec.ofInt k.bits y).toNat), true)
  | .andNot => some (.int k (k.wrap (BitVec.ofInt k.bits x &&& ~~~ BitVec.ofInt k.bits y).toNat), true)
  | .eql => some (.bool (x == y), true)
  | .neq => some (.bool (x != y), true)
  | .lss => some (.bool (x < y), true)
  | .leq => some (.bool (x ≤ y), true)
  | .gtr => some (.bool (x > y), true)
  | .geq => some (.bool (x ≥ y), true)
  | _ => none

def vbin (P : Program) (op : BinOp) (t : TypeId) (lit : Bool) (x y : Value) : Option (Value × Bool) :=
  match op, x, y with
  | .shl, .int k a, .int _ b => some (.int k (k.wrap (a * 2 ^ (min b.toNat k.bits))), !decide (b < 0))
  | .shr, .int k a, .int _ b => some (.int k (a.fdiv (2 ^ (min b.toNat k.bits))), !decide (b < 0))
  | .eql, .int k a, .int k' b => match decide (k = k') with
    | true => vbinInt .eql k a b
    | false => none
  | .neq, .int k a, .int k' b => match decide (k = k') with
    | true => vbinInt .neq k a b
    | false => none
  | .eql, x, y => match veq P t lit x y with
    | some b => some (.bool b, true)
    | none => none
  | .neq, x, y => match veq P t lit x y with
    | some b => some (.bool (!b), true)
    | none => none
  | op, .int k a, .int k' b => match decide (k = k') with
    | true => vbinInt op k a b
    | false => none
  | _, _, _ => none

def vpart (P : Program) (t : TypeId) (l : List Value) (off : Nat) : Option Value :=
  match aggT P t with
  | some true => match sizeT P t with
    | some n => some (.agg ⟨(l.take (off + n)).drop off⟩)
    | none => none
  | some false => l[off]?
  | none => none

def places (P : Program) : List Field → Option (List (Nat × Nat))
  | [] => some []
  | f :: r => match sizeT P f.type with
    | some n => match places P r with
      | some l => some ((f.offset, n) :: l)
      | none => none
    | none => none

def fieldOf (P : Program) (s : TypeId) (i : Nat) : Option Field :=
  match P.underlying s with
  | some (.struct fs) => fs.toList[i]?
  | _ => none

/-- The operations that neither look at memory nor change it. -/
def vopS (P : Program) (cfg : Cfg) (ρ : Operand → Value) : Op → Option (Value × Bool)
  | .move x => some (ρ x, true)
  | .assign x => some (ρ x, true)
  | .pick c a b => match ρ c with
    | .bool true => some (ρ a, true)
    | .bool false => some (ρ b, true)
    | _ => none
  | .nilCheck x => match ρ x with
    | .pointer (some a) => some (.pointer (some a), true)
    | _ => none
  | .binOp op t x y _ => vbin P op t (isConst x || isConst y) (ρ x) (ρ y)
  | .unOp .not _ x => match ρ x with
    | .bool b => some (.bool (!b), true)
    | _ => none
  | .unOp .neg _ x => match ρ x with
    | .int k n => some (.int k (k.wrap (0 - n)), true)
    | _ => none
  | .convert src dst x => match P.underlying src, P.underlying dst, ρ x with
    | some (.int _), some (.int k), .int _ n => some (.int k (k.wrap n), true)
    | _, _, _ => none
  | .makeInterface t x => match P.underlying t with
    | some (.pointer _) => some (.iface t (ρ x), true)
    | _ => none
  | .makeFunc (.func f) a c => some (.func (.func f) ⟨a.toList.map ρ⟩ ⟨c.toList.map ρ⟩, true)
  | .fieldAddr s x i => match fieldOf P s i, ρ x with
    | some f, .pointer (some ⟨j, o, sp⟩) => match sizeT P f.type with
      | some 0 => none
      | some _ => some (.pointer (some ⟨j, o + f.offset, sp⟩), true)
      | none => none
    | _, _ => none
  | .field s x i => match fieldOf P s i, ρ x with
    | some f, .agg ⟨l⟩ => match vpart P f.type l f.offset with
      | some v => some (v, true)
      | none => none
    | _, _ => none
  | .indexAddr t x i => match P.underlying t, ρ x, ρ i with
    | some (.slice e), .slice (some ⟨j, o, sp⟩) n _, .int _ k => match sizeT P e with
      | some m => some (.pointer (some ⟨j, o + k.toNat * m, sp⟩), decide (0 ≤ k ∧ k < n))
      | none => none
    | _, _, _ => none
  | .extract x i => match ρ x with
    | .tuple ⟨l⟩ => match l[i]? with
      | some v => some (v, true)
      | none => none
    | _ => none
  | .build t parts => match P.underlying t, zeroT P t with
    | some (.struct fs), some z => match places P fs.toList with
      | some ps => match vfill (fun i => ps[i]?) z.cells.toList (parts.toList.map fun p => (p.1, ρ p.2)) with
        | some l => some (.agg ⟨l⟩, true)
        | none => none
      | none => none
    | _, _ => none
  | .typeAssert x xt a true => match P.underlying a, zeroT P a, ρ x with
    | some (.interface _), some z, .nilIface => some (.tuple ⟨[z, .bool false]⟩, true)
    | some (.interface _), some z, .iface t v => match cfg.asserts a t with
      | some true => some (.tuple ⟨[.iface t v, .bool true]⟩, true)
      | some false => some (.tuple ⟨[z, .bool false]⟩, true)
      | none => none
    | _, _, _ => none
  | .call { callee := .builtin .len, args, argTypes } => match argTypes.toList, args.toList with
    | t :: _, x :: _ => match P.underlying t, ρ x with
      | some (.slice _), .slice _ n _ => some (.int .i64 n, true)
      | _, _ => none
    | _, _ => none
  | .call { callee := .builtin .min, args, argTypes } => match args.toList.map ρ with
    | [.int k x, .int _ y] => some (.int k (if y < x then y else x), true)
    | [.int k x, .int _ y, .int _ z] => some (.int k (if z < (if y < x then y else x) then z else (if y < x then y else x)), true)
    | _ => none
  | _ => none

def zeroCells (z : List Value) : Nat → List Value
  | 0 => []
  | n + 1 => z ++ zeroCells z n

def bytesT (P : Program) (t : TypeId) : Option Nat :=
  match P.info? t with
  | some i => some i.bytes
  | none => none

def intT? (P : Program) (t : TypeId) : Option IntKind :=
  match P.underlying t with
  | some (.int k) => some k
  | _ => none

/-- What an operation makes: the object, and the value that has its number. -/
inductive Made where
  | ptr
  | slice (n sz : Nat)

/-- The operations that make a block: the object, and the value. -/
def vopN (P : Program) (ρ : Operand → Value) : Op → Option (VObj × Made × Bool)
  | .alloc t => match zeroT P t with
    | some z => some (.cells z.cells.toList t, .ptr, true)
    | none => none
  | .box t x => match isTop (ρ x) with
    | false => some (.cells (ρ x).cells.toList t, .ptr, true)
    | true => none
  | .buildSlice t len parts => match P.underlying t with
    | some (.slice e) => match sizeT P e, zeroT P e with
      | some n, some z => match Nat.beq z.cells.toList.length n && Nat.ble (len * n) 1000 with
        | true => match vfill (fun i => some (i * n, n)) (zeroCells z.cells.toList len) (parts.toList.map fun p => (p.1, ρ p.2)) with
          | some l => some (.cells l e, .slice len n, true)
          | none => none
        | false => none
      | _, _ => none
    | _ => none
  | .makeSlice t l c => match P.underlying t, ρ l, ρ c with
    | some (.slice e), .int .i64 n, .int .i64 _ => match intT? P e, sizeT P e, bytesT P e, zeroT P e with
      | some k, some 1, some by', some (.int k' 0) => match isSame l c && decide (k = k') && Nat.ble by' 8 with
        | true => some (.fn n.toNat k (fun _ => 0) e, .slice n.toNat 1, decide (0 ≤ n ∧ n ≤ 1000000))
        | false => none
      | _, _, _, _ => none
    | _, _, _ => none
  | _ => none
  where
  isSame : Operand → Operand → Bool
    | .tmp a, .tmp b => Nat.beq a b
    | _, _ => false

/-- What a slice has: nothing, numbers, or cells. -/
inductive Row where
  | nums (n : Nat) (k : IntKind) (g : Nat → Int)
  | cells (l : List Value)

/-- The first n elements, each of sz cells, of a slice at a place of an object. -/
def rowOf : VObj → Nat → Nat → Nat → Option (Row × Bool)
  | .cells l _, off, n, sz => match Nat.ble (off + n * sz) l.length with
    | true => some (.cells ((l.drop off).take (n * sz)), true)
    | false => none
  | .fn N k g _, off, n, sz => match Nat.beq sz 1 && Nat.beq off 0 with
    | true => some (.nums n k g, Nat.ble n N)
    | false => none
  | .dead, _, _, _ => none
  | .box _, _, _, _ => none
  | .pay _, _, _, _ => none

/-- Rows one behind the other. -/
def joined (sz : Nat) : Row → Row → Option Row
  | .cells a, .cells b => some (.cells (a ++ b))
  | .nums n k g, .cells [.int k' x] => match decide (k = k') && Nat.beq sz 1 with
    | true => some (.nums (n + 1) k (fun j => if j = n then x else g j))
    | false => none
  | .nums n k g, .nums m k' g' => match decide (k = k') && Nat.beq sz 1 with
    | true => some (.nums (n + m) k (fun j => if j < n then g j else g' (j - n)))
    | false => none
  | .cells [], .nums m k g => some (.nums m k g)
  | _, _ => none

def Row.obj : Row → TypeId → VObj
  | .nums n k g, e => .fn n k g e
  | .cells l, e => .cells l e

/-- A slice's row: nil has none. -/
def sliceRow (h : VHeap) (sz : Nat) : Value → Option (Row × Nat × Bool × Option Nat)
  | .slice none 0 0 => some (.cells [], 0, true, none)
  | .slice (some ⟨i, off, none⟩) n c => match Nat.beq c sz with
    | true => match h[i]? with
      | some o => match rowOf o off n sz with
        | some (r, b) => some (r, n, b, some i)
        | none => none
      | none => none
    | false => none
  | _ => none

def baseOK : Value → Bool
  | .slice none 0 0 => true
  | .slice (some ⟨_, 0, none⟩) _ _ => true
  | _ => false

def Row.one : Row → Bool
  | .nums _ _ _ => true
  | .cells l => oneAll l

/-- append: a new object; nothing more is told of the old one. -/
def vappend (P : Program) (h : VHeap) (ts : List TypeId) (s x : Value) : Option (Value × VHeap × Bool × List Nat) :=
  match ts with
  | [t, t'] => match Nat.beq t t', P.underlying t with
    | true, some (.slice e) => match sizeT P e, bytesT P e, zeroT P e with
      | some sz, some by', some z => match Nat.beq z.cells.toList.length sz && Nat.ble 1 sz && Nat.ble by' 64 && oneAll z.cells.toList && plainAll z.cells.toList with
        | true => match sliceRow h sz s, sliceRow h sz x with
          | some (r1, n, b1, i), some (r2, m, b2, _) => match joined sz r1 r2, baseOK s && r2.one with
            | some r, true =>
              some (.slice (some ⟨h.length, 0, none⟩) (n + m) sz, (match i with | some i => h.set i .dead | none => h) ++ [r.obj e], b1 && b2 && Nat.ble (n + m) 1000000 && Nat.ble 1 m, match i with | some i => [i] | none => [])
            | _, _ => none
          | _, _ => none
        | false => none
      | _, _, _ => none
    | _, _ => none
  | _ => none

end Go.Vx
