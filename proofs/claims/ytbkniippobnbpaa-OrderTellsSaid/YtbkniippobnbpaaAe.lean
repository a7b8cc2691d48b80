/-
  A deterministic evaluator for calls of a loaded Go program, over a memory of its own (canonical block numbers, canonical capacities).
-/
import Derived.Calls
import Derived.Orders
namespace Go.Ae

/-! ### Tries keyed by numbers -/

inductive T (α : Type) where
  | nil
  | node (l : T α) (v : Option α) (r : T α)

namespace T
variable {α : Type}

def get : T α → Nat → Option α
  | .nil, _ => none
  | .node l v r, i => bif Nat.beq i 0 then v else bif Nat.beq (i % 2) 1 then l.get (i / 2) else r.get (i / 2 - 1)

def setF : Nat → T α → Nat → α → T α
  | 0, t, _, _ => t
  | f + 1, t, i, x =>
    match t with
    | .nil => bif Nat.beq i 0 then .node .nil (some x) .nil else bif Nat.beq (i % 2) 1 then .node (setF f .nil (i / 2) x) none .nil else .node .nil none (setF f .nil (i / 2 - 1) x)
    | .node l v r => bif Nat.beq i 0 then .node l (some x) r else bif Nat.beq (i % 2) 1 then .node (setF f l (i / 2) x) v r else .node l v (setF f r (i / 2 - 1) x)

def set (t : T α) (i : Nat) (x : α) : T α := setF (i + 1) t i x

def tabF : Nat → Nat → (Nat → α) → T α
  | 0, _, _ => .nil
  | f + 1, n, g =>
    match n with
    | 0 => .nil
    | m + 1 => .node (tabF f ((m + 1) / 2) fun k => g (2 * k + 1)) (some (g 0)) (tabF f (m / 2) fun k => g (2 * k + 2))

def tab (n : Nat) (g : Nat → α) : T α := tabF n n g

end T

/-! ### Values -/

inductive CV where
  | bool (b : Bool)
  | int (k : IntKind) (n : Int)
  | str (s : List Nat)
  | ptr (b o : Nat)
  | nilptr
  | slice (b o len cap : Nat)
  | nilslice
  | map (b : Nat)
  | nilmap
  | func (fn : Fn) (first captured : List CV)
  | nilFunc
  | iface (t : TypeId) (v : CV)
  | nilIface
  | agg (l : List CV)
  | tuple (l : List CV)

instance : Inhabited CV := ⟨.nilptr⟩

inductive CObj where
  | cells (cs : T CV) (n : Nat) (ex : Bool) (esz : Nat) (lim : Nat) (strg : Bool) (ty : TypeId)
  | map (es : List (CV × CV × Nat)) (clock : Nat)
  | iter (s : List Nat) (pos : Nat)
  | dead

structure St where
  h : T CObj
  nx : Nat

/-- Numbers brought to literals before they go on. -/
def fnat {α : Type} (n : Nat) (k : Nat → α) : α := Nat.rec (k 0) (fun p _ => k (p + 1)) n
def fint {α : Type} (n : Int) (k : Int → α) : α :=
  match n with
  | .ofNat m => fnat m fun m => k (.ofNat m)
  | .negSucc m => fnat m fun m => k (.negSucc m)

def mapO {α β : Type} (f : α → Option β) : List α → Option (List β)
  | [] => some []
  | x :: xs => match f x with
    | none => none
    | some y => match mapO f xs with
      | none => none
      | some ys => some (y :: ys)

def bytesOf (s : ByteArray) : List Nat := s.data.toList.map UInt8.toNat

def ofV : Nat → Value → Option CV
  | _, .bool b => some (.bool b)
  | _, .int k n => some (.int k n)
  | _, .string s => some (.str (bytesOf s))
  | _, .pointer none => some .nilptr
  | _, .slice none 0 0 => some .nilslice
  | _, .map none => some .nilmap
  | _, .nilFunc => some .nilFunc
  | _, .nilIface => some .nilIface
  | n + 1, .func (.func f) a b => match mapO (ofV n) a.toList with
    | none => none
    | some x => match mapO (ofV n) b.toList with
      | none => none
      | some y => some (.func (.func f) x y)
  | n + 1, .iface t v => (ofV n v).map (.iface t)
  | n + 1, .agg l => (mapO (ofV n) l.toList).map .agg
  | n + 1, .tuple l => (mapO (ofV n) l.toList).map .tuple
  | _, _ => none

/-- The temporaries of a call. -/
structure Fr where
  t : T CV
  n : Nat

def Fr.get (τ : Fr) (i : Nat) : Option CV := τ.t.get i

def Fr.put (τ : Fr) (d : Option Tmp) (v : CV) : Fr :=
  match d, τ with
  | some d, ⟨t, n⟩ => match Nat.blt d n with
    | true => ⟨t.set d v, n⟩
    | false => ⟨t, n⟩
  | none, τ => τ

variable (P : Program)

def opd (τ : Fr) : Operand → Option CV
  | .tmp t => τ.get t
  | .const v => ofV 4 v
  | .global g => match Nat.blt g P.globals.size with
    | true => some (.ptr g 0)
    | false => none
  | .func f => some (.func (.func f) [] [])

def scalar : CV → Bool
  | .agg _ | .tuple _ => false
  | _ => true

/-! ### Memory -/

def ld (s : St) (b o : Nat) : Option CV :=
  match s.h.get b with
  | some (.cells cs ..) => cs.get o
  | _ => none

def sto (s : St) (b o : Nat) (v : CV) : Option St :=
  match scalar v with
  | false => none
  | true => match s.h.get b with
    | some (.cells cs n ex esz lim sg ty) =>
      match Nat.blt o n, Nat.ble lim o with
      | true, true => some { s with h := s.h.set b (.cells (cs.set o v) n ex esz lim sg ty) }
      | _, _ => none
    | _ => none

def lds (s : St) (b o : Nat) : Nat → Option (List CV)
  | 0 => some []
  | n + 1 => match ld s b o with
    | none => none
    | some v => match lds s b (o + 1) n with
      | none => none
      | some l => some (v :: l)

def stos (s : St) (b o : Nat) : List CV → Option St
  | [] => some s
  | v :: l => match sto s b o v with
    | none => none
    | some s => stos s b (o + 1) l

def newObj (s : St) (x : CObj) : Nat × St := fnat s.nx fun b => (b, { h := s.h.set b x, nx := b + 1 })

def newCells (s : St) (l : List CV) (n : Nat) (ex : Bool) (esz lim : Nat) (ty : TypeId) : Nat × St :=
  newObj s (.cells (.tab n fun i => l.getD i .nilptr) n ex esz lim false ty)

/-- Calls whose contract is known from elsewhere. -/
abbrev Hooks := FuncId → List CV → St → Option (CV × St)

def isAgg (t : TypeId) : Bool :=
  match P.underlying t with
  | some (.struct _) | some (.array ..) => true
  | _ => false

def szOf (t : TypeId) : Option Nat := (P.info? t).map (·.size)

def zeroOf (t : TypeId) : Option CV := ((P.info? t).bind (·.zero)).bind (ofV 4)

def cellsOf : CV → List CV
  | .agg l => l
  | v => [v]

def loadVar (s : St) (t : TypeId) (b o : Nat) : Option CV :=
  match isAgg P t with
  | true => match szOf P t with
    | some n => (lds s b o n).map .agg
    | none => none
  | false => match P.underlying t with
    | some _ => ld s b o
    | none => none

def storeVar (s : St) (t : TypeId) (b o : Nat) (v : CV) : Option St :=
  match szOf P t with
  | some n => match Nat.beq (cellsOf v).length n with
    | true => stos s b o (cellsOf v)
    | false => none
  | none => none

def newVar (s : St) (t : TypeId) (v : CV) : Nat × St := newCells s (cellsOf v) (cellsOf v).length true 1 0 t

def part (t : TypeId) (l : List CV) (off : Nat) : Option CV :=
  match isAgg P t with
  | true => match szOf P t with
    | some n => some (.agg ((l.drop off).take n))
    | none => none
  | false => match P.underlying t with
    | some _ => l[off]?
    | none => none

/-! ### Operators -/

def okI (k : IntKind) (n : Int) : Option CV := fint n fun n => some (.int k n)

def bitsV (op : BinOp) (k : IntKind) (x y : Int) : Option CV :=
  let a := BitVec.ofInt k.bits x
  let b := BitVec.ofInt k.bits y
  match op with
  | .and => okI k (k.wrap (a &&& b).toNat)
  | .or => okI k (k.wrap (a ||| b).toNat)
  | .xor => okI k (k.wrap (a ^^^ b).toNat)
  | .andNot => okI k (k.wrap (a &&& ~~~b).toNat)
  | _ => none

def intOp (op : BinOp) (k : IntKind) (x y : Int) : Option CV :=
  match op with
  | .add => okI k (k.wrap (x + y))
  | .sub => okI k (k.wrap (x - y))
  | .mul => okI k (k.wrap (x * y))
  | .quo => match decide (y = 0) with
    | true => none
    | false => okI k (k.wrap (x.tdiv y))
  | .rem => match decide (y = 0) with
    | true => none
    | false => okI k (x.tmod y)
  | .and | .or | .xor | .andNot => bitsV op k x y
  | .eql => some (.bool (x == y))
  | .neq => some (.bool (x != y))
  | .lss => some (.bool (decide (x < y)))
  | .leq => some (.bool (decide (x ≤ y)))
  | .gtr => some (.bool (decide (x > y)))
  | .geq => some (.bool (decide (x ≥ y)))
  | _ => none

def shiftV (op : BinOp) (k : IntKind) (x y : Int) : Option CV :=
  match decide (y < 0) with
  | true => none
  | false =>
    match op with
    | .shl => okI k (k.wrap (x * 2 ^ min y.toNat k.bits))
    | .shr => okI k (x.fdiv (2 ^ min y.toNat k.bits))
    | _ => none

def natsEq : List Nat → List Nat → Bool
  | [], [] => true
  | a :: x, b :: y => match Nat.beq a b with
    | true => natsEq x y
    | false => false
  | _, _ => false

def natsLess : List Nat → List Nat → Bool
  | _, [] => false
  | [], _ :: _ => true
  | a :: x, b :: y => match Nat.blt a b with
    | true => true
    | false => match Nat.beq a b with
      | true => natsLess x y
      | false => false

def strOp (op : BinOp) (x y : List Nat) : Option CV :=
  match op with
  | .add => match Nat.ble (x.length + y.length) 1000000000000 with
    | true => some (.str (x ++ y))
    | false => none
  | .eql => some (.bool (natsEq x y))
  | .neq => some (.bool !(natsEq x y))
  | .lss => some (.bool (natsLess x y))
  | .leq => some (.bool (natsLess x y || natsEq x y))
  | .gtr => some (.bool !(natsLess x y || natsEq x y))
  | .geq => some (.bool !(natsLess x y))
  | _ => none

def eqFields (q : TypeId → CV → CV → Option Bool) : List Field → List CV → List CV → Option Bool
  | [], _, _ => some true
  | f :: fs, xs, ys =>
    match decide (f.name = "_") with
    | true => eqFields q fs xs ys
    | false => match part P f.type xs f.offset, part P f.type ys f.offset with
      | some a, some b => match q f.type a b with
        | some true => eqFields q fs xs ys
        | some false => some false
        | none => none
      | _, _ => none

def eqElems (q : CV → CV → Option Bool) (e : TypeId) (z : Nat) (xs ys : List CV) : Nat → Nat → Option Bool
  | 0, _ => some true
  | n + 1, i => match part P e xs (i * z), part P e ys (i * z) with
    | some a, some b => match q a b with
      | some true => eqElems q e z xs ys n (i + 1)
      | some false => some false
      | none => none
    | _, _ => none

/-- A block at whose cells a pointer is told from every other block's. -/
def plainAt (s : St) (b o : Nat) : Bool :=
  match s.h.get b with
  | some (.cells _ n _ _ 0 false _) => Nat.blt o n
  | _ => false

def ptrEq (s : St) (b o c p : Nat) : Option Bool :=
  match Nat.beq b c with
  | true => some (Nat.beq o p)
  | false => match plainAt s b o, plainAt s c p with
    | true, true => some false
    | _, _ => none

/-- '==' -/
def eqv (s : St) : Nat → TypeId → CV → CV → Option Bool
  | 0, _, _, _ => none
  | d + 1, t, x, y =>
    match P.underlying t, x, y with
    | some .bool, .bool a, .bool b => some (a == b)
    | some (.int _), .int k a, .int k' b => if k = k' then some (a == b) else none
    | some .string, .str a, .str b => some (natsEq a b)
    | some (.pointer e), .ptr b o, .ptr c p => match szOf P e with
      | some (_ + 1) => ptrEq s b o c p
      | _ => none
    | some (.pointer _), .nilptr, .nilptr => some true
    | some (.pointer _), .nilptr, .ptr .. => some false
    | some (.pointer _), .ptr .., .nilptr => some false
    | some (.interface _), .nilIface, .nilIface => some true
    | some (.interface _), .nilIface, .iface .. => some false
    | some (.interface _), .iface .., .nilIface => some false
    | some (.interface _), .iface tx vx, .iface ty vy =>
      match Nat.beq tx ty with
      | false => some false
      | true => match P.info? tx with
        | some i => match i.comparable with
          | true => eqv s d tx vx vy
          | false => none
        | none => none
    | some (.struct fs), .agg xs, .agg ys =>
      match P.stoodInHeld t with
      | true => none
      | false => eqFields P (eqv s d) fs.toList xs ys
    | some (.array n e), .agg xs, .agg ys =>
      match szOf P e with
      | some z => eqElems P (eqv s d e) e z xs ys n 0
      | none => none
    | some (.slice _), .nilslice, .nilslice => some true
    | some (.slice _), .nilslice, .slice .. => some false
    | some (.slice _), .slice .., .nilslice => some false
    | some (.map ..), .nilmap, .nilmap => some true
    | some (.map ..), .nilmap, .map _ => some false
    | some (.map ..), .map _, .nilmap => some false
    | some (.func ..), .nilFunc, .nilFunc => some true
    | some (.func ..), .nilFunc, .func .. => some false
    | some (.func ..), .func .., .nilFunc => some false
    | _, _, _ => none

/-- The guard of '==' on nil interfaces. -/
def eqGuard (t : TypeId) (x y : Operand) (a b : CV) : Bool :=
  match a, b with
  | .nilIface, .nilIface => (x matches .const _) || (y matches .const _) || (match P.underlying t with | some (.interface ms) => ms.isEmpty | _ => false)
  | .agg _, .agg _ => !P.eqGuardType P.depth t
  | _, _ => true

def binV (s : St) (op : BinOp) (t : TypeId) (xo yo : Operand) (x y : CV) : Option CV :=
  match x, y with
  | .int k a, .int k' b =>
    match op with
    | .shl | .shr => shiftV op k a b
    | _ => if k = k' then intOp op k a b else none
  | .str a, .str b => strOp op a b
  | x, y =>
    match op with
    | .eql => match eqGuard P t xo yo x y with
      | true => (eqv P s 50 t x y).map .bool
      | false => none
    | .neq => match eqGuard P t xo yo x y with
      | true => (eqv P s 50 t x y).map fun b => .bool !b
      | false => none
    | _ => none

def unV (op : UnOp) (x : CV) : Option CV :=
  match op, x with
  | .neg, .int k n => okI k (k.wrap (0 - n))
  | .xor, .int k n => bitsV .xor k (if k.signed then -1 else k.max) n
  | .not, .bool b => some (.bool !b)
  | _, _ => none

mutual
def same : CV → CV → Bool
  | .bool a, .bool b => a == b
  | .int k a, .int l b => decide (k = l) && a == b
  | .str a, .str b => natsEq a b
  | .ptr a b, .ptr c d => Nat.beq a c && Nat.beq b d
  | .nilptr, .nilptr => true
  | .slice a b c d, .slice e f g h => Nat.beq a e && Nat.beq b f && Nat.beq c g && Nat.beq d h
  | .nilslice, .nilslice => true
  | .map a, .map b => Nat.beq a b
  | .nilmap, .nilmap => true
  | .func f a b, .func g c d => decide (f = g) && sames a c && sames b d
  | .nilFunc, .nilFunc => true
  | .nilIface, .nilIface => true
  | .iface t v, .iface u w => Nat.beq t u && same v w
  | .agg l, .agg m => sames l m
  | .tuple l, .tuple m => sames l m
  | _, _ => false
def sames : List CV → List CV → Bool
  | [], [] => true
  | a :: l, b :: m => same a b && sames l m
  | _, _ => false
end

/-! ### Conversions -/

def decU (s : List Nat) : Nat × Nat :=
  let cont (o : Option Nat) : Bool := match o with | some c => Nat.beq (c / 64) 2 | none => false
  match s with
  | [] => (0, 1)
  | b0 :: s =>
    let c1 := s.head?
    let c2 := s.tail.head?
    let c3 := s.tail.tail.head?
    match Nat.blt b0 0x80 with
    | true => (b0, 1)
    | false =>
      match Nat.beq (b0 / 32) 6 && cont c1 with
      | true =>
        fnat ((b0 % 32) * 64 + c1.getD 0 % 64) fun c => match Nat.ble 0x80 c with | true => (c, 2) | false => (0xFFFD, 1)
      | false =>
        match Nat.beq (b0 / 16) 14 && cont c1 && cont c2 with
        | true => fnat ((b0 % 16) * 4096 + (c1.getD 0 % 64) * 64 + c2.getD 0 % 64) fun c =>
            match Nat.ble 0x800 c && Utf8.valid c with | true => (c, 3) | false => (0xFFFD, 1)
        | false =>
          match Nat.beq (b0 / 8) 30 && cont c1 && cont c2 && cont c3 with
          | true => fnat ((b0 % 8) * 262144 + (c1.getD 0 % 64) * 4096 + (c2.getD 0 % 64) * 64 + c3.getD 0 % 64) fun c =>
              match Nat.ble 0x10000 c && Utf8.valid c with | true => (c, 4) | false => (0xFFFD, 1)
          | false => (0xFFFD, 1)

def encU (r : Int) : List Nat :=
  fnat (if Utf8.valid r then r.toNat else 0xFFFD) fun c =>
  match Nat.blt c 0x80 with
  | true => [c]
  | false => match Nat.blt c 0x800 with
    | true => [0xC0 + c / 64, 0x80 + c % 64]
    | false => match Nat.blt c 0x10000 with
      | true => [0xE0 + c / 4096, 0x80 + c / 64 % 64, 0x80 + c % 64]
      | false => [0xF0 + c / 262144, 0x80 + c / 4096 % 64, 0x80 + c / 64 % 64, 0x80 + c % 64]

def runes : Nat → List Nat → List CV
  | 0, _ => []
  | _, [] => []
  | n + 1, s => match decU s with
    | (r, w) => .int .i32 r :: runes n (s.drop w)

def asBytes : List CV → Option (List Nat)
  | [] => some []
  | .int .u8 n :: l => match asBytes l with
    | some r => some (n.toNat % 256 :: r)
    | none => none
  | _ :: _ => none

def asRunes : List CV → Option (List Nat)
  | [] => some []
  | .int .i32 n :: l => match asRunes l with
    | some r => some (encU n ++ r)
    | none => none
  | _ :: _ => none

def newStrg (s : St) (l : List CV) (n : Nat) (sg : Bool) (ty : TypeId) : Nat × St :=
  newObj s (.cells (.tab n fun i => l.getD i .nilptr) n false 1 0 sg ty)

def liesV (s : St) (b o : Nat) (u : TypeId) (k : Nat) : Bool :=
  match s.h.get b with
  | some (.cells _ n true _ _ _ ty) => liesAt P P.depth ty (n / P.cellsOf ty) o u k
  | _ => false

def cellsAt (s : St) (b : Nat) : Nat :=
  match s.h.get b with
  | some (.cells _ n ..) => n
  | _ => 0

def convV (s : St) (src dst : TypeId) (x : CV) : Option (CV × St) :=
  match P.underlying src, P.underlying dst, x with
  | some (.int _), some (.int k), .int _ n => (okI k (k.wrap n)).map fun v => (v, s)
  | some .string, some .string, .str l => some (.str l, s)
  | _, _, _ => none

/-! ### Slices -/

/-- Is the slice's capacity known to be just what is written? -/
def sure (s : St) (b o cap z : Nat) : Option Bool :=
  match s.h.get b with
  | some (.cells _ n ex esz ..) =>
    match ex with
    | true => some true
    | false => match Nat.beq z esz with
      | true => some (!(Nat.beq (o + cap * z) n))
      | false => none
  | _ => none

def bound (x : Option CV) (d top : Nat) : Option Nat :=
  match x with
  | none => some d
  | some (.int _ i) => match decide (0 ≤ i), decide (i ≤ top) with
    | true, true => fnat i.toNat some
    | _, _ => none
  | _ => none

/-- May a slice of elements of z cells be cut over block b? -/
def cutOk (s : St) (b z : Nat) : Bool :=
  match s.h.get b with
  | some (.cells _ _ true ..) => true
  | some (.cells _ _ false esz ..) => Nat.beq z esz
  | _ => false

def sliceV (s : St) (t : TypeId) (x : CV) (lo hi mx : Option CV) : Option CV :=
  match mx.isSome && hi.isNone with
  | true => none
  | false =>
  match P.underlying t, x with
  | some .string, .str l =>
    match mx with
    | some _ => none
    | none => match bound hi l.length l.length with
      | none => none
      | some h => match bound lo 0 h with
        | none => none
        | some a => some (.str ((l.drop a).take (h - a)))
  | some (.slice e), .nilslice =>
    match szOf P e, bound mx 0 0 with
    | some _, some m => match bound hi 0 m with
      | some h => match bound lo 0 h with
        | some _ => some .nilslice
        | none => none
      | none => none
    | _, _ => none
  | some (.slice e), .slice b o n c =>
    match szOf P e with
    | none => none
    | some z => match cutOk s b z, bound mx c c with
      | true, some m => match bound hi n m with
        | none => none
        | some h => match bound lo 0 h with
          | none => none
          | some a => fnat (o + a * z) fun o => fnat (h - a) fun n => fnat (m - a) fun c => some (.slice b o n c)
      | _, _ => none
  | some (.array n e), .ptr b o =>
    match szOf P e with
    | none => none
    | some z => match bound mx n n with
      | none => none
      | some m => match bound hi n m with
        | none => none
        | some h => match bound lo 0 h with
          | none => none
          | some a => fnat (o + a * z) fun o => fnat (h - a) fun n => fnat (m - a) fun c => some (.slice b o n c)
  | _, _ => none

def lenOf : CV → Option Nat
  | .nilslice => some 0
  | .slice _ _ n _ => some n
  | .str l => fnat l.length some
  | _ => none

/-- The cells of the first n elements. -/
def firstCells (s : St) (z n : Nat) : CV → Option (List CV)
  | .nilslice => some []
  | .slice b o _ _ => lds s b o (n * z)
  | .str l => some ((l.take n).map fun b => .int .u8 (Int.ofNat b))
  | _ => none

def growTo (z bytes lim : Nat) (e : TypeId) (s : St) (old : List CV) (k : Nat) (new : List CV) : Option (CV × St) :=
  match Nat.ble (k * bytes) 1000000000000, Nat.ble k 1000000000000 with
  | true, true => match newCells s (old ++ new) (k * z) false z lim e with
    | (b, s) => some (.slice b 0 k k, s)
  | _, _ => none

/-- What append appends: how many elements, their cells. -/
def appended (s : St) (ty : Option TypeDesc) (ie : TypeInfo) (y : CV) : Option (Nat × List CV) :=
  match ty with
  | none => none
  | some (.int _) => match y with
    | .int _ n => match decide (0 ≤ n), decide (n ≤ 1000000000000), decide (n * ie.bytes ≤ 1000000000000), (ie.zero).bind (ofV 4) with
      | true, true, true, some zv => match Nat.beq (cellsOf zv).length ie.size with
        | true => fnat n.toNat fun n => some (n, (List.range (n * ie.size)).map fun i => (cellsOf zv).getD (i % ie.size) .nilptr)
        | false => none
      | _, _, _, _ => none
    | _ => none
  | some _ => match lenOf y with
    | none => none
    | some m => match firstCells s ie.size m y with
      | some new => match Nat.beq new.length (m * ie.size) with
        | true => some (m, new)
        | false => none
      | none => none

def appendTo (s : St) (e : TypeId) (z bytes : Nat) (x : CV) (m : Nat) (new : List CV) : Option (CV × St) :=
  match x with
  | .nilslice => match m with
    | 0 => some (.nilslice, s)
    | k + 1 => growTo z bytes 0 e s [] (k + 1) new
  | .slice b o n c =>
    match Nat.ble (n + m) c with
    | true => match stos s b (o + n * z) new with
      | some s => fnat (n + m) fun k => some (.slice b o k c, s)
      | none => none
    | false => match lds s b o (n * z), s.h.get b with
      | some old, some (.cells _ _ _ _ lim sg ty) =>
        match sure s b o c z, sg, Nat.ble lim (o + n * z) && Nat.beq ty e && new.all scalar with
        | some true, _, _ => fnat (n + m) fun k => growTo z bytes 0 e s old k new
        | some false, false, true => fnat (n + m) fun k => growTo z bytes (lim - o) e { s with h := s.h.set b .dead } old k new
        | _, _, _ => none
      | _, _ => none
  | _ => none

/-- The zero value is plain, and has the size of the type. -/
def zeroFits (ie : TypeInfo) : Bool :=
  match (ie.zero).bind (ofV 4) with
  | some zv => Nat.beq (cellsOf zv).length ie.size
  | none => false

def appendV (s : St) (argTypes : Array TypeId) (args : List CV) : Option (CV × St) :=
  match argTypes[0]?, argTypes[1]?, args with
  | some ts, some tx, [x, y] =>
    match P.underlying ts with
    | some (.slice e) =>
      match P.info? e with
      | some ie => match zeroFits ie with
        | true => match appended s (P.underlying tx) ie y with
          | some (m, new) => appendTo s e ie.size ie.bytes x m new
          | none => none
        | false => none
      | none => none
    | _ => none
  | _, _, _ => none

def makeSlice (s : St) (t : TypeId) (l c : CV) : Option (CV × St) :=
  match P.underlying t, l, c with
  | some (.slice e), .int _ l, .int _ c =>
    match P.info? e with
    | none => none
    | some ie =>
      match decide (0 ≤ l), decide (l ≤ c), decide (ie.bytes * c ≤ 1000000000000), decide (c ≤ 1000000000000) with
      | true, true, true, true =>
        match (ie.zero).bind (ofV 4), zeroFits ie with
        | some zv, true => match cellsOf zv with
          | zl =>
            fnat c.toNat fun c => fnat l.toNat fun l =>
              match newObj s (.cells (.tab (c * ie.size) fun i => zl.getD (i % ie.size) .nilptr) (c * ie.size) true 1 0 false e) with
              | (b, s) => some (.slice b 0 l c, s)
        | _, _ => none
      | _, _, _, _ => none
  | _, _, _ => none

def copyV (s : St) (argTypes : Array TypeId) (args : List CV) : Option (CV × St) :=
  match argTypes[0]?, args with
  | some t, [d, y] =>
    match P.underlying t with
    | some (.slice e) => match szOf P e, lenOf d, lenOf y with
      | some z, some dn, some yn =>
        fnat (min yn dn) fun n =>
          match firstCells s z n y, d with
          | some _, .nilslice => some (.int .i64 0, s)
          | some cs, .slice b o _ _ => (stos s b o cs).map fun s => (.int .i64 n, s)
          | _, _ => none
      | _, _, _ => none
    | _ => none
  | _, _ => none

/-! ### Maps -/

def findKey (s : St) (kt : TypeId) (k : CV) : List (CV × CV × Nat) → Nat → Option (Option (Nat × CV))
  | [], _ => some none
  | (x, v, _) :: es, i =>
    match eqv P s 50 kt k x with
    | some true => some (some (i, v))
    | some false => findKey s kt k es (i + 1)
    | none => none

/-- Keys of whole numbers, texts, bools, and of structs of these. -/
def keyFine : Nat → TypeId → CV → Bool
  | 0, _, _ => false
  | n + 1, t, v => match P.underlying t, v with
    | some (.int _), .int .. | some .string, .str _ | some .bool, .bool _ => true
    | some (.struct fs), .agg l => fs.toList.all fun f => match part P f.type l f.offset with
      | some c => keyFine n f.type c
      | none => false
    | _, _ => false

/-- Values that are just what they seem. -/
def plainCV : CV → Bool
  | .int .. | .str _ | .bool _ => true
  | .agg l => l.all fun c => match c with
    | .int .. | .str _ | .bool _ => true
    | _ => false
  | _ => false

def setAt (v : CV) : List (CV × CV × Nat) → Nat → List (CV × CV × Nat)
  | [], _ => []
  | (x, _, b) :: es, 0 => (x, v, b) :: es
  | e :: es, i + 1 => e :: setAt v es i

def mapGet (s : St) (b : Nat) : Option (List (CV × CV × Nat) × Nat) :=
  match s.h.get b with
  | some (.map es c) => some (es, c)
  | _ => none

def lookupV (s : St) (t : TypeId) (x k : CV) (ok : Bool) : Option CV :=
  match P.underlying t with
  | some (.map kt et) =>
    match keyFine P 9 kt k with
      | false => none
      | true =>
        let fin (r : Option (Nat × CV)) : Option CV :=
          match r with
          | some (_, v) => some (match ok with | true => .tuple [v, .bool true] | false => v)
          | none => (zeroOf P et).map fun v => (match ok with | true => .tuple [v, .bool false] | false => v)
        match x with
        | .nilmap => fin none
        | .map b => match mapGet s b with
          | none => none
          | some (es, _) => match findKey P s kt k es 0 with
            | none => none
            | some r => fin r
        | _ => none
  | _ => none

def mapSet (s : St) (t : TypeId) (x k v : CV) : Option St :=
  match P.underlying t, x with
  | some (.map kt _), .map b =>
    match keyFine P 9 kt k with
      | false => none
      | true => match mapGet s b with
        | none => none
        | some (es, c) => match findKey P s kt k es 0 with
          | none => none
          | some none => some { s with h := s.h.set b (.map (es ++ [(k, v, c)]) (c + 1)) }
          | some (some (i, _)) => match es[i]? with
            | some (k', _, _) => match same k k' && plainCV k with
              | true => some { s with h := s.h.set b (.map (setAt v es i) c) }
              | false => none
            | none => none
  | _, _ => none

def delV (s : St) (args : List CV) (argTypes : Array TypeId) : Option St :=
  match argTypes[0]?, args with
  | some t, [x, k] =>
    match P.underlying t with
    | some (.map kt _) => match keyFine P 9 kt k with
        | false => none
        | true => match x with
          | .nilmap => some s
          | .map b => match mapGet s b with
            | none => none
            | some (es, c) => match findKey P s kt k es 0 with
              | none => none
              | some none => some s
              | some (some (i, _)) => some { s with h := s.h.set b (.map (es.eraseIdx i) c) }
          | _ => none
    | _ => none
  | _, _ => none

/-- The entry of 'm[k] op= v'. -/
def mapEntry (s : St) (t : TypeId) (x k : CV) : Option (CV × St) :=
  match P.underlying t, x with
  | some (.map kt et), .map b =>
    match keyFine P 9 kt k with
      | false => none
      | true => match mapGet s b with
        | none => none
        | some (es, c) => match findKey P s kt k es 0 with
          | none => none
          | some (some (i, v)) => match es[i]? with
            | some (k', _, born) => match same k k' && plainCV k with
              | true => some (.tuple [v, .int .i64 (Int.ofNat born)], s)
              | false => none
            | none => none
          | some none => match zeroOf P et with
            | none => none
            | some z => some (.tuple [z, .int .i64 (Int.ofNat c)], { s with h := s.h.set b (.map (es ++ [(k, z, c)]) (c + 1)) })
  | _, _ => none

def setBorn (v : CV) (n : Int) : List (CV × CV × Nat) → Option (List (CV × CV × Nat))
  | [] => none
  | (x, y, b) :: es => match decide ((b : Int) = n) with
    | true => some ((x, v, b) :: es)
    | false => (setBorn v n es).map ((x, y, b) :: ·)

def entryStore (s : St) (x st v : CV) : Option St :=
  match x, st with
  | .map b, .int _ n => match mapGet s b with
    | none => none
    | some (es, c) => (setBorn v n es).map fun es => { s with h := s.h.set b (.map es c) }
  | _, _ => none

/-! ### Building -/

def fillL (place : Nat → Option (Nat × Nat)) (cells : List CV) : List (Nat × CV) → Option (List CV)
  | [] => some cells
  | (i, v) :: rest =>
    match place i with
    | none => none
    | some (off, size) =>
      match Nat.beq (cellsOf v).length size, Nat.ble (off + (cellsOf v).length) cells.length with
      | true, true => fillL place (cells.take off ++ cellsOf v ++ cells.drop (off + (cellsOf v).length)) rest
      | _, _ => none

def buildV (t : TypeId) (parts : List (Nat × CV)) : Option CV :=
  match zeroOf P t with
  | none => none
  | some zv =>
    match P.underlying t with
    | some (.struct fs) =>
      match mapO (fun f : Field => (szOf P f.type).map fun z => (f.offset, z)) fs.toList with
      | none => none
      | some pl => (fillL (fun i => pl[i]?) (cellsOf zv) parts).map .agg
    | some (.array _ e) => match szOf P e with
      | none => none
      | some z => (fillL (fun i => some (i * z, z)) (cellsOf zv) parts).map .agg
    | _ => none

def buildSliceV (s : St) (t : TypeId) (len : Nat) (parts : List (Nat × CV)) : Option (CV × St) :=
  match P.underlying t with
  | some (.slice e) =>
    match szOf P e, zeroOf P e with
    | some z, some zv =>
      match Nat.ble (len * z) 16777216, Nat.beq (cellsOf zv).length z with
      | true, true =>
        match fillL (fun i => some (i * z, z)) ((List.range (len * z)).map fun i => (cellsOf zv).getD (i % z) .nilptr) parts with
        | none => none
        | some cells => match newCells s cells (len * z) true 1 0 e with
          | (b, s) => some (.slice b 0 len len, s)
      | _, _ => none
    | _, _ => none
  | _ => none

/-! ### Operations -/

inductive Do where
  | val (v : CV) (s : St)
  | enter (f : FuncId) (args : List CV) (s : St)

def ret1 (s : St) : Option CV → Option Do
  | some v => some (.val v s)
  | none => none

def ret2 : Option (CV × St) → Option Do
  | some (v, s) => some (.val v s)
  | none => none

def retU : Option St → Option Do
  | some s => some (.val (.tuple []) s)
  | none => none

/-- Functions without a Go body, by name. -/
def idxByte (c : Nat) : List Nat → Nat → Option Nat
  | [], _ => none
  | b :: l, i => match Nat.beq b c with
    | true => some i
    | false => idxByte c l (i + 1)

def isPre : List Nat → List Nat → Bool
  | [], _ => true
  | _ :: _, [] => false
  | a :: x, b :: y => match Nat.beq a b with
    | true => isPre x y
    | false => false

def idxStr (t : List Nat) : List Nat → Nat → Option Nat
  | [], i => match t with
    | [] => some i
    | _ => none
  | b :: l, i => match isPre t (b :: l) with
    | true => some i
    | false => idxStr t l (i + 1)

def makeNoZero (rt : Option TypeId) (args : List CV) (s : St) : Option (CV × St) :=
  match rt, args with
  | some t, [.int .i64 n] => match P.underlying t with
    | some (.slice e) => match decide (0 ≤ n), decide (n ≤ 1000000000000), szOf P e with
      | true, true, some 1 => fnat n.toNat fun n => match newObj s (.cells .nil n false 1 0 false e) with
        | (b, s) => some (.slice b 0 n n, s)
      | _, _, _ => none
    | _ => none
  | _, _ => none

def ext (fn : Func) (args : List CV) (s : St) : Option (CV × St) :=
  let name := fn.name
  match decide (name = "internal/abi.NoEscape"), args with
  | true, [x] => some (x, s)
  | true, _ => none
  | false, _ => match decide (name = "internal/bytealg.MakeNoZero") with
  | true => makeNoZero P fn.resultTypes[0]? args s
  | false =>
  match decide (name = "internal/bytealg.IndexByteString"), args with
  | true, [.str l, .int _ c] => match idxByte c.toNat l 0 with
    | some i => some (.int .i64 i, s)
    | none => some (.int .i64 (-1), s)
  | true, _ => none
  | false, _ => match decide (name = "internal/bytealg.IndexString"), args with
    | true, [.str l, .str t] => match idxStr t l 0 with
      | some i => some (.int .i64 i, s)
      | none => some (.int .i64 (-1), s)
    | true, _ => none
    | false, _ => none

def callF (f : FuncId) (args : List CV) (s : St) : Option Do :=
  match P.funcs[f]? with
  | none => none
  | some fn =>
    match decide (fn.name = "runtime.NumGoroutine") with
    | true => none
    | false => match fn.body with
      | some _ => some (.enter f args s)
      | none => none

/-- The method and its receiver. -/
def methodV (t : TypeId) (v : CV) (name : String) : Option (FuncId × CV) :=
  match P.info? t with
  | none => none
  | some i => match i.methods.find? (·.name == name) with
    | none => none
    | some m => match m.path.isEmpty, m.func with
      | true, some (f, true) => match P.underlying t with
        | some (.pointer _) => some (f, v)
        | _ => none
      | true, some (f, false) => match P.underlying t with
        | some (.pointer _) | none => none
        | _ => some (f, v)
      | _, _ => none

def lenV (s : St) (argTypes : Array TypeId) (args : List CV) : Option CV :=
  match argTypes[0]?, args with
  | some t, [x] =>
    match P.underlying t, x with
    | some .string, .str l => fnat l.length fun n => some (.int .i64 n)
    | some (.array n _), _ => some (.int .i64 n)
    | some (.slice _), .nilslice => some (.int .i64 0)
    | some (.slice _), .slice _ _ n _ => some (.int .i64 n)
    | some (.map ..), .nilmap => some (.int .i64 0)
    | some (.map ..), .map b => match mapGet s b with
      | some (es, _) => fnat es.length fun n => some (.int .i64 n)
      | none => none
    | _, _ => none
  | _, _ => none

def capV (s : St) (argTypes : Array TypeId) (args : List CV) : Option CV :=
  match argTypes[0]?, args with
  | some t, [x] =>
    match P.underlying t, x with
    | some (.slice _), .nilslice => some (.int .i64 0)
    | some (.slice e), .slice b o _ c => match szOf P e with
      | none => none
      | some z => match sure s b o c z with
        | some true => some (.int .i64 c)
        | _ => none
    | _, _ => none
  | _, _ => none

def max2 : CV → CV → Option CV
  | .int k x, .int _ y => some (.int k (match decide (y > x) with | true => y | false => x))
  | .str x, .str y => some (.str (match natsLess x y with | true => y | false => x))
  | _, _ => none
def min2 : CV → CV → Option CV
  | .int k x, .int _ y => some (.int k (match decide (y < x) with | true => y | false => x))
  | .str x, .str y => some (.str (match natsLess x y || natsEq x y with | true => x | false => y))
  | _, _ => none
def foldO (f : CV → CV → Option CV) : CV → List CV → Option CV
  | x, [] => some x
  | x, y :: l => match f x y with
    | some z => foldO f z l
    | none => none

def clearV (s : St) (argTypes : Array TypeId) (args : List CV) : Option St :=
  match argTypes[0]?, args with
  | some t, [x] => match P.underlying t, x with
    | some _, .nilslice => some s
    | some _, .slice _ _ 0 _ => some s
    | some (.slice e), .slice b o n _ => match zeroOf P e with
      | none => none
      | some zv => match cellsOf zv with
        | zl => stos s b o ((List.range (n * zl.length)).map fun i => zl.getD (i % zl.length) .nilptr)
    | _, _ => none
  | _, _ => none

/-- unsafe.String: the bytes are shared, and may not be written any more. -/
def unsafeStr (s : St) (argTypes : Array TypeId) (args : List CV) : Option (CV × St) :=
  match argTypes[0]?, args with
  | some t, [p, .int _ n] => match P.underlying t, decide (0 ≤ n), decide (n ≤ 1000000000000) with
    | some (.pointer e), true, true => fnat n.toNat fun n => match n, p with
      | 0, .nilptr => some (.str [], s)
      | 0, .ptr .. => some (.str [], s)
      | k + 1, .ptr b o => match s.h.get b with
        | some (.cells cs m ex esz lim false ty) => match Nat.beq ty e, szOf P e, Nat.ble (o + (k + 1)) m with
          | true, some 1, true => match lds s b o (k + 1) with
            | some l => match asBytes l with
              | some l => some (.str l, { s with h := s.h.set b (.cells cs m ex esz (max lim (o + (k + 1))) false ty) })
              | none => none
            | none => none
          | _, _, _ => none
        | _ => none
      | _, _ => none
    | _, _, _ => none
  | _, _ => none

def builtinV (s : St) (b : Builtin) (argTypes : Array TypeId) (args : List CV) : Option Do :=
  match b with
  | .append => ret2 (appendV P s argTypes args)
  | .len => ret1 s (lenV P s argTypes args)
  | .cap => ret1 s (capV P s argTypes args)
  | .copy => ret2 (copyV P s argTypes args)
  | .max => ret1 s (match args with | x :: l => foldO max2 x l | [] => none)
  | .min => ret1 s (match args with | x :: l => foldO min2 x l | [] => none)
  | _ => none

def fieldOf (t : TypeId) (f : Nat) : Option Field :=
  match P.underlying t with
  | some (.struct fs) => fs[f]?
  | _ => none

def nextV (s : St) (it : CV) : Option (CV × St) :=
  match it with
  | .ptr b 0 => match s.h.get b with
    | some (.iter l pos) =>
      match l with
      | [] => some (.tuple [.bool false], s)
      | _ :: _ => match decU l with
        | (r, w) => fnat r fun r => fnat (pos + w) fun p =>
          some (.tuple [.bool true, .int .i64 pos, .int .i32 r], { s with h := s.h.set b (.iter (l.drop w) p) })
    | _ => none
  | _ => none

def indexAt (t : TypeId) (x i : CV) : Option CV :=
  match i with
  | .int _ i => match P.underlying t, x with
    | some (.array n e), .ptr b o => match szOf P e, decide (0 ≤ i), decide (i < n) with
      | some z, true, true => fnat (o + i.toNat * z) fun o => some (.ptr b o)
      | _, _, _ => none
    | some (.slice e), .slice b o n _ => match szOf P e, decide (0 ≤ i), decide (i < n) with
      | some z, true, true => fnat (o + i.toNat * z) fun o => some (.ptr b o)
      | _, _, _ => none
    | _, _ => none
  | _ => none

def indexV (t : TypeId) (x i : CV) : Option CV :=
  match i with
  | .int _ i => match P.underlying t, x with
    | some (.array n e), .agg cs => match szOf P e, decide (0 ≤ i), decide (i < n) with
      | some z, true, true => part P e cs (i.toNat * z)
      | _, _, _ => none
    | some .string, .str l => match decide (0 ≤ i) with
      | true => match l[i.toNat]? with
        | some b => some (.int .u8 b)
        | none => none
      | false => none
    | _, _ => none
  | _ => none

def assertV (x : CV) (a : TypeId) (ok : Bool) : Option CV :=
  match P.underlying a, x with
  | some (.interface _), .nilIface => match ok with
    | true => (zeroOf P a).map fun z => .tuple [z, .bool false]
    | false => none
  | some (.interface want), .iface t v => match P.info? t with
    | none => none
    | some i => match Instr.missingMethod want i.methods, ok with
      | none, true => some (.tuple [.iface t v, .bool true])
      | none, false => some (.iface t v)
      | some _, true => (zeroOf P a).map fun z => .tuple [z, .bool false]
      | some _, false => none
  | some _, .nilIface => match ok with
    | true => (zeroOf P a).map fun z => .tuple [z, .bool false]
    | false => none
  | some _, .iface t v => match Nat.beq t a, ok with
    | true, true => some (.tuple [v, .bool true])
    | true, false => some v
    | false, true => (zeroOf P a).map fun z => .tuple [z, .bool false]
    | false, false => none
  | _, _ => none

def oPick (s : St) (c a b : Option CV) : Option Do :=
  match c with
  | some (.bool true) => ret1 s a
  | some (.bool false) => ret1 s b
  | _ => none

def oAlloc (s : St) (t : TypeId) : Option Do :=
  match zeroOf P t with
  | some z => match newVar s t z with
    | (b, s) => some (.val (.ptr b 0) s)
  | none => none

def oBox (s : St) (t : TypeId) (x : Option CV) : Option Do :=
  match x with
  | some v => match newVar s t v with
    | (b, s) => some (.val (.ptr b 0) s)
  | none => none

def pairs (ρ : Operand → Option CV) : List (Nat × Operand) → Option (List (Nat × CV))
  | [] => some []
  | (i, x) :: l => match ρ x with
    | none => none
    | some v => match pairs ρ l with
      | none => none
      | some r => some ((i, v) :: r)

def oBuild (s : St) (t : TypeId) (ps : Option (List (Nat × CV))) : Option Do :=
  match ps with
  | some ps => ret1 s (buildV P t ps)
  | none => none

def oBuildSlice (s : St) (t : TypeId) (n : Nat) (ps : Option (List (Nat × CV))) : Option Do :=
  match ps with
  | some ps => ret2 (buildSliceV P s t n ps)
  | none => none

def oLoad (s : St) (t : TypeId) (a : Option CV) : Option Do :=
  match a with
  | some (.ptr b o) => ret1 s (loadVar P s t b o)
  | _ => none

def oStore (s : St) (t : TypeId) (a x : Option CV) : Option Do :=
  match a, x with
  | some (.ptr b o), some v => retU (storeVar P s t b o v)
  | _, _ => none

def oNil (s : St) (x : Option CV) : Option Do :=
  match x with
  | some .nilptr | some .nilIface | some .nilFunc => none
  | some (.func (.method _) ..) => none
  | some v => some (.val v s)
  | none => none

def oBin (s : St) (op : BinOp) (t : TypeId) (x y : Operand) (a b : Option CV) : Option Do :=
  match a, b with
  | some a, some b => ret1 s (binV P s op t x y a b)
  | _, _ => none

def oUn (s : St) (op : UnOp) (x : Option CV) : Option Do :=
  match x with
  | some v => ret1 s (unV op v)
  | none => none

def oConv (s : St) (a b : TypeId) (x : Option CV) : Option Do :=
  match x with
  | some v => ret2 (convV P s a b v)
  | none => none

def oIface (s : St) (t : TypeId) (x : Option CV) : Option Do :=
  match P.underlying t, x with
  | some (.interface _), _ => none
  | some _, some v => some (.val (.iface t v) s)
  | _, _ => none

def oFunc (s : St) (fn : Fn) (a b : Option (List CV)) : Option Do :=
  match a, b with
  | some x, some y => some (.val (.func fn x y) s)
  | _, _ => none

def oMap (s : St) : Option Do :=
  match newObj s (.map [] 0) with
  | (b, s) => some (.val (.map b) s)

def oMakeMap (s : St) (t : TypeId) (r : Option Operand) (h : Option (List CV)) : Option Do :=
  match r with
  | none => oMap s
  | some _ => match P.underlying t, h with
    | some (.map ..), some [.int ..] => oMap s
    | _, _ => none

def oMakeSlice (s : St) (t : TypeId) (l c : Option CV) : Option Do :=
  match l, c with
  | some l, some c => ret2 (makeSlice P s t l c)
  | _, _ => none

def oSlice (s : St) (t : TypeId) (x : Option CV) (lo hi mx : Option (List CV)) : Option Do :=
  match x, lo, hi, mx with
  | some v, some l, some h, some m => ret1 s (sliceV P s t v l.head? h.head? m.head?)
  | _, _, _, _ => none

def oFieldAddr (s : St) (t : TypeId) (f : Nat) (x : Option CV) : Option Do :=
  match x, fieldOf P t f with
  | some (.ptr b o), some f => match szOf P f.type with
    | some (_ + 1) => fnat (o + f.offset) fun o => some (.val (.ptr b o) s)
    | _ => none
  | _, _ => none

def oField (s : St) (t : TypeId) (f : Nat) (x : Option CV) : Option Do :=
  match x, fieldOf P t f with
  | some (.agg cs), some f => ret1 s (part P f.type cs f.offset)
  | _, _ => none

def oIndexAddr (s : St) (t : TypeId) (x i : Option CV) : Option Do :=
  match x, i with
  | some x, some i => ret1 s (indexAt P t x i)
  | _, _ => none

def oIndex (s : St) (t : TypeId) (x i : Option CV) : Option Do :=
  match x, i with
  | some x, some i => ret1 s (indexV P t x i)
  | _, _ => none

def oLookup (s : St) (t : TypeId) (ok : Bool) (x i : Option CV) : Option Do :=
  match x, i with
  | some x, some i => ret1 s (lookupV P s t x i ok)
  | _, _ => none

def oMapSet (s : St) (t : TypeId) (m k x : Option CV) : Option Do :=
  match m, k, x with
  | some m, some k, some x => retU (mapSet P s t m k x)
  | _, _, _ => none

def oMapEntry (s : St) (t : TypeId) (m k : Option CV) : Option Do :=
  match m, k with
  | some m, some k => ret2 (mapEntry P s t m k)
  | _, _ => none

def oEntryStore (s : St) (m st x : Option CV) : Option Do :=
  match m, st, x with
  | some m, some st, some x => retU (entryStore s m st x)
  | _, _, _ => none

def oRange (s : St) (t : TypeId) (x : Option CV) : Option Do :=
  match P.underlying t, x with
  | some .string, some (.str l) => match newObj s (.iter l 0) with
    | (b, s) => some (.val (.ptr b 0) s)
  | _, _ => none

def oNext (s : St) (it : Option CV) : Option Do :=
  match it with
  | some it => ret2 (nextV s it)
  | none => none

def oAssert (s : St) (a : TypeId) (ok : Bool) (x : Option CV) : Option Do :=
  match x with
  | some x => ret1 s (assertV P x a ok)
  | none => none

def oWaits (s : St) (g : Nat) : Option Do :=
  match s.h.get g with
  | some (.cells ..) => some (.val (.bool false) s)
  | _ => none

def oReady (s : St) (g : Nat) : Option Do :=
  match s.h.get g with
  | some (.cells ..) => some (.val (.tuple []) s)
  | _ => none

def oExtract (s : St) (i : Nat) (t : Option CV) : Option Do :=
  match t with
  | some (.tuple l) => ret1 s l[i]?
  | _ => none

def oCallV (s : St) (f : Option CV) (args : List CV) : Option Do :=
  match f with
  | some (.func (.func f) first cap) => callF P f (first ++ args ++ cap) s
  | _ => none

def oInvoke (s : St) (r : Option CV) (name : String) (args : List CV) : Option Do :=
  match r with
  | some (.iface t v) => match methodV P t v name with
    | some (f, rv) => callF P f (rv :: args) s
    | none => none
  | _ => none

def oCall (s : St) (ρ : Operand → Option CV) (c : Call) : Option Do :=
  match mapO ρ c.args.toList with
  | none => none
  | some args =>
    match c.callee with
    | .builtin b => builtinV P s b c.argTypes args
    | .value f => oCallV P s (ρ f) args
    | .invoke r name => oInvoke P s (ρ r) name args

def opV (s : St) (τ : Fr) (o : Op) : Option Do :=
  match o with
  | .move x => ret1 s (opd P τ x)
  | .assign x => ret1 s (opd P τ x)
  | .pick c a b => oPick s (opd P τ c) (opd P τ a) (opd P τ b)
  | .alloc t => oAlloc P s t
  | .box t x => oBox s t (opd P τ x)
  | .build t ps => oBuild P s t (pairs (opd P τ) ps.toList)
  | .buildSlice t n ps => oBuildSlice P s t n (pairs (opd P τ) ps.toList)
  | .load t a => oLoad P s t (opd P τ a)
  | .store t a x => oStore P s t (opd P τ a) (opd P τ x)
  | .nilCheck x => oNil s (opd P τ x)
  | .binOp op t x y _ => oBin P s op t x y (opd P τ x) (opd P τ y)
  | .unOp op _ x => oUn s op (opd P τ x)
  | .convert a b x => oConv P s a b (opd P τ x)
  | .makeInterface t x => oIface P s t (opd P τ x)
  | .makeFunc fn a b => oFunc s fn (mapO (opd P τ) a.toList) (mapO (opd P τ) b.toList)
  | .makeSlice t l c => oMakeSlice P s t (opd P τ l) (opd P τ c)
  | .slice t x lo hi mx => oSlice P s t (opd P τ x) (mapO (opd P τ) lo.toList) (mapO (opd P τ) hi.toList) (mapO (opd P τ) mx.toList)
  | .fieldAddr t x f => oFieldAddr P s t f (opd P τ x)
  | .field t x f => oField P s t f (opd P τ x)
  | .indexAddr t x i => oIndexAddr P s t (opd P τ x) (opd P τ i)
  | .index t x i => oIndex P s t (opd P τ x) (opd P τ i)
  | .typeAssert x _ a ok => oAssert P s a ok (opd P τ x)
  | .extract t i => oExtract s i (opd P τ t)
  | .call c => oCall P s (opd P τ) c
  | _ => none

/-! ### Code -/

inductive Ex where
  | norm
  | exit (id : Nat)
  | ret

abbrev Res := Option (Ex × Fr × St)

def wantedV (ops : Array Oper) (τ : Fr) (o : Oper) : Option Bool :=
  match o.guard with
  | none => some true
  | some (j, want) => match (ops[j]?).bind (·.dst) with
    | none => none
    | some d => match τ.get d with
      | some (.bool b) => some (b == want)
      | some (.tuple []) => some false
      | _ => none

/-- One operation of a region, calls by 'cl'. -/
def stepOp (cl : FuncId → List CV → St → Option (CV × St)) (ops : Array Oper) (o : Oper) (τ : Fr) (s : St) : Option (CV × St) :=
  match wantedV ops τ o with
  | none => none
  | some false => some (.tuple [], s)
  | some true => match opV P s τ o.op with
    | none => none
    | some (.val v s) => some (v, s)
    | some (.enter f args s) => cl f args s

def runOps (cl : FuncId → List CV → St → Option (CV × St)) (ops : Array Oper) : List Oper → Fr → St → Option (Fr × St)
  | [], τ, s => some (τ, s)
  | o :: l, τ, s => match stepOp P cl ops o τ s with
    | none => none
    | some (v, s) => runOps cl ops l (τ.put o.dst v) s

/-- What may change memory. -/
def moves (o : Op) : Bool :=
  match o with
  | .move _ | .assign _ | .pick .. | .build .. | .load .. | .nilCheck _ | .binOp .. | .unOp .. | .makeInterface .. | .makeFunc .. | .slice .. | .fieldAddr .. | .field .. | .indexAddr ..
  | .index .. | .lookup .. | .typeAssert .. | .extract .. => false
  | .call { callee := .builtin .len, .. } | .call { callee := .builtin .cap, .. } | .call { callee := .builtin .max, .. } | .call { callee := .builtin .min, .. } => false
  | .convert _ _ _ => true
  | _ => true

structure Dr where
  i : Nat
  o : Oper
  τ : Fr
  v : CV
  mv : Bool
  pre : Nat   -- bits of what must come before

def lite (τ : Fr) : List Tmp → T CV → T CV
  | [], t => t
  | q :: l, t => lite τ l (match τ.get q with | some v => t.set q v | none => t)

/-- Only some temporaries. -/
def Fr.only (τ : Fr) (l : List Tmp) : Fr := ⟨lite τ l .nil, τ.n⟩

def bits (bef : T Nat) (i : Nat) : Nat := match bef.get i with | some b => b | none => 0

def preOf (bef : T Nat) : List Edge → Nat
  | [] => 0
  | e :: l => match Region.binds .any e with
    | true => ((2 ^ e.on) ||| bits bef e.on) ||| preOf bef l
    | false => preOf bef l

/-- What must come before each operation, as bits. -/
def preds : List Oper → Nat → T Nat → T Nat
  | [], _, t => t
  | o :: l, i, t => fnat (preOf t o.after.toList) fun b => preds l (i + 1) (t.set i b)

def backOk : List Oper → Nat → Bool
  | [], _ => true
  | o :: l, i => (o.after.toList.all fun e => !Region.binds .any e || Nat.blt e.on i) && backOk l (i + 1)

/-- In the text's order: what each operation met and gave; the memories behind 0, 1, .. movers. -/
def drawOps (cl : FuncId → List CV → St → Option (CV × St)) (ops : Array Oper) (bef : T Nat) : List Oper → Nat → Fr → St → Option (List Dr × List St × Fr)
  | [], _, τ, s => some ([], [s], τ)
  | o :: l, i, τ, s => match stepOp P cl ops o (τ.only (o.looksAt ops)) s with
    | none => none
    | some (v, s') => match drawOps cl ops bef l (i + 1) (τ.put o.dst v) s' with
      | none => none
      | some (ds, ms, τ') => match moves o.op with
        | true => some (⟨i, o, τ.only (o.looksAt ops), v, true, bits bef i⟩ :: ds, s :: ms, τ')
        | false => some (⟨i, o, τ.only (o.looksAt ops), v, false, bits bef i⟩ :: ds, ms, τ')

/-- The movers are one behind the other. -/
def chainOk : List Dr → Bool
  | d :: e :: l => e.pre.testBit d.i && chainOk (e :: l)
  | _ => true

/-- The quiet operation d gives the same in each memory in which it may come up: 'ms': the memories, 'mvs': the movers. -/
def steady (cl : FuncId → List CV → St → Option (CV × St)) (ops : Array Oper) (d : Dr) : List Dr → List St → Bool
  | mvs, s :: ms =>
    -- may d come in s: the movers left are mvs. Not if one of them must come before d
    let later := match mvs with
      | [] => true
      | m :: mvs => match m.pre.testBit d.i with
        | true => true      -- m waits for d: d comes no later than here
        | false => steady cl ops d mvs ms
    match mvs.any fun m => d.pre.testBit m.i with
    | true => later
    | false => (match stepOp P cl ops d.o d.τ s with
        | some (v, _) => same v d.v
        | none => false) && later
  | _, [] => true

/-- Each earlier operation either must come before, or neither looks at what the other writes. -/
def apartTo (ops : Array Oper) (b : Nat) (y : Oper) : List Oper → Nat → Bool
  | [], _ => true
  | x :: l, i => (b.testBit i || x.apart ops y) && apartTo ops b y l (i + 1)

def apartFrom (ops : Array Oper) (bef : T Nat) : List Oper → Nat → Bool
  | [], _ => true
  | y :: l, j => apartTo ops (bits bef j) y (ops.toList.take j) 0 && apartFrom ops bef l (j + 1)

def runDraw (cl : FuncId → List CV → St → Option (CV × St)) (ops : Array Oper) (τ : Fr) (s : St) : Option (Fr × St) :=
  match backOk ops.toList 0, preds ops.toList 0 .nil with
  | true, bef => match apartFrom ops bef ops.toList 0 with
    | true =>
      match drawOps P cl ops bef ops.toList 0 τ s with
      | none => none
      | some (ds, ms, τ') =>
        match ds.filter (·.mv) with
        | mvs => match chainOk mvs, ds.all (fun d => d.mv || steady P cl ops d mvs ms), ms.getLast? with
          | true, true, some s' => some (τ', s')
          | _, _, _ => none
    | false => none
  | false, _ => none

def results (fn : Func) (τ : Fr) (s : St) : Option CV :=
  match mapO (fun r : ResultVar => match r with
    | .tmp t => τ.get t
    | .cell a t => match τ.get a with
      | some (.ptr b o) => loadVar P s t b o
      | _ => none) fn.results.toList with
  | none => none
  | some [v] => some v
  | some l => some (.tuple l)

def argsT (l : List CV) (i : Nat) (t : T CV) : T CV :=
  match l with
  | [] => t
  | v :: l => argsT l (i + 1) (t.set i v)

structure Ev where
  code : Code → Fr → St → Res
  loop : Code → Fr → St → Res
  call : FuncId → List CV → St → Option (CV × St)

def Ev.zero : Ev := ⟨fun _ _ _ => none, fun _ _ _ => none, fun _ _ _ => none⟩

variable (H : Hooks)

def Ev.next (e : Ev) : Ev where
  code c τ s := match c with
    | .skip | .label _ => some (.norm, τ, s)
    | .region _ ops false => match runOps P e.call ops ops.toList τ s with
      | some (τ, s) => some (.norm, τ, s)
      | none => none
    | .region _ ops true => match runDraw P e.call ops τ s with
      | some (τ, s) => some (.norm, τ, s)
      | none => none
    | .seq a b => match e.code a τ s with
      | some (.norm, τ, s) => e.code b τ s
      | r => r
    | .cond c a b => match opd P τ c with
      | some (.bool true) => e.code a τ s
      | some (.bool false) => e.code b τ s
      | _ => none
    | .block id b => match e.code b τ s with
      | some (.exit j, τ, s) => match Nat.beq j id with
        | true => some (.norm, τ, s)
        | false => some (.exit j, τ, s)
      | r => r
    | .loop b => e.loop b τ s
    | .exit id => some (.exit id, τ, s)
    | .scope b => e.code b τ s
    | .ret => some (.ret, τ, s)
    | _ => none
  loop b τ s := match e.code b τ s with
    | some (.norm, τ, s) => e.loop b τ s
    | r => r
  call f args s := match H f args s with
   | some r => some r
   | none => match P.funcs[f]? with
    | none => none
    | some fn => match fn.body with
      | none => none
      | some c => match e.code c ⟨argsT args 0 .nil, max args.length fn.ntmps⟩ s with
        | some (.norm, τ, s) | some (.ret, τ, s) => match results P fn τ s with
          | some v => some (v, s)
          | none => none
        | _ => none

def ev : Nat → Ev
  | 0 => .zero
  | n + 1 => Ev.next P H (ev n)

end Go.Ae
