/- What is proved: a part of the proof of the tied card of StoreNil (text Abs1 of it). Conditions: those that its theorems name. -/
import Derived.Orders
import Derived.KernelRfl
set_option linter.unusedVariables false
namespace Go.Abs

inductive Tr (α : Type) where
  | lf
  | nd (v : Option α) (l r : Tr α)
namespace Tr
def get {α : Type} : Tr α → Nat → Option α
  | lf, _ => none
  | nd v _ _, 0 => v
  | nd _ l r, n + 1 => if n % 2 = 0 then l.get (n / 2) else r.get (n / 2)
def set {α : Type} : Nat → Tr α → Nat → α → Tr α
  | 0, t, _, _ => t
  | d + 1, lf, 0, x => nd (some x) lf lf
  | d + 1, nd _ l r, 0, x => nd (some x) l r
  | d + 1, lf, n + 1, x => if n % 2 = 0 then nd none (set d lf (n / 2) x) lf else nd none lf (set d lf (n / 2) x)
  | d + 1, nd v l r, n + 1, x => if n % 2 = 0 then nd v (set d l (n / 2) x) r else nd v l (set d r (n / 2) x)
def del {α : Type} : Tr α → Nat → Tr α
  | lf, _ => lf
  | nd _ l r, 0 => nd none l r
  | nd v l r, n + 1 => if n % 2 = 0 then nd v (l.del (n / 2)) r else nd v l (r.del (n / 2))
def put {α : Type} (t : Tr α) (n : Nat) (x : α) : Tr α := set (n + 1) t n x
end Tr

inductive AV where
  | bool (b : Bool)
  | int (k : IntKind) (n : Int)
  | str (s : List UInt8)
  | ptr (n off : Nat)
  | lptr (cells : List AV)
  | nilptr
  | sl (n off len cap : Nat) (ex : Bool) (es : Nat)
  | nilsl
  | esl
  | zsl
  | lst (len : Nat) (cells : List AV)
  | map (n : Nat)
  | nilmap
  | func (fn : Fn) (first caps : List AV)
  | nilfunc
  | iface (t : TypeId) (v : AV)
  | nilif
  | agg (cs : List AV)
  | tup (vs : List AV)
  | opq (i : Nat)

def ofScalar : Value → Option AV
  | .bool b => some (.bool b)
  | .int k n => some (.int k n)
  | .string s => some (.str s.data.toList)
  | .pointer none => some .nilptr
  | .slice none 0 0 => some .nilsl
  | .map none => some .nilmap
  | .nilFunc => some .nilfunc
  | .nilIface => some .nilif
  | _ => none
def ofScalars : List Value → Option (List AV)
  | [] => some []
  | v :: vs => match ofScalar v, ofScalars vs with
    | some a, some l => some (a :: l)
    | _, _ => none
def ofValue : Value → Option AV
  | .agg cs => (ofScalars cs.toList).map .agg
  | .tuple cs => (ofScalars cs.toList).map .tup
  | v => ofScalar v

inductive Blk where
  | cells (cs : List AV) (e : TypeId)
  | map (es : List (AV × AV × Nat)) (clock : Nat)
  | siter (s : List UInt8) (pos : Nat)
  | miter (m : Option Nat) (since : Nat) (seen : List Nat) (stepped : Nat)
structure Hp where
  blks : Tr Blk
  next : Nat

def AV.cells : AV → List AV
  | .agg cs => cs
  | v => [v]
def AV.sc : AV → Bool
  | .agg _ => false
  | .tup _ => false
  | _ => true

variable (P : Program)
def evalO (tm : Tr AV) : Operand → Option AV
  | .tmp t => some ((tm.get t).getD (.tup []))
  | .const v => ofValue v
  | .func f => some (.func (.func f) [] [])
  | .global _ => none
def evalL (tm : Tr AV) : List Operand → Option (List AV)
  | [] => some []
  | x :: xs => match evalO tm x, evalL tm xs with
    | some a, some l => some (a :: l)
    | _, _ => none

def Hp.new (h : Hp) (b : Blk) : Hp × Nat := (⟨h.blks.put h.next b, h.next + 1⟩, h.next)
def isAggT (t : TypeId) : Option Bool := match P.underlying t with
  | some (.struct _) => some true
  | some (.array _ _) => some true
  | some _ => some false
  | none => none
def sizeT (t : TypeId) : Option Nat := (P.info? t).map (·.size)
def zeroT (t : TypeId) : Option (List AV) := match P.info? t with
  | some i => match i.zero with
    | some v => match ofValue v with
      | some a => some a.cells
      | none => none
    | none => none
  | none => none
def elemT (t : TypeId) : Option TypeId := match P.underlying t with
  | some (.slice e) => some e
  | _ => none
def cut (l : List AV) (off n : Nat) : Option (List AV) := if off + n ≤ l.length then some ((l.drop off).take n) else none
def asVal (t : TypeId) (cs : List AV) : Option AV := match isAggT P t, cs with
  | some true, cs => some (.agg cs)
  | some false, [x] => some x
  | _, _ => none
def readAt (h : Hp) (n off len : Nat) : Option (List AV) := match h.blks.get n with
  | some (.cells cs _) => cut cs off len
  | _ => none
def splice (l : List AV) (off : Nat) (vs : List AV) : List AV := l.take off ++ vs ++ l.drop (off + vs.length)
def loadA (h : Hp) (t : TypeId) : AV → Option AV
  | .ptr n off => match sizeT P t with
    | some s => match readAt h n off s with
      | some cs => asVal P t cs
      | none => none
    | none => none
  | .lptr cells => match sizeT P t with
    | some s => match cut cells 0 s with
      | some cs => asVal P t cs
      | none => none
    | none => none
  | _ => none
def writeAt (h : Hp) (n off : Nat) (vs : List AV) : Option Hp := match h.blks.get n with
  | some (.cells cs e) => if off + vs.length ≤ cs.length ∧ vs.all AV.sc = true then some ⟨h.blks.put n (.cells (splice cs off vs) e), h.next⟩ else none
  | _ => none
def storeA (h : Hp) (t : TypeId) (a v : AV) : Option Hp := match a with
  | .ptr n off => match sizeT P t with
    | some s => if v.cells.length = s then writeAt h n off v.cells else none
    | none => none
  | _ => none
def fillA (place : Nat → Option (Nat × Nat)) (cells : List AV) : List (Nat × AV) → Option (List AV)
  | [] => some cells
  | (i, v) :: rest => match place i with
    | none => none
    | some (off, size) => if v.cells.length = size ∧ off + size ≤ cells.length then fillA place (splice cells off v.cells) rest else none
def placesA : List Field → Option (List (Nat × Nat))
  | [] => some []
  | f :: r => match sizeT P f.type, placesA r with
    | some s, some l => some ((f.offset, s) :: l)
    | _, _ => none
def evalParts (tm : Tr AV) : List (Nat × Operand) → Option (List (Nat × AV))
  | [] => some []
  | (i, x) :: xs => match evalO tm x, evalParts tm xs with
    | some a, some l => some ((i, a) :: l)
    | _, _ => none
def reps (z : List AV) : Nat → List AV
  | 0 => []
  | n + 1 => z ++ reps z n

def bytesLess : List UInt8 → List UInt8 → Bool
  | _, [] => false
  | [], _ :: _ => true
  | a :: x, b :: y => a < b || (a == b && bytesLess x y)
def eqScalar : AV → AV → Option Bool
  | .bool a, .bool b => some (a == b)
  | .int k a, .int k' b => if k = k' then some (a == b) else none
  | .str a, .str b => some (a == b)
  | _, _ => none
def nilA : AV → Option Bool
  | .nilptr | .nilsl | .nilmap | .nilfunc => some true
  | .ptr .. | .lptr .. | .sl .. | .esl | .zsl | .lst (_ + 1) _ | .map _ | .func .. => some false
  | _ => none
def isPtr : AV → Bool
  | .nilptr | .ptr .. | .lptr .. => true
  | _ => false
def isSl : AV → Bool
  | .nilsl | .sl .. | .esl | .zsl | .lst .. => true
  | _ => false
def isMap : AV → Bool
  | .nilmap | .map _ => true
  | _ => false
def isFn : AV → Bool
  | .nilfunc | .func .. => true
  | _ => false
def fitA (d : TypeDesc) (a : AV) : Bool := match d with
  | .pointer _ => isPtr a
  | .slice _ => isSl a
  | .map _ _ => isMap a
  | .func _ _ _ => isFn a
  | _ => false
def eqNil (d : TypeDesc) (a b : AV) : Option Bool := if fitA d a && fitA d b then (match nilA a, nilA b with
  | some true, some r => some r
  | some r, some true => some r
  | _, _ => none) else none
def eqFs (rc : TypeId → AV → AV → Option Bool) (xs ys : List AV) : List Field → Option Bool
  | [] => some true
  | f :: fs => if f.name = "_" then none else match sizeT P f.type with
    | some s => match cut xs f.offset s, cut ys f.offset s with
      | some cx, some cy => match asVal P f.type cx, asVal P f.type cy with
        | some a, some b => match rc f.type a b with
          | some true => eqFs rc xs ys fs
          | some false => some false
          | none => none
        | _, _ => none
      | _, _ => none
    | none => none
def eqT : Nat → TypeId → AV → AV → Option Bool
  | 0, _, _, _ => none
  | d + 1, t, a, b => match P.underlying t, a, b with
    | some .bool, .bool a, .bool b => some (a == b)
    | some (.int _), .int k a, .int k' b => if k = k' then some (a == b) else none
    | some .string, .str a, .str b => some (a == b)
    | some (.struct fs), .agg xs, .agg ys => if P.stoodInHeld t then none else eqFs P (eqT d) xs ys fs.toList
    | some (.pointer te), .ptr n o, .ptr n' o' => if n = n' then (match P.info? te with
      | some i => if i.size ≠ 0 then some (o == o') else none
      | none => none) else none
    | some d, a, b => eqNil d a b
    | none, _, _ => none
def plainE : AV → Bool
  | .nilif | .iface .. | .opq _ | .agg _ | .tup _ => false
  | _ => true
def eqA (t : TypeId) (a b : AV) : Option Bool := match a, b with
  | .agg x, .agg y => if P.eqGuardType P.depth t then none else eqT P 20 t (.agg x) (.agg y)
  | a, b => if plainE a && plainE b then eqT P 20 t a b else none
def bitsA (op : BinOp) (k : IntKind) (x y : Int) : Option AV :=
  let a := BitVec.ofInt k.bits x
  let b := BitVec.ofInt k.bits y
  match op with
  | .and => some (.int k (k.wrap (a &&& b).toNat))
  | .or => some (.int k (k.wrap (a ||| b).toNat))
  | .xor => some (.int k (k.wrap (a ^^^ b).toNat))
  | .andNot => some (.int k (k.wrap (a &&& ~~~b).toNat))
  | _ => none
def intA (op : BinOp) (k : IntKind) (a b : Int) : Option AV := match op with
  | .add => some (.int k (k.wrap (a + b)))
  | .sub => some (.int k (k.wrap (a - b)))
  | .mul => some (.int k (k.wrap (a * b)))
  | .quo => if b = 0 then none else some (.int k (k.wrap (a.tdiv b)))
  | .rem => if b = 0 then none else some (.int k (a.tmod b))
  | .eql => some (.bool (a == b))
  | .neq => some (.bool (a != b))
  | .lss => some (.bool (a < b))
  | .leq => some (.bool (a ≤ b))
  | .gtr => some (.bool (a > b))
  | .geq => some (.bool (a ≥ b))
  | .and => bitsA .and k a b
  | .or => bitsA .or k a b
  | .xor => bitsA .xor k a b
  | .andNot => bitsA .andNot k a b
  | _ => none
def strA (op : BinOp) (a b : List UInt8) : Option AV := match op with
  | .add => if a.length + b.length ≤ 2 ^ 62 then some (.str (a ++ b)) else none
  | .lss => some (.bool (bytesLess a b))
  | .leq => some (.bool (bytesLess a b || a == b))
  | .gtr => some (.bool !(bytesLess a b || a == b))
  | .geq => some (.bool !(bytesLess a b))
  | .eql => some (.bool (a == b))
  | .neq => some (.bool !(a == b))
  | _ => none
def shA (op : BinOp) (k : IntKind) (a b : Int) : Option AV := if b < 0 then none else match op with
  | .shl => some (.int k (k.wrap (a * 2 ^ min b.toNat k.bits)))
  | .shr => some (.int k (a.fdiv (2 ^ min b.toNat k.bits)))
  | _ => none
def isSh : BinOp → Bool
  | .shl | .shr => true
  | _ => false
def binA (op : BinOp) (t : TypeId) (x y : AV) : Option AV := match x, y with
  | .int k a, .int k' b => if isSh op then shA op k a b else if k = k' then intA op k a b else none
  | .str a, .str b => strA op a b
  | a, b => match op with
    | .eql => (eqA P t a b).map .bool
    | .neq => (eqA P t a b).map (fun r => .bool !r)
    | _ => none
def unA (op : UnOp) (x : AV) : Option AV := match op, x with
  | .neg, .int k n => some (.int k (k.wrap (0 - n)))
  | .not, .bool b => some (.bool !b)
  | .xor, .int k n => bitsA .xor k (if k.signed then -1 else k.max) n
  | _, _ => none
def strOfCells : List AV → Option (List UInt8)
  | [] => some []
  | .int .u8 n :: r => match strOfCells r with
    | some l => some (UInt8.ofNat n.toNat :: l)
    | none => none
  | _ => none
/-- the cells of a slice -/
def slCells (h : Hp) (size : Nat) : AV → Option (List AV)
  | .nilsl => some []
  | .esl => some []
  | .zsl => some []
  | .sl n off len _ _ _ => readAt h n off (len * size)
  | .lst len cells => cut cells 0 (len * size)
  | _ => none
def lenA : AV → Option Nat
  | .nilsl => some 0
  | .esl => some 0
  | .zsl => some 0
  | .sl _ _ len _ _ _ => some len
  | .lst len _ => some len
  | .str s => some s.length
  | _ => none
def convA (src dst : TypeId) (x : AV) : Option AV := match P.underlying src, P.underlying dst, x with
  | some _, some (.int k), .int _ n => some (.int k (k.wrap n))
  | some .string, some .string, .str s => some (.str s)
  | some .string, some (.slice e), .str s => match P.underlying e with
    | some (.int .u8) => if s.length ≤ 2 ^ 45 then some (.lst s.length (s.map fun b => .int .u8 b.toNat)) else none
    | _ => none
  | _, _, _ => none
/-- to unsafe.Pointer and back -/
def convU (h : Hp) (src dst : TypeId) (x : AV) : Option AV := match P.underlying src, P.underlying dst, x with
  | some (.pointer t), some .unsafePointer, .ptr n off => match h.blks.get n, P.info? t with
    | some (.cells cs _), some i => if off < cs.length ∧ i.size ≠ 0 then some (.ptr n off) else none
    | _, _ => none
  | some .unsafePointer, some (.pointer u), .ptr n 0 => match h.blks.get n, P.info? u with
    | some (.cells cs e), some i => if e = u ∧ i.size ≠ 0 ∧ i.size ≤ cs.length then some (.ptr n 0) else none
    | _, _ => none
  | _, _, _ => none
def boundA (dflt : Nat) (top : Nat) : Option AV → Option Nat
  | none => some dflt
  | some (.int _ i) => if 0 ≤ i ∧ i ≤ top then some i.toNat else none
  | _ => none
/-- the three bounds: low, high, most -/
def bndA (len cap : Nat) (lo hi mx : Option AV) : Option (Nat × Nat × Nat) := match mx, hi with
  | some _, none => none
  | _, _ => match boundA cap cap mx with
    | some m => match boundA len m hi with
      | some b => match boundA 0 b lo with
        | some a => some (a, b, m)
        | none => none
      | none => none
    | none => none
def sliceS (t : TypeId) (lo hi mx : Option AV) (s : Nat) : AV → Option AV
  | .nilsl => match bndA 0 0 lo hi mx with
    | some _ => some .nilsl
    | none => none
  | .zsl => match bndA 0 0 lo hi mx with
    | some _ => some .zsl
    | none => none
  | .esl => match bndA 0 0 lo hi mx with
    | some _ => match mx with
      | some _ => some .zsl
      | none => some .esl
    | none => none
  | .lst len cells => match bndA len len lo hi mx with
    | some (a, b, m) => if a < len ∧ 0 < m then some (.lst (b - a) ((cells.take (b * s)).drop (a * s)))
      else if mx.isSome ∧ m = 0 ∧ 0 < len then some .zsl else some (.lst 0 [])
    | none => none
  | .sl n off len cap ex es => if es = s then match bndA len cap lo hi mx with
    | some (a, b, m) =>
      if a < m then some (.sl n (off + a * s) (b - a) (m - a) (ex || mx.isSome) es)
      else if (ex || mx.isSome) then some (.sl n off 0 0 true es) else some .esl
    | none => none else none
  | _ => none
def sliceA (t : TypeId) (x : AV) (lo hi mx : Option AV) : Option AV := match P.underlying t with
  | some .string => match x, mx with
    | .str s, none => match bndA s.length s.length lo hi none with
      | some (a, b, _) => some (.str ((s.take b).drop a))
      | none => none
    | _, _ => none
  | some (.slice e) => match sizeT P e with
    | some s => sliceS t lo hi mx s x
    | none => none
  | _ => none
def optO (tm : Tr AV) : Option Operand → Option (Option AV)
  | none => some none
  | some x => (evalO tm x).map some
def fieldT (t : TypeId) (f : Nat) : Option Field := match P.underlying t with
  | some (.struct fs) => fs[f]?
  | _ => none
def fieldAddrA (t : TypeId) (x : AV) (f : Nat) : Option AV := match fieldT P t f with
  | some fl => match sizeT P fl.type with
    | some (_ + 1) => match x with
      | .ptr n off => some (.ptr n (off + fl.offset))
      | .lptr cells => some (.lptr (cells.drop fl.offset))
      | _ => none
    | _ => none
  | none => none
def fieldA (t : TypeId) (x : AV) (f : Nat) : Option AV := match fieldT P t f, x with
  | some fl, .agg cs => match sizeT P fl.type with
    | some s => match cut cs fl.offset s with
      | some l => asVal P fl.type l
      | none => none
    | none => none
  | _, _ => none
def indexAddrA (t : TypeId) (x i : AV) : Option AV := match i with
  | .int _ i => if 0 ≤ i then match P.underlying t, x with
      | some (.slice e), .sl n off len _ _ _ => if i < len then (sizeT P e).map fun s => .ptr n (off + i.toNat * s) else none
      | some (.slice e), .lst len cells => if i < len then (sizeT P e).map fun s => .lptr (cells.drop (i.toNat * s)) else none
      | some (.array k e), .ptr n off => if i < k then (sizeT P e).map fun s => .ptr n (off + i.toNat * s) else none
      | _, _ => none
    else none
  | _ => none
def indexA (t : TypeId) (x i : AV) : Option AV := match i with
  | .int _ i => if 0 ≤ i then match P.underlying t, x with
      | some .string, .str s => match s[i.toNat]? with
        | some b => some (.int .u8 b.toNat)
        | none => none
      | some (.array k e), .agg cs => if i < k then match sizeT P e with
          | some s => match cut cs (i.toNat * s) s with
            | some l => asVal P e l
            | none => none
          | none => none
        else none
      | _, _ => none
    else none
  | _ => none
def findE (k : AV) : List (AV × AV × Nat) → Option (Option AV)
  | [] => some none
  | (k', v, _) :: es => match eqScalar k k' with
    | some true => some (some v)
    | some false => findE k es
    | none => none
def setE (k v : AV) : List (AV × AV × Nat) → Option (List (AV × AV × Nat))
  | [] => none
  | (k', v', b) :: es => match eqScalar k k' with
    | some true => some ((k, v, b) :: es)
    | some false => (setE k v es).map ((k', v', b) :: ·)
    | none => none
def keyOK (kt : TypeId) (k : AV) : Bool := match P.underlying kt, k with
  | some (.int _), .int .. => true
  | some .string, .str _ => true
  | some .bool, .bool _ => true
  | _, _ => false
def zeroV (t : TypeId) : Option AV := match P.info? t with
  | some i => match i.zero with
    | some v => ofValue v
    | none => none
  | none => none
def lookA (el : TypeId) (ok : Bool) : Option (Option AV) → Option AV
  | some (some v) => some (if ok then .tup [v, .bool true] else v)
  | some none => match zeroV P el with
    | some v => some (if ok then .tup [v, .bool false] else v)
    | none => none
  | none => none
def lookupA (h : Hp) (t : TypeId) (x k : AV) (ok : Bool) : Option AV := match P.underlying t with
  | some (.map kt e) => if keyOK P kt k then (match x with
      | .nilmap => lookA P e ok (some none)
      | .map n => match h.blks.get n with
        | some (.map es _) => lookA P e ok (findE k es)
        | _ => none
      | _ => none)
    else none
  | _ => none
def updateA (h : Hp) (t : TypeId) (x k v : AV) : Option Hp := match P.underlying t, x with
  | some (.map kt _), .map n => if keyOK P kt k then match h.blks.get n with
      | some (.map es clock) => match findE k es with
        | some (some _) => (setE k v es).map fun es' => ⟨h.blks.put n (.map es' clock), h.next⟩
        | some none => some ⟨h.blks.put n (.map (es ++ [(k, v, clock)]) (clock + 1)), h.next⟩
        | none => none
      | _ => none
    else none
  | _, _ => none
def nextA (h : Hp) (x : AV) (isStr : Bool) : Option (AV × Hp) := match x with
  | .ptr n 0 => match h.blks.get n, isStr with
    | some (.siter s pos), true => if pos < s.length then
        some (.tup [.bool true, .int .i64 pos, .int .i32 (Utf8.decode ⟨s.toArray⟩ pos).1], ⟨h.blks.put n (.siter s (pos + (Utf8.decode ⟨s.toArray⟩ pos).2)), h.next⟩)
      else some (.tup [.bool false], h)
    | some (.miter none _ _ _), false => some (.tup [.bool false], h)
    | some (.miter (some m) since seen st), false => match h.blks.get m with
      | some (.map [] clock) => some (.tup [.bool false], h)
      | some (.map [(k, v, b)] clock) => if b < since ∧ (seen.isEmpty || b < st) = true then
          if seen.contains b then some (.tup [.bool false], h)
          else some (.tup [.bool true, k, v], ⟨h.blks.put n (.miter (some m) since (seen ++ [b]) clock), h.next⟩)
        else none
      | _ => none
    | _, _ => none
  | _ => none
def rangeA (h : Hp) (t : TypeId) (x : AV) : Option (AV × Hp) := match P.underlying t, x with
  | some .string, .str s => some (.ptr (h.new (.siter s 0)).2 0, (h.new (.siter s 0)).1)
  | some (.map _ _), .nilmap => some (.ptr (h.new (.miter none 0 [] 0)).2 0, (h.new (.miter none 0 [] 0)).1)
  | some (.map _ _), .map m => match h.blks.get m with
    | some (.map _ clock) => some (.ptr (h.new (.miter (some m) clock [] clock)).2 0, (h.new (.miter (some m) clock [] clock)).1)
    | _ => none
  | _, _ => none
def limA (bytes need : Nat) : Bool := need * bytes ≤ 2 ^ 40 && bytes ≤ 2 ^ 30 && need ≤ 2 ^ 45
def freshA (h : Hp) (e : TypeId) (cells : List AV) (need size : Nat) : AV × Hp := (.sl (h.new (.cells cells e)).2 0 need need false size, (h.new (.cells cells e)).1)
def Hp.kill (h : Hp) (n : Nat) : Hp := ⟨h.blks.del n, h.next⟩
def elemIs (h : Hp) (n : Nat) (e : TypeId) : Bool := match h.blks.get n with
  | some (.cells _ e0) => e0 == e
  | _ => false
/-- append: what is appended, its cells, their number of elements k -/
def appendA (h : Hp) (e : TypeId) (size bytes : Nat) (s : AV) (cells : List AV) (k : Nat) : Option (AV × Hp) := match s with
  | .nilsl => if k = 0 then some (.nilsl, h) else if limA bytes k then some (freshA h e cells k size) else none
  | .zsl => if k = 0 then some (.zsl, h) else if limA bytes k then some (freshA h e cells k size) else none
  | .esl => if k = 0 then some (.esl, h) else none
  | .lst len old => if k = 0 then some (.lst len old, h) else none
  | .sl n off len cap ex es => if es = size ∧ limA bytes (len + k) then
      if len + k ≤ cap then match writeAt h n (off + len * size) cells with
        | some h' => some (.sl n off (len + k) cap ex es, h')
        | none => none
      else match readAt h n off (len * size) with
        | some old => if ex then some (freshA h e (old ++ cells) (len + k) size)
          else if off = 0 ∧ elemIs h n e = true then some (freshA (h.kill n) e (old ++ cells) (len + k) size) else none
        | none => none
    else none
  | _ => none
def minmaxA (mx : Bool) : AV → List AV → Option AV
  | v, [] => some v
  | .int k a, .int k' b :: r => if k = k' then minmaxA mx (.int k (if mx then (if b > a then b else a) else (if b < a then b else a))) r else none
  | _, _ => none
/-- what a source of append or copy holds -/
def srcA (h : Hp) (size : Nat) : AV → Option (List AV)
  | .str s => if size = 1 then some (s.map fun (b : UInt8) => AV.int .u8 b.toNat) else none
  | x => slCells h size x
def srcT (t : TypeId) (x : AV) : Bool := match P.underlying t, x with
  | some .string, .str _ => true
  | some (.slice _), .str _ => false
  | some (.slice _), _ => true
  | _, _ => false
def bytesA : List AV → Option (List UInt8)
  | [] => some []
  | .int .u8 b :: r => if 0 ≤ b ∧ b < 256 then (bytesA r).map (UInt8.ofNat b.toNat :: ·) else none
  | _ => none
def builtinA (h : Hp) (b : Builtin) (ts : List TypeId) (args : List AV) : Option (AV × Hp) := match b, args with
  | .len, [x] => match ts with
    | [t] => match P.underlying t, x with
      | some .string, .str s => some (.int .i64 s.length, h)
      | some (.slice _), .str _ => none
      | some (.slice _), x => match lenA x with
        | some n => some (.int .i64 n, h)
        | none => none
      | some (.map _ _), .nilmap => some (.int .i64 0, h)
      | some (.map _ _), .map n => match h.blks.get n with
        | some (.map es _) => some (.int .i64 es.length, h)
        | _ => none
      | _, _ => none
    | _ => none
  | .cap, [x] => match ts with
    | [t] => match P.underlying t, x with
      | some (.slice _), .nilsl => some (.int .i64 0, h)
      | some (.slice _), .zsl => some (.int .i64 0, h)
      | some (.slice _), .sl _ _ _ cap true _ => some (.int .i64 cap, h)
      | _, _ => none
    | _ => none
  | .append, [s, x] => match ts with
    | [t, t'] => match elemT P t, srcT P t' x with
      | some e, true => match P.info? e with
        | some i => match i.zero, srcA h i.size x, lenA x with
          | some z, some cs, some k => if cs.all AV.sc ∧ z.cells.size = i.size then appendA h e i.size i.bytes s cs k else none
          | _, _, _ => none
        | none => none
      | _, _ => none
    | _ => none
  | .unsafeSliceData, [x] => match x with
    | .nilsl => some (.nilptr, h)
    | .sl n off _ cap _ _ => if cap ≠ 0 then some (.ptr n off, h) else none
    | _ => none
  | .unsafeString, [x, .int .i64 k] => match ts with
    | [pt, _] => if k = 0 then (match x with
        | .nilptr => some (.str [], h)
        | .ptr _ _ => some (.str [], h)
        | _ => none)
      else (match x with
        | .ptr n 0 => match h.blks.get n, P.underlying pt with
          | some (.cells cs e), some (.pointer e') => match P.info? e with
            | some i => if e = e' ∧ i.size = 1 ∧ 0 < k ∧ k.toNat ≤ cs.length ∧ k ≤ 2 ^ 45 then (bytesA (cs.take k.toNat)).map fun l => (.str l, h.kill n) else none
            | none => none
          | _, _ => none
        | _ => none)
    | _ => none
  | .min, v :: r => (minmaxA false v r).map (·, h)
  | .max, v :: r => (minmaxA true v r).map (·, h)
  | _, _ => none

/-- what an operation asks -/
inductive Nx where
  | val (v : AV) (h : Hp)
  | skip (h : Hp)
  | enter (f : FuncId) (args : List AV) (h : Hp)
def vl (h : Hp) (v : Option AV) : Option Nx := v.map (.val · h)
def opA (tm : Tr AV) (h : Hp) (o : Op) : Option Nx := match o with
  | .move x | .assign x => vl h (evalO tm x)
  | .pick c a b => match evalO tm c with
    | some (.bool t) => vl h (evalO tm (if t then a else b))
    | _ => none
  | .alloc t => match zeroT P t with
    | some z => let (h, n) := h.new (.cells z t); some (.val (.ptr n 0) h)
    | none => none
  | .box t x => match evalO tm x with
    | some v => let (h, n) := h.new (.cells v.cells t); some (.val (.ptr n 0) h)
    | none => none
  | .build t parts => match zeroT P t, evalParts tm parts.toList, P.underlying t with
    | some z, some ps, some (.struct fs) => match placesA P fs.toList with
      | some pl => vl h ((fillA (fun i => pl[i]?) z ps).map .agg)
      | none => none
    | some z, some ps, some (.array _ e) => match sizeT P e with
      | some s => vl h ((fillA (fun i => some (i * s, s)) z ps).map .agg)
      | none => none
    | _, _, _ => none
  | .buildSlice t len parts => match elemT P t, evalParts tm parts.toList with
    | some e, some ps => match sizeT P e, zeroT P e with
      | some s, some z => if z.length = s ∧ len * s ≤ 2 ^ 24 then match fillA (fun i => some (i * s, s)) (reps z len) ps with
        | some cs => let (h, n) := h.new (.cells cs e); some (.val (.sl n 0 len len true s) h)
        | none => none else none
      | _, _ => none
    | _, _ => none
  | .load t a => match evalO tm a with
    | some a => vl h (loadA P h t a)
    | none => none
  | .store t a x => match evalO tm a, evalO tm x with
    | some a, some x => (storeA P h t a x).map .skip
    | _, _ => none
  | .nilCheck x => match evalO tm x with
    | some (.ptr n o) => some (.val (.ptr n o) h)
    | some (.lptr c) => some (.val (.lptr c) h)
    | some (.func (.func f) a b) => some (.val (.func (.func f) a b) h)
    | _ => none
  | .binOp op t x y _ => match evalO tm x, evalO tm y with
    | some x, some y => vl h (binA P op t x y)
    | _, _ => none
  | .unOp op _ x => match evalO tm x with
    | some x => vl h (unA op x)
    | _ => none
  | .convert s d x => match evalO tm x with
    | some x => vl h (match convA P s d x with
      | some v => some v
      | none => convU P h s d x)
    | _ => none
  | .makeFunc fn a b => match evalL tm a.toList, evalL tm b.toList with
    | some a, some b => some (.val (.func fn a b) h)
    | _, _ => none
  | .makeMap t none => let (h, n) := h.new (.map [] 0); some (.val (.map n) h)
  | .makeSlice t l c => match elemT P t, evalO tm l, evalO tm c with
    | some e, some (.int .i64 l), some (.int .i64 c) => match P.info? e, zeroT P e with
      | some i, some z => if 0 ≤ l ∧ l ≤ c ∧ i.bytes * c ≤ 2 ^ 45 ∧ c ≤ 2 ^ 45 ∧ z.length = i.size then
          let (h, n) := h.new (.cells (reps z c.toNat) e); some (.val (.sl n 0 l.toNat c.toNat true i.size) h)
        else none
      | _, _ => none
    | _, _, _ => none
  | .slice t x lo hi mx => match evalO tm x, optO tm lo, optO tm hi, optO tm mx with
    | some x, some lo, some hi, some mx => vl h (sliceA P t x lo hi mx)
    | _, _, _, _ => none
  | .fieldAddr s x f => match evalO tm x with
    | some x => vl h (fieldAddrA P s x f)
    | none => none
  | .field s x f => match evalO tm x with
    | some x => vl h (fieldA P s x f)
    | none => none
  | .indexAddr t x i => match evalO tm x, evalO tm i with
    | some x, some i => vl h (indexAddrA P t x i)
    | _, _ => none
  | .index t x i => match evalO tm x, evalO tm i with
    | some x, some i => vl h (indexA P t x i)
    | _, _ => none
  | .lookup t x i ok => match evalO tm x, evalO tm i with
    | some x, some i => vl h (lookupA P h t x i ok)
    | _, _ => none
  | .mapUpdate t m k v => match evalO tm m, evalO tm k, evalO tm v with
    | some m, some k, some v => (updateA P h t m k v).map .skip
    | _, _, _ => none
  | .range t x => match evalO tm x with
    | some x => (rangeA P h t x).map fun r => .val r.1 r.2
    | none => none
  | .next it s => match evalO tm it with
    | some x => (nextA h x s).map fun r => .val r.1 r.2
    | none => none
  | .extract t i => match evalO tm t with
    | some (.tup vs) => vl h vs[i]?
    | _ => none
  | .call c => match c.callee with
    | .builtin b => match evalL tm c.args.toList with
      | some as => (builtinA P h b c.argTypes.toList as).map fun r => .val r.1 r.2
      | none => none
    | .value f => match evalO tm f, evalL tm c.args.toList with
      | some (.func (.func f) first caps), some as => some (.enter f (first ++ as ++ caps) h)
      | _, _ => none
    | _ => none
  | _ => none

inductive Ex where
  | normal
  | exit (id : Nat)
  | ret
structure St where
  tm : Tr AV
  nt : Nat
  hp : Hp
def wantedA (ops : Array Oper) (tm : Tr AV) (g : Option (Nat × Bool)) : Option Bool := match g with
  | none => some true
  | some (j, want) => match ops[j]? with
    | some o => match o.dst with
      | some d => match tm.get d with
        | some (.bool b) => some (b == want)
        | some (.tup _) => some false
        | _ => none
      | none => none
    | none => none
def putT (tm : Tr AV) (nt : Nat) (d : Option Tmp) (v : AV) : Tr AV := match d with
  | some d => if d < nt then tm.put d v else tm
  | none => tm
def resA (h : Hp) (tm : Tr AV) : List ResultVar → Option (List AV)
  | [] => some []
  | .tmp t :: r => match resA h tm r with
    | some l => some ((tm.get t).getD (.tup []) :: l)
    | none => none
  | .cell a t :: r => match tm.get a, resA h tm r with
    | some a, some l => match loadA P h t a with
      | some v => some (v :: l)
      | none => none
    | _, _ => none
def one : List AV → AV
  | [v] => v
  | l => .tup l
def args0 : Nat → List AV → Tr AV → Tr AV
  | _, [], t => t
  | i, v :: r, t => args0 (i + 1) r (t.put i v)

mutual
def same : AV → AV → Bool
  | .bool a, .bool b => a == b
  | .int k a, .int k' b => k == k' && a == b
  | .str a, .str b => a == b
  | .ptr a b, .ptr c d => a == c && b == d
  | .lptr a, .lptr b => sames a b
  | .nilptr, .nilptr => true
  | .sl a b c d e f, .sl a' b' c' d' e' f' => a == a' && b == b' && c == c' && d == d' && e == e' && f == f'
  | .nilsl, .nilsl => true
  | .esl, .esl => true
  | .zsl, .zsl => true
  | .lst a b, .lst c d => a == c && sames b d
  | .map a, .map b => a == b
  | .nilmap, .nilmap => true
  | .nilfunc, .nilfunc => true
  | .nilif, .nilif => true
  | .agg a, .agg b => sames a b
  | .tup a, .tup b => sames a b
  | .opq a, .opq b => a == b
  | _, _ => false
def sames : List AV → List AV → Bool
  | [], [] => true
  | a :: x, b :: y => same a b && sames x y
  | _, _ => false
end

/-! ### regions of open order -/
inductive Kd where
  | pu | rd | al | ef
def kindO : Op → Kd
  | .alloc _ | .box .. | .buildSlice .. | .makeMap .. | .makeSlice .. => .al
  | .load .. | .lookup .. | .convert .. => .rd
  | .store .. | .mapUpdate .. | .next .. | .range .. | .insert .. | .entryStore .. | .mapEntry .. => .ef
  | .call c => match c.callee with
    | .builtin .len | .builtin .cap => .rd
    | .builtin .min | .builtin .max | .builtin .unsafeSliceData => .pu
    | _ => .ef
  | _ => .pu
def kindAt (ops : Array Oper) (i : Nat) : Kd := match ops[i]? with
  | some o => kindO o.op
  | none => .pu
def isEf (ops : Array Oper) (i : Nat) : Bool := match kindAt ops i with
  | .ef => true
  | _ => false
def isAl (ops : Array Oper) (i : Nat) : Bool := match kindAt ops i with
  | .al => true
  | _ => false
def isRd (ops : Array Oper) (i : Nat) : Bool := match kindAt ops i with
  | .rd => true
  | _ => false
def afters (ops : Array Oper) (i : Nat) : List Nat := match ops[i]? with
  | some o => (o.after.toList.filter (Region.binds .any)).map (·.on)
  | none => []
/-- an order: of what may come up now the first that turns memory, else the first that makes none, else the first -/
def canon (ops : Array Oper) : Nat → List Nat → List Nat → List Nat
  | 0, _, _ => []
  | n + 1, seen, left =>
    let rd := left.filter fun i => (afters ops i).all seen.contains
    match (match rd.find? (isEf ops) with
      | some i => some i
      | none => match rd.find? (fun i => !isAl ops i) with
        | some i => some i
        | none => rd.head?) with
    | some i => i :: canon ops n (i :: seen) (left.filter (· != i))
    | none => []
/-- what comes before, each with its own: for the order's operations so far -/
def preds (ops : Array Oper) : List Nat → List (Nat × List Nat) → List (Nat × List Nat)
  | [], acc => acc
  | i :: r, acc => preds ops r ((i, (afters ops i) ++ (afters ops i).flatMap fun j => (acc.lookup j).getD []) :: acc)
def pre (ps : List (Nat × List Nat)) (i j : Nat) : Bool := ((ps.lookup j).getD []).contains i
/-- the order is one of the region's, what turns memory comes in one order, what is made before it is wanted by it, slots are apart -/
def okOrd (ops : Array Oper) : List Nat → List Nat → Bool
  | _, [] => true
  | seen, i :: r => (afters ops i).all seen.contains && !seen.contains i && okOrd ops (i :: seen) r
def okEf (ops : Array Oper) (ps : List (Nat × List Nat)) : List Nat → List Nat → Bool
  | _, [] => true
  | seen, i :: r => (!isEf ops i || seen.all fun j => !(isEf ops j || isAl ops j) || pre ps j i) && okEf ops ps (i :: seen) r
def dstAt (ops : Array Oper) (i : Nat) : Option Tmp := (ops[i]?).bind (·.dst)
def okTm (ops : Array Oper) (ps : List (Nat × List Nat)) (ord : List Nat) : Bool :=
  ord.all fun i => match dstAt ops i with
    | none => true
    | some d => ord.all fun j => i == j || (dstAt ops j != some d && (match ops[j]? with
        | some o => !(o.looksAt ops).contains d || pre ps i j || pre ps j i
        | none => true))
def okR (ops : Array Oper) (ord : List Nat) : Bool :=
  ord.length == ops.size && okOrd ops [] ord && okEf ops (preds ops ord []) [] ord && okTm ops (preds ops ord []) ord && ord.all (· < ops.size) && (List.range ops.size).all ord.contains
inductive Rc where
  | off
  | val (tm : Tr AV) (v : AV)
  | al (v : AV) (n : Nat) (b : Blk)
  | ef (v : AV) (h : Hp)
/-- the heaps behind each that turned memory: those that came, those that come -/
def snapsOf : List (Nat × Rc) → List Nat → Hp → List (List Nat × Hp × List (Nat × Rc))
  | [], done, h => [(done, h, [])]
  | (i, .ef v h') :: r, done, h => (done, h, (i, .ef v h') :: r) :: snapsOf r (i :: done) h'
  | _ :: r, done, h => snapsOf r done h
def efs (l : List (Nat × Rc)) : List Nat := l.filterMap fun x => match x.2 with
  | .ef _ _ => some x.1
  | _ => none
def chkRd (ops : Array Oper) (ps : List (Nat × List Nat)) (sn : List (List Nat × Hp × List (Nat × Rc))) (x : Nat × Rc) : Bool := match x.2 with
  | .val tm v => if isRd ops x.1 then sn.all fun s =>
      (s.1.any fun e => pre ps x.1 e) || ((efs s.2.2).any fun e => pre ps e x.1) || (match ops[x.1]? with
        | some o => match opA P tm s.2.1 o.op with
          | some (.val v' _) => same v v'
          | _ => false
        | none => false)
    else true
  | _ => true

inductive Sp where
  | fn (sp : List AV → Hp → Option AV)
  | ext (sp : List AV → Option AV)
variable (Sg : FuncId → Option Sp)
mutual
def code : Nat → Code → St → Option (Ex × St)
  | 0, _, _ => none
  | n + 1, c, s => match c with
    | .skip => some (.normal, s)
    | .region _ ops draw => if draw then (match opsD n ops (canon ops ops.size [] (List.range ops.size)) s with
        | some (recs, s') => if okR ops (canon ops ops.size [] (List.range ops.size)) && recs.all (chkRd P ops (preds ops (canon ops ops.size [] (List.range ops.size)) []) (snapsOf recs [] s.hp))
            then some (.normal, s') else none
        | none => none)
      else (opsR n ops ops.toList s).map (.normal, ·)
    | .seq a b => match code n a s with
      | some (.normal, s') => code n b s'
      | r => r
    | .cond c a b => match evalO s.tm c with
      | some (.bool t) => code n (if t then a else b) s
      | _ => none
    | .block id c => match code n c s with
      | some (.exit i, s') => if i = id then some (.normal, s') else some (.exit i, s')
      | r => r
    | .loop c => match code n c s with
      | some (.normal, s') => code n (.loop c) s'
      | r => r
    | .exit id => some (.exit id, s)
    | .ret => some (.ret, s)
    | _ => none
def opsR : Nat → Array Oper → List Oper → St → Option St
  | 0, _, _, _ => none
  | n + 1, ops, [], s => some s
  | n + 1, ops, o :: r, s => match wantedA ops s.tm o.guard with
    | some true => match opC n s.tm s.hp o.op with
      | some (v, h) => opsR n ops r ⟨putT s.tm s.nt o.dst v, s.nt, h⟩
      | none => none
    | some false => opsR n ops r ⟨putT s.tm s.nt o.dst (.tup []), s.nt, s.hp⟩
    | none => none
/-- the region's operations in an order, each with what it came to -/
def opsD : Nat → Array Oper → List Nat → St → Option (List (Nat × Rc) × St)
  | 0, _, _, _ => none
  | n + 1, ops, [], s => some ([], s)
  | n + 1, ops, i :: r, s => match ops[i]? with
    | none => none
    | some o => match wantedA ops s.tm o.guard with
      | some true => match opC n s.tm s.hp o.op with
        | some (v, h) => match opsD n ops r ⟨putT s.tm s.nt o.dst v, s.nt, h⟩ with
          | some (l, s') => match kindO o.op with
            | .ef => some ((i, .ef v h) :: l, s')
            | .al => match h.blks.get s.hp.next with
              | some b => some ((i, .al v s.hp.next b) :: l, s')
              | none => none
            | _ => some ((i, .val s.tm v) :: l, s')
          | none => none
        | none => none
      | some false => match opsD n ops r ⟨putT s.tm s.nt o.dst (.tup []), s.nt, s.hp⟩ with
        | some (l, s') => some ((i, if isEf ops i then .ef (.tup []) s.hp else .off) :: l, s')
        | none => none
      | none => none
/-- an operation, calls carried out -/
def opC : Nat → Tr AV → Hp → Op → Option (AV × Hp)
  | 0, _, _, _ => none
  | n + 1, tm, hp, o => match opA P tm hp o with
    | some (.val v h) => some (v, h)
    | some (.skip h) => some (.tup [], h)
    | some (.enter f as h) => match Sg f with
      | some (.ext sp) => (sp as).map (·, h)
      | _ => call n f as h
    | none => none
def call : Nat → FuncId → List AV → Hp → Option (AV × Hp)
  | 0, _, _, _ => none
  | n + 1, f, as, h => match Sg f with
    | some (.fn sp) => match sp as h with
      | some v => some (v, h)
      | none => none
    | some (.ext _) => none
    | none => match P.funcs[f]? with
      | some fn => match fn.body with
        | some c => match code n c ⟨args0 0 as .lf, max fn.ntmps as.length, h⟩ with
          | some (.normal, s) | some (.ret, s) => (resA P s.hp s.tm fn.results.toList).map fun l => (one l, s.hp)
          | _ => none
        | none => none
      | none => none
end
end Go.Abs
