/- What is proved: a part of the proof of the tied card of TxnEnds (text G1 of it). Conditions: those that its theorems name. -/
import Derived.Orders
import Derived.KernelRfl
import Derived.Lib.Bytealg
set_option linter.unusedVariables false
set_option linter.unusedSimpArgs false
set_option linter.unusedSectionVars false
namespace Go.Abs
noncomputable section

inductive Tr (α : Type) where
  | lf
  | nd (v : Option α) (l r : Tr α)
namespace Tr
noncomputable def get {α : Type} (t : Tr α) : Nat → Option α :=
  Tr.rec (motive := fun _ => Nat → Option α) (fun _ => none)
    (fun v _ _ gl gr n => Nat.rec (motive := fun _ => Option α) v (fun m _ => Nat.rec (motive := fun _ => Option α) (gl (Nat.div m 2)) (fun _ _ => gr (Nat.div m 2)) (Nat.mod m 2)) n) t
noncomputable def set {α : Type} (d : Nat) : Tr α → Nat → α → Tr α :=
  Nat.rec (motive := fun _ => Tr α → Nat → α → Tr α) (fun t _ _ => t)
    (fun _ ih t n x => Tr.rec (motive := fun _ => Tr α)
      (Nat.rec (motive := fun _ => Tr α) (nd (some x) lf lf) (fun m _ => Nat.rec (motive := fun _ => Tr α) (nd none (ih lf (Nat.div m 2) x) lf) (fun _ _ => nd none lf (ih lf (Nat.div m 2) x)) (Nat.mod m 2)) n)
      (fun v l r _ _ => Nat.rec (motive := fun _ => Tr α) (nd (some x) l r) (fun m _ => Nat.rec (motive := fun _ => Tr α) (nd v (ih l (Nat.div m 2) x) r) (fun _ _ => nd v l (ih r (Nat.div m 2) x)) (Nat.mod m 2)) n) t) d
noncomputable def del {α : Type} (t : Tr α) : Nat → Tr α :=
  Tr.rec (motive := fun _ => Nat → Tr α) (fun _ => lf)
    (fun v l r dl dr n => Nat.rec (motive := fun _ => Tr α) (nd none l r) (fun m _ => Nat.rec (motive := fun _ => Tr α) (nd v (dl (Nat.div m 2)) r) (fun _ _ => nd v l (dr (Nat.div m 2))) (Nat.mod m 2)) n) t
noncomputable def put {α : Type} (t : Tr α) (n : Nat) (x : α) : Tr α := set (Nat.succ n) t n x
theorem ite_rec {β : Sort _} (n : Nat) (a b : β) : Nat.rec (motive := fun _ => β) a (fun _ _ => b) n = if n = 0 then a else b := by
  cases n with
  | zero => rfl
  | succ n => rw [if_neg (Nat.succ_ne_zero n)]
theorem get_lf {α : Type} (n : Nat) : (lf : Tr α).get n = none := rfl
theorem get_zero {α : Type} (v : Option α) (l r : Tr α) : (nd v l r).get 0 = v := rfl
theorem get_succ {α : Type} (v : Option α) (l r : Tr α) (n : Nat) : (nd v l r).get (n + 1) = if n % 2 = 0 then l.get (n / 2) else r.get (n / 2) := ite_rec (n % 2) _ _
theorem set_none {α : Type} (t : Tr α) (n : Nat) (x : α) : set 0 t n x = t := rfl
theorem set_lf_zero {α : Type} (d : Nat) (x : α) : set (d + 1) lf 0 x = nd (some x) lf lf := rfl
theorem set_nd_zero {α : Type} (d : Nat) (v : Option α) (l r : Tr α) (x : α) : set (d + 1) (nd v l r) 0 x = nd (some x) l r := rfl
theorem set_lf_succ {α : Type} (d n : Nat) (x : α) : set (d + 1) lf (n + 1) x = if n % 2 = 0 then nd none (set d lf (n / 2) x) lf else nd none lf (set d lf (n / 2) x) := ite_rec (n % 2) _ _
theorem set_nd_succ {α : Type} (d n : Nat) (v : Option α) (l r : Tr α) (x : α) : set (d + 1) (nd v l r) (n + 1) x = if n % 2 = 0 then nd v (set d l (n / 2) x) r else nd v l (set d r (n / 2) x) := ite_rec (n % 2) _ _
theorem del_lf {α : Type} (n : Nat) : (lf : Tr α).del n = lf := rfl
theorem del_zero {α : Type} (v : Option α) (l r : Tr α) : (nd v l r).del 0 = nd none l r := rfl
theorem del_succ {α : Type} (v : Option α) (l r : Tr α) (n : Nat) : (nd v l r).del (n + 1) = if n % 2 = 0 then nd v (l.del (n / 2)) r else nd v l (r.del (n / 2)) := ite_rec (n % 2) _ _
end Tr

/-- a cell of an element of what comes in: any, a slice of the same elements, a slice of others -/
inductive Ck where
  | any
  | num
  | self
  | sl (s : List Ck)
inductive AV where
  | bool (b : Bool)
  | int (k : IntKind) (n : Int)
  | str (s : List UInt8)
  | ptr (n off : Nat)
  | lptr (cells : List AV)
  | nilptr
  | sl (n off len cap : Nat) (ex : Bool) (es : Nat)
  | nilsl
  | esl
  | zsl
  | lst (len : Nat) (cells : List AV)
  | map (n : Nat)
  | nilmap
  | func (fn : Fn) (first caps : List AV)
  | nilfunc
  | iface (t : TypeId) (v : AV)
  | nilif
  | agg (cs : List AV)
  | tup (vs : List AV)
  | opq (i : Nat)
  | yld (n : Nat)
  | una (k : IntKind) (lo hi : Int)
  | lsl (lo hi : Int)
  | any
  | junk
  | inp (i : Nat) (s : List Ck) (b : Bool)
  | elt (s : List Ck) (b : Bool)
  | eltN (s : List Ck) (b : Bool)
  | ilen (i z : Nat)
  | idx (i : Nat)
  | eptr (s : List Ck)
  | usl (n es b z : Nat)
  | ixn (b : Nat)
  | uptr (n es : Nat)

def ofScalar : Value → Option AV
  | .bool b => some (.bool b)
  | .int k n => some (.int k n)
  | .string s => some (.str s.data.toList)
  | .pointer none => some .nilptr
  | .slice none 0 0 => some .nilsl
  | .map none => some .nilmap
  | .nilFunc => some .nilfunc
  | .nilIface => some .nilif
  | _ => none
def ofScalars : List Value → Option (List AV)
  | [] => some []
  | v :: vs => match ofScalar v, ofScalars vs with
    | some a, some l => some (a :: l)
    | _, _ => none
def ofValue : Value → Option AV
  | .agg cs => (ofScalars cs.toList).map .agg
  | .tuple cs => (ofScalars cs.toList).map .tup
  | v => ofScalar v

inductive Blk where
  | cells (cs : List AV) (e : TypeId)
  | map (es : List (AV × AV × Nat)) (clock : Nat)
  | siter (s : List UInt8) (pos : Nat)
  | miter (m : Option Nat) (since : Nat) (seen : List Nat) (stepped : Nat)
  | loop (st : LoopState) (pd : Option Code) (tm : Tr AV) (nt : Nat) (ps : Array Tmp) (assign body : Code)
  | dfr
  | ucells (e : TypeId)
structure Hp where
  blks : Tr Blk
  next : Nat

def AV.cells : AV → List AV
  | .agg cs => cs
  | v => [v]
def AV.nj : AV → Bool
  | .junk => false
  | _ => true
def AV.sc : AV → Bool
  | .agg _ => false
  | .tup _ => false
  | .junk => false
  | _ => true

variable (P : Program)
def evalO (tm : Tr AV) : Operand → Option AV
  | .tmp t => some ((tm.get t).getD (.tup []))
  | .const v => ofValue v
  | .func f => some (.func (.func f) [] [])
  | .global _ => none
def evalL (tm : Tr AV) : List Operand → Option (List AV)
  | [] => some []
  | x :: xs => match evalO tm x, evalL tm xs with
    | some a, some l => some (a :: l)
    | _, _ => none

def Hp.new (h : Hp) (b : Blk) : Hp × Nat := (⟨h.blks.put h.next b, h.next + 1⟩, h.next)
def isAggT (t : TypeId) : Option Bool := match P.underlying t with
  | some (.struct _) => some true
  | some (.array _ _) => some true
  | some _ => some false
  | none => none
def sizeT (t : TypeId) : Option Nat := (P.info? t).map (·.size)
def zeroT (t : TypeId) : Option (List AV) := match P.info? t with
  | some i => match i.zero with
    | some v => match ofValue v with
      | some a => some a.cells
      | none => none
    | none => none
  | none => none
def elemT (t : TypeId) : Option TypeId := match P.underlying t with
  | some (.slice e) => some e
  | _ => none
def cut (l : List AV) (off n : Nat) : Option (List AV) := if off + n ≤ l.length then some ((l.drop off).take n) else none
def asVal (t : TypeId) (cs : List AV) : Option AV := match isAggT P t, cs with
  | some true, cs => some (.agg cs)
  | some false, [x] => some x
  | _, _ => none
def readAt (h : Hp) (n off len : Nat) : Option (List AV) := match h.blks.get n with
  | some (.cells cs _) => cut cs off len
  | _ => none
def splice (l : List AV) (off : Nat) (vs : List AV) : List AV := l.take off ++ vs ++ l.drop (off + vs.length)
def ckA (s : List Ck) : Ck → AV
  | .any => .any
  | .num => .una .i64 (-9223372036854775808) 9223372036854775807
  | .self => .elt s true
  | .sl s' => .elt s' true
def loadA (h : Hp) (t : TypeId) : AV → Option AV
  | .eptr s => match sizeT P t with
    | some z => if z = s.length then asVal P t (s.map (ckA s)) else none
    | none => none
  | .ptr n off => match sizeT P t with
    | some s => match readAt h n off s with
      | some cs => asVal P t cs
      | none => none
    | none => none
  | .lptr cells => match sizeT P t with
    | some s => match cut cells 0 s with
      | some cs => asVal P t cs
      | none => none
    | none => none
  | _ => none
def writeAt (h : Hp) (n off : Nat) (vs : List AV) : Option Hp := match h.blks.get n with
  | some (.cells cs e) => if off + vs.length ≤ cs.length ∧ vs.all AV.sc = true then some ⟨h.blks.put n (.cells (splice cs off vs) e), h.next⟩ else none
  | _ => none
def storeA (h : Hp) (t : TypeId) (a v : AV) : Option Hp := match a with
  | .ptr n off => match sizeT P t with
    | some s => if v.cells.length = s ∧ v.nj = true then writeAt h n off v.cells else none
    | none => none
  | .uptr n es => match sizeT P t, h.blks.get n with
    | some s, some (.ucells _) => if s = es ∧ v.cells.length = s ∧ v.nj = true ∧ v.cells.all AV.sc = true then some h else none
    | _, _ => none
  | _ => none
def fillA (place : Nat → Option (Nat × Nat)) (cells : List AV) : List (Nat × AV) → Option (List AV)
  | [] => some cells
  | (i, v) :: rest => match place i with
    | none => none
    | some (off, size) => if v.cells.length = size ∧ off + size ≤ cells.length ∧ v.nj = true then fillA place (splice cells off v.cells) rest else none
def placesA : List Field → Option (List (Nat × Nat))
  | [] => some []
  | f :: r => match sizeT P f.type, placesA r with
    | some s, some l => some ((f.offset, s) :: l)
    | _, _ => none
def evalParts (tm : Tr AV) : List (Nat × Operand) → Option (List (Nat × AV))
  | [] => some []
  | (i, x) :: xs => match evalO tm x, evalParts tm xs with
    | some a, some l => some ((i, a) :: l)
    | _, _ => none
def reps (z : List AV) : Nat → List AV
  | 0 => []
  | n + 1 => z ++ reps z n

def bytesLess : List UInt8 → List UInt8 → Bool
  | _, [] => false
  | [], _ :: _ => true
  | a :: x, b :: y => a < b || (a == b && bytesLess x y)
def eqScalar : AV → AV → Option Bool
  | .bool a, .bool b => some (a == b)
  | .int k a, .int k' b => if k = k' then some (a == b) else none
  | .str a, .str b => some (a == b)
  | _, _ => none
def nilA : AV → Option Bool
  | .nilptr | .nilsl | .nilmap | .nilfunc => some true
  | .ptr .. | .lptr .. | .sl .. | .esl | .zsl | .eltN .. | .lst (_ + 1) _ | .map _ | .func .. => some false
  | _ => none
def isPtr : AV → Bool
  | .nilptr | .ptr .. | .lptr .. => true
  | _ => false
def isSl : AV → Bool
  | .nilsl | .sl .. | .esl | .zsl | .eltN .. | .lst .. => true
  | _ => false
def isMap : AV → Bool
  | .nilmap | .map _ => true
  | _ => false
def isFn : AV → Bool
  | .nilfunc | .func .. => true
  | _ => false
def fitA (d : TypeDesc) (a : AV) : Bool := match d with
  | .pointer _ => isPtr a
  | .slice _ => isSl a
  | .map _ _ => isMap a
  | .func _ _ _ => isFn a
  | _ => false
def eqNil (d : TypeDesc) (a b : AV) : Option Bool := if fitA d a && fitA d b then (match nilA a, nilA b with
  | some true, some r => some r
  | some r, some true => some r
  | _, _ => none) else none
def eqFs (rc : TypeId → AV → AV → Option Bool) (xs ys : List AV) : List Field → Option Bool
  | [] => some true
  | f :: fs => if f.name = "_" then none else match sizeT P f.type with
    | some s => match cut xs f.offset s, cut ys f.offset s with
      | some cx, some cy => match asVal P f.type cx, asVal P f.type cy with
        | some a, some b => match rc f.type a b with
          | some true => eqFs rc xs ys fs
          | some false => some false
          | none => none
        | _, _ => none
      | _, _ => none
    | none => none
def eqT : Nat → TypeId → AV → AV → Option Bool
  | 0, _, _, _ => none
  | d + 1, t, a, b => match P.underlying t, a, b with
    | some .bool, .bool a, .bool b => some (a == b)
    | some (.int _), .int k a, .int k' b => if k = k' then some (a == b) else none
    | some .string, .str a, .str b => some (a == b)
    | some (.struct fs), .agg xs, .agg ys => if P.stoodInHeld t then none else eqFs P (eqT d) xs ys fs.toList
    | some (.pointer te), .ptr n o, .ptr n' o' => if n = n' then (match P.info? te with
      | some i => if i.size ≠ 0 then some (o == o') else none
      | none => none) else none
    | some d, a, b => eqNil d a b
    | none, _, _ => none
def plainE : AV → Bool
  | .nilif | .iface .. | .opq _ | .una .. | .lsl .. | .any | .junk | .inp .. | .elt .. | .ilen .. | .idx _ | .eptr _ | .usl .. | .ixn _ | .uptr .. | .agg _ | .tup _ => false
  | _ => true
def eqA (t : TypeId) (a b : AV) : Option Bool := match a, b with
  | .agg x, .agg y => if P.eqGuardType P.depth t then none else eqT P 20 t (.agg x) (.agg y)
  | a, b => if plainE a && plainE b then eqT P 20 t a b else none
def bitsA (op : BinOp) (k : IntKind) (x y : Int) : Option AV :=
  let a := BitVec.ofInt k.bits x
  let b := BitVec.ofInt k.bits y
  match op with
  | .and => some (.int k (k.wrap (a &&& b).toNat))
  | .or => some (.int k (k.wrap (a ||| b).toNat))
  | .xor => some (.int k (k.wrap (a ^^^ b).toNat))
  | .andNot => some (.int k (k.wrap (a &&& ~~~b).toNat))
  | _ => none
def intA (op : BinOp) (k : IntKind) (a b : Int) : Option AV := match op with
  | .add => some (.int k (k.wrap (a + b)))
  | .sub => some (.int k (k.wrap (a - b)))
  | .mul => some (.int k (k.wrap (a * b)))
  | .quo => if b = 0 then none else some (.int k (k.wrap (a.tdiv b)))
  | .rem => if b = 0 then none else some (.int k (a.tmod b))
  | .eql => some (.bool (a == b))
  | .neq => some (.bool (a != b))
  | .lss => some (.bool (a < b))
  | .leq => some (.bool (a ≤ b))
  | .gtr => some (.bool (a > b))
  | .geq => some (.bool (a ≥ b))
  | .and => bitsA .and k a b
  | .or => bitsA .or k a b
  | .xor => bitsA .xor k a b
  | .andNot => bitsA .andNot k a b
  | _ => none
def strA (op : BinOp) (a b : List UInt8) : Option AV := match op with
  | .add => if a.length + b.length ≤ 2 ^ 62 then some (.str (a ++ b)) else none
  | .lss => some (.bool (bytesLess a b))
  | .leq => some (.bool (bytesLess a b || a == b))
  | .gtr => some (.bool !(bytesLess a b || a == b))
  | .geq => some (.bool !(bytesLess a b))
  | .eql => some (.bool (a == b))
  | .neq => some (.bool !(a == b))
  | _ => none
def shA (op : BinOp) (k : IntKind) (a b : Int) : Option AV := if b < 0 then none else match op with
  | .shl => some (.int k (k.wrap (a * 2 ^ min b.toNat k.bits)))
  | .shr => some (.int k (a.fdiv (2 ^ min b.toNat k.bits)))
  | _ => none
def isSh : BinOp → Bool
  | .shl | .shr => true
  | _ => false
/-- an integer that lies between two bounds, against a known one -/
def cmpU (op : BinOp) (lo hi c : Int) : Option AV := match op with
  | .eql => if c < lo ∨ hi < c then some (.bool false) else none
  | .neq => if c < lo ∨ hi < c then some (.bool true) else none
  | .gtr => if c < lo then some (.bool true) else if hi ≤ c then some (.bool false) else none
  | .leq => if c < lo then some (.bool false) else if hi ≤ c then some (.bool true) else none
  | .lss => if hi < c then some (.bool true) else if c ≤ lo then some (.bool false) else none
  | .geq => if hi < c then some (.bool false) else if c ≤ lo then some (.bool true) else none
  | _ => none
def binA (op : BinOp) (t : TypeId) (x y : AV) : Option AV := match x, y with
  | .int k a, .int k' b => if isSh op then shA op k a b else if k = k' then intA op k a b else none
  | .str a, .str b => strA op a b
  | .una k lo hi, .int k' c => if k = k' then (match op with
    | .add | .sub | .mul => some .any
    | _ => cmpU op lo hi c) else none
  | a, b => match op with
    | .eql => (eqA P t a b).map .bool
    | .neq => (eqA P t a b).map (fun r => .bool !r)
    | _ => none
def unA (op : UnOp) (x : AV) : Option AV := match op, x with
  | .neg, .int k n => some (.int k (k.wrap (0 - n)))
  | .not, .bool b => some (.bool !b)
  | .xor, .int k n => bitsA .xor k (if k.signed then -1 else k.max) n
  | _, _ => none
def strOfCells : List AV → Option (List UInt8)
  | [] => some []
  | .int .u8 n :: r => match strOfCells r with
    | some l => some (UInt8.ofNat n.toNat :: l)
    | none => none
  | _ => none
/-- the cells of a slice -/
def slCells (h : Hp) (size : Nat) : AV → Option (List AV)
  | .nilsl => some []
  | .esl => some []
  | .zsl => some []
  | .sl n off len _ _ _ => readAt h n off (len * size)
  | .lst len cells => cut cells 0 (len * size)
  | _ => none
def lenA : AV → Option Nat
  | .nilsl => some 0
  | .esl => some 0
  | .zsl => some 0
  | .sl _ _ len _ _ _ => some len
  | .lst len _ => some len
  | .str s => some s.length
  | _ => none
def convA (src dst : TypeId) (x : AV) : Option AV := match P.underlying src, P.underlying dst, x with
  | some _, some (.int k), .int _ n => some (.int k (k.wrap n))
  | some .string, some .string, .str s => some (.str s)
  | some .string, some (.slice e), .str s => match P.underlying e with
    | some (.int .u8) => if s.length ≤ 2 ^ 45 then some (.lst s.length (s.map fun b => .int .u8 b.toNat)) else none
    | _ => none
  | _, _, _ => none
/-- to unsafe.Pointer and back -/
def convU (h : Hp) (src dst : TypeId) (x : AV) : Option AV := match P.underlying src, P.underlying dst, x with
  | some (.pointer t), some .unsafePointer, .ptr n off => match h.blks.get n, P.info? t with
    | some (.cells cs _), some i => if off < cs.length ∧ i.size ≠ 0 then some (.ptr n off) else none
    | _, _ => none
  | some .unsafePointer, some (.pointer u), .ptr n 0 => match h.blks.get n, P.info? u with
    | some (.cells cs e), some i => if e = u ∧ i.size ≠ 0 ∧ i.size ≤ cs.length then some (.ptr n 0) else none
    | _, _ => none
  | _, _, _ => none
def boundA (dflt : Nat) (top : Nat) : Option AV → Option Nat
  | none => some dflt
  | some (.int _ i) => if 0 ≤ i ∧ i ≤ top then some i.toNat else none
  | _ => none
/-- the three bounds: low, high, most -/
def bndA (len cap : Nat) (lo hi mx : Option AV) : Option (Nat × Nat × Nat) := match mx, hi with
  | some _, none => none
  | _, _ => match boundA cap cap mx with
    | some m => match boundA len m hi with
      | some b => match boundA 0 b lo with
        | some a => some (a, b, m)
        | none => none
      | none => none
    | none => none
def sliceS (t : TypeId) (lo hi mx : Option AV) (s : Nat) : AV → Option AV
  | .nilsl => match bndA 0 0 lo hi mx with
    | some _ => some .nilsl
    | none => none
  | .zsl => match bndA 0 0 lo hi mx with
    | some _ => some .zsl
    | none => none
  | .esl => match bndA 0 0 lo hi mx with
    | some _ => match mx with
      | some _ => some .zsl
      | none => some .esl
    | none => none
  | .lst len cells => match bndA len len lo hi mx with
    | some (a, b, m) => if a < len ∧ 0 < m then some (.lst (b - a) ((cells.take (b * s)).drop (a * s)))
      else if mx.isSome ∧ m = 0 ∧ 0 < len then some .zsl else some (.lst 0 [])
    | none => none
  | .sl n off len cap ex es => if es = s then match bndA len cap lo hi mx with
    | some (a, b, m) =>
      if a < m then some (.sl n (off + a * s) (b - a) (m - a) (ex || mx.isSome) es)
      else if (ex || mx.isSome) then some (.sl n off 0 0 true es) else some .esl
    | none => none else none
  | _ => none
def sliceA (t : TypeId) (x : AV) (lo hi mx : Option AV) : Option AV := match P.underlying t with
  | some .string => match x, mx with
    | .str s, none => match bndA s.length s.length lo hi none with
      | some (a, b, _) => some (.str ((s.take b).drop a))
      | none => none
    | _, _ => none
  | some (.slice e) => match sizeT P e with
    | some s => sliceS t lo hi mx s x
    | none => none
  | _ => none
def optO (tm : Tr AV) : Option Operand → Option (Option AV)
  | none => some none
  | some x => (evalO tm x).map some
def fieldT (t : TypeId) (f : Nat) : Option Field := match P.underlying t with
  | some (.struct fs) => fs[f]?
  | _ => none
def fieldAddrA (t : TypeId) (x : AV) (f : Nat) : Option AV := match fieldT P t f with
  | some fl => match sizeT P fl.type with
    | some (_ + 1) => match x with
      | .ptr n off => some (.ptr n (off + fl.offset))
      | .lptr cells => some (.lptr (cells.drop fl.offset))
      | _ => none
    | _ => none
  | none => none
def fieldA (t : TypeId) (x : AV) (f : Nat) : Option AV := match fieldT P t f, x with
  | some fl, .agg cs => match sizeT P fl.type with
    | some s => match cut cs fl.offset s with
      | some l => asVal P fl.type l
      | none => none
    | none => none
  | _, _ => none
def indexAddrA (t : TypeId) (x i : AV) : Option AV := match i with
  | .int _ i => if 0 ≤ i then match P.underlying t, x with
      | some (.slice e), .sl n off len _ _ _ => if i < len then (sizeT P e).map fun s => .ptr n (off + i.toNat * s) else none
      | some (.slice e), .lst len cells => if i < len then (sizeT P e).map fun s => .lptr (cells.drop (i.toNat * s)) else none
      | some (.array k e), .ptr n off => if i < k then (sizeT P e).map fun s => .ptr n (off + i.toNat * s) else none
      | _, _ => none
    else none
  | .idx q => match P.underlying t, x with
    | some (.slice e), .inp q' s _ => if q = q' ∧ sizeT P e = some s.length then some (.eptr s) else none
    | _, _ => none
  | .ixn b => match P.underlying t, x with
    | some (.slice e), .usl n es b' _ => if b < b' ∧ sizeT P e = some es then some (.uptr n es) else none
    | _, _ => none
  | _ => none
def indexA (t : TypeId) (x i : AV) : Option AV := match i with
  | .int _ i => if 0 ≤ i then match P.underlying t, x with
      | some .string, .str s => match s[i.toNat]? with
        | some b => some (.int .u8 b.toNat)
        | none => none
      | some (.array k e), .agg cs => if i < k then match sizeT P e with
          | some s => match cut cs (i.toNat * s) s with
            | some l => asVal P e l
            | none => none
          | none => none
        else none
      | _, _ => none
    else none
  | _ => none
def findE (k : AV) : List (AV × AV × Nat) → Option (Option AV)
  | [] => some none
  | (k', v, _) :: es => match eqScalar k k' with
    | some true => some (some v)
    | some false => findE k es
    | none => none
def setE (k v : AV) : List (AV × AV × Nat) → Option (List (AV × AV × Nat))
  | [] => none
  | (k', v', b) :: es => match eqScalar k k' with
    | some true => some ((k, v, b) :: es)
    | some false => (setE k v es).map ((k', v', b) :: ·)
    | none => none
def keyOK (kt : TypeId) (k : AV) : Bool := match P.underlying kt, k with
  | some (.int _), .int .. => true
  | some .string, .str _ => true
  | some .bool, .bool _ => true
  | _, _ => false
def zeroV (t : TypeId) : Option AV := match P.info? t with
  | some i => match i.zero with
    | some v => ofValue v
    | none => none
  | none => none
def lookA (el : TypeId) (ok : Bool) : Option (Option AV) → Option AV
  | some (some v) => some (if ok then .tup [v, .bool true] else v)
  | some none => match zeroV P el with
    | some v => some (if ok then .tup [v, .bool false] else v)
    | none => none
  | none => none
def lookupA (h : Hp) (t : TypeId) (x k : AV) (ok : Bool) : Option AV := match P.underlying t with
  | some (.map kt e) => if keyOK P kt k then (match x with
      | .nilmap => lookA P e ok (some none)
      | .map n => match h.blks.get n with
        | some (.map es _) => lookA P e ok (findE k es)
        | _ => none
      | _ => none)
    else none
  | _ => none
def updateA (h : Hp) (t : TypeId) (x k v : AV) : Option Hp := match P.underlying t, x with
  | some (.map kt _), .map n => if keyOK P kt k then match h.blks.get n with
      | some (.map es clock) => match findE k es with
        | some (some _) => (setE k v es).map fun es' => ⟨h.blks.put n (.map es' clock), h.next⟩
        | some none => some ⟨h.blks.put n (.map (es ++ [(k, v, clock)]) (clock + 1)), h.next⟩
        | none => none
      | _ => none
    else none
  | _, _ => none
def nextA (h : Hp) (x : AV) (isStr : Bool) : Option (AV × Hp) := match x with
  | .ptr n 0 => match h.blks.get n, isStr with
    | some (.siter s pos), true => if pos < s.length then
        some (.tup [.bool true, .int .i64 pos, .int .i32 (Utf8.decode ⟨s.toArray⟩ pos).1], ⟨h.blks.put n (.siter s (pos + (Utf8.decode ⟨s.toArray⟩ pos).2)), h.next⟩)
      else some (.tup [.bool false], h)
    | some (.miter none _ _ _), false => some (.tup [.bool false], h)
    | some (.miter (some m) since seen st), false => match h.blks.get m with
      | some (.map [] clock) => some (.tup [.bool false], h)
      | some (.map [(k, v, b)] clock) => if b < since ∧ (seen.isEmpty || b < st) = true then
          if seen.contains b then some (.tup [.bool false], h)
          else some (.tup [.bool true, k, v], ⟨h.blks.put n (.miter (some m) since (seen ++ [b]) clock), h.next⟩)
        else none
      | _ => none
    | _, _ => none
  | _ => none
def entryA (h : Hp) (x : AV) : Option AV := match x with
  | .ptr n 0 => match h.blks.get n with
    | some (.miter (some m) _ seen st) => match seen.getLast?, h.blks.get m with
      | some b, some (.map es clock) => if clock = st then (match es.find? (fun e => e.2.2 == b) with
          | some e => some (.tup [e.1, e.2.1])
          | none => none) else none
      | _, _ => none
    | _ => none
  | _ => none
def rangeA (h : Hp) (t : TypeId) (x : AV) : Option (AV × Hp) := match P.underlying t, x with
  | some .string, .str s => some (.ptr (h.new (.siter s 0)).2 0, (h.new (.siter s 0)).1)
  | some (.map _ _), .nilmap => some (.ptr (h.new (.miter none 0 [] 0)).2 0, (h.new (.miter none 0 [] 0)).1)
  | some (.map _ _), .map m => match h.blks.get m with
    | some (.map _ clock) => some (.ptr (h.new (.miter (some m) clock [] clock)).2 0, (h.new (.miter (some m) clock [] clock)).1)
    | _ => none
  | _, _ => none
/-- what the cells of an element weigh at least, in bytes -/
def wtK : Ck → Nat
  | .any => 8
  | .num => 8
  | .self => 24
  | .sl _ => 24
def wt : List Ck → Nat
  | [] => 0
  | a :: l => wtK a + wt l
/-- room for as many elements as a loop has had rounds, and m more, where an element of the loop weighs z -/
def limU (bytes z m : Nat) : Bool := decide (0 < z) && decide (5 * bytes ≤ 7 * z) && decide (bytes ≤ 2 ^ 20) && decide (m ≤ 2 ^ 20)
def limA (bytes need : Nat) : Bool := need * bytes ≤ 2 ^ 40 && bytes ≤ 2 ^ 30 && need ≤ 2 ^ 45
def freshA (h : Hp) (e : TypeId) (cells : List AV) (need size : Nat) : AV × Hp := (.sl (h.new (.cells cells e)).2 0 need need false size, (h.new (.cells cells e)).1)
def Hp.kill (h : Hp) (n : Nat) : Hp := ⟨h.blks.del n, h.next⟩
def elemIs (h : Hp) (n : Nat) (e : TypeId) : Bool := match h.blks.get n with
  | some (.cells _ e0) => e0 == e
  | _ => false
/-- append: what is appended, its cells, their number of elements k -/
def appendA (h : Hp) (e : TypeId) (size bytes : Nat) (s : AV) (cells : List AV) (k : Nat) : Option (AV × Hp) := match s with
  | .nilsl => if k = 0 then some (.nilsl, h) else if limA bytes k then some (freshA h e cells k size) else none
  | .zsl => if k = 0 then some (.zsl, h) else if limA bytes k then some (freshA h e cells k size) else none
  | .esl => if k = 0 then some (.esl, h) else none
  | .lst len old => if k = 0 then some (.lst len old, h) else none
  | .sl n off len cap ex es => if es = size ∧ limA bytes (len + k) then
      if len + k ≤ cap then match writeAt h n (off + len * size) cells with
        | some h' => some (.sl n off (len + k) cap ex es, h')
        | none => none
      else match readAt h n off (len * size) with
        | some old => if ex then some (freshA h e (old ++ cells) (len + k) size)
          else if off = 0 ∧ elemIs h n e = true then some (freshA (h.kill n) e (old ++ cells) (len + k) size) else none
        | none => none
    else none
  | .usl n es b z => if es = size ∧ limU bytes z (b + k) then match h.blks.get n with
      | some (.ucells e') => if e' = e then some (.usl h.next es (b + k) z, ((h.kill n).new (.ucells e)).1) else none
      | _ => none
    else none
  | _ => none
/-- what is copied into a new slice whole -/
def cloneA (P : Program) (e : TypeId) (size bytes : Nat) : AV → AV → Bool
  | .sl _ _ 0 0 true es, .eltN s _ => es = size && s.length = size && limU bytes (wt s) 0
  | _, _ => false
def minmaxA (mx : Bool) : AV → List AV → Option AV
  | v, [] => some v
  | .int k a, .int k' b :: r => if k = k' then minmaxA mx (.int k (if mx then (if b > a then b else a) else (if b < a then b else a))) r else none
  | _, _ => none
/-- what a source of append or copy holds -/
def srcA (h : Hp) (size : Nat) : AV → Option (List AV)
  | .str s => if size = 1 then some (s.map fun (b : UInt8) => AV.int .u8 b.toNat) else none
  | x => slCells h size x
def srcT (t : TypeId) (x : AV) : Bool := match P.underlying t, x with
  | some .string, .str _ => true
  | some (.slice _), .str _ => false
  | some (.slice _), _ => true
  | _, _ => false
def bytesA : List AV → Option (List UInt8)
  | [] => some []
  | .int .u8 b :: r => if 0 ≤ b ∧ b < 256 then (bytesA r).map (UInt8.ofNat b.toNat :: ·) else none
  | _ => none
def builtinA (h : Hp) (b : Builtin) (ts : List TypeId) (args : List AV) : Option (AV × Hp) := match b, args with
  | .len, [x] => match ts with
    | [t] => match P.underlying t, x with
      | some .string, .str s => some (.int .i64 s.length, h)
      | some (.slice _), .lsl lo hi => some (.una .i64 lo hi, h)
      | some (.slice _), .inp i s _ => some (.ilen i (wt s), h)
      | some (.slice _), .usl _ _ b _ => some (.ixn b, h)
      | some (.slice _), .str _ => none
      | some (.slice _), x => match lenA x with
        | some n => some (.int .i64 n, h)
        | none => none
      | some (.map _ _), .nilmap => some (.int .i64 0, h)
      | some (.map _ _), .map n => match h.blks.get n with
        | some (.map es _) => some (.int .i64 es.length, h)
        | _ => none
      | _, _ => none
    | _ => none
  | .cap, [x] => match ts with
    | [t] => match P.underlying t, x with
      | some (.slice _), .nilsl => some (.int .i64 0, h)
      | some (.slice _), .zsl => some (.int .i64 0, h)
      | some (.slice _), .sl _ _ _ cap true _ => some (.int .i64 cap, h)
      | _, _ => none
    | _ => none
  | .append, [s, x] => match ts with
    | [t, t'] => match elemT P t, srcT P t' x with
      | some e, true => match P.info? e with
        | some i => if cloneA P e i.size i.bytes s x && (i.zero.map fun z => z.cells.size) == some i.size then some (.any, h) else match i.zero, srcA h i.size x, lenA x with
          | some z, some cs, some k => if cs.all AV.sc ∧ z.cells.size = i.size then appendA h e i.size i.bytes s cs k else none
          | _, _, _ => none
        | none => none
      | _, _ => none
    | _ => none
  | .unsafeSliceData, [x] => match x with
    | .nilsl => some (.nilptr, h)
    | .sl n off _ cap _ _ => if cap ≠ 0 then some (.ptr n off, h) else none
    | _ => none
  | .unsafeString, [x, .int .i64 k] => match ts with
    | [pt, _] => if k = 0 then (match x with
        | .nilptr => some (.str [], h)
        | .ptr _ _ => some (.str [], h)
        | _ => none)
      else (match x with
        | .ptr n 0 => match h.blks.get n, P.underlying pt with
          | some (.cells cs e), some (.pointer e') => match P.info? e with
            | some i => if e = e' ∧ i.size = 1 ∧ 0 < k ∧ k.toNat ≤ cs.length ∧ k ≤ 2 ^ 45 then (bytesA (cs.take k.toNat)).map fun l => (.str l, h.kill n) else none
            | none => none
          | _, _ => none
        | _ => none)
    | _ => none
  | .min, v :: r => (minmaxA false v r).map (·, h)
  | .max, v :: r => (minmaxA true v r).map (·, h)
  | _, _ => none

/-- what an operation asks -/
inductive Nx where
  | val (v : AV) (h : Hp)
  | skip (h : Hp)
  | enter (f : FuncId) (args : List AV) (h : Hp)
  | round (n : Nat) (args : List AV) (h : Hp)
def vl (h : Hp) (v : Option AV) : Option Nx := v.map (.val · h)
def opA (tm : Tr AV) (h : Hp) (o : Op) : Option Nx := match o with
  | .move x | .assign x => vl h (evalO tm x)
  | .pick c a b => match evalO tm c with
    | some (.bool t) => vl h (evalO tm (if t then a else b))
    | _ => none
  | .alloc t => match zeroT P t with
    | some z => let (h, n) := h.new (.cells z t); some (.val (.ptr n 0) h)
    | none => none
  | .box t x => match evalO tm x with
    | some v => if v.nj then (let (h, n) := h.new (.cells v.cells t); some (.val (.ptr n 0) h)) else none
    | none => none
  | .build t parts => match zeroT P t, evalParts tm parts.toList, P.underlying t with
    | some z, some ps, some (.struct fs) => match placesA P fs.toList with
      | some pl => vl h ((fillA (fun i => pl[i]?) z ps).map .agg)
      | none => none
    | some z, some ps, some (.array _ e) => match sizeT P e with
      | some s => vl h ((fillA (fun i => some (i * s, s)) z ps).map .agg)
      | none => none
    | _, _, _ => none
  | .buildSlice t len parts => match elemT P t, evalParts tm parts.toList with
    | some e, some ps => match sizeT P e, zeroT P e with
      | some s, some z => if z.length = s ∧ len * s ≤ 2 ^ 24 then match fillA (fun i => some (i * s, s)) (reps z len) ps with
        | some cs => let (h, n) := h.new (.cells cs e); some (.val (.sl n 0 len len true s) h)
        | none => none else none
      | _, _ => none
    | _, _ => none
  | .load t a => match evalO tm a with
    | some a => vl h (loadA P h t a)
    | none => none
  | .store t a x => match evalO tm a, evalO tm x with
    | some a, some x => (storeA P h t a x).map .skip
    | _, _ => none
  | .nilCheck x => match evalO tm x with
    | some (.ptr n o) => some (.val (.ptr n o) h)
    | some (.lptr c) => some (.val (.lptr c) h)
    | some (.func (.func f) a b) => some (.val (.func (.func f) a b) h)
    | _ => none
  | .binOp op t x y _ => match evalO tm x, evalO tm y with
    | some x, some y => vl h (binA P op t x y)
    | _, _ => none
  | .unOp op _ x => match evalO tm x with
    | some x => vl h (unA op x)
    | _ => none
  | .convert s d x => match evalO tm x with
    | some x => vl h (match convA P s d x with
      | some v => some v
      | none => convU P h s d x)
    | _ => none
  | .makeFunc fn a b => match evalL tm a.toList, evalL tm b.toList with
    | some a, some b => some (.val (.func fn a b) h)
    | _, _ => none
  | .makeMap t none => let (h, n) := h.new (.map [] 0); some (.val (.map n) h)
  | .makeSlice t l c => match elemT P t, evalO tm l, evalO tm c with
    | some e, some (.int .i64 l), some (.int .i64 c) => match P.info? e, zeroT P e with
      | some i, some z => if 0 ≤ l ∧ l ≤ c ∧ i.bytes * c ≤ 2 ^ 45 ∧ c ≤ 2 ^ 45 ∧ z.length = i.size then
          let (h, n) := h.new (.cells (reps z c.toNat) e); some (.val (.sl n 0 l.toNat c.toNat true i.size) h)
        else none
      | _, _ => none
    | _, _, _ => none
  | .slice t x lo hi mx => match evalO tm x, optO tm lo, optO tm hi, optO tm mx with
    | some x, some lo, some hi, some mx => vl h (sliceA P t x lo hi mx)
    | _, _, _, _ => none
  | .fieldAddr s x f => match evalO tm x with
    | some x => vl h (fieldAddrA P s x f)
    | none => none
  | .field s x f => match evalO tm x with
    | some x => vl h (fieldA P s x f)
    | none => none
  | .indexAddr t x i => match evalO tm x, evalO tm i with
    | some x, some i => vl h (indexAddrA P t x i)
    | _, _ => none
  | .index t x i => match evalO tm x, evalO tm i with
    | some x, some i => vl h (indexA P t x i)
    | _, _ => none
  | .lookup t x i ok => match evalO tm x, evalO tm i with
    | some x, some i => vl h (lookupA P h t x i ok)
    | _, _ => none
  | .mapUpdate t m k v => match evalO tm m, evalO tm k, evalO tm v with
    | some m, some k, some v => (updateA P h t m k v).map .skip
    | _, _, _ => none
  | .range t x => match evalO tm x with
    | some x => (rangeA P h t x).map fun r => .val r.1 r.2
    | none => none
  | .next it s => match evalO tm it with
    | some x => (nextA h x s).map fun r => .val r.1 r.2
    | none => none
  | .entry it => match evalO tm it with
    | some x => vl h (entryA h x)
    | none => none
  | .makeInterface t x => match evalO tm x, P.underlying t with
    | some _, some (.interface _) => none
    | some v, some _ => some (.val (.iface t v) h)
    | _, _ => none
  | .typeAssert x xt t ok => match evalO tm x, P.underlying t with
    | some _, some (.interface _) => none
    | some (.iface t' v), some _ => if t' = t then some (.val (if ok then .tup [v, .bool true] else v) h) else none
    | _, _ => none
  | .extract t i => match evalO tm t with
    | some (.tup vs) => vl h vs[i]?
    | _ => none
  | .call c => match c.callee with
    | .builtin b => match evalL tm c.args.toList with
      | some as => (builtinA P h b c.argTypes.toList as).map fun r => .val r.1 r.2
      | none => none
    | .value f => match evalO tm f, evalL tm c.args.toList with
      | some (.func (.func f) first caps), some as => some (.enter f (first ++ as ++ caps) h)
      | some (.yld n), some as => match h.blks.get n with
        | some (.loop _ _ _ _ ps _ _) => if as.length = ps.size then some (.round n as h) else none
        | _ => none
      | _, _ => none
    | _ => none
  | _ => none

inductive Ex where
  | normal
  | exit (id : Nat)
  | ret
structure St where
  tm : Tr AV
  nt : Nat
  hp : Hp
  df : List Nat
  rd : Bool
def wantedA (ops : Array Oper) (tm : Tr AV) (g : Option (Nat × Bool)) : Option Bool := match g with
  | none => some true
  | some (j, want) => match ops[j]? with
    | some o => match o.dst with
      | some d => match tm.get d with
        | some (.bool b) => some (b == want)
        | some (.tup _) => some false
        | _ => none
      | none => none
    | none => none
def putT (tm : Tr AV) (nt : Nat) (d : Option Tmp) (v : AV) : Tr AV := match d with
  | some d => if d < nt then tm.put d v else tm
  | none => tm
def resA (h : Hp) (tm : Tr AV) : List ResultVar → Option (List AV)
  | [] => some []
  | .tmp t :: r => match resA h tm r with
    | some l => some ((tm.get t).getD (.tup []) :: l)
    | none => none
  | .cell a t :: r => match tm.get a, resA h tm r with
    | some a, some l => match loadA P h t a with
      | some v => some (v :: l)
      | none => none
    | _, _ => none
def one : List AV → AV
  | [v] => v
  | l => .tup l
def args0 : Nat → List AV → Tr AV → Tr AV
  | _, [], t => t
  | i, v :: r, t => args0 (i + 1) r (t.put i v)

mutual
def sameK : Ck → Ck → Bool
  | .any, .any => true
  | .num, .num => true
  | .self, .self => true
  | .sl a, .sl b => sameC a b
  | _, _ => false
def sameC : List Ck → List Ck → Bool
  | [], [] => true
  | a :: x, b :: y => sameK a b && sameC x y
  | _, _ => false
end
mutual
def same : AV → AV → Bool
  | .bool a, .bool b => a == b
  | .int k a, .int k' b => k == k' && a == b
  | .str a, .str b => a == b
  | .ptr a b, .ptr c d => a == c && b == d
  | .lptr a, .lptr b => sames a b
  | .nilptr, .nilptr => true
  | .sl a b c d e f, .sl a' b' c' d' e' f' => a == a' && b == b' && c == c' && d == d' && e == e' && f == f'
  | .nilsl, .nilsl => true
  | .esl, .esl => true
  | .zsl, .zsl => true
  | .lst a b, .lst c d => a == c && sames b d
  | .map a, .map b => a == b
  | .nilmap, .nilmap => true
  | .nilfunc, .nilfunc => true
  | .nilif, .nilif => true
  | .yld a, .yld b => a == b
  | .agg a, .agg b => sames a b
  | .tup a, .tup b => sames a b
  | .opq a, .opq b => a == b
  | .any, .any => true
  | .una k a b, .una k' a' b' => k == k' && a == a' && b == b'
  | .ilen a z, .ilen b z' => a == b && z == z'
  | .idx a, .idx b => a == b
  | .usl a b c z, .usl a' b' c' z' => a == a' && b == b' && c == c' && z == z'
  | .ixn a, .ixn b => a == b
  | .uptr a b, .uptr a' b' => a == a' && b == b'
  | .inp i s b, .inp i' s' b' => i == i' && sameC s s' && b == b'
  | .elt s b, .elt s' b' => sameC s s' && b == b'
  | .eltN s b, .eltN s' b' => sameC s s' && b == b'
  | .eptr s, .eptr s' => sameC s s'
  | .func (.func f) a b, .func (.func f') a' b' => f == f' && sames a a' && sames b b'
  | _, _ => false
def sames : List AV → List AV → Bool
  | [], [] => true
  | a :: x, b :: y => same a b && sames x y
  | _, _ => false
end

/-! ### regions of open order -/
inductive Kd where
  | pu | rd | al | ef
def kindO : Op → Kd
  | .alloc _ | .box .. | .buildSlice .. | .makeMap .. | .makeSlice .. => .al
  | .load .. | .lookup .. | .convert .. => .rd
  | .store .. | .mapUpdate .. | .next .. | .entry .. | .range .. | .insert .. | .entryStore .. | .mapEntry .. => .ef
  | .call c => match c.callee with
    | .builtin .len | .builtin .cap => .rd
    | .builtin .min | .builtin .max | .builtin .unsafeSliceData => .pu
    | _ => .ef
  | _ => .pu
def kindAt (ops : Array Oper) (i : Nat) : Kd := match ops[i]? with
  | some o => kindO o.op
  | none => .pu
def isEf (ops : Array Oper) (i : Nat) : Bool := match kindAt ops i with
  | .ef => true
  | _ => false
def isAl (ops : Array Oper) (i : Nat) : Bool := match kindAt ops i with
  | .al => true
  | _ => false
def isRd (ops : Array Oper) (i : Nat) : Bool := match kindAt ops i with
  | .rd => true
  | _ => false
def afters (ops : Array Oper) (i : Nat) : List Nat := match ops[i]? with
  | some o => (o.after.toList.filter (Region.binds .any)).map (·.on)
  | none => []
/-- an order: of what may come up now the first that turns memory, else the first that makes none, else the first -/
def canon (ops : Array Oper) : Nat → List Nat → List Nat → List Nat
  | 0, _, _ => []
  | n + 1, seen, left =>
    let rd := left.filter fun i => (afters ops i).all seen.contains
    match (match rd.find? (isEf ops) with
      | some i => some i
      | none => match rd.find? (fun i => !isAl ops i) with
        | some i => some i
        | none => rd.head?) with
    | some i => i :: canon ops n (i :: seen) (left.filter (· != i))
    | none => []
/-- what comes before, each with its own: for the order's operations so far -/
def preds (ops : Array Oper) : List Nat → List (Nat × List Nat) → List (Nat × List Nat)
  | [], acc => acc
  | i :: r, acc => preds ops r ((i, (afters ops i) ++ (afters ops i).flatMap fun j => (acc.lookup j).getD []) :: acc)
def pre (ps : List (Nat × List Nat)) (i j : Nat) : Bool := ((ps.lookup j).getD []).contains i
/-- the order is one of the region's, what turns memory comes in one order, what is made before it is wanted by it, slots are apart -/
def okOrd (ops : Array Oper) : List Nat → List Nat → Bool
  | _, [] => true
  | seen, i :: r => (afters ops i).all seen.contains && !seen.contains i && okOrd ops (i :: seen) r
def okEf (ops : Array Oper) (E : Nat → Bool) (ps : List (Nat × List Nat)) : List Nat → List Nat → Bool
  | _, [] => true
  | seen, i :: r => (!E i || seen.all fun j => !(E j || isAl ops j) || pre ps j i) && okEf ops E ps (i :: seen) r
def dstAt (ops : Array Oper) (i : Nat) : Option Tmp := (ops[i]?).bind (·.dst)
def okTm (ops : Array Oper) (ps : List (Nat × List Nat)) (ord : List Nat) : Bool :=
  ord.all fun i => match dstAt ops i with
    | none => true
    | some d => ord.all fun j => i == j || (dstAt ops j != some d && (match ops[j]? with
        | some o => !(o.looksAt ops).contains d || pre ps i j || pre ps j i
        | none => true))
inductive Rc where
  | off
  | val (tm : Tr AV) (v : AV)
  | al (v : AV) (n : Nat) (b : Blk)
  | ef (v : AV) (h : Hp)
  | up (n : Nat) (b : Blk)
/-- those recorded as turning memory, those that turn one block -/
def efI (l : List (Nat × Rc)) (i : Nat) : Bool := l.any fun x => x.1 == i && (match x.2 with
  | .ef _ _ => true
  | _ => false)
def ups (l : List (Nat × Rc)) : List (Nat × Nat) := l.filterMap fun x => match x.2 with
  | .up n _ => some (x.1, n)
  | _ => none
def efE (ops : Array Oper) (l : List (Nat × Rc)) : Nat → Bool := match ups l with
  | [] => isEf ops
  | _ :: _ => efI l
/-- what turns one block comes behind all that turns memory else, and in one order with what turns the same block -/
def okUp (ops : Array Oper) (ps : List (Nat × List Nat)) (l : List (Nat × Rc)) : Bool :=
  (ups l).all fun u => (l.all fun x => !(efI l x.1 || isAl ops x.1) || pre ps x.1 u.1) && (ups l).all fun v => u.1 == v.1 || !(u.2 == v.2) || pre ps u.1 v.1 || pre ps v.1 u.1
def okR (ops : Array Oper) (ord : List Nat) (l : List (Nat × Rc)) : Bool :=
  ord.length == ops.size && okOrd ops [] ord && okEf ops (efE ops l) (preds ops ord []) [] ord && okUp ops (preds ops ord []) l && okTm ops (preds ops ord []) ord && ord.all (· < ops.size) && (List.range ops.size).all ord.contains
/-- the heaps behind each that turned memory: those that came, those that come -/
def snapsOf : List (Nat × Rc) → List Nat → Hp → List (List Nat × Hp × List (Nat × Rc))
  | [], done, h => [(done, h, [])]
  | (i, .ef v h') :: r, done, h => (done, h, (i, .ef v h') :: r) :: snapsOf r (i :: done) h'
  | _ :: r, done, h => snapsOf r done h
def efs (l : List (Nat × Rc)) : List Nat := l.filterMap fun x => match x.2 with
  | .ef _ _ => some x.1
  | _ => none
/-- a reading that no memory turns -/
def deaf (ops : Array Oper) (tm : Tr AV) (v : AV) (i : Nat) : Bool := match ops[i]? with
  | some o => match opA P tm ⟨.lf, 0⟩ o.op with
    | some (.val v' _) => same v v'
    | _ => false
  | none => false
def chkRd (ops : Array Oper) (ps : List (Nat × List Nat)) (us : List (Nat × Nat)) (sn : List (List Nat × Hp × List (Nat × Rc))) (x : Nat × Rc) : Bool := match x.2 with
  | .val tm v => if isRd ops x.1 then deaf P ops tm v x.1 || ((us.all fun u => pre ps x.1 u.1) && sn.all fun s =>
      (s.1.any fun e => pre ps x.1 e) || ((efs s.2.2).any fun e => pre ps e x.1) || (match ops[x.1]? with
        | some o => match opA P tm s.2.1 o.op with
          | some (.val v' _) => same v v'
          | _ => false
        | none => false))
    else true
  | _ => true
/-- a store to a known block, and what lies there behind it -/
def upOf (tm : Tr AV) (o : Op) (h : Hp) : Option (Nat × Blk) := match o with
  | .store _ a _ => match evalO tm a with
    | some (.ptr n _) => (h.blks.get n).map (n, ·)
    | some (.uptr n _) => (h.blks.get n).map (n, ·)
    | _ => none
  | _ => none

/-- a call and what it comes to: the arguments, what it sees of the heap, what it leaves -/
structure Ent where
  as : List AV
  pre : List (Nat × Blk)
  n0 : Nat
  v : AV
  post : List (Nat × Blk)
  n1 : Nat
def sameE : List (AV × AV × Nat) → List (AV × AV × Nat) → Bool
  | [], [] => true
  | a :: x, b :: y => same a.1 b.1 && same a.2.1 b.2.1 && a.2.2 == b.2.2 && sameE x y
  | _, _ => false
def sameB : Blk → Blk → Bool
  | .cells a e, .cells b e' => e == e' && sames a b
  | .map a c, .map b c' => c == c' && sameE a b
  | _, _ => false
def holdsB (t : Tr Blk) : List (Nat × Blk) → Bool
  | [] => true
  | (n, b) :: r => (match t.get n with
    | some b' => sameB b b'
    | none => false) && holdsB t r
def delL (t : Tr Blk) : List (Nat × Blk) → Tr Blk
  | [] => t
  | (n, _) :: r => delL (t.del n) r
def putL (t : Tr Blk) : List (Nat × Blk) → Tr Blk
  | [] => t
  | (n, b) :: r => putL (t.put n b) r
def belowL (n1 : Nat) : List (Nat × Blk) → Bool
  | [] => true
  | (n, _) :: r => decide (n < n1) && belowL n1 r
def memoA (as : List AV) (h : Hp) : List Ent → Option (AV × Hp)
  | [] => none
  | e :: es => if e.n0 == h.next && sames e.as as && holdsB h.blks e.pre && decide (e.n0 ≤ e.n1) && belowL e.n1 e.post
    then some (e.v, ⟨putL (delL h.blks e.pre) e.post, e.n1⟩) else memoA as h es
inductive Sp where
  | fn (sp : List AV → Hp → Option AV)
  | ext (sp : List AV → Option AV)
  | mapc
  | memo (es : List Ent)
/-! ### loops over input -/
/-- a loop over the elements of a slice: the index, the length, the body, where it leaves to, the temporaries of the test and the step -/
structure Lu where
  i : Tmp
  m : Tmp
  d : Tmp
  e : Tmp
  k : Nat
  body : Code
def loopU : Code → Option Lu
  | .seq (.region _ o1 false) (.seq (.cond (.tmp d') .skip (.exit k)) (.seq body (.region _ o2 false))) => match o1.toList, o2.toList with
    | [⟨some d, .binOp .lss _ (.tmp i) (.tmp m) _, _, _, _, none⟩], [⟨some e, .binOp .add _ (.tmp i') (.const (.int .i64 1)) _, _, _, _, none⟩, ⟨some i'', .move (.tmp e'), _, _, _, none⟩] =>
      if d = d' ∧ i = i' ∧ i = i'' ∧ e = e' ∧ i ≠ m ∧ d ≠ m ∧ e ≠ m then some ⟨i, m, d, e, k, body⟩ else none
    | _, _ => none
  | _ => none
/-- what a code writes -/
def wrote : Code → Option (List Tmp)
  | .skip => some []
  | .region _ ops _ => some (ops.toList.filterMap (·.dst))
  | .seq a b => match wrote a, wrote b with
    | some x, some y => some (x ++ y)
    | _, _ => none
  | .cond _ a b => match wrote a, wrote b with
    | some x, some y => some (x ++ y)
    | _, _ => none
  | .block _ c => wrote c
  | .exit _ => some []
  | .ret => some []
  | _ => none
def isAcc : AV → Bool
  | .sl .. => true
  | .usl .. => true
  | _ => false
/-- the head of a later round: accumulators that were nil go on as one slice of unknown length on the block n -/
def headV (n es z : Nat) (a b : AV) : AV := match a with
  | .nilsl => if isAcc b then .usl n es 0 z else if same a b then a else .any
  | a => if same a b then a else .any
def headL (n es z : Nat) : List AV → List AV → List AV
  | a :: x, b :: y => headV n es z a b :: headL n es z x y
  | _, _ => []
def esOf : AV → Option (Nat × Nat)
  | .sl n _ _ _ _ es => some (n, es)
  | .usl n es _ _ => some (n, es)
  | _ => none
/-- what turned from nil to a slice -/
def accL : List AV → List AV → Option (Nat × Nat)
  | a :: x, b :: y => match a, esOf b with
    | .nilsl, some r => some r
    | _, _ => accL x y
  | _, _ => none
def accH (h h' : Hp) : Nat → Option (Nat × Nat)
  | 0 => none
  | n + 1 => match h.blks.get n, h'.blks.get n with
    | some (.cells a _), some (.cells b _) => match accL a b with
      | some r => some r
      | none => accH h h' n
    | _, _ => accH h h' n
def accT (tm tm' : Tr AV) : List Tmp → Option (Nat × Nat)
  | [] => none
  | t :: r => match tm.get t, (tm'.get t).bind esOf with
    | some .nilsl, some r' => some r'
    | _, _ => accT tm tm' r
def headH (n es z : Nat) (h h' : Hp) : Nat → Tr Blk → Tr Blk
  | 0, t => t
  | k + 1, t => headH n es z h h' k (match h.blks.get k, h'.blks.get k with
    | some (.cells a e), some (.cells b e') => t.put k (.cells (headL n es z a b) e)
    | _, _ => t)
def headT (n es z : Nat) (tm tm' : Tr AV) : List Tmp → Tr AV → Tr AV
  | [], t => t
  | k :: r, t => headT n es z tm tm' r (t.put k (match tm.get k, (tm'.get k).map isAcc with
    | some .nilsl, some true => .usl n es 0 z
    | _, _ => .junk))
def leaveV : AV → AV
  | .usl .. => .any
  | a => a
def leaveH : Nat → Tr Blk → Tr Blk
  | 0, t => t
  | k + 1, t => leaveH k (match t.get k with
    | some (.cells a e) => t.put k (.cells (a.map leaveV) e)
    | _ => t)
def leaveT (tm : Tr AV) : List Tmp → Tr AV → Tr AV
  | [], t => t
  | k :: r, t => leaveT tm r (t.put k (match tm.get k with
    | some (.usl ..) => .any
    | _ => .junk))
/-! all names below n, nothing that hangs on the round -/
mutual
def lowV (n : Nat) : AV → Bool
  | .ptr m _ => decide (m < n)
  | .sl m _ _ _ _ _ => decide (m < n)
  | .map m => decide (m < n)
  | .yld m => decide (m < n)
  | .lptr l => lowL n l
  | .lst _ l => lowL n l
  | .func _ a b => lowL n a && lowL n b
  | .iface _ v => lowV n v
  | .agg l => lowL n l
  | .tup l => lowL n l
  | .idx _ => false
  | .usl .. => false
  | .ixn _ => false
  | .uptr .. => false
  | _ => true
def lowL (n : Nat) : List AV → Bool
  | [] => true
  | a :: l => lowV n a && lowL n l
end
def lowE (n : Nat) : List (AV × AV × Nat) → Bool
  | [] => true
  | (a, b, _) :: l => lowV n a && lowV n b && lowE n l
def lowB (n : Nat) : Blk → Bool
  | .cells l _ => lowL n l
  | .map l _ => lowE n l
  | _ => false
/-- what is seen before covers what comes behind: b the bound of the rounds' slices -/
def covV (f : Bool) (n n' es w : Nat) (a b : AV) : Bool := match a, b with
  | .junk, _ => true
  | .any, b => b.sc
  | .usl m z 0 v, .usl m' z' k v' => m == n && z == es && m' == n' && z' == es && k == 1 && v == w && v' == w
  | .usl m z 0 v, .sl m' _ len _ _ z' => f && m == n && z == es && m' == n' && z' == es && len == 1 && v == w
  | a, b => same a b && lowV n a
def covL (f : Bool) (n n' es w : Nat) : List AV → List AV → Bool
  | [], [] => true
  | a :: x, b :: y => covV f n n' es w a b && covL f n n' es w x y
  | _, _ => false
def covH (f : Bool) (n n' es w : Nat) (h h' : Hp) : Nat → Bool
  | 0 => true
  | k + 1 => (match h.blks.get k, h'.blks.get k with
    | none, _ => true
    | some (.cells a e), some (.cells b e') => e == e' && covL f n n' es w a b
    | some b, some b' => sameB b b' && lowB n b
    | _, _ => false) && covH f n n' es w h h' k
def covT (f : Bool) (n n' es w : Nat) (tm tm' : Tr AV) (keep : Tmp) : Nat → Bool
  | 0 => true
  | k + 1 => (k == keep || covV f n n' es w ((tm.get k).getD (.tup [])) ((tm'.get k).getD (.tup []))) && covT f n n' es w tm tm' keep k
/-- a loop over input that is about to begin -/
def luOf (c : Code) (s : St) : Option (Lu × Nat × List Tmp) := match loopU c with
  | some u => match s.tm.get u.i, s.tm.get u.m, wrote c with
    | some (.int .i64 0), some (.ilen q _), some ws => some (u, q, ws)
    | _, _, _ => none
  | none => none
/-- the accumulator: its block, the size of its elements -/
def accOf (s s1 : St) (ws : List Tmp) : Option (Nat × Nat) := match accT s.tm s1.tm ws with
  | some r => some r
  | none => accH s.hp s1.hp s.hp.next
/-- the head of a later round -/
def headS (s s1 : St) (ws : List Tmp) (es z : Nat) (e : TypeId) : St :=
  ⟨headT s.hp.next es z s.tm s1.tm ws s.tm, s.nt, ⟨(headH s.hp.next es z s.hp s1.hp s.hp.next s.hp.blks).put s.hp.next (.ucells e), s.hp.next + 1⟩, s.df, s.rd⟩
/-- a round from a head s: the head sB covers what it leaves -/
def covS (f : Bool) (s sB s1 : St) (ws : List Tmp) (es z : Nat) (e : TypeId) (keep : Tmp) : Bool := match accOf s s1 ws with
  | some (n1, es1) => es1 == es && covT f s.hp.next n1 es z sB.tm s1.tm keep s.nt && covH f s.hp.next n1 es z sB.hp s1.hp s.hp.next && (match s1.hp.blks.get n1 with
      | some (.ucells e') => e == e'
      | some (.cells _ e') => e == e'
      | _ => false) && decide (s.hp.next ≤ n1) && s1.df == s.df && s1.nt == s.nt
  | none => false
def leaveS (s s1 s2 sB : St) (ws : List Tmp) (es z : Nat) : St :=
  ⟨leaveT sB.tm ws sB.tm, s.nt, ⟨leaveH s.hp.next (headH s.hp.next es z s.hp s1.hp s.hp.next s.hp.blks), max (s.hp.next + 1) (max s1.hp.next s2.hp.next)⟩, s.df, s.rd⟩
def elOf (s1 : St) (n1 : Nat) : Option TypeId := match s1.hp.blks.get n1 with
  | some (.cells _ e) => some e
  | _ => none
def atIdx (s : St) (u : Lu) (q : Nat) : St := ⟨(s.tm.put u.d .junk).put u.i (.idx q), s.nt, s.hp, s.df, s.rd⟩
/-- what is seen before covers what comes behind, the same names, nothing that hangs on the round -/
def subV (n : Nat) (a b : AV) : Bool := match a with
  | .junk => true
  | .any => b.sc
  | a => same a b && lowV n a
def subL (n : Nat) : List AV → List AV → Bool
  | [], [] => true
  | a :: x, b :: y => subV n a b && subL n x y
  | _, _ => false
def subH (n : Nat) (h h' : Hp) : Nat → Bool
  | 0 => true
  | k + 1 => (match h.blks.get k, h'.blks.get k with
    | none, _ => true
    | some (.cells a e), some (.cells b e') => e == e' && subL n a b
    | some b, some b' => sameB b b' && lowB n b
    | _, _ => false) && subH n h h' k
def subT (n : Nat) (tm tm' : Tr AV) : Nat → Bool
  | 0 => true
  | k + 1 => subV n ((tm.get k).getD (.tup [])) ((tm'.get k).getD (.tup [])) && subT n tm tm' k
def subS (n : Nat) (s s' : St) : Bool := subT n s.tm s'.tm s.nt && subH n s.hp s'.hp n && s.nt == s'.nt
def isIdx (q : Nat) : Option AV → Bool
  | some (.idx j) => j == q
  | _ => false
def isJunk : Option AV → Bool
  | some .junk => true
  | _ => false
def fitL (s s1 s2 sB : St) (u : Lu) (q : Nat) (ws : List Tmp) (es z : Nat) : Bool :=
  decide (u.d < s.nt) && decide (u.e < s.nt) && !(u.d == u.i) && isIdx q (s1.tm.get u.i) && isIdx q (s2.tm.get u.i) && isJunk (sB.tm.get u.e) &&
  ws.contains u.i && ws.contains u.d && !ws.contains u.m && decide (0 < z) &&
  subS s.hp.next s s && subS s.hp.next (leaveS s s1 s2 sB ws es z) s && subS s.hp.next (leaveS s s1 s2 sB ws es z) sB
def zOf : Option AV → Nat
  | some (.ilen _ z) => z
  | _ => 0
def loopR (cd : Code → St → Option (Ex × St)) (s : St) (u : Lu) (q : Nat) (ws : List Tmp) : Option (Ex × St) := match cd u.body (atIdx s u q) with
  | some (.normal, s1) => match accOf s s1 ws with
    | some (n1, es) => match elOf s1 n1 with
      | some e => match cd u.body (atIdx (headS s s1 ws es (zOf (s.tm.get u.m)) e) u q) with
        | some (.normal, s2) => if covS true s (headS s s1 ws es (zOf (s.tm.get u.m)) e) s1 ws es (zOf (s.tm.get u.m)) e u.i && covS false s (headS s s1 ws es (zOf (s.tm.get u.m)) e) s2 ws es (zOf (s.tm.get u.m)) e u.i && fitL s s1 s2 (headS s s1 ws es (zOf (s.tm.get u.m)) e) u q ws es (zOf (s.tm.get u.m))
          then some (.exit u.k, leaveS s s1 s2 (headS s s1 ws es (zOf (s.tm.get u.m)) e) ws es (zOf (s.tm.get u.m))) else none
        | _ => none
      | none => none
    | none => none
  | _ => none
variable (Sg : FuncId → Option Sp)
/-- what the library's row for a map's copy does -/
def mapcA (h : Hp) : List AV → Option (AV × Hp)
  | [.iface t (.map m)] => match h.blks.get m with
    | some (.map es clock) => some (.iface t (.map (h.new (.map es clock)).2), (h.new (.map es clock)).1)
    | _ => none
  | _ => none
def setL (tm : Tr AV) (nt : Nat) : List Tmp → List AV → Tr AV
  | d :: ds, v :: vs => setL (putT tm nt (some d) v) nt ds vs
  | _, _ => tm
def Hp.set (h : Hp) (n : Nat) (b : Blk) : Hp := ⟨h.blks.put n b, h.next⟩
def jumpOf : Ex → Option Code
  | .normal => none
  | .exit i => some (.exit i)
  | .ret => some .ret
def exOf : Option Code → Option Ex
  | none => some .normal
  | some (.exit i) => some (.exit i)
  | some .ret => some .ret
  | _ => none
/-- the lists of deferred calls that lie shut at a function's end -/
def shutA : List Nat → Hp → Option Hp
  | [], h => some h
  | n :: r, h => match h.blks.get n with
    | some .dfr => shutA r (h.kill n)
    | _ => none
def okD (ops : Array Oper) (ord : List Nat) (s : St) (recs : List (Nat × Rc)) : Bool :=
  okR ops ord recs && recs.all (chkRd P ops (preds ops ord []) (ups recs) (snapsOf recs [] s.hp))
def efRc (u : Bool) (tm : Tr AV) (o : Op) (v : AV) (h : Hp) : Rc := match u, upOf tm o h with
  | true, some (n, b) => .up n b
  | _, _ => .ef v h
mutual
def code : Nat → Code → St → Option (Ex × St)
  | 0, _, _ => none
  | n + 1, c, s => match c with
    | .skip => some (.normal, s)
    | .region _ ops draw => if draw then (match opsD n false ops (canon ops ops.size [] (List.range ops.size)) s with
        | some (recs, s') => if okD P ops (canon ops ops.size [] (List.range ops.size)) s recs then some (.normal, s')
            else (match opsD n true ops (canon ops ops.size [] (List.range ops.size)) s with
              | some (recs, s') => if okD P ops (canon ops ops.size [] (List.range ops.size)) s recs then some (.normal, s') else none
              | none => none)
        | none => none)
      else (opsR n ops ops.toList s).map (.normal, ·)
    | .seq a b => match code n a s with
      | some (.normal, s') => code n b s'
      | r => r
    | .cond c a b => match evalO s.tm c with
      | some (.bool t) => code n (if t then a else b) s
      | _ => none
    | .block id c => match code n c s with
      | some (.exit i, s') => if i = id then some (.normal, s') else some (.exit i, s')
      | r => r
    | .loop c => match luOf c s with
      | some (u, q, ws) => loopR (code n) s u q ws
      | none => match code n c s with
        | some (.normal, s') => (match luOf c s' with
          | some _ => none
          | none => code n (.loop c) s')
        | r => r
    | .rangeFunc g ps assign body => if s.rd then none else match evalO s.tm g with
      | some (.func (.func gf) first caps) =>
        match call n gf (first ++ [.yld (s.hp.next + 1)] ++ caps) ((s.hp.new .dfr).1.new (.loop .ready none s.tm s.nt ps assign body)).1 with
        | some (_, h) => match h.blks.get (s.hp.next + 1) with
          | some (.loop st pd _ _ _ _ _) => match st, exOf pd with
            | .busy, _ => none
            | _, some e => some (e, ⟨s.tm, s.nt, h.kill (s.hp.next + 1), s.hp.next :: s.df, s.rd⟩)
            | _, none => none
          | _ => none
        | none => none
      | _ => none
    | .exit id => some (.exit id, s)
    | .ret => some (.ret, s)
    | _ => none
def opsR : Nat → Array Oper → List Oper → St → Option St
  | 0, _, _, _ => none
  | n + 1, ops, [], s => some s
  | n + 1, ops, o :: r, s => match wantedA ops s.tm o.guard with
    | some true => match opC n s.tm s.hp o.op with
      | some (v, h) => opsR n ops r ⟨putT s.tm s.nt o.dst v, s.nt, h, s.df, s.rd⟩
      | none => none
    | some false => opsR n ops r ⟨putT s.tm s.nt o.dst (.tup []), s.nt, s.hp, s.df, s.rd⟩
    | none => none
/-- the region's operations in an order, each with what it came to -/
def opsD : Nat → Bool → Array Oper → List Nat → St → Option (List (Nat × Rc) × St)
  | 0, _, _, _, _ => none
  | n + 1, u, ops, [], s => some ([], s)
  | n + 1, u, ops, i :: r, s => match ops[i]? with
    | none => none
    | some o => match wantedA ops s.tm o.guard with
      | some true => match opC n s.tm s.hp o.op with
        | some (v, h) => match opsD n u ops r ⟨putT s.tm s.nt o.dst v, s.nt, h, s.df, s.rd⟩ with
          | some (l, s') => match kindO o.op with
            | .ef => some ((i, efRc u s.tm o.op v h) :: l, s')
            | .al => match h.blks.get s.hp.next with
              | some b => some ((i, .al v s.hp.next b) :: l, s')
              | none => none
            | _ => some ((i, .val s.tm v) :: l, s')
          | none => none
        | none => none
      | some false => match opsD n u ops r ⟨putT s.tm s.nt o.dst (.tup []), s.nt, s.hp, s.df, s.rd⟩ with
        | some (l, s') => some ((i, if isEf ops i then .ef (.tup []) s.hp else .off) :: l, s')
        | none => none
      | none => none
/-- an operation, calls carried out -/
def opC : Nat → Tr AV → Hp → Op → Option (AV × Hp)
  | 0, _, _, _ => none
  | n + 1, tm, hp, o => match opA P tm hp o with
    | some (.val v h) => some (v, h)
    | some (.skip h) => some (.tup [], h)
    | some (.enter f as h) => match Sg f with
      | some (.ext sp) => (sp as).map (·, h)
      | some .mapc => mapcA h as
      | _ => call n f as h
    | some (.round l as h) => round n l as h
    | none => none
def round : Nat → Nat → List AV → Hp → Option (AV × Hp)
  | 0, _, _, _ => none
  | n + 1, l, as, h => match h.blks.get l with
    | some (.loop _ _ tm nt ps assign body) => match code n assign ⟨setL tm nt ps.toList as, nt, h, [], true⟩ with
        | some (.normal, s1) => match s1.hp.blks.get l with
          | some (.loop .ready pd tm1 nt1 ps1 asn1 body1) =>
            match code n body ⟨s1.tm, s1.nt, s1.hp.set l (.loop .busy pd tm1 nt1 ps1 asn1 body1), s1.df, s1.rd⟩ with
            | some (ex, s2) => match s2.hp.blks.get l with
              | some (.loop _ _ tm2 nt2 ps2 asn2 body2) => some (.bool (jumpOf ex).isNone, s2.hp.set l (.loop (if (jumpOf ex).isNone then .ready else .done) (jumpOf ex) tm2 nt2 ps2 asn2 body2))
              | _ => none
            | none => none
          | _ => none
        | _ => none
    | _ => none
def call : Nat → FuncId → List AV → Hp → Option (AV × Hp)
  | 0, _, _, _ => none
  | n + 1, f, as, h => match Sg f with
    | some (.fn sp) => match sp as h with
      | some v => some (v, h)
      | none => none
    | some (.memo es) => memoA as h es
    | some (.ext _) => none
    | some .mapc => none
    | none => match P.funcs[f]? with
      | some fn => match fn.body with
        | some c => match code n c ⟨args0 0 as .lf, max fn.ntmps as.length, h, [], false⟩ with
          | some (.normal, s) | some (.ret, s) => match shutA s.df s.hp with
            | some h' => (resA P h' s.tm fn.results.toList).map fun l => (one l, h')
            | none => none
          | _ => none
        | none => none
      | none => none
end
end
end Go.Abs

namespace Go.Abs
def escX : List AV → Option AV
  | [x] => some x
  | _ => none
def cmpX : List AV → Option AV
  | [.str a, .str b] => some (.int .i64 (Lib.compareBytes a b))
  | _ => none
end Go.Abs
