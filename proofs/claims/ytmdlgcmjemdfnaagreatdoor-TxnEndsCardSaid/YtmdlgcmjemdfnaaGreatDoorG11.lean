/- What is proved: a part of the proof of the tied card of TxnEnds (text G11 of it). Conditions: those that its theorems name. -/
import Derived.Test.YtmdlgcmjemdfnaaGreatDoorG1
import Derived.Test.YtmdlgcmjemdfnaaGreatDoorG10
set_option linter.unusedVariables false
set_option linter.unusedSimpArgs false
set_option linter.unusedSectionVars false
namespace Go.Abs
noncomputable section
def b_len (P : Program) (h : Hp) (ts : List TypeId) (x : AV) : Option (AV × Hp) := match ts with
    | [t] => match P.underlying t, x with
      | some .string, .str s => some (.int .i64 s.length, h)
      | some (.slice _), .lsl lo hi => some (.una .i64 lo hi, h)
      | some (.slice _), .inp i s _ => some (.ilen i (wt s), h)
      | some (.slice _), .usl _ _ b _ => some (.ixn b, h)
      | some (.slice _), .str _ => none
      | some (.slice _), x => match lenA x with
        | some n => some (.int .i64 n, h)
        | none => none
      | some (.map _ _), .nilmap => some (.int .i64 0, h)
      | some (.map _ _), .map n => match h.blks.get n with
        | some (.map es _) => some (.int .i64 es.length, h)
        | _ => none
      | _, _ => none
    | _ => none
def b_cap (P : Program) (h : Hp) (ts : List TypeId) (x : AV) : Option (AV × Hp) := match ts with
    | [t] => match P.underlying t, x with
      | some (.slice _), .nilsl => some (.int .i64 0, h)
      | some (.slice _), .zsl => some (.int .i64 0, h)
      | some (.slice _), .sl _ _ _ cap true _ => some (.int .i64 cap, h)
      | _, _ => none
    | _ => none
def b_append (P : Program) (h : Hp) (ts : List TypeId) (s x : AV) : Option (AV × Hp) := match ts with
    | [t, t'] => match elemT P t, srcT P t' x with
      | some e, true => match P.info? e with
        | some i => if cloneA P e i.size i.bytes s x && (i.zero.map fun z => z.cells.size) == some i.size then some (.any, h) else match i.zero, srcA h i.size x, lenA x with
          | some z, some cs, some k => if cs.all AV.sc ∧ z.cells.size = i.size then appendA h e i.size i.bytes s cs k else none
          | _, _, _ => none
        | none => none
      | _, _ => none
    | _ => none
def b_unsafeSliceData (P : Program) (h : Hp) (ts : List TypeId) (x : AV) : Option (AV × Hp) := match x with
    | .nilsl => some (.nilptr, h)
    | .sl n off _ cap _ _ => if cap ≠ 0 then some (.ptr n off, h) else none
    | _ => none
def b_unsafeString (P : Program) (h : Hp) (ts : List TypeId) (x : AV) (k : Int) : Option (AV × Hp) := match ts with
    | [pt, _] => if k = 0 then (match x with
        | .nilptr => some (.str [], h)
        | .ptr _ _ => some (.str [], h)
        | _ => none)
      else (match x with
        | .ptr n 0 => match h.blks.get n, P.underlying pt with
          | some (.cells cs e), some (.pointer e') => match P.info? e with
            | some i => if e = e' ∧ i.size = 1 ∧ 0 < k ∧ k.toNat ≤ cs.length ∧ k ≤ 2 ^ 45 then (bytesA (cs.take k.toNat)).map fun l => (.str l, h.kill n) else none
            | none => none
          | _, _ => none
        | _ => none)
    | _ => none
def b_min (P : Program) (h : Hp) (ts : List TypeId) (v : AV) (r : List AV) : Option (AV × Hp) := (minmaxA false v r).map (·, h)

def b_max (P : Program) (h : Hp) (ts : List TypeId) (v : AV) (r : List AV) : Option (AV × Hp) := (minmaxA true v r).map (·, h)

def builtinF (P : Program) (h : Hp) (b : Builtin) (ts : List TypeId) (args : List AV) : Option (AV × Hp) := match b, args with
  | .len, [x] => b_len P h ts x
  | .cap, [x] => b_cap P h ts x
  | .append, [s, x] => b_append P h ts s x
  | .unsafeSliceData, [x] => b_unsafeSliceData P h ts x
  | .unsafeString, [x, .int .i64 k] => b_unsafeString P h ts x k
  | .min, v :: r => b_min P h ts v r
  | .max, v :: r => b_max P h ts v r
  | _, _ => none
def o_move (P : Program) (tm : Tr AV) (h : Hp) (x : Operand) : Option Nx := vl h (evalO tm x)
def o_pick (P : Program) (tm : Tr AV) (h : Hp) (c : Operand) (a : Operand) (b : Operand) : Option Nx := match evalO tm c with
    | some (.bool t) => vl h (evalO tm (if t then a else b))
    | _ => none
def o_alloc (P : Program) (tm : Tr AV) (h : Hp) (t : TypeId) : Option Nx := match zeroT P t with
    | some z => let (h, n) := h.new (.cells z t); some (.val (.ptr n 0) h)
    | none => none
def o_box (P : Program) (tm : Tr AV) (h : Hp) (t : TypeId) (x : Operand) : Option Nx := match evalO tm x with
    | some v => if v.nj then (let (h, n) := h.new (.cells v.cells t); some (.val (.ptr n 0) h)) else none
    | none => none
def o_build (P : Program) (tm : Tr AV) (h : Hp) (t : TypeId) (parts : Array (Nat × Operand)) : Option Nx := match zeroT P t, evalParts tm parts.toList, P.underlying t with
    | some z, some ps, some (.struct fs) => match placesA P fs.toList with
      | some pl => vl h ((fillA (fun i => pl[i]?) z ps).map .agg)
      | none => none
    | some z, some ps, some (.array _ e) => match sizeT P e with
      | some s => vl h ((fillA (fun i => some (i * s, s)) z ps).map .agg)
      | none => none
    | _, _, _ => none
def o_buildSlice (P : Program) (tm : Tr AV) (h : Hp) (t : TypeId) (len : Nat) (parts : Array (Nat × Operand)) : Option Nx := match elemT P t, evalParts tm parts.toList with
    | some e, some ps => match sizeT P e, zeroT P e with
      | some s, some z => if z.length = s ∧ len * s ≤ 2 ^ 24 then match fillA (fun i => some (i * s, s)) (reps z len) ps with
        | some cs => let (h, n) := h.new (.cells cs e); some (.val (.sl n 0 len len true s) h)
        | none => none else none
      | _, _ => none
    | _, _ => none
def o_load (P : Program) (tm : Tr AV) (h : Hp) (t : TypeId) (a : Operand) : Option Nx := match evalO tm a with
    | some a => vl h (loadA P h t a)
    | none => none
def o_store (P : Program) (tm : Tr AV) (h : Hp) (t : TypeId) (a : Operand) (x : Operand) : Option Nx := match evalO tm a, evalO tm x with
    | some a, some x => (storeA P h t a x).map .skip
    | _, _ => none
def o_nilCheck (P : Program) (tm : Tr AV) (h : Hp) (x : Operand) : Option Nx := match evalO tm x with
    | some (.ptr n o) => some (.val (.ptr n o) h)
    | some (.lptr c) => some (.val (.lptr c) h)
    | some (.func (.func f) a b) => some (.val (.func (.func f) a b) h)
    | _ => none
def o_binOp (P : Program) (tm : Tr AV) (h : Hp) (op : BinOp) (t : TypeId) (x : Operand) (y : Operand) : Option Nx := match evalO tm x, evalO tm y with
    | some x, some y => vl h (binA P op t x y)
    | _, _ => none
def o_unOp (P : Program) (tm : Tr AV) (h : Hp) (op : UnOp) (x : Operand) : Option Nx := match evalO tm x with
    | some x => vl h (unA op x)
    | _ => none
def o_convert (P : Program) (tm : Tr AV) (h : Hp) (s : TypeId) (d : TypeId) (x : Operand) : Option Nx := match evalO tm x with
    | some x => vl h (match convA P s d x with
      | some v => some v
      | none => convU P h s d x)
    | _ => none
def o_makeFunc (P : Program) (tm : Tr AV) (h : Hp) (fn : Fn) (a : Array Operand) (b : Array Operand) : Option Nx := match evalL tm a.toList, evalL tm b.toList with
    | some a, some b => some (.val (.func fn a b) h)
    | _, _ => none
def o_makeMap (P : Program) (tm : Tr AV) (h : Hp) (t : TypeId) : Option Nx := let (h, n) := h.new (.map [] 0); some (.val (.map n) h)
def o_makeSlice (P : Program) (tm : Tr AV) (h : Hp) (t : TypeId) (l : Operand) (c : Operand) : Option Nx := match elemT P t, evalO tm l, evalO tm c with
    | some e, some (.int .i64 l), some (.int .i64 c) => match P.info? e, zeroT P e with
      | some i, some z => if 0 ≤ l ∧ l ≤ c ∧ i.bytes * c ≤ 2 ^ 45 ∧ c ≤ 2 ^ 45 ∧ z.length = i.size then
          let (h, n) := h.new (.cells (reps z c.toNat) e); some (.val (.sl n 0 l.toNat c.toNat true i.size) h)
        else none
      | _, _ => none
    | _, _, _ => none
def o_slice (P : Program) (tm : Tr AV) (h : Hp) (t : TypeId) (x : Operand) (lo : Option Operand) (hi : Option Operand) (mx : Option Operand) : Option Nx := match evalO tm x, optO tm lo, optO tm hi, optO tm mx with
    | some x, some lo, some hi, some mx => vl h (sliceA P t x lo hi mx)
    | _, _, _, _ => none
def o_fieldAddr (P : Program) (tm : Tr AV) (h : Hp) (s : TypeId) (x : Operand) (f : Nat) : Option Nx := match evalO tm x with
    | some x => vl h (fieldAddrA P s x f)
    | none => none
def o_field (P : Program) (tm : Tr AV) (h : Hp) (s : TypeId) (x : Operand) (f : Nat) : Option Nx := match evalO tm x with
    | some x => vl h (fieldA P s x f)
    | none => none
def o_indexAddr (P : Program) (tm : Tr AV) (h : Hp) (t : TypeId) (x : Operand) (i : Operand) : Option Nx := match evalO tm x, evalO tm i with
    | some x, some i => vl h (indexAddrA P t x i)
    | _, _ => none
def o_index (P : Program) (tm : Tr AV) (h : Hp) (t : TypeId) (x : Operand) (i : Operand) : Option Nx := match evalO tm x, evalO tm i with
    | some x, some i => vl h (indexA P t x i)
    | _, _ => none
def o_lookup (P : Program) (tm : Tr AV) (h : Hp) (t : TypeId) (x : Operand) (i : Operand) (ok : Bool) : Option Nx := match evalO tm x, evalO tm i with
    | some x, some i => vl h (lookupA P h t x i ok)
    | _, _ => none
def o_mapUpdate (P : Program) (tm : Tr AV) (h : Hp) (t : TypeId) (m : Operand) (k : Operand) (v : Operand) : Option Nx := match evalO tm m, evalO tm k, evalO tm v with
    | some m, some k, some v => (updateA P h t m k v).map .skip
    | _, _, _ => none
def o_range (P : Program) (tm : Tr AV) (h : Hp) (t : TypeId) (x : Operand) : Option Nx := match evalO tm x with
    | some x => (rangeA P h t x).map fun r => .val r.1 r.2
    | none => none
def o_next (P : Program) (tm : Tr AV) (h : Hp) (it : Operand) (s : Bool) : Option Nx := match evalO tm it with
    | some x => (nextA h x s).map fun r => .val r.1 r.2
    | none => none
def o_entry (P : Program) (tm : Tr AV) (h : Hp) (it : Operand) : Option Nx := match evalO tm it with
    | some x => vl h (entryA h x)
    | none => none
def o_makeInterface (P : Program) (tm : Tr AV) (h : Hp) (t : TypeId) (x : Operand) : Option Nx := match evalO tm x, P.underlying t with
    | some _, some (.interface _) => none
    | some v, some _ => some (.val (.iface t v) h)
    | _, _ => none
def o_typeAssert (P : Program) (tm : Tr AV) (h : Hp) (x : Operand) (xt : TypeId) (t : TypeId) (ok : Bool) : Option Nx := match evalO tm x, P.underlying t with
    | some _, some (.interface _) => none
    | some (.iface t' v), some _ => if t' = t then some (.val (if ok then .tup [v, .bool true] else v) h) else none
    | _, _ => none
def o_extract (P : Program) (tm : Tr AV) (h : Hp) (t : Operand) (i : Nat) : Option Nx := match evalO tm t with
    | some (.tup vs) => vl h vs[i]?
    | _ => none
def o_call (P : Program) (tm : Tr AV) (h : Hp) (c : Call) : Option Nx := match c.callee with
    | .builtin b => match evalL tm c.args.toList with
      | some as => (builtinF P h b c.argTypes.toList as).map fun r => .val r.1 r.2
      | none => none
    | .value f => match evalO tm f, evalL tm c.args.toList with
      | some (.func (.func f) first caps), some as => some (.enter f (first ++ as ++ caps) h)
      | some (.yld n), some as => match h.blks.get n with
        | some (.loop _ _ _ _ ps _ _) => if as.length = ps.size then some (.round n as h) else none
        | _ => none
      | _, _ => none
    | _ => none
def opF (P : Program) (tm : Tr AV) (h : Hp) (o : Op) : Option Nx := match o with
  | .move x | .assign x => o_move P tm h x
  | .pick c a b => o_pick P tm h c a b
  | .alloc t => o_alloc P tm h t
  | .box t x => o_box P tm h t x
  | .build t parts => o_build P tm h t parts
  | .buildSlice t len parts => o_buildSlice P tm h t len parts
  | .load t a => o_load P tm h t a
  | .store t a x => o_store P tm h t a x
  | .nilCheck x => o_nilCheck P tm h x
  | .binOp op t x y _ => o_binOp P tm h op t x y
  | .unOp op _ x => o_unOp P tm h op x
  | .convert s d x => o_convert P tm h s d x
  | .makeFunc fn a b => o_makeFunc P tm h fn a b
  | .makeMap t none => o_makeMap P tm h t
  | .makeSlice t l c => o_makeSlice P tm h t l c
  | .slice t x lo hi mx => o_slice P tm h t x lo hi mx
  | .fieldAddr s x f => o_fieldAddr P tm h s x f
  | .field s x f => o_field P tm h s x f
  | .indexAddr t x i => o_indexAddr P tm h t x i
  | .index t x i => o_index P tm h t x i
  | .lookup t x i ok => o_lookup P tm h t x i ok
  | .mapUpdate t m k v => o_mapUpdate P tm h t m k v
  | .range t x => o_range P tm h t x
  | .next it s => o_next P tm h it s
  | .entry it => o_entry P tm h it
  | .makeInterface t x => o_makeInterface P tm h t x
  | .typeAssert x xt t ok => o_typeAssert P tm h x xt t ok
  | .extract t i => o_extract P tm h t i
  | .call c => o_call P tm h c
  | _ => none
end
end Go.Abs

namespace Go.Abs
noncomputable section
structure Fns where
  code : Code → St → Option (Ex × St)
  opsR : Array Oper → List Oper → St → Option St
  opsD : Bool → Array Oper → List Nat → St → Option (List (Nat × Rc) × St)
  opC : Tr AV → Hp → Op → Option (AV × Hp)
  call : FuncId → List AV → Hp → Option (AV × Hp)
  round : Nat → List AV → Hp → Option (AV × Hp)
def Fns.zero : Fns := ⟨fun _ _ => none, fun _ _ _ => none, fun _ _ _ _ => none, fun _ _ _ => none, fun _ _ _ => none, fun _ _ _ => none⟩
variable (P : Program) (Sg : FuncId → Option Sp) (F : Fns)
def c_regD3 (ops : Array Oper) (ord : List Nat) (s : St) (r : List (Nat × Rc) × St) : Option (Ex × St) :=
  if okD P ops ord s r.1 then some (.normal, r.2) else none
def c_regT (ops : Array Oper) (ord : List Nat) (s : St) : Option (Ex × St) := match F.opsD true ops ord s with
  | some r => c_regD3 P ops ord s r
  | none => none
def c_regD2 (ops : Array Oper) (ord : List Nat) (s : St) (r : List (Nat × Rc) × St) : Option (Ex × St) :=
  if okD P ops ord s r.1 then some (.normal, r.2) else c_regT P F ops ord s
def c_regD (ops : Array Oper) (ord : List Nat) (s : St) : Option (Ex × St) := match F.opsD false ops ord s with
  | some r => c_regD2 P F ops ord s r
  | none => none
def c_region (ops : Array Oper) (draw : Bool) (s : St) : Option (Ex × St) := match draw with
  | true => c_regD P F ops (canon ops ops.size [] (List.range ops.size)) s
  | false => (F.opsR ops ops.toList s).map (.normal, ·)
def c_seq (a b : Code) (s : St) : Option (Ex × St) := match F.code a s with
  | some (.normal, s') => F.code b s'
  | r => r
def c_cond (c : Operand) (a b : Code) (s : St) : Option (Ex × St) := match evalO s.tm c with
  | some (.bool t) => F.code (if t then a else b) s
  | _ => none
def c_block (id : Nat) (c : Code) (s : St) : Option (Ex × St) := match F.code c s with
  | some (.exit i, s') => if i = id then some (.normal, s') else some (.exit i, s')
  | r => r
def c_loop3 (c : Code) (s' : St) : Option (Ex × St) := match luOf c s' with
  | some _ => none
  | none => F.code (.loop c) s'
def c_loop2 (c : Code) (s : St) : Option (Ex × St) := match F.code c s with
  | some (.normal, s') => c_loop3 F c s'
  | r => r
def c_loop (c : Code) (s : St) : Option (Ex × St) := match luOf c s with
  | some (u, q, ws) => loopR F.code s u q ws
  | none => c_loop2 F c s
def c_range3 (s : St) (h : Hp) (st : LoopState) (pd : Option Code) : Option (Ex × St) := match st, exOf pd with
  | .busy, _ => none
  | _, some e => some (e, ⟨s.tm, s.nt, h.kill (s.hp.next + 1), s.hp.next :: s.df, s.rd⟩)
  | _, none => none
def c_range2 (s : St) (r : Option (AV × Hp)) : Option (Ex × St) := match r with
  | some (_, h) => match h.blks.get (s.hp.next + 1) with
    | some (.loop st pd _ _ _ _ _) => c_range3 s h st pd
    | _ => none
  | none => none
def c_range (g : Operand) (ps : Array Tmp) (assign body : Code) (s : St) : Option (Ex × St) := if s.rd then none else match evalO s.tm g with
  | some (.func (.func gf) first caps) => c_range2 s (F.call gf (first ++ [.yld (s.hp.next + 1)] ++ caps) ((s.hp.new .dfr).1.new (.loop .ready none s.tm s.nt ps assign body)).1)
  | _ => none
def codeF (c : Code) (s : St) : Option (Ex × St) := match c with
  | .skip => some (.normal, s)
  | .region _ ops draw => c_region P F ops draw s
  | .seq a b => c_seq F a b s
  | .cond c a b => c_cond F c a b s
  | .block id c => c_block F id c s
  | .loop c => c_loop F c s
  | .rangeFunc g ps assign body => c_range F g ps assign body s
  | .exit id => some (.exit id, s)
  | .ret => some (.ret, s)
  | _ => none
def r_on (ops : Array Oper) (o : Oper) (r : List Oper) (s : St) : Option St := match F.opC s.tm s.hp o.op with
  | some (v, h) => F.opsR ops r ⟨putT s.tm s.nt o.dst v, s.nt, h, s.df, s.rd⟩
  | none => none
def r_cons (ops : Array Oper) (o : Oper) (r : List Oper) (s : St) : Option St := match wantedA ops s.tm o.guard with
  | some true => r_on F ops o r s
  | some false => F.opsR ops r ⟨putT s.tm s.nt o.dst (.tup []), s.nt, s.hp, s.df, s.rd⟩
  | none => none
def opsRF (ops : Array Oper) (l : List Oper) (s : St) : Option St := match l with
  | [] => some s
  | o :: r => r_cons F ops o r s
def d_on2 (u : Bool) (i : Nat) (o : Oper) (s : St) (v : AV) (h : Hp) (p : List (Nat × Rc) × St) : Option (List (Nat × Rc) × St) := match kindO o.op with
  | .ef => some ((i, efRc u s.tm o.op v h) :: p.1, p.2)
  | .al => match h.blks.get s.hp.next with
    | some b => some ((i, .al v s.hp.next b) :: p.1, p.2)
    | none => none
  | _ => some ((i, .val s.tm v) :: p.1, p.2)
def d_on (u : Bool) (ops : Array Oper) (i : Nat) (o : Oper) (r : List Nat) (s : St) : Option (List (Nat × Rc) × St) := match F.opC s.tm s.hp o.op with
  | some (v, h) => match F.opsD u ops r ⟨putT s.tm s.nt o.dst v, s.nt, h, s.df, s.rd⟩ with
    | some p => d_on2 u i o s v h p
    | none => none
  | none => none
def d_off (u : Bool) (ops : Array Oper) (i : Nat) (o : Oper) (r : List Nat) (s : St) : Option (List (Nat × Rc) × St) := match F.opsD u ops r ⟨putT s.tm s.nt o.dst (.tup []), s.nt, s.hp, s.df, s.rd⟩ with
  | some p => some ((i, if isEf ops i then .ef (.tup []) s.hp else .off) :: p.1, p.2)
  | none => none
def d_cons (u : Bool) (ops : Array Oper) (i : Nat) (r : List Nat) (s : St) : Option (List (Nat × Rc) × St) := match ops[i]? with
  | none => none
  | some o => match wantedA ops s.tm o.guard with
    | some true => d_on F u ops i o r s
    | some false => d_off F u ops i o r s
    | none => none
def opsDF (u : Bool) (ops : Array Oper) (l : List Nat) (s : St) : Option (List (Nat × Rc) × St) := match l with
  | [] => some ([], s)
  | i :: r => d_cons F u ops i r s
def n_enter (f : FuncId) (as : List AV) (h : Hp) : Option (AV × Hp) := match Sg f with
  | some (.ext sp) => (sp as).map (·, h)
  | some .mapc => mapcA h as
  | _ => F.call f as h
def opCF (tm : Tr AV) (hp : Hp) (o : Op) : Option (AV × Hp) := match opF P tm hp o with
  | some (.val v h) => some (v, h)
  | some (.skip h) => some (.tup [], h)
  | some (.enter f as h) => n_enter Sg F f as h
  | some (.round l as h) => F.round l as h
  | none => none
def l_res (fn : Func) (r : Option (Ex × St)) : Option (AV × Hp) := match r with
  | some (.normal, s) | some (.ret, s) => match shutA s.df s.hp with
    | some h' => (resA P h' s.tm fn.results.toList).map fun l => (one l, h')
    | none => none
  | _ => none
def l_fn (fn : Func) (as : List AV) (h : Hp) : Option (AV × Hp) := match fn.body with
  | some c => l_res P fn (F.code c ⟨args0 0 as .lf, max fn.ntmps as.length, h, [], false⟩)
  | none => none
def callF (f : FuncId) (as : List AV) (h : Hp) : Option (AV × Hp) := match Sg f with
  | some (.fn sp) => match sp as h with
    | some v => some (v, h)
    | none => none
  | some (.memo es) => memoA as h es
  | some (.ext _) => none
  | some .mapc => none
  | none => match P.funcs[f]? with
    | some fn => l_fn P F fn as h
    | none => none
def q_end (l : Nat) (ex : Ex) (s2 : St) : Option (AV × Hp) := match s2.hp.blks.get l with
  | some (.loop _ _ tm2 nt2 ps2 asn2 body2) => some (.bool (jumpOf ex).isNone, s2.hp.set l (.loop (if (jumpOf ex).isNone then .ready else .done) (jumpOf ex) tm2 nt2 ps2 asn2 body2))
  | _ => none
def q_body (l : Nat) (body : Code) (r : Option (Ex × St)) : Option (AV × Hp) := match r with
  | some (.normal, s1) => match s1.hp.blks.get l with
    | some (.loop .ready pd tm1 nt1 ps1 asn1 body1) =>
      match F.code body ⟨s1.tm, s1.nt, s1.hp.set l (.loop .busy pd tm1 nt1 ps1 asn1 body1), s1.df, s1.rd⟩ with
      | some (ex, s2) => q_end l ex s2
      | none => none
    | _ => none
  | _ => none
def roundF (l : Nat) (as : List AV) (h : Hp) : Option (AV × Hp) := match h.blks.get l with
  | some (.loop _ _ tm nt ps assign body) => q_body F l body (F.code assign ⟨setL tm nt ps.toList as, nt, h, [], true⟩)
  | _ => none
def stepF : Fns := ⟨codeF P F, opsRF F, opsDF F, opCF P Sg F, callF P Sg F, roundF F⟩
def runF (n : Nat) : Fns := Nat.rec Fns.zero (fun _ F => stepF P Sg F) n
theorem builtinF_eq (h : Hp) (b : Builtin) (ts : List TypeId) (as : List AV) : builtinF P h b ts as = builtinA P h b ts as := by
  cases b <;> rcases as with _ | ⟨a, _ | ⟨a2, _ | ⟨a3, as⟩⟩⟩ <;> first | rfl | (cases a2 <;> first | rfl | (rename_i k _; cases k <;> rfl))
theorem opF_eq (tm : Tr AV) (h : Hp) (o : Op) : opF P tm h o = opA P tm h o := by
  cases o <;> first | rfl | (rename_i r; cases r <;> rfl) | simp only [opF, o_call, opA, builtinF_eq]
theorem run_eq (n : Nat) : (∀ c s, (runF P Sg n).code c s = code P Sg n c s) ∧ (∀ ops l s, (runF P Sg n).opsR ops l s = opsR P Sg n ops l s) ∧ (∀ u ops l s, (runF P Sg n).opsD u ops l s = opsD P Sg n u ops l s) ∧
    (∀ tm h o, (runF P Sg n).opC tm h o = opC P Sg n tm h o) ∧ (∀ f as h, (runF P Sg n).call f as h = call P Sg n f as h) ∧ (∀ l as h, (runF P Sg n).round l as h = round P Sg n l as h) := by
  induction n with
  | zero => exact ⟨fun _ _ => by simp [code]; rfl, fun _ _ _ => by simp [opsR]; rfl, fun _ _ _ _ => by simp [opsD]; rfl, fun _ _ _ => by simp [opC]; rfl, fun _ _ _ => by simp [call]; rfl, fun _ _ _ => by simp [round]; rfl⟩
  | succ n ih =>
    obtain ⟨i1, i2, i3, i4, i5, i6⟩ := ih
    have e : runF P Sg (n + 1) = stepF P Sg (runF P Sg n) := rfl
    rw [e]
    generalize runF P Sg n = F at i1 i2 i3 i4 i5 i6
    refine ⟨fun c s => ?_, fun ops l s => ?_, fun u ops l s => ?_, fun tm h o => ?_, fun f as h => ?_, fun l as h => ?_⟩
    · show codeF P F c s = _
      cases c <;> simp only [codeF, code]
      case region id ops draw =>
        cases draw
        · simp only [c_region, i2]; rfl
        · simp only [c_region, c_regD, i3, if_true]
          cases opsD P Sg n false ops (canon ops ops.size [] (List.range ops.size)) s with
          | none => rfl
          | some r =>
            simp only [c_regD2, c_regT, i3]
            split
            · rfl
            · cases opsD P Sg n true ops (canon ops ops.size [] (List.range ops.size)) s with
              | none => rfl
              | some r2 => rfl
      case seq a b => simp only [c_seq, i1]; rfl
      case cond c a b => simp only [c_cond, i1]; rfl
      case block id c => simp only [c_block, i1]; rfl
      case loop c =>
        have hcd : F.code = code P Sg n := funext fun c => funext fun s => i1 c s
        simp only [c_loop, c_loop2, c_loop3, hcd]
        rfl
      case rangeFunc g ps asn body =>
        simp only [c_range, c_range2, c_range3, i5]
        rfl
    · show opsRF F ops l s = _
      cases l with
      | nil => simp only [opsRF, opsR]
      | cons o r => simp only [opsRF, r_cons, r_on, opsR, i2, i4]; rfl
    · show opsDF F u ops l s = _
      cases l with
      | nil => simp only [opsDF, opsD]
      | cons i r =>
        simp only [opsDF, d_cons, d_on, d_off, opsD, i3, i4]
        cases ops[i]? with
        | none => rfl
        | some o =>
          simp only []
          cases wantedA ops s.tm o.guard with
          | none => rfl
          | some b =>
            cases b with
            | false =>
              simp only []
              cases opsD P Sg n u ops r ⟨putT s.tm s.nt o.dst (.tup []), s.nt, s.hp, s.df, s.rd⟩ with
              | none => rfl
              | some q => rfl
            | true =>
              simp only []
              cases opC P Sg n s.tm s.hp o.op with
              | none => rfl
              | some q =>
                simp only []
                cases opsD P Sg n u ops r ⟨putT s.tm s.nt o.dst q.1, s.nt, q.2, s.df, s.rd⟩ with
                | none => rfl
                | some q2 => rfl
    · show opCF P Sg F tm h o = _
      simp only [opCF, opC, opF_eq, n_enter, i5, i6]
      rfl
    · show callF P Sg F f as h = _
      simp only [callF, call, l_fn, l_res, i1]
      rfl
    · show roundF F l as h = _
      simp only [roundF, round, q_body, q_end, i1]
      rfl
theorem call_run (n : Nat) (f : FuncId) (as : List AV) (h : Hp) : call P Sg n f as h = (runF P Sg n).call f as h := ((run_eq P Sg n).2.2.2.2.1 f as h).symm
end
end Go.Abs

namespace Go.Abs
noncomputable section
variable [Bnd]
variable {P : Program} {Sg : FuncId → Option Sp}
/-- a run comes to what is written down -/
def chkM (r : Option (AV × Hp)) (e : Ent) : Bool := match r with
  | some (v, h) => same e.v v && (h.next == e.n1) && holdsB h.blks e.post
  | none => false
def runM (P : Program) (Sg : FuncId → Option Sp) (n : Nat) (f : FuncId) (e : Ent) : Bool :=
  belowL e.n0 e.pre && chkM ((runF P Sg n).call f e.as ⟨putL .lf e.pre, e.n0⟩) e
theorem runM_call {n : Nat} {f : FuncId} {e : Ent} (h : runM P Sg n f e = true) : ∃ h', call P Sg n f e.as ⟨putL .lf e.pre, e.n0⟩ = some (e.v, h') ∧ h'.next = e.n1 ∧ (∀ k b, hmL e.post k = some b → h'.blks.get k = some b) ∧ ∀ k b, (k, b) ∈ e.pre → k < e.n0 := by
  simp only [runM, Bool.and_eq_true] at h
  obtain ⟨h0, h⟩ := h
  rw [← call_run] at h
  unfold chkM at h
  split at h
  · rename_i v h' hc
    simp only [Bool.and_eq_true, beq_iff_eq] at h
    refine ⟨h', by rw [hc, same_eq h.1.1], h.1.2, fun k b hk => holdsB_spec h.2 k b (hmL_mem hk), belowL_spec h0⟩
  · cases h
theorem memo_of (hS : Sound P Sg) {f : FuncId} {es : List Ent} (hne : es ≠ []) (n : Nat) (h : ∀ e ∈ es, runM P Sg n f e = true) : MemoOK P f es := by
  refine ⟨?_, fun e he x w as' ha hr hx hb => ?_⟩
  · cases es with
    | nil => exact absurd rfl hne
    | cons e es =>
      obtain ⟨h', h1, _⟩ := runM_call (h e List.mem_cons_self)
      exact call_enters hS h1
  · obtain ⟨h', h1, h2, h3, h4⟩ := runM_call (h e he)
    refine Calls.mono (call_sound hS h1 ha hr (fun k b hk => h4 k b (hmL_mem hk)) (fun k hk hk2 => hx k hk (by rw [← h2]; exact hk2))) (fun en w' hh => ?_)
    obtain ⟨r, rfl, y, e1, r1, v1⟩ := hh
    rw [h2] at e1
    exact ⟨r, rfl, y, ⟨e1.m, e1.κ, e1.mo, e1.F, e1.Fn, e1.τ, e1.os, e1.tape, e1.output, e1.size, e1.fr, fun k b c hk hy => e1.im k b c (h3 k b hk) hy⟩, r1.sub h3, v1⟩
/-- more calls written down -/
def SgL (base : FuncId → Option Sp) (ms : List (FuncId × List Ent)) (f : FuncId) : Option Sp := match ms.lookup f with
  | some es => some (.memo es)
  | none => base f
theorem lookup_mem {α : Type} {f : Nat} {a : α} : ∀ {l : List (Nat × α)}, l.lookup f = some a → (f, a) ∈ l
  | [], h => by cases h
  | (g, b) :: l, h => by
    rw [List.lookup_cons] at h
    split at h
    · rename_i hg
      injection h with h
      rw [beq_iff_eq] at hg
      subst hg; subst h
      exact List.mem_cons_self
    · exact List.mem_cons_of_mem _ (lookup_mem h)
theorem sound_add {ms : List (FuncId × List Ent)} (hS : Sound P Sg) (h : ∀ f es, (f, es) ∈ ms → MemoOK P f es) : Sound P (SgL Sg ms) where
  names := hS.names
  spec f sp hf := by
    unfold SgL at hf
    split at hf
    · cases hf
    · exact hS.spec f sp hf
  ext f sp hf := by
    unfold SgL at hf
    split at hf
    · cases hf
    · exact hS.ext f sp hf
  mapc f hf := by
    unfold SgL at hf
    split at hf
    · cases hf
    · exact hS.mapc f hf
  memo f es hf := by
    unfold SgL at hf
    split at hf
    · rename_i es' hl
      injection hf with hf; injection hf with hf
      subst hf
      exact h f es' (lookup_mem hl)
    · exact hS.memo f es hf
  mixed := hS.mixed
/-- a call without arguments that comes to a bool, from any memory -/
def boolSp (b : Bool) : List AV → Hp → Option AV := fun as _ => match as with
  | [] => some (.bool b)
  | _ => none
def SgF (base : FuncId → Option Sp) (g : FuncId) (sp : List AV → Hp → Option AV) (f : FuncId) : Option Sp := if f = g then some (.fn sp) else base f
theorem spec_closed (hS : Sound P Sg) {n : Nat} {f : FuncId} {b : Bool} (h : ((runF P Sg n).call f [] ⟨.lf, 0⟩).map (·.1) = some (.bool b)) : SpecOK P f (boolSp b) := by
  obtain ⟨⟨v, h'⟩, h1, h2⟩ := Option.map_eq_some_iff.1 h
  simp only [] at h2
  subst h2
  rw [← call_run] at h1
  refine ⟨call_enters hS h1, fun x w h0 as as' v hv ha hr => ?_⟩
  unfold boolSp at hv
  split at hv
  · injection hv with hv
    subst hv
    have hr0 : HRel ⟨fun _ => none, fun _ => 0, fun _ => False, x.τ⟩ (Tr.lf : Tr Blk).get w := ⟨fun n b e => (by rw [lf_get] at e; cases e), fun n _ _ _ _ e => (by rw [lf_get] at e; cases e), fun _ h => h.elim, fun _ _ h => (by cases h)⟩
    have ha0 : VRels ⟨fun _ => none, fun _ => 0, fun _ => False, x.τ⟩ w [] as'.toList := by
      have hl : as'.toList = [] := List.eq_nil_of_length_eq_zero ha.length
      rw [hl]
      exact .nil
    refine Calls.mono (call_sound hS h1 ha0 hr0 (fun n b e => by rw [lf_get] at e; cases e) (fun _ _ _ => rfl)) (fun e w' hh => ?_)
    obtain ⟨r, rfl, y, e1, _, v1⟩ := hh
    cases v1
    have hfr : ∀ c, c < w.heap.size → w'.heap[c]? = w.heap[c]? := fun c hc => e1.fr c hc (fun n b e => by rw [lf_get] at e; cases e)
    have hmo : Mono x w x w' := ⟨fun _ _ h => h, fun _ _ _ => rfl, fun _ h => h, rfl, fun c hc => hfr c (hr.fb c hc)⟩
    refine ⟨_, rfl, x, ⟨fun _ _ h => h, fun _ _ _ => rfl, fun _ _ => rfl, fun _ h => h, fun _ h => .inl h, rfl, e1.os, e1.tape, e1.output, e1.size, fun c hc _ => hfr c hc, fun n b c e hx => .inl ⟨n, b, e, hx⟩⟩, ⟨fun n b e => ?_, hr.inj, fun c hc => Nat.lt_of_lt_of_le (hr.fb c hc) e1.size, fun n c hx => Nat.lt_of_lt_of_le (hr.mb n c hx) e1.size⟩, .bool b⟩
    obtain ⟨c, k1, k2, k3⟩ := hr.blk n b e
    exact ⟨c, k1, k2.mono hmo (hfr c k2.lt), k3⟩
  · cases hv
theorem sound_fn (hS : Sound P Sg) {g : FuncId} {sp : List AV → Hp → Option AV} (h : SpecOK P g sp) : Sound P (SgF Sg g sp) where
  names := hS.names
  spec f sp' hf := by
    unfold SgF at hf
    split at hf
    · rename_i hg
      injection hf with hf; injection hf with hf
      subst hf; subst hg
      exact h
    · exact hS.spec f sp' hf
  ext f sp' hf := by
    unfold SgF at hf
    split at hf
    · cases hf
    · exact hS.ext f sp' hf
  mapc f hf := by
    unfold SgF at hf
    split at hf
    · cases hf
    · exact hS.mapc f hf
  memo f es hf := by
    unfold SgF at hf
    split at hf
    · cases hf
    · exact hS.memo f es hf
  mixed := hS.mixed
end
end Go.Abs
