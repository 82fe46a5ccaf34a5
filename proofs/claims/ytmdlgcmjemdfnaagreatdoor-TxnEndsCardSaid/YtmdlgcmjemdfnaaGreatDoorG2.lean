/- What is proved: a part of the proof of the tied card of TxnEnds (text G2 of it). Conditions: those that its theorems name. -/
import Derived.Test.YtmdlgcmjemdfnaaGreatDoorG1
import Derived.Below
import Derived.Laws.Cells
import Derived.Deep.AppendSrc
import Derived.WideLaws
set_option linter.unusedVariables false
set_option linter.unusedSimpArgs false
set_option linter.unusedSectionVars false
namespace Go.Abs

/-- what comes in; the index of the round; the bound of depths -/
structure Kn where
  v : Nat → Value
  ck : Nat
  D : Nat
structure Cx where
  m : Nat → Option Nat
  κ : Nat → Nat
  F : Nat → Prop
  τ : Kn
/-! slices that can be read, of a depth -/
mutual
inductive RdS (F : Nat → Prop) (w : World) : Nat → List Ck → Value → Prop
  | nil (d : Nat) (s : List Ck) : RdS F w d s (.slice none 0 0)
  | mk (d : Nat) (s : List Ck) (a : Addr) (n cap : Nat) (hn : n * wt s ≤ 2 ^ 47) (hc : n ≤ cap) (hF : 0 < n → F a.block) (h : ∀ k, k < n → RdE F w d s (a.add (k * s.length))) : RdS F w (d + 1) s (.slice (some a) n cap)
inductive RdE (F : Nat → Prop) (w : World) : Nat → List Ck → Addr → Prop
  | mk (d : Nat) (s : List Ck) (a : Addr) (l : List Value) (hl : ∀ i v, l[i]? = some v → w.cell? (a.add i) = some v) (hr : RdL F w d s s l) : RdE F w d s a
inductive RdL (F : Nat → Prop) (w : World) : Nat → List Ck → List Ck → List Value → Prop
  | nil (d : Nat) (s : List Ck) : RdL F w d s [] []
  | any (d : Nat) (s : List Ck) (v : Value) (l : List Ck) (l' : List Value) (h : v.oneCell' = true) (hs : RdL F w d s l l') : RdL F w d s (.any :: l) (v :: l')
  | num (d : Nat) (s : List Ck) (z : Int) (l : List Ck) (l' : List Value) (h : -9223372036854775808 ≤ z ∧ z ≤ 9223372036854775807) (hs : RdL F w d s l l') : RdL F w d s (.num :: l) (.int .i64 z :: l')
  | self (d : Nat) (s : List Ck) (v : Value) (l : List Ck) (l' : List Value) (h : RdS F w d s v) (hs : RdL F w d s l l') : RdL F w d s (.self :: l) (v :: l')
  | sl (d : Nat) (s s' : List Ck) (v : Value) (l : List Ck) (l' : List Value) (h : RdS F w d s' v) (hs : RdL F w d s l l') : RdL F w d s (.sl s' :: l) (v :: l')
end
/-- the greatest depth that is spoken of -/
class Bnd where
  B : Nat
variable [Bnd]
/-- a depth below the bound, or up to it -/
def Dep (D d : Nat) (b : Bool) : Prop := (d < D ∨ (b = false ∧ d = D)) ∧ D ≤ Bnd.B
/-- the cells from an address on lie in memory that stays -/
def Lies (x : Cx) (w : World) (a : Addr) (vs : List Value) : Prop := x.F a.block ∧ ∀ i v, vs[i]? = some v → w.cell? (a.add i) = some v

mutual
inductive VRel (x : Cx) (w : World) : AV → Value → Prop
  | bool (b : Bool) : VRel x w (.bool b) (.bool b)
  | int (k : IntKind) (n : Int) : VRel x w (.int k n) (.int k n)
  | str (s : ByteArray) (l : List UInt8) (h : s.data.toList = l) : VRel x w (.str l) (.string s)
  | ptr (n c off : Nat) (h : x.m n = some c) : VRel x w (.ptr n off) (.pointer (some ⟨c, off, none⟩))
  | lptr (cells : List AV) (vs : List Value) (a : Addr) (h : VRels x w cells vs) (hl : Lies x w a vs) : VRel x w (.lptr cells) (.pointer (some a))
  | nilptr : VRel x w .nilptr (.pointer none)
  | sl (n off len cap : Nat) (ex : Bool) (es c cap' : Nat) (h : x.m n = some c) (hc : cap ≤ cap') (he : ex = true → cap' = cap) (hl : len ≤ cap) (hk : off + cap' * es ≤ x.κ n) : VRel x w (.sl n off len cap ex es) (.slice (some ⟨c, off, none⟩) len cap')
  | nilsl : VRel x w .nilsl (.slice none 0 0)
  | esl (a : Addr) (cap : Nat) : VRel x w .esl (.slice (some a) 0 cap)
  | zsl (a : Addr) : VRel x w .zsl (.slice (some a) 0 0)
  | lst (len : Nat) (cells : List AV) (vs : List Value) (A : Option Addr) (cap : Nat) (hc : len ≤ cap) (h0 : A = none → cap = 0) (h : VRels x w cells vs) (hl : 0 < len → ∃ a, A = some a ∧ Lies x w a vs) : VRel x w (.lst len cells) (.slice A len cap)
  | map (n c : Nat) (h : x.m n = some c) : VRel x w (.map n) (.map (some c))
  | nilmap : VRel x w .nilmap (.map none)
  | func (fn : Fn) (a b : List AV) (a' b' : Array Value) (h1 : VRels x w a a'.toList) (h2 : VRels x w b b'.toList) : VRel x w (.func fn a b) (.func fn a' b')
  | nilfunc : VRel x w .nilfunc .nilFunc
  | iface (t : TypeId) (v : AV) (v' : Value) (h : VRel x w v v') : VRel x w (.iface t v) (.iface t v')
  | nilif : VRel x w .nilif .nilIface
  | agg (cs : List AV) (cs' : Array Value) (h : VRels x w cs cs'.toList) : VRel x w (.agg cs) (.agg cs')
  | tup (cs : List AV) (cs' : Array Value) (h : VRels x w cs cs'.toList) : VRel x w (.tup cs) (.tuple cs')
  | opq (i : Nat) (h : (x.τ.v i).oneCell' = true) : VRel x w (.opq i) (x.τ.v i)
  | yld (n c : Nat) (h : x.m n = some c) : VRel x w (.yld n) (.func (.yield c) #[] #[])
  | una (k : IntKind) (lo hi z : Int) (h : lo ≤ z ∧ z ≤ hi) : VRel x w (.una k lo hi) (.int k z)
  | any (v : Value) (h : v.oneCell' = true) : VRel x w .any v
  | junk (v : Value) : VRel x w .junk v
  | inp (i : Nat) (s : List Ck) (b : Bool) (d : Nat) (hd : Dep x.τ.D d b) (h : RdS x.F w d s (x.τ.v i)) : VRel x w (.inp i s b) (x.τ.v i)
  | elt (s : List Ck) (b : Bool) (v : Value) (d : Nat) (hd : Dep x.τ.D d b) (h : RdS x.F w d s v) : VRel x w (.elt s b) v
  | eltN (s : List Ck) (b : Bool) (a : Addr) (n cap d : Nat) (hd : Dep x.τ.D d b) (h : RdS x.F w d s (.slice (some a) n cap)) : VRel x w (.eltN s b) (.slice (some a) n cap)
  | ilen (i z : Nat) (A : Option Addr) (n cap : Nat) (h : x.τ.v i = .slice A n cap) (hn : n * z ≤ 2 ^ 47) : VRel x w (.ilen i z) (.int .i64 n)
  | idx (i : Nat) (A : Option Addr) (n cap : Nat) (h : x.τ.v i = .slice A n cap) (hk : x.τ.ck < n) : VRel x w (.idx i) (.int .i64 x.τ.ck)
  | eptr (s : List Ck) (a : Addr) (d : Nat) (hd : d < x.τ.D ∧ x.τ.D ≤ Bnd.B) (hF : x.F a.block) (h : RdE x.F w d s a) : VRel x w (.eptr s) (.pointer (some a))
  | usl (n es b z c off len cap : Nat) (h : x.m n = some c) (hl : len ≤ cap) (hk : off + cap * es ≤ x.κ n) (hb : len = x.τ.ck + b) (hc : x.τ.ck * z ≤ 2 ^ 47) : VRel x w (.usl n es b z) (.slice (some ⟨c, off, none⟩) len cap)
  | ixn (b : Nat) : VRel x w (.ixn b) (.int .i64 ((x.τ.ck + b : Nat) : Int))
  | uptr (n es c o : Nat) (h : x.m n = some c) (hk : o + es ≤ x.κ n) : VRel x w (.uptr n es) (.pointer (some ⟨c, o, none⟩))
  | lsl (lo hi : Int) (A : Option Addr) (n cap : Nat) (h : lo ≤ (n : Int) ∧ (n : Int) ≤ hi) : VRel x w (.lsl lo hi) (.slice A n cap)
inductive VRels (x : Cx) (w : World) : List AV → List Value → Prop
  | nil : VRels x w [] []
  | cons (v : AV) (v' : Value) (l : List AV) (l' : List Value) (h : VRel x w v v') (hs : VRels x w l l') : VRels x w (v :: l) (v' :: l')
end

/-- what keeps what is told of values -/
structure Mono (x : Cx) (w : World) (x' : Cx) (w' : World) : Prop where
  m : ∀ n c, x.m n = some c → x'.m n = some c
  κ : ∀ n c, x.m n = some c → x'.κ n = x.κ n
  F : ∀ c, x.F c → x'.F c
  τ : x'.τ = x.τ
  blk : ∀ c, x.F c → w'.heap[c]? = w.heap[c]?
theorem Mono.refl (x : Cx) (w : World) : Mono x w x w := ⟨fun _ _ h => h, fun _ _ _ => rfl, fun _ h => h, rfl, fun _ _ => rfl⟩
theorem Mono.trans {x y z : Cx} {u v w : World} (h : Mono x u y v) (k : Mono y v z w) : Mono x u z w :=
  ⟨fun n c hn => k.m n c (h.m n c hn), fun n c hn => (k.κ n c (h.m n c hn)).trans (h.κ n c hn), fun c hc => k.F c (h.F c hc), k.τ.trans h.τ, fun c hc => (k.blk c (h.F c hc)).trans (h.blk c hc)⟩
theorem add_block (a : Addr) (i : Nat) : (a.add i).block = a.block := by unfold Addr.add; split <;> rfl
theorem Lies.mono {x x' : Cx} {w w' : World} {a : Addr} {vs : List Value} (hm : Mono x w x' w') (h : Lies x w a vs) : Lies x' w' a vs :=
  ⟨hm.F _ h.1, fun i v hi => by rw [← h.2 i v hi]; exact World.cell?_of_block (by rw [add_block]; exact hm.blk _ h.1)⟩
theorem cell_stays {F : Nat → Prop} {w w' : World} (hb : ∀ c, F c → w'.heap[c]? = w.heap[c]?) {a : Addr} (hF : F a.block) (i : Nat) : w'.cell? (a.add i) = w.cell? (a.add i) := World.cell?_of_block (by rw [add_block]; exact hb _ hF)
mutual
theorem RdS.mono {F F' : Nat → Prop} {w w' : World} (hF : ∀ c, F c → F' c) (hb : ∀ c, F c → w'.heap[c]? = w.heap[c]?) : ∀ {d : Nat} {s : List Ck} {v : Value}, RdS F w d s v → RdS F' w' d s v
  | _, _, _, .nil d s => .nil d s
  | _, _, _, .mk d s a n cap hn hc hf h => .mk d s a n cap hn hc (fun h0 => hF _ (hf h0)) (fun k hk => RdE.mono hF hb (h k hk) (by rw [add_block]; exact hf (by omega)))
theorem RdE.mono {F F' : Nat → Prop} {w w' : World} (hF : ∀ c, F c → F' c) (hb : ∀ c, F c → w'.heap[c]? = w.heap[c]?) : ∀ {d : Nat} {s : List Ck} {a : Addr}, RdE F w d s a → F a.block → RdE F' w' d s a
  | _, _, _, .mk d s a l hl hr, hf => .mk d s a l (fun i v hi => by rw [cell_stays hb hf]; exact hl i v hi) (RdL.mono hF hb hr)
theorem RdL.mono {F F' : Nat → Prop} {w w' : World} (hF : ∀ c, F c → F' c) (hb : ∀ c, F c → w'.heap[c]? = w.heap[c]?) : ∀ {d : Nat} {s l : List Ck} {vs : List Value}, RdL F w d s l vs → RdL F' w' d s l vs
  | _, _, _, _, .nil d s => .nil d s
  | _, _, _, _, .any d s v l l' h hs => .any d s v l l' h (RdL.mono hF hb hs)
  | _, _, _, _, .num d s z l l' h hs => .num d s z l l' h (RdL.mono hF hb hs)
  | _, _, _, _, .self d s v l l' h hs => .self d s v l l' (RdS.mono hF hb h) (RdL.mono hF hb hs)
  | _, _, _, _, .sl d s s' v l l' h hs => .sl d s s' v l l' (RdS.mono hF hb h) (RdL.mono hF hb hs)
end
mutual
theorem VRel.mono {x x' : Cx} {w w' : World} (hm : Mono x w x' w') : ∀ {v : AV} {v' : Value}, VRel x w v v' → VRel x' w' v v'
  | _, _, .bool b => .bool b
  | _, _, .int k n => .int k n
  | _, _, .str s l h => .str s l h
  | _, _, .ptr n c off h => .ptr n c off (hm.m _ _ h)
  | _, _, .lptr cells vs a h hl => .lptr cells vs a (VRels.mono hm h) (hl.mono hm)
  | _, _, .nilptr => .nilptr
  | _, _, .sl n off len cap ex es c cap' h hc he hl hk => .sl n off len cap ex es c cap' (hm.m _ _ h) hc he hl (by rw [hm.κ _ _ h]; exact hk)
  | _, _, .nilsl => .nilsl
  | _, _, .esl a cap => .esl a cap
  | _, _, .zsl a => .zsl a
  | _, _, .lst len cells vs A cap hc h0 h hl => .lst len cells vs A cap hc h0 (VRels.mono hm h) (fun hp => let ⟨a, e, l⟩ := hl hp; ⟨a, e, l.mono hm⟩)
  | _, _, .map n c h => .map n c (hm.m _ _ h)
  | _, _, .nilmap => .nilmap
  | _, _, .func fn a b a' b' h1 h2 => .func fn a b a' b' (VRels.mono hm h1) (VRels.mono hm h2)
  | _, _, .nilfunc => .nilfunc
  | _, _, .iface t v v' h => .iface t v v' (VRel.mono hm h)
  | _, _, .nilif => .nilif
  | _, _, .agg cs cs' h => .agg cs cs' (VRels.mono hm h)
  | _, _, .tup cs cs' h => .tup cs cs' (VRels.mono hm h)
  | _, _, .opq i h => by rw [← hm.τ] at h ⊢; exact .opq i h
  | _, _, .yld n c h => .yld n c (hm.m _ _ h)
  | _, _, .una k lo hi z h => .una k lo hi z h
  | _, _, .lsl lo hi A n cap h => .lsl lo hi A n cap h
  | _, _, .any v h => .any v h
  | _, _, .junk v => .junk v
  | _, _, .inp i s b d hd h => by rw [← hm.τ] at h hd ⊢; exact .inp i s b d hd (h.mono hm.F hm.blk)
  | _, _, .elt s b v d hd h => .elt s b v d (by rw [hm.τ]; exact hd) (h.mono hm.F hm.blk)
  | _, _, .eltN s b a n cap d hd h => .eltN s b a n cap d (by rw [hm.τ]; exact hd) (h.mono hm.F hm.blk)
  | _, _, .ilen i z A n cap h hn => .ilen i z A n cap (by rw [hm.τ]; exact h) hn
  | _, _, .idx i A n cap h hk => by rw [← hm.τ] at h hk ⊢; exact .idx i A n cap h hk
  | _, _, .eptr s a d hd hF h => .eptr s a d (by rw [hm.τ]; exact hd) (hm.F _ hF) (RdE.mono hm.F hm.blk h hF)
  | _, _, .usl n es b z c off len cap h hl hk hb hc => .usl n es b z c off len cap (hm.m _ _ h) hl (by rw [hm.κ _ _ h]; exact hk) (by rw [hm.τ]; exact hb) (by rw [hm.τ]; exact hc)
  | _, _, .ixn b => by rw [← hm.τ]; exact .ixn b
  | _, _, .uptr n es c o h hk => .uptr n es c o (hm.m _ _ h) (by rw [hm.κ _ _ h]; exact hk)
theorem VRels.mono {x x' : Cx} {w w' : World} (hm : Mono x w x' w') : ∀ {l : List AV} {l' : List Value}, VRels x w l l' → VRels x' w' l l'
  | _, _, .nil => .nil
  | _, _, .cons v v' l l' h hs => .cons v v' l l' (VRel.mono hm h) (VRels.mono hm hs)
end
theorem VRels.length {x : Cx} {w : World} : ∀ {l : List AV} {l' : List Value}, VRels x w l l' → l'.length = l.length
  | _, _, .nil => rfl
  | _, _, .cons _ _ _ _ _ hs => by simp [hs.length]
theorem VRels.app {x : Cx} {w : World} : ∀ {l k : List AV} {l' k' : List Value}, VRels x w l l' → VRels x w k k' → VRels x w (l ++ k) (l' ++ k')
  | _, _, _, _, .nil, h => h
  | _, _, _, _, .cons v v' l l' h hs, k => .cons _ _ _ _ h (hs.app k)
theorem VRels.take {x : Cx} {w : World} : ∀ {l : List AV} {l' : List Value} (n : Nat), VRels x w l l' → VRels x w (l.take n) (l'.take n)
  | _, _, 0, _ => by simpa using VRels.nil
  | _, _, _ + 1, .nil => by simpa using VRels.nil
  | _, _, n + 1, .cons _ _ _ _ h hs => by simpa using VRels.cons _ _ _ _ h (hs.take n)
theorem VRels.drop {x : Cx} {w : World} : ∀ {l : List AV} {l' : List Value} (n : Nat), VRels x w l l' → VRels x w (l.drop n) (l'.drop n)
  | _, _, 0, h => by simpa using h
  | _, _, _ + 1, .nil => by simpa using VRels.nil
  | _, _, n + 1, .cons _ _ _ _ _ hs => by simpa using hs.drop n
theorem VRels.get {x : Cx} {w : World} : ∀ {l : List AV} {l' : List Value} {i : Nat} {v : AV}, VRels x w l l' → l[i]? = some v → ∃ v', l'[i]? = some v' ∧ VRel x w v v'
  | _, _, 0, _, .cons _ v' _ _ h _, e => by simp at e; subst e; exact ⟨v', rfl, h⟩
  | _, _, i + 1, _, .cons _ _ _ _ _ hs, e => by simp at e; simpa using hs.get e
theorem VRels.one {x : Cx} {w : World} {v : AV} {v' : Value} (h : VRel x w v v') : VRels x w [v] [v'] := .cons _ _ _ _ h .nil
theorem RdS.one {F : Nat → Prop} {w : World} {d : Nat} {s : List Ck} {v : Value} (h : RdS F w d s v) : v.oneCell' = true := by cases h <;> rfl
theorem VRel.sc {x : Cx} {w : World} {v : AV} {v' : Value} (h : VRel x w v v') (hs : v.sc = true) : v'.oneCell' = true := by
  cases h <;> first | rfl | assumption | (exact RdS.one (by assumption)) | simp [AV.sc] at hs
theorem VRels.sc {x : Cx} {w : World} : ∀ {l : List AV} {l' : List Value}, VRels x w l l' → l.all AV.sc = true → ∀ v ∈ l', v.oneCell' = true
  | _, _, .nil, _ => by simp
  | _, _, .cons v v' l l' h hs, e => by
    simp only [List.all_cons, Bool.and_eq_true] at e
    intro u hu
    rcases List.mem_cons.1 hu with rfl | hu
    · exact h.sc e.1
    · exact hs.sc e.2 u hu
theorem one_cells {v : Value} (h : v.oneCell' = true) : v.cells = #[v] := by
  cases v <;> simp_all [Value.oneCell', Value.cells]
theorem VRel.cells {x : Cx} {w : World} {v : AV} {v' : Value} (hj : v.nj = true) (h : VRel x w v v') : VRels x w v.cells v'.cells.toList := by
  by_cases ha : ∃ cs, v = .agg cs
  · obtain ⟨cs, rfl⟩ := ha
    cases h with | agg _ cs' h => exact h
  · by_cases ht : ∃ cs, v = .tup cs
    · obtain ⟨cs, rfl⟩ := ht
      cases h with | tup _ cs' h => exact .one (.tup _ _ h)
    · have hs : v.sc = true := by
        cases v <;> first | rfl | exact absurd ⟨_, rfl⟩ ha | exact absurd ⟨_, rfl⟩ ht | (cases hj; done)
      have hc : v.cells = [v] := by
        cases v <;> first | rfl | exact absurd ⟨_, rfl⟩ ha
      rw [one_cells (h.sc hs), hc]
      exact .one h

/-! ### the heap -/
def ERel (x : Cx) (w : World) : List (AV × AV × Nat) → List MapEntry → Prop
  | [], [] => True
  | (k, v, b) :: es, e :: es' => VRel x w k e.key ∧ VRel x w v e.val ∧ e.born = b ∧ ERel x w es es'
  | _, _ => False
def BRel (x : Cx) (w : World) (k c : Nat) : Blk → Prop
  | .cells cs e => ∃ arr vs, w.heap[c]? = some (.cells arr e (0, 0)) ∧ VRels x w cs vs ∧ vs <+: arr.toList ∧ arr.size = k
  | .map es clock => ∃ es', w.heap[c]? = some (.map es' clock) ∧ ERel x w es es'.toList
  | .siter s pos => ∃ b : ByteArray, w.heap[c]? = some (.stringIter b pos) ∧ b.data.toList = s
  | .miter m since seen st => ∃ m', w.heap[c]? = some (.mapIter m' since seen.toArray st) ∧ (m = none ∧ m' = none ∨ ∃ n c', m = some n ∧ m' = some c' ∧ x.m n = some c')
  | .loop st pd tm nt ps assign body => ∃ r : Loop, w.heap[c]? = some (.loop r) ∧ r.state = st ∧ r.pending = pd ∧ r.params = ps ∧ r.assign = assign ∧ r.body = body ∧ r.tmps.size = nt ∧ ∀ t, VRel x w ((tm.get t).getD (.tup [])) (r.tmps.getD t undef)
  | .dfr => w.heap[c]? = some (.deferred (some []))
  | .ucells e => ∃ arr, w.heap[c]? = some (.cells arr e (0, 0)) ∧ arr.size = k
theorem ERel.mono {x x' : Cx} {w w' : World} (hm : Mono x w x' w') : ∀ {es : List (AV × AV × Nat)} {es' : List MapEntry}, ERel x w es es' → ERel x' w' es es'
  | [], [], _ => trivial
  | (_, _, _) :: _, _ :: _, ⟨a, b, c, d⟩ => ⟨a.mono hm, b.mono hm, c, ERel.mono hm d⟩
theorem BRel.mono {x x' : Cx} {w w' : World} (hm : Mono x w x' w') {k c : Nat} (hc : w'.heap[c]? = w.heap[c]?) {b : Blk} (h : BRel x w k c b) : BRel x' w' k c b := by
  cases b with
  | cells cs e => obtain ⟨arr, vs, h1, h2, h3⟩ := h; exact ⟨arr, vs, hc.trans h1, h2.mono hm, h3⟩
  | map es clock => obtain ⟨es', h1, h2⟩ := h; exact ⟨es', hc.trans h1, ERel.mono hm h2⟩
  | siter s pos => obtain ⟨b, h1, h2⟩ := h; exact ⟨b, hc.trans h1, h2⟩
  | miter m since seen st =>
    obtain ⟨m', h1, h2⟩ := h
    refine ⟨m', hc.trans h1, ?_⟩
    rcases h2 with h2 | ⟨n, c', e1, e2, e3⟩
    · exact .inl h2
    · exact .inr ⟨n, c', e1, e2, hm.m _ _ e3⟩
  | loop st pd tm nt ps assign body => obtain ⟨r, h1, h2, h3, h4, h5, h6, h7, h8⟩ := h; exact ⟨r, hc.trans h1, h2, h3, h4, h5, h6, h7, fun t => (h8 t).mono hm⟩
  | dfr => exact hc.trans h
  | ucells e => obtain ⟨arr, h1, h2⟩ := h; exact ⟨arr, hc.trans h1, h2⟩
theorem BRel.lt {x : Cx} {w : World} {k c : Nat} {b : Blk} (h : BRel x w k c b) : c < w.heap.size := by
  cases b with
  | cells cs e => obtain ⟨_, _, h1, _⟩ := h; exact (Array.getElem?_eq_some_iff.1 h1).1
  | map es clock => obtain ⟨_, h1, _⟩ := h; exact (Array.getElem?_eq_some_iff.1 h1).1
  | siter s pos => obtain ⟨_, h1, _⟩ := h; exact (Array.getElem?_eq_some_iff.1 h1).1
  | miter m since seen st => obtain ⟨_, h1, _⟩ := h; exact (Array.getElem?_eq_some_iff.1 h1).1
  | loop st pd tm nt ps assign body => obtain ⟨_, h1, _⟩ := h; exact (Array.getElem?_eq_some_iff.1 h1).1
  | dfr => exact (Array.getElem?_eq_some_iff.1 h).1
  | ucells e => obtain ⟨_, h1, _⟩ := h; exact (Array.getElem?_eq_some_iff.1 h1).1
abbrev HM := Nat → Option Blk
structure HRel (x : Cx) (hm : HM) (w : World) : Prop where
  blk : ∀ n b, hm n = some b → ∃ c, x.m n = some c ∧ BRel x w (x.κ n) c b ∧ ¬ x.F c
  inj : ∀ n n' b b' c, hm n = some b → hm n' = some b' → x.m n = some c → x.m n' = some c → n = n'
  fb : ∀ c, x.F c → c < w.heap.size
  mb : ∀ n c, x.m n = some c → c < w.heap.size
theorem HRel.sub {x : Cx} {hm hm' : HM} {w : World} (h : HRel x hm w) (hs : ∀ n b, hm' n = some b → hm n = some b) : HRel x hm' w :=
  ⟨fun n b e => h.blk n b (hs n b e), fun n n' b b' c e e' => h.inj n n' b b' c (hs _ _ e) (hs _ _ e'), h.fb, h.mb⟩
/-- from one state to a later one: the names n0 .. n1 - 1 are new -/
structure Ext (x : Cx) (hm : HM) (n0 : Nat) (w : World) (x' : Cx) (hm' : HM) (n1 : Nat) (w' : World) : Prop where
  m : ∀ n c, x.m n = some c → x'.m n = some c
  κ : ∀ n c, x.m n = some c → x'.κ n = x.κ n
  mo : ∀ n, n < n0 ∨ n1 ≤ n → x'.m n = x.m n
  F : ∀ c, x.F c → x'.F c
  Fn : ∀ c, x'.F c → x.F c ∨ w.heap.size ≤ c
  τ : x'.τ = x.τ
  os : w'.os = w.os
  tape : w'.tape = w.tape
  output : w'.output = w.output
  size : w.heap.size ≤ w'.heap.size
  fr : ∀ c, c < w.heap.size → (∀ n b, hm n = some b → x.m n ≠ some c) → w'.heap[c]? = w.heap[c]?
  im : ∀ n b c, hm' n = some b → x'.m n = some c → (∃ n b, hm n = some b ∧ x.m n = some c) ∨ w.heap.size ≤ c
theorem Ext.mono {x : Cx} {hm : HM} {n0 : Nat} {w : World} {x' : Cx} {hm' : HM} {n1 : Nat} {w' : World} (h : Ext x hm n0 w x' hm' n1 w') (hr : HRel x hm w) : Mono x w x' w' :=
  ⟨h.m, h.κ, h.F, h.τ, fun c hc => h.fr c (hr.fb c hc) (fun n b e hx => by
    obtain ⟨c', e', _, hf⟩ := hr.blk n b e
    rw [hx] at e'
    cases e'
    exact hf hc)⟩
theorem Ext.trans {x y z : Cx} {hm km lm : HM} {n0 n1 n2 : Nat} {u v w : World} (h : Ext x hm n0 u y km n1 v) (k : Ext y km n1 v z lm n2 w) (h01 : n0 ≤ n1) (h12 : n1 ≤ n2) : Ext x hm n0 u z lm n2 w where
  m n c e := k.m n c (h.m n c e)
  κ n c e := (k.κ n c (h.m n c e)).trans (h.κ n c e)
  mo n e := by rw [k.mo n (by omega), h.mo n (by omega)]
  F c e := k.F c (h.F c e)
  Fn c e := by
    rcases k.Fn c e with e | e
    · exact h.Fn c e
    · exact .inr (Nat.le_trans h.size e)
  τ := k.τ.trans h.τ
  os := k.os.trans h.os
  tape := k.tape.trans h.tape
  output := k.output.trans h.output
  size := Nat.le_trans h.size k.size
  fr c hc hn := by
    rw [k.fr c (Nat.lt_of_lt_of_le hc h.size) (fun n b e hx => by
      rcases h.im n b c e hx with ⟨n', b', e', hx'⟩ | hge
      · exact hn n' b' e' hx'
      · omega)]
    exact h.fr c hc hn
  im n b c e hx := by
    rcases k.im n b c e hx with ⟨n', b', e', hx'⟩ | hge
    · exact h.im n' b' c e' hx'
    · exact .inr (Nat.le_trans h.size hge)
theorem Ext.refl {x : Cx} {hm : HM} {n : Nat} {w : World} : Ext x hm n w x hm n w :=
  ⟨fun _ _ h => h, fun _ _ _ => rfl, fun _ _ => rfl, fun _ h => h, fun _ h => .inl h, rfl, rfl, rfl, rfl, Nat.le_refl _, fun _ _ _ => rfl, fun n b c e hx => .inl ⟨n, b, e, hx⟩⟩
/-- draws alone -/
theorem Ext.drew {x : Cx} {hm : HM} {n : Nat} {w : World} : Ext x hm n w x hm n w.drew :=
  ⟨fun _ _ h => h, fun _ _ _ => rfl, fun _ _ => rfl, fun _ h => h, fun _ h => .inl h, rfl, rfl, rfl, rfl, Nat.le_refl _, fun _ _ _ => rfl, fun n b c e hx => .inl ⟨n, b, e, hx⟩⟩
/-- what is beside: other names, in other blocks -/
theorem Ext.frame {x : Cx} {hm : HM} {n0 : Nat} {w : World} {x' : Cx} {hm' : HM} {n1 : Nat} {w' : World} (h : Ext x hm n0 w x' hm' n1 w') {km km' : HM} (hr : HRel x km w) (hsub : ∀ n b, hm n = some b → km n = some b) (hr' : HRel x' hm' w')
    (hk : ∀ n b, km' n = some b → hm' n = some b ∨ (hm n = none ∧ hm' n = none ∧ km n = some b)) : HRel x' km' w' := by
  have hro := hr.sub hsub
  have hmono := h.mono hro
  have old : ∀ n b, hm n = none → km n = some b → ∃ c, x.m n = some c ∧ x'.m n = some c ∧ BRel x' w' (x'.κ n) c b ∧ ¬ x'.F c ∧ c < w.heap.size ∧ (∀ n' b', hm n' = some b' → x.m n' ≠ some c) := by
    intro n b h0 e
    obtain ⟨c, e1, e2, e3⟩ := hr.blk n b e
    have hn : ∀ n' b', hm n' = some b' → x.m n' ≠ some c := fun n' b' e' hx => by
      have := hr.inj n n' b b' c e (hsub _ _ e') e1 hx
      subst this
      rw [h0] at e'
      cases e'
    refine ⟨c, e1, h.m _ _ e1, by rw [h.κ _ _ e1]; exact e2.mono hmono (h.fr c e2.lt hn), fun hf => ?_, e2.lt, hn⟩
    rcases h.Fn c hf with hf | hf
    · exact e3 hf
    · have := e2.lt; omega
  refine ⟨fun n b e => ?_, fun n n' b b' c e e' hx hx' => ?_, hr'.fb, hr'.mb⟩
  · rcases hk n b e with e | ⟨h0, _, e⟩
    · exact hr'.blk n b e
    · obtain ⟨c, _, e2, e3, e4, _⟩ := old n b h0 e
      exact ⟨c, e2, e3, e4⟩
  · rcases hk n b e with e | ⟨h0, _, e⟩ <;> rcases hk n' b' e' with e' | ⟨h0', _, e'⟩
    · exact hr'.inj n n' b b' c e e' hx hx'
    · obtain ⟨c2, q1, q2, _, _, hlt, hn⟩ := old n' b' h0' e'
      rw [hx'] at q2
      cases q2
      rcases h.im n b c e hx with ⟨n2, b2, e2, hx2⟩ | hge
      · exact absurd hx2 (hn n2 b2 e2)
      · omega
    · obtain ⟨c2, q1, q2, _, _, hlt, hn⟩ := old n b h0 e
      rw [hx] at q2
      cases q2
      rcases h.im n' b' c e' hx' with ⟨n2, b2, e2, hx2⟩ | hge
      · exact absurd hx2 (hn n2 b2 e2)
      · omega
    · obtain ⟨c1, p1, p2, _⟩ := old n b h0 e
      obtain ⟨c2, q1, q2, _⟩ := old n' b' h0' e'
      rw [hx] at p2; cases p2
      rw [hx'] at q2; cases q2
      exact hr.inj n n' b b' c e e' p1 q1
end Go.Abs

namespace Go.Abs
variable [Bnd]
namespace Tr
theorem get_set {α : Type} : ∀ (d : Nat) (t : Tr α) (n : Nat) (x : α) (k : Nat), n < d → (set d t n x).get k = if k = n then some x else t.get k
  | 0, _, _, _, _, h => by omega
  | d + 1, .lf, 0, x, k, h => by rw [set_lf_zero]; cases k <;> simp [get_zero, get_succ, get_lf]
  | d + 1, .nd v l r, 0, x, k, h => by rw [set_nd_zero]; cases k <;> simp [get_zero, get_succ]
  | d + 1, .lf, n + 1, x, k, h => by
    have ih := get_set d (.lf : Tr α) (n / 2) x
    rw [set_lf_succ]
    by_cases hp : n % 2 = 0
    · rw [if_pos hp]
      cases k with
      | zero => simp [get_zero, get_succ, get_lf]
      | succ k =>
        simp only [get_succ, get_lf]
        by_cases hk : k % 2 = 0
        · rw [if_pos hk, ih _ (by omega)]
          by_cases e : k = n
          · subst e; simp
          · rw [if_neg (by omega), if_neg (by omega)]; simp [get_zero, get_succ, get_lf]
        · rw [if_neg hk, if_neg (by intro e; omega)]
    · rw [if_neg hp]
      cases k with
      | zero => simp [get_zero, get_succ, get_lf]
      | succ k =>
        simp only [get_succ, get_lf]
        by_cases hk : k % 2 = 0
        · rw [if_pos hk, if_neg (by intro e; omega)]
        · rw [if_neg hk, ih _ (by omega)]
          by_cases e : k = n
          · subst e; simp
          · rw [if_neg (by omega), if_neg (by omega)]; simp [get_zero, get_succ, get_lf]
  | d + 1, .nd v l r, n + 1, x, k, h => by
    rw [set_nd_succ]
    by_cases hp : n % 2 = 0
    · rw [if_pos hp]
      cases k with
      | zero => simp [get_zero, get_succ, get_lf]
      | succ k =>
        simp only [get_succ, get_lf]
        by_cases hk : k % 2 = 0
        · rw [if_pos hk, get_set d l (n / 2) x _ (by omega), if_pos hk]
          by_cases e : k = n
          · subst e; simp
          · rw [if_neg (by omega), if_neg (by omega)]
        · rw [if_neg hk, if_neg hk, if_neg (by intro e; omega)]
    · rw [if_neg hp]
      cases k with
      | zero => simp [get_zero, get_succ, get_lf]
      | succ k =>
        simp only [get_succ, get_lf]
        by_cases hk : k % 2 = 0
        · rw [if_pos hk, if_pos hk, if_neg (by intro e; omega)]
        · rw [if_neg hk, if_neg hk, get_set d r (n / 2) x _ (by omega)]
          by_cases e : k = n
          · subst e; simp
          · rw [if_neg (by omega), if_neg (by omega)]
theorem get_put {α : Type} (t : Tr α) (n : Nat) (x : α) (k : Nat) : (t.put n x).get k = if k = n then some x else t.get k := get_set _ _ _ _ _ (Nat.lt_succ_self n)
theorem get_del {α : Type} : ∀ (t : Tr α) (n k : Nat), (t.del n).get k = if k = n then none else t.get k
  | .lf, n, k => by simp [del_lf, get_lf]
  | .nd v l r, 0, k => by rw [del_zero]; cases k <;> simp [get_zero, get_succ]
  | .nd v l r, n + 1, k => by
    rw [del_succ]
    by_cases hp : n % 2 = 0
    · rw [if_pos hp]
      cases k with
      | zero => simp [get_zero, get_succ, get_lf]
      | succ k =>
        simp only [get_succ, get_lf]
        by_cases hk : k % 2 = 0
        · rw [if_pos hk, if_pos hk, get_del l]
          by_cases e : k = n
          · subst e; simp
          · rw [if_neg (by omega), if_neg (by omega)]
        · rw [if_neg hk, if_neg hk, if_neg (by intro e; omega)]
    · rw [if_neg hp]
      cases k with
      | zero => simp [get_zero, get_succ, get_lf]
      | succ k =>
        simp only [get_succ, get_lf]
        by_cases hk : k % 2 = 0
        · rw [if_pos hk, if_pos hk, if_neg (by intro e; omega)]
        · rw [if_neg hk, if_neg hk, get_del r]
          by_cases e : k = n
          · subst e; simp
          · rw [if_neg (by omega), if_neg (by omega)]
end Tr

variable {P : Program} {x : Cx} {w : World}

/-! ### constants -/
theorem ofScalar_rel {v : Value} {a : AV} (h : ofScalar v = some a) : VRel x w a v := by
  unfold ofScalar at h
  split at h <;> first | (injection h with h; subst h; first | exact .bool _ | exact .int _ _ | exact .str _ _ rfl | exact .nilptr | exact .nilsl | exact .nilmap | exact .nilfunc | exact .nilif) | cases h
theorem ofScalars_rel : ∀ {vs : List Value} {l : List AV}, ofScalars vs = some l → VRels x w l vs
  | [], l, h => by simp [ofScalars] at h; subst h; exact .nil
  | v :: vs, l, h => by
    unfold ofScalars at h
    split at h
    · rename_i a l' h1 h2
      injection h with h
      subst h
      exact .cons _ _ _ _ (ofScalar_rel h1) (ofScalars_rel h2)
    · cases h
theorem ofValue_rel {v : Value} {a : AV} (h : ofValue v = some a) : VRel x w a v := by
  unfold ofValue at h
  split at h
  · obtain ⟨l, h1, h2⟩ := Option.map_eq_some_iff.1 h
    subst h2
    exact .agg _ _ (ofScalars_rel h1)
  · obtain ⟨l, h1, h2⟩ := Option.map_eq_some_iff.1 h
    subst h2
    exact .tup _ _ (ofScalars_rel h1)
  · exact ofScalar_rel h
/-- what is told of some operands -/
def ER (x : Cx) (w : World) (tm : Tr AV) (ρ : Operand → Value) (ys : List Operand) : Prop := ∀ y, y ∈ ys → ∀ v, evalO tm y = some v → VRel x w v (ρ y)
theorem evalL_rel {tm : Tr AV} {ρ : Operand → Value} : ∀ {ys : List Operand} {l : List AV}, ER x w tm ρ ys → evalL tm ys = some l → VRels x w l (ys.map ρ)
  | [], l, _, h => by simp [evalL] at h; subst h; exact .nil
  | y :: ys, l, he, h => by
    unfold evalL at h
    split at h
    · rename_i a l' h1 h2
      injection h with h
      subst h
      exact .cons _ _ _ _ (he y (by simp) _ h1) (evalL_rel (fun z hz => he z (by simp [hz])) h2)
    · cases h

/-! ### new blocks, reads, writes -/
def Cx.with (x : Cx) (n c k : Nat) : Cx := { x with m := fun j => if j = n then some c else x.m j, κ := fun j => if j = n then k else x.κ j }
theorem new_sim {h : Hp} {b : Blk} {o : Obj} (k : Nat) (hr : HRel x h.blks.get w) (hf : x.m h.next = none) (hb : ∀ y u, Mono x w y u → u.heap[w.heap.size]? = some o → BRel y u k w.heap.size b) :
    ∃ y, Ext x h.blks.get h.next w y (h.new b).1.blks.get (h.new b).1.next (w.alloc o) ∧ HRel y (h.new b).1.blks.get (w.alloc o) ∧ y.m (h.new b).2 = some w.heap.size ∧ y.κ (h.new b).2 = k := by
  have hlt : ∀ n c, x.m n = some c → c < w.heap.size := hr.mb
  have hmono : Mono x w (x.with h.next w.heap.size k) (w.alloc o) := ⟨fun n c e => by
      simp only [Cx.with]; rw [if_neg (by intro e'; subst e'; rw [hf] at e; cases e)]; exact e,
    fun n c e => by simp only [Cx.with]; rw [if_neg (by intro e'; subst e'; rw [hf] at e; cases e)],
    fun _ h => h, rfl, fun c hc => heap_alloc_old _ _ _ (hr.fb c hc)⟩
  refine ⟨x.with h.next w.heap.size k, ⟨hmono.m, hmono.κ, fun n hn => ?_, fun _ h => h, fun _ h => .inl h, rfl, rfl, rfl, rfl, by show _ ≤ (w.heap.push o).size; simp, fun c hc _ => heap_alloc_old _ _ _ hc, fun n b' c e hx => ?_⟩, ⟨fun n b' e => ?_, fun n n' b1 b2 c e e' hx hx' => ?_, fun c hc => ?_, fun n c hx => ?_⟩, by simp [Cx.with, Hp.new], by simp [Cx.with, Hp.new]⟩
  · simp only [Cx.with, Hp.new] at hn ⊢
    rw [if_neg (by omega)]
  · simp only [Hp.new, Tr.get_put] at e
    simp only [Cx.with] at hx
    by_cases hn : n = h.next
    · rw [if_pos hn] at hx; injection hx with hx; right; omega
    · rw [if_neg hn] at e hx; exact .inl ⟨n, b', e, hx⟩
  · simp only [Hp.new, Tr.get_put] at e
    by_cases hn : n = h.next
    · rw [if_pos hn] at e
      injection e with e
      subst e
      exact ⟨w.heap.size, by simp [Cx.with, hn], by have := hb _ _ hmono (heap_alloc_new _ _); simpa [Cx.with, hn] using this, fun hF => by have := hr.fb _ hF; omega⟩
    · rw [if_neg hn] at e
      obtain ⟨c, e1, e2, e3⟩ := hr.blk n b' e
      exact ⟨c, hmono.m _ _ e1, by rw [hmono.κ _ _ e1]; exact e2.mono hmono (heap_alloc_old _ _ _ e2.lt), e3⟩
  · simp only [Hp.new, Tr.get_put] at e e'
    simp only [Cx.with] at hx hx'
    by_cases hn : n = h.next <;> by_cases hn' : n' = h.next
    · omega
    · rw [if_pos hn] at hx; rw [if_neg hn'] at hx'; injection hx with hx; have := hlt _ _ hx'; omega
    · rw [if_neg hn] at hx; rw [if_pos hn'] at hx'; injection hx' with hx'; have := hlt _ _ hx; omega
    · rw [if_neg hn] at e hx; rw [if_neg hn'] at e' hx'; exact hr.inj n n' b1 b2 c e e' hx hx'
  · show _ < (w.heap.push o).size
    rw [Array.size_push]; have := hr.fb c hc; omega
  · show _ < (w.heap.push o).size
    rw [Array.size_push]
    simp only [Cx.with] at hx
    by_cases hn : n = h.next
    · rw [if_pos hn] at hx; injection hx; omega
    · rw [if_neg hn] at hx; have := hlt _ _ hx; omega
theorem add_lit' (b o i : Nat) : (⟨b, o, none⟩ : Addr).add i = ⟨b, o + i, none⟩ := by unfold Addr.add; split <;> simp_all
theorem cut_len {l cs : List AV} {off n : Nat} (h : cut l off n = some cs) : cs = (l.drop off).take n ∧ off + n ≤ l.length ∧ cs.length = n := by
  unfold cut at h
  split at h
  · rename_i hl
    injection h with h
    subst h
    exact ⟨rfl, hl, by rw [List.length_take, List.length_drop]; omega⟩
  · cases h
theorem cut_rel {l cs : List AV} {vs : List Value} {off n : Nat} (h : cut l off n = some cs) (hr : VRels x w l vs) : VRels x w cs ((vs.drop off).take n) := by
  rw [(cut_len h).1]; exact (hr.drop off).take n
theorem read_sim {h : Hp} {n off len : Nat} {cs : List AV} (e : readAt h n off len = some cs) (hr : HRel x h.blks.get w) :
    ∃ c vs, x.m n = some c ∧ VRels x w cs vs ∧ cs.length = len ∧ (∀ i v, vs[i]? = some v → w.cell? ⟨c, off + i, none⟩ = some v) ∧ ∃ arr t, w.heap[c]? = some (.cells arr t (0, 0)) ∧ arr.size = x.κ n ∧ (off = 0 → vs <+: arr.toList) := by
  unfold readAt at e
  split at e
  · rename_i l t hl
    obtain ⟨c, h1, ⟨arr, vs, h2, h3, h4, h5⟩, _⟩ := hr.blk _ _ hl
    refine ⟨c, _, h1, cut_rel e h3, (cut_len e).2.2, fun i v hi => ?_, arr, t, h2, h5, fun h0 => ?_⟩
    case refine_2 => subst h0; simpa using (List.take_prefix len vs).trans h4
    have hi2 : vs[off + i]? = some v := by
      rw [List.getElem?_take] at hi
      split at hi
      · rwa [List.getElem?_drop] at hi
      · cases hi
    obtain ⟨r, hr⟩ := h4
    have : arr.toList[off + i]? = some v := by
      rw [← hr, List.getElem?_append_left (List.getElem?_eq_some_iff.1 hi2).1]; exact hi2
    simp only [World.cell?, h2]
    simpa using this
  · cases e
theorem splice_rel {l cs : List AV} {vs us : List Value} (off : Nat) (h : VRels x w l vs) (k : VRels x w cs us) : VRels x w (splice l off cs) (vs.take off ++ us ++ vs.drop (off + us.length)) := by
  unfold splice
  rw [k.length]
  exact ((h.take off).app k).app (h.drop _)
theorem write_sim {h h' : Hp} {n off : Nat} {cs : List AV} {us : List Value} (e : writeAt h n off cs = some h') (hr : HRel x h.blks.get w) (hu : VRels x w cs us) :
    ∃ c arr t, x.m n = some c ∧ w.heap[c]? = some (.cells arr t (0, 0)) ∧ off + us.length ≤ arr.size ∧ (∀ u ∈ us, u.oneCell' = true) ∧ h'.next = h.next ∧
      ∀ u : World, u = w.setRow c (arr.toList.take off ++ us ++ arr.toList.drop (off + us.length)).toArray →
        Ext x h.blks.get h.next w x h'.blks.get h'.next u ∧ HRel x h'.blks.get u := by
  unfold writeAt at e
  split at e
  · rename_i l t hl
    split at e
    · rename_i hle
      injection e with e
      subst e
      obtain ⟨c, h1, ⟨arr, vs, h2, h3, h4, h5⟩, hnF⟩ := hr.blk _ _ hl
      have hlen : vs.length ≤ arr.size := by have := h4.length_le; rwa [Array.length_toList] at this
      have hul := hu.length
      have hvl := h3.length
      refine ⟨c, arr, t, h1, h2, ?_, hu.sc hle.2, rfl, ?_⟩
      · omega
      intro u hu0
      subst hu0
      have hcs := (Array.getElem?_eq_some_iff.1 h2).1
      have hoth : ∀ k, k ≠ c → (w.setRow c (arr.toList.take off ++ us ++ arr.toList.drop (off + us.length)).toArray).heap[k]? = w.heap[k]? := fun k hk => setRow_other w c k _ hk
      have hself := setRow_heap w c arr (arr.toList.take off ++ us ++ arr.toList.drop (off + us.length)).toArray t (0, 0) h2
      have hmono : Mono x w x (w.setRow c (arr.toList.take off ++ us ++ arr.toList.drop (off + us.length)).toArray) := ⟨fun _ _ h => h, fun _ _ _ => rfl, fun _ h => h, rfl, fun k hk => hoth k (fun e => hnF (e ▸ hk))⟩
      have hsz : (w.setRow c (arr.toList.take off ++ us ++ arr.toList.drop (off + us.length)).toArray).heap.size = w.heap.size := by simp [World.setRow]
      refine ⟨⟨fun _ _ h => h, fun _ _ _ => rfl, fun _ _ => rfl, fun _ h => h, fun _ h => .inl h, rfl, rfl, rfl, rfl, by rw [hsz]; exact Nat.le_refl _, fun k hk hn => hoth k (fun e => hn n _ hl (e ▸ h1)), fun k b k' e hx => ?_⟩, ⟨fun k b e => ?_, fun k k' b b' c' e e' hx hx' => ?_, fun k hk => by rw [hsz]; exact hr.fb k hk, fun k k' hk => by rw [hsz]; exact hr.mb k k' hk⟩⟩
      · simp only [Tr.get_put] at e
        by_cases hk : k = n
        · subst hk; exact .inl ⟨k, _, hl, hx⟩
        · rw [if_neg hk] at e; exact .inl ⟨k, b, e, hx⟩
      · simp only [Tr.get_put] at e
        by_cases hk : k = n
        · subst hk
          rw [if_pos rfl] at e
          injection e with e
          subst e
          refine ⟨c, h1, ⟨_, _, hself, splice_rel off (h3.mono hmono) (hu.mono hmono), ?_, by simp; omega⟩, hnF⟩
          obtain ⟨r, hr4⟩ := h4
          refine ⟨r, ?_⟩
          rw [← hr4]
          simp only [List.take_append_of_le_length (show off ≤ vs.length by omega), List.drop_append_of_le_length (show off + us.length ≤ vs.length by omega), List.append_assoc]
        · rw [if_neg hk] at e
          obtain ⟨c', e1, e2, e3⟩ := hr.blk k b e
          refine ⟨c', e1, e2.mono hmono (hoth c' (fun ec => hk (hr.inj k n b _ c e hl (ec ▸ e1) h1))), e3⟩
      · simp only [Tr.get_put] at e e'
        have g : ∀ {j : Nat} {bj : Blk}, (if j = n then some (Blk.cells (splice l off cs) t) else h.blks.get j) = some bj → ∃ b0, h.blks.get j = some b0 := by
          intro j bj ej
          by_cases hj : j = n
          · subst hj; exact ⟨_, hl⟩
          · rw [if_neg hj] at ej; exact ⟨_, ej⟩
        obtain ⟨b1, g1⟩ := g e
        obtain ⟨b2, g2⟩ := g e'
        exact hr.inj k k' b1 b2 c' g1 g2 hx hx'
    · cases e
  · cases e
end Go.Abs

namespace Go.Abs
variable [Bnd]
variable {P : Program} {x : Cx} {w : World}
theorem run_typeInfo' {t : TypeId} {i : TypeInfo} (h : P.info? t = some i) (w : World) : (typeInfo t).run P w = .ok i w := by simp [typeInfo, h]
theorem run_sizeOf' {t : TypeId} {s : Nat} (h : sizeT P t = some s) (w : World) : (sizeOf t).run P w = .ok s w := by
  obtain ⟨i, h1, h2⟩ := Option.map_eq_some_iff.1 h
  simp [sizeOf, run_typeInfo' h1, h2]
theorem isAggT_true {t : TypeId} (h : isAggT P t = some true) (w : World) : (isAgg t).run P w = .ok true w := by
  unfold isAggT at h
  split at h
  · rename_i h1; simp [isAgg, run_underlying h1]
  · rename_i h1; simp [isAgg, run_underlying h1]
  · cases h
  · cases h
theorem isAggT_false {t : TypeId} (h : isAggT P t = some false) (w : World) : (isAgg t).run P w = .ok false w := by
  unfold isAggT at h
  split at h
  · cases h
  · cases h
  · rename_i d h1 h2 h3
    simp only [isAgg, Sem.run_bind, run_underlying h3, Result.andThen_ok]
    rfl
  · cases h
theorem ofScalar_nj {v : Value} {a : AV} (h : ofScalar v = some a) : a.nj = true := by
  unfold ofScalar at h
  split at h <;> first | (injection h with h; subst h; rfl) | cases h
theorem ofValue_nj {v : Value} {a : AV} (h : ofValue v = some a) : a.nj = true := by
  unfold ofValue at h
  split at h
  · obtain ⟨_, _, rfl⟩ := Option.map_eq_some_iff.1 h; rfl
  · obtain ⟨_, _, rfl⟩ := Option.map_eq_some_iff.1 h; rfl
  · exact ofScalar_nj h
theorem RdL.rel {d : Nat} {s : List Ck} (hd : d < x.τ.D ∧ x.τ.D ≤ Bnd.B) : ∀ {l : List Ck} {vs : List Value}, RdL x.F w d s l vs → VRels x w (l.map (ckA s)) vs
  | _, _, .nil _ _ => .nil
  | _, _, .any _ _ v l l' h hs => .cons _ _ _ _ (.any v h) (RdL.rel hd hs)
  | _, _, .num _ _ z l l' h hs => .cons _ _ _ _ (.una _ _ _ z h) (RdL.rel hd hs)
  | _, _, .self _ _ v l l' h hs => .cons _ _ _ _ (.elt s true v d ⟨.inl hd.1, hd.2⟩ h) (RdL.rel hd hs)
  | _, _, .sl _ _ s' v l l' h hs => .cons _ _ _ _ (.elt s' true v d ⟨.inl hd.1, hd.2⟩ h) (RdL.rel hd hs)
theorem run_zeroValue' {t : TypeId} {z : List AV} (h : zeroT P t = some z) (w : World) : ∃ v, (zeroValue t).run P w = .ok v w ∧ ∀ (x : Cx) (u : World), VRels x u z v.cells.toList := by
  unfold zeroT at h
  split at h
  · rename_i i hi
    split at h
    · rename_i v hv
      split at h
      · rename_i a ha
        injection h with h
        subst h
        exact ⟨v, by simp [zeroValue, run_typeInfo' hi, hv], fun x u => (ofValue_rel ha).cells (ofValue_nj ha)⟩
      · cases h
    · cases h
  · cases h
/-- a value out of its cells -/
theorem asVal_rel {t : TypeId} {cs : List AV} {v : AV} {us : List Value} (h : asVal P t cs = some v) (hr : VRels x w cs us) :
    (isAggT P t = some true ∧ VRel x w v (.agg us.toArray)) ∨ (isAggT P t = some false ∧ ∃ u, us = [u] ∧ cs.length = 1 ∧ VRel x w v u) := by
  unfold asVal at h
  split at h
  · rename_i h1
    injection h with h
    subst h
    exact .inl ⟨h1, .agg _ _ (by simpa using hr)⟩
  · rename_i h1
    injection h with h
    subst h
    cases hr with
    | cons _ u _ _ h2 h3 => cases h3; exact .inr ⟨h1, u, rfl, rfl, h2⟩
  · cases h
theorem loadVar_sim {t : TypeId} {cs : List AV} {v : AV} {us : List Value} {a : Addr} {s : Nat} (hs : sizeT P t = some s) (hl : cs.length = s) (h : asVal P t cs = some v) (hr : VRels x w cs us) (hc : ∀ i u, us[i]? = some u → w.cell? (a.add i) = some u) :
    ∃ r, (loadVar t a).run P w = .ok r w ∧ VRel x w v r := by
  have hu := hr.length
  rcases asVal_rel h hr with ⟨h1, h2⟩ | ⟨h1, u, rfl, h3, h2⟩
  · refine ⟨_, ?_, h2⟩
    have := run_loadCells_list (P := P) w a us hc
    rw [hu, hl] at this
    simp [loadVar, isAggT_true h1, run_sizeOf' hs, this]
  · refine ⟨u, ?_, h2⟩
    have h0 := hc 0 u rfl
    have ha : a.add 0 = a := by simp [Addr.add]
    rw [ha] at h0
    simp [loadVar, isAggT_false h1, h0]
theorem load_sim {h : Hp} {t : TypeId} {a v : AV} {p : Value} (e : loadA P h t a = some v) (hr : HRel x h.blks.get w) (ha : VRel x w a p) :
    ∃ r, (Instr.loadAt t p).run P w = .ok r w ∧ VRel x w v r := by
  unfold loadA at e
  split at e
  · rename_i sh
    split at e
    · rename_i z hz
      split at e
      · rename_i hl
        cases ha with
        | eptr _ a d hd hF h =>
          obtain ⟨_, _, _, l, hl', hr'⟩ := h
          obtain ⟨r, r1, r2⟩ := loadVar_sim (a := a) hz (by rw [List.length_map]; exact hl.symm) e (RdL.rel hd hr') hl'
          exact ⟨r, by simp [Instr.loadAt, Instr.sureAddr, r1], r2⟩
      · cases e
    · cases e
  · rename_i n off
    split at e
    · rename_i s hs
      split at e
      · rename_i cs hcs
        obtain ⟨c, us, h1, h2, h3, h4, _⟩ := read_sim hcs hr
        cases ha with
        | ptr _ c' _ hm =>
          rw [h1] at hm
          cases hm
          obtain ⟨r, r1, r2⟩ := loadVar_sim (a := ⟨c, off, none⟩) hs h3 e h2 (fun i u hi => by rw [add_lit']; exact h4 i u hi)
          exact ⟨r, by simp [Instr.loadAt, Instr.sureAddr, r1], r2⟩
      · cases e
    · cases e
  · rename_i cells
    split at e
    · rename_i s hs
      split at e
      · rename_i cs hcs
        cases ha with
        | lptr _ vs a hv hl =>
          have hc2 := cut_rel hcs hv
          obtain ⟨r, r1, r2⟩ := loadVar_sim (a := a) hs (cut_len hcs).2.2 e hc2 (fun i u hi => hl.2 i u (by
            rw [List.getElem?_take] at hi
            split at hi
            · simpa using hi
            · cases hi))
          exact ⟨r, by simp [Instr.loadAt, Instr.sureAddr, r1], r2⟩
      · cases e
    · cases e
  · cases e
/-- what an operation has come to -/
def Did (x : Cx) (h : Hp) (w : World) (v : AV) (h' : Hp) (r : Value) (w' : World) : Prop :=
  ∃ y, Ext x h.blks.get h.next w y h'.blks.get h'.next w' ∧ HRel y h'.blks.get w' ∧ VRel y w' v r
theorem Did.same {h : Hp} {v : AV} {r : Value} (hr : HRel x h.blks.get w) (hv : VRel x w v r) : Did x h w v h r w := ⟨x, Ext.refl, hr, hv⟩
theorem undef_rel : VRel x w (.tup []) undef := .tup _ _ .nil
theorem ucells_write {h : Hp} {n c o : Nat} {ty : TypeId} {us : List Value} (hg : h.blks.get n = some (.ucells ty)) (hr : HRel x h.blks.get w) (hm : x.m n = some c) (hk : o + us.length ≤ x.κ n) (h1 : ∀ u ∈ us, u.oneCell' = true) :
    ∃ w', (storeCells ⟨c, o, none⟩ us).run P w = .ok () w' ∧ Ext x h.blks.get h.next w x h.blks.get h.next w' ∧ HRel x h.blks.get w' := by
  obtain ⟨c', k1, ⟨arr, k2, k3⟩, hnF⟩ := hr.blk _ _ hg
  rw [hm] at k1; cases k1
  have hst := run_storeCells_at P c o ty us 0 arr w k2 (by simp; omega) h1
  simp only [Nat.add_zero] at hst
  have hoth : ∀ k, k ≠ c → (w.setRow c (arr.toList.take o ++ us ++ arr.toList.drop (o + us.length)).toArray).heap[k]? = w.heap[k]? := fun k hk => setRow_other w c k _ hk
  have hself := setRow_heap w c arr (arr.toList.take o ++ us ++ arr.toList.drop (o + us.length)).toArray ty (0, 0) k2
  have hmono : Mono x w x (w.setRow c (arr.toList.take o ++ us ++ arr.toList.drop (o + us.length)).toArray) := ⟨fun _ _ h => h, fun _ _ _ => rfl, fun _ h => h, rfl, fun k hk => hoth k (fun e => hnF (e ▸ hk))⟩
  have hsz : (w.setRow c (arr.toList.take o ++ us ++ arr.toList.drop (o + us.length)).toArray).heap.size = w.heap.size := by simp [World.setRow]
  refine ⟨_, hst, ⟨fun _ _ h => h, fun _ _ _ => rfl, fun _ _ => rfl, fun _ h => h, fun _ h => .inl h, rfl, rfl, rfl, rfl, by rw [hsz]; exact Nat.le_refl _, fun k hk hn => hoth k (fun e => hn n _ hg (e ▸ hm)), fun k b k' e hx => .inl ⟨k, b, e, hx⟩⟩,
    ⟨fun k b e => ?_, hr.inj, fun k hk => by rw [hsz]; exact hr.fb k hk, fun k k' hk => by rw [hsz]; exact hr.mb k k' hk⟩⟩
  by_cases hkn : k = n
  · subst hkn
    rw [hg] at e
    injection e with e
    subst e
    exact ⟨c, hm, ⟨_, hself, by simp; omega⟩, hnF⟩
  · obtain ⟨c', e1, e2, e3⟩ := hr.blk k b e
    exact ⟨c', e1, e2.mono hmono (hoth c' (fun ec => hkn (hr.inj k n b _ c e hg (ec ▸ e1) hm))), e3⟩
theorem store_sim {h h' : Hp} {t : TypeId} {a v : AV} {p q : Value} (e : storeA P h t a v = some h') (hr : HRel x h.blks.get w) (ha : VRel x w a p) (hv : VRel x w v q) :
    ∃ w', (Instr.storeAt t p q).run P w = .ok () w' ∧ Did x h w (.tup []) h' undef w' := by
  unfold storeA at e
  split at e
  · rename_i n off
    split at e
    · rename_i s hs
      split at e
      · rename_i hl
        cases ha with
        | ptr _ c _ hm =>
          obtain ⟨c', arr, t', h1, h2, h3, h4, h5, h6⟩ := write_sim e hr (hv.cells hl.2)
          rw [hm] at h1
          cases h1
          have hst := run_storeCells_at P c off t' q.cells.toList 0 arr w h2 (by simpa using h3) h4
          obtain ⟨k1, k2⟩ := h6 _ rfl
          simp only [Nat.add_zero] at hst
          have hlen := (hv.cells hl.2).length
          have hsz : q.cells.size = s := by rw [← Array.length_toList, hlen, hl.1]
          refine ⟨_, ?_, x, k1, k2, undef_rel⟩
          simp [Instr.storeAt, Instr.sureAddr, storeVar, run_sizeOf' hs, hsz, hst]
      · cases e
    · cases e
  · rename_i n es
    split at e
    · rename_i s ty hs hg
      split at e
      · rename_i hl
        injection e with e
        subst e
        cases ha with
        | uptr _ _ c o hm hk =>
          have hvr := hv.cells hl.2.2.1
          have hlen := hvr.length
          have hsz : q.cells.size = s := by rw [← Array.length_toList, hlen, hl.2.1]
          obtain ⟨w', k1, k2, k3⟩ := ucells_write (P := P) (us := q.cells.toList) (o := o) hg hr hm (by rw [Array.length_toList, hsz, hl.1]; exact hk) (hvr.sc hl.2.2.2)
          refine ⟨w', ?_, x, k2, k3, undef_rel⟩
          simp [Instr.storeAt, Instr.sureAddr, storeVar, run_sizeOf' hs, hsz, k1]
      · cases e
    · cases e
  · cases e
theorem alloc_sim {h : Hp} {t : TypeId} {z : List AV} (e : zeroT P t = some z) (hr : HRel x h.blks.get w) (hf : x.m h.next = none) :
    ∃ r w', (Instr.alloc t true (.tuple #[])).run P w = .ok r w' ∧ Did x h w (.ptr (h.new (.cells z t)).2 0) (h.new (.cells z t)).1 r w' := by
  obtain ⟨v, h1, h2⟩ := run_zeroValue' e w
  obtain ⟨y, k1, k2, k3, _⟩ := new_sim (b := .cells z t) (o := .cells v.cells t) _ hr hf (fun y u hm hu => ⟨_, _, hu, h2 y u, List.prefix_refl _, rfl⟩)
  refine ⟨_, _, ?_, y, k1, k2, .ptr _ _ 0 k3⟩
  simp [Instr.alloc, h1, newVar, newRow]
theorem box_sim {h : Hp} {t : TypeId} {v : AV} {q : Value} (hj : v.nj = true) (hv : VRel x w v q) (hr : HRel x h.blks.get w) (hf : x.m h.next = none) :
    ∃ r w', (Instr.box t q).run P w = .ok r w' ∧ Did x h w (.ptr (h.new (.cells v.cells t)).2 0) (h.new (.cells v.cells t)).1 r w' := by
  obtain ⟨y, k1, k2, k3, _⟩ := new_sim (b := .cells v.cells t) (o := .cells q.cells t) _ hr hf (fun y u hm hu => ⟨_, _, hu, (hv.mono hm).cells hj, List.prefix_refl _, rfl⟩)
  refine ⟨_, _, ?_, y, k1, k2, .ptr _ _ 0 k3⟩
  simp [Instr.box, newVar, newRow]
end Go.Abs
