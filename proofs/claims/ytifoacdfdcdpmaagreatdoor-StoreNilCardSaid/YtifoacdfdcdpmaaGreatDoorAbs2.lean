/- What is proved: a part of the proof of the tied card of StoreNil (text Abs2 of it). Conditions: those that its theorems name. -/
import Derived.Test.YtifoacdfdcdpmaaGreatDoorAbs1
import Derived.Below
import Derived.Laws.Cells
import Derived.Deep.AppendSrc
import Derived.WideLaws
set_option linter.unusedVariables false
namespace Go.Abs

structure Cx where
  m : Nat → Option Nat
  κ : Nat → Nat
  F : Nat → Prop
  τ : Nat → Value
/-- the cells from an address on lie in memory that stays -/
def Lies (x : Cx) (w : World) (a : Addr) (vs : List Value) : Prop := x.F a.block ∧ ∀ i v, vs[i]? = some v → w.cell? (a.add i) = some v

mutual
inductive VRel (x : Cx) (w : World) : AV → Value → Prop
  | bool (b : Bool) : VRel x w (.bool b) (.bool b)
  | int (k : IntKind) (n : Int) : VRel x w (.int k n) (.int k n)
  | str (s : ByteArray) (l : List UInt8) (h : s.data.toList = l) : VRel x w (.str l) (.string s)
  | ptr (n c off : Nat) (h : x.m n = some c) : VRel x w (.ptr n off) (.pointer (some ⟨c, off, none⟩))
  | lptr (cells : List AV) (vs : List Value) (a : Addr) (h : VRels x w cells vs) (hl : Lies x w a vs) : VRel x w (.lptr cells) (.pointer (some a))
  | nilptr : VRel x w .nilptr (.pointer none)
  | sl (n off len cap : Nat) (ex : Bool) (es c cap' : Nat) (h : x.m n = some c) (hc : cap ≤ cap') (he : ex = true → cap' = cap) (hl : len ≤ cap) (hk : off + cap' * es ≤ x.κ n) : VRel x w (.sl n off len cap ex es) (.slice (some ⟨c, off, none⟩) len cap')
  | nilsl : VRel x w .nilsl (.slice none 0 0)
  | esl (a : Addr) (cap : Nat) : VRel x w .esl (.slice (some a) 0 cap)
  | zsl (a : Addr) : VRel x w .zsl (.slice (some a) 0 0)
  | lst (len : Nat) (cells : List AV) (vs : List Value) (A : Option Addr) (cap : Nat) (hc : len ≤ cap) (h0 : A = none → cap = 0) (h : VRels x w cells vs) (hl : 0 < len → ∃ a, A = some a ∧ Lies x w a vs) : VRel x w (.lst len cells) (.slice A len cap)
  | map (n c : Nat) (h : x.m n = some c) : VRel x w (.map n) (.map (some c))
  | nilmap : VRel x w .nilmap (.map none)
  | func (fn : Fn) (a b : List AV) (a' b' : Array Value) (h1 : VRels x w a a'.toList) (h2 : VRels x w b b'.toList) : VRel x w (.func fn a b) (.func fn a' b')
  | nilfunc : VRel x w .nilfunc .nilFunc
  | iface (t : TypeId) (v : AV) (v' : Value) (h : VRel x w v v') : VRel x w (.iface t v) (.iface t v')
  | nilif : VRel x w .nilif .nilIface
  | agg (cs : List AV) (cs' : Array Value) (h : VRels x w cs cs'.toList) : VRel x w (.agg cs) (.agg cs')
  | tup (cs : List AV) (cs' : Array Value) (h : VRels x w cs cs'.toList) : VRel x w (.tup cs) (.tuple cs')
  | opq (i : Nat) (h : (x.τ i).oneCell' = true) : VRel x w (.opq i) (x.τ i)
inductive VRels (x : Cx) (w : World) : List AV → List Value → Prop
  | nil : VRels x w [] []
  | cons (v : AV) (v' : Value) (l : List AV) (l' : List Value) (h : VRel x w v v') (hs : VRels x w l l') : VRels x w (v :: l) (v' :: l')
end

/-- what keeps what is told of values -/
structure Mono (x : Cx) (w : World) (x' : Cx) (w' : World) : Prop where
  m : ∀ n c, x.m n = some c → x'.m n = some c
  κ : ∀ n c, x.m n = some c → x'.κ n = x.κ n
  F : ∀ c, x.F c → x'.F c
  τ : x'.τ = x.τ
  blk : ∀ c, x.F c → w'.heap[c]? = w.heap[c]?
theorem Mono.refl (x : Cx) (w : World) : Mono x w x w := ⟨fun _ _ h => h, fun _ _ _ => rfl, fun _ h => h, rfl, fun _ _ => rfl⟩
theorem Mono.trans {x y z : Cx} {u v w : World} (h : Mono x u y v) (k : Mono y v z w) : Mono x u z w :=
  ⟨fun n c hn => k.m n c (h.m n c hn), fun n c hn => (k.κ n c (h.m n c hn)).trans (h.κ n c hn), fun c hc => k.F c (h.F c hc), k.τ.trans h.τ, fun c hc => (k.blk c (h.F c hc)).trans (h.blk c hc)⟩
theorem add_block (a : Addr) (i : Nat) : (a.add i).block = a.block := by unfold Addr.add; split <;> rfl
theorem Lies.mono {x x' : Cx} {w w' : World} {a : Addr} {vs : List Value} (hm : Mono x w x' w') (h : Lies x w a vs) : Lies x' w' a vs :=
  ⟨hm.F _ h.1, fun i v hi => by rw [← h.2 i v hi]; exact World.cell?_of_block (by rw [add_block]; exact hm.blk _ h.1)⟩
mutual
theorem VRel.mono {x x' : Cx} {w w' : World} (hm : Mono x w x' w') : ∀ {v : AV} {v' : Value}, VRel x w v v' → VRel x' w' v v'
  | _, _, .bool b => .bool b
  | _, _, .int k n => .int k n
  | _, _, .str s l h => .str s l h
  | _, _, .ptr n c off h => .ptr n c off (hm.m _ _ h)
  | _, _, .lptr cells vs a h hl => .lptr cells vs a (VRels.mono hm h) (hl.mono hm)
  | _, _, .nilptr => .nilptr
  | _, _, .sl n off len cap ex es c cap' h hc he hl hk => .sl n off len cap ex es c cap' (hm.m _ _ h) hc he hl (by rw [hm.κ _ _ h]; exact hk)
  | _, _, .nilsl => .nilsl
  | _, _, .esl a cap => .esl a cap
  | _, _, .zsl a => .zsl a
  | _, _, .lst len cells vs A cap hc h0 h hl => .lst len cells vs A cap hc h0 (VRels.mono hm h) (fun hp => let ⟨a, e, l⟩ := hl hp; ⟨a, e, l.mono hm⟩)
  | _, _, .map n c h => .map n c (hm.m _ _ h)
  | _, _, .nilmap => .nilmap
  | _, _, .func fn a b a' b' h1 h2 => .func fn a b a' b' (VRels.mono hm h1) (VRels.mono hm h2)
  | _, _, .nilfunc => .nilfunc
  | _, _, .iface t v v' h => .iface t v v' (VRel.mono hm h)
  | _, _, .nilif => .nilif
  | _, _, .agg cs cs' h => .agg cs cs' (VRels.mono hm h)
  | _, _, .tup cs cs' h => .tup cs cs' (VRels.mono hm h)
  | _, _, .opq i h => by rw [← hm.τ] at h ⊢; exact .opq i h
theorem VRels.mono {x x' : Cx} {w w' : World} (hm : Mono x w x' w') : ∀ {l : List AV} {l' : List Value}, VRels x w l l' → VRels x' w' l l'
  | _, _, .nil => .nil
  | _, _, .cons v v' l l' h hs => .cons v v' l l' (VRel.mono hm h) (VRels.mono hm hs)
end
theorem VRels.length {x : Cx} {w : World} : ∀ {l : List AV} {l' : List Value}, VRels x w l l' → l'.length = l.length
  | _, _, .nil => rfl
  | _, _, .cons _ _ _ _ _ hs => by simp [hs.length]
theorem VRels.app {x : Cx} {w : World} : ∀ {l k : List AV} {l' k' : List Value}, VRels x w l l' → VRels x w k k' → VRels x w (l ++ k) (l' ++ k')
  | _, _, _, _, .nil, h => h
  | _, _, _, _, .cons v v' l l' h hs, k => .cons _ _ _ _ h (hs.app k)
theorem VRels.take {x : Cx} {w : World} : ∀ {l : List AV} {l' : List Value} (n : Nat), VRels x w l l' → VRels x w (l.take n) (l'.take n)
  | _, _, 0, _ => by simpa using VRels.nil
  | _, _, _ + 1, .nil => by simpa using VRels.nil
  | _, _, n + 1, .cons _ _ _ _ h hs => by simpa using VRels.cons _ _ _ _ h (hs.take n)
theorem VRels.drop {x : Cx} {w : World} : ∀ {l : List AV} {l' : List Value} (n : Nat), VRels x w l l' → VRels x w (l.drop n) (l'.drop n)
  | _, _, 0, h => by simpa using h
  | _, _, _ + 1, .nil => by simpa using VRels.nil
  | _, _, n + 1, .cons _ _ _ _ _ hs => by simpa using hs.drop n
theorem VRels.get {x : Cx} {w : World} : ∀ {l : List AV} {l' : List Value} {i : Nat} {v : AV}, VRels x w l l' → l[i]? = some v → ∃ v', l'[i]? = some v' ∧ VRel x w v v'
  | _, _, 0, _, .cons _ v' _ _ h _, e => by simp at e; subst e; exact ⟨v', rfl, h⟩
  | _, _, i + 1, _, .cons _ _ _ _ _ hs, e => by simp at e; simpa using hs.get e
theorem VRels.one {x : Cx} {w : World} {v : AV} {v' : Value} (h : VRel x w v v') : VRels x w [v] [v'] := .cons _ _ _ _ h .nil
theorem VRel.sc {x : Cx} {w : World} {v : AV} {v' : Value} (h : VRel x w v v') (hs : v.sc = true) : v'.oneCell' = true := by
  cases h <;> first | rfl | assumption | simp [AV.sc] at hs
theorem VRels.sc {x : Cx} {w : World} : ∀ {l : List AV} {l' : List Value}, VRels x w l l' → l.all AV.sc = true → ∀ v ∈ l', v.oneCell' = true
  | _, _, .nil, _ => by simp
  | _, _, .cons v v' l l' h hs, e => by
    simp only [List.all_cons, Bool.and_eq_true] at e
    intro u hu
    rcases List.mem_cons.1 hu with rfl | hu
    · exact h.sc e.1
    · exact hs.sc e.2 u hu
theorem VRel.cells {x : Cx} {w : World} {v : AV} {v' : Value} (h : VRel x w v v') : VRels x w v.cells v'.cells.toList := by
  cases h with
  | agg cs cs' h => exact h
  | opq i h =>
    have : (x.τ i).cells = #[x.τ i] := by
      cases he : x.τ i <;> simp_all [Value.oneCell', Value.cells]
    rw [this]
    exact .one (.opq i h)
  | _ => exact .one (by constructor <;> assumption)

/-! ### the heap -/
def ERel (x : Cx) (w : World) : List (AV × AV × Nat) → List MapEntry → Prop
  | [], [] => True
  | (k, v, b) :: es, e :: es' => VRel x w k e.key ∧ VRel x w v e.val ∧ e.born = b ∧ ERel x w es es'
  | _, _ => False
def BRel (x : Cx) (w : World) (k c : Nat) : Blk → Prop
  | .cells cs e => ∃ arr vs, w.heap[c]? = some (.cells arr e (0, 0)) ∧ VRels x w cs vs ∧ vs <+: arr.toList ∧ arr.size = k
  | .map es clock => ∃ es', w.heap[c]? = some (.map es' clock) ∧ ERel x w es es'.toList
  | .siter s pos => ∃ b : ByteArray, w.heap[c]? = some (.stringIter b pos) ∧ b.data.toList = s
  | .miter m since seen st => ∃ m', w.heap[c]? = some (.mapIter m' since seen.toArray st) ∧ (m = none ∧ m' = none ∨ ∃ n c', m = some n ∧ m' = some c' ∧ x.m n = some c')
theorem ERel.mono {x x' : Cx} {w w' : World} (hm : Mono x w x' w') : ∀ {es : List (AV × AV × Nat)} {es' : List MapEntry}, ERel x w es es' → ERel x' w' es es'
  | [], [], _ => trivial
  | (_, _, _) :: _, _ :: _, ⟨a, b, c, d⟩ => ⟨a.mono hm, b.mono hm, c, ERel.mono hm d⟩
theorem BRel.mono {x x' : Cx} {w w' : World} (hm : Mono x w x' w') {k c : Nat} (hc : w'.heap[c]? = w.heap[c]?) {b : Blk} (h : BRel x w k c b) : BRel x' w' k c b := by
  cases b with
  | cells cs e => obtain ⟨arr, vs, h1, h2, h3⟩ := h; exact ⟨arr, vs, hc.trans h1, h2.mono hm, h3⟩
  | map es clock => obtain ⟨es', h1, h2⟩ := h; exact ⟨es', hc.trans h1, ERel.mono hm h2⟩
  | siter s pos => obtain ⟨b, h1, h2⟩ := h; exact ⟨b, hc.trans h1, h2⟩
  | miter m since seen st =>
    obtain ⟨m', h1, h2⟩ := h
    refine ⟨m', hc.trans h1, ?_⟩
    rcases h2 with h2 | ⟨n, c', e1, e2, e3⟩
    · exact .inl h2
    · exact .inr ⟨n, c', e1, e2, hm.m _ _ e3⟩
theorem BRel.lt {x : Cx} {w : World} {k c : Nat} {b : Blk} (h : BRel x w k c b) : c < w.heap.size := by
  cases b with
  | cells cs e => obtain ⟨_, _, h1, _⟩ := h; exact (Array.getElem?_eq_some_iff.1 h1).1
  | map es clock => obtain ⟨_, h1, _⟩ := h; exact (Array.getElem?_eq_some_iff.1 h1).1
  | siter s pos => obtain ⟨_, h1, _⟩ := h; exact (Array.getElem?_eq_some_iff.1 h1).1
  | miter m since seen st => obtain ⟨_, h1, _⟩ := h; exact (Array.getElem?_eq_some_iff.1 h1).1
abbrev HM := Nat → Option Blk
structure HRel (x : Cx) (hm : HM) (w : World) : Prop where
  blk : ∀ n b, hm n = some b → ∃ c, x.m n = some c ∧ BRel x w (x.κ n) c b ∧ ¬ x.F c
  inj : ∀ n n' b b' c, hm n = some b → hm n' = some b' → x.m n = some c → x.m n' = some c → n = n'
  fb : ∀ c, x.F c → c < w.heap.size
  mb : ∀ n c, x.m n = some c → c < w.heap.size
theorem HRel.sub {x : Cx} {hm hm' : HM} {w : World} (h : HRel x hm w) (hs : ∀ n b, hm' n = some b → hm n = some b) : HRel x hm' w :=
  ⟨fun n b e => h.blk n b (hs n b e), fun n n' b b' c e e' => h.inj n n' b b' c (hs _ _ e) (hs _ _ e'), h.fb, h.mb⟩
/-- from one state to a later one: the names n0 .. n1 - 1 are new -/
structure Ext (x : Cx) (hm : HM) (n0 : Nat) (w : World) (x' : Cx) (hm' : HM) (n1 : Nat) (w' : World) : Prop where
  m : ∀ n c, x.m n = some c → x'.m n = some c
  κ : ∀ n c, x.m n = some c → x'.κ n = x.κ n
  mo : ∀ n, n < n0 ∨ n1 ≤ n → x'.m n = x.m n
  F : ∀ c, x.F c → x'.F c
  Fn : ∀ c, x'.F c → x.F c ∨ w.heap.size ≤ c
  τ : x'.τ = x.τ
  os : w'.os = w.os
  tape : w'.tape = w.tape
  output : w'.output = w.output
  size : w.heap.size ≤ w'.heap.size
  fr : ∀ c, c < w.heap.size → (∀ n b, hm n = some b → x.m n ≠ some c) → w'.heap[c]? = w.heap[c]?
  im : ∀ n b c, hm' n = some b → x'.m n = some c → (∃ n b, hm n = some b ∧ x.m n = some c) ∨ w.heap.size ≤ c
theorem Ext.mono {x : Cx} {hm : HM} {n0 : Nat} {w : World} {x' : Cx} {hm' : HM} {n1 : Nat} {w' : World} (h : Ext x hm n0 w x' hm' n1 w') (hr : HRel x hm w) : Mono x w x' w' :=
  ⟨h.m, h.κ, h.F, h.τ, fun c hc => h.fr c (hr.fb c hc) (fun n b e hx => by
    obtain ⟨c', e', _, hf⟩ := hr.blk n b e
    rw [hx] at e'
    cases e'
    exact hf hc)⟩
theorem Ext.trans {x y z : Cx} {hm km lm : HM} {n0 n1 n2 : Nat} {u v w : World} (h : Ext x hm n0 u y km n1 v) (k : Ext y km n1 v z lm n2 w) (h01 : n0 ≤ n1) (h12 : n1 ≤ n2) : Ext x hm n0 u z lm n2 w where
  m n c e := k.m n c (h.m n c e)
  κ n c e := (k.κ n c (h.m n c e)).trans (h.κ n c e)
  mo n e := by rw [k.mo n (by omega), h.mo n (by omega)]
  F c e := k.F c (h.F c e)
  Fn c e := by
    rcases k.Fn c e with e | e
    · exact h.Fn c e
    · exact .inr (Nat.le_trans h.size e)
  τ := k.τ.trans h.τ
  os := k.os.trans h.os
  tape := k.tape.trans h.tape
  output := k.output.trans h.output
  size := Nat.le_trans h.size k.size
  fr c hc hn := by
    rw [k.fr c (Nat.lt_of_lt_of_le hc h.size) (fun n b e hx => by
      rcases h.im n b c e hx with ⟨n', b', e', hx'⟩ | hge
      · exact hn n' b' e' hx'
      · omega)]
    exact h.fr c hc hn
  im n b c e hx := by
    rcases k.im n b c e hx with ⟨n', b', e', hx'⟩ | hge
    · exact h.im n' b' c e' hx'
    · exact .inr (Nat.le_trans h.size hge)
theorem Ext.refl {x : Cx} {hm : HM} {n : Nat} {w : World} : Ext x hm n w x hm n w :=
  ⟨fun _ _ h => h, fun _ _ _ => rfl, fun _ _ => rfl, fun _ h => h, fun _ h => .inl h, rfl, rfl, rfl, rfl, Nat.le_refl _, fun _ _ _ => rfl, fun n b c e hx => .inl ⟨n, b, e, hx⟩⟩
/-- draws alone -/
theorem Ext.drew {x : Cx} {hm : HM} {n : Nat} {w : World} : Ext x hm n w x hm n w.drew :=
  ⟨fun _ _ h => h, fun _ _ _ => rfl, fun _ _ => rfl, fun _ h => h, fun _ h => .inl h, rfl, rfl, rfl, rfl, Nat.le_refl _, fun _ _ _ => rfl, fun n b c e hx => .inl ⟨n, b, e, hx⟩⟩
/-- what is beside: other names, in other blocks -/
theorem Ext.frame {x : Cx} {hm : HM} {n0 : Nat} {w : World} {x' : Cx} {hm' : HM} {n1 : Nat} {w' : World} (h : Ext x hm n0 w x' hm' n1 w') {km km' : HM} (hr : HRel x km w) (hsub : ∀ n b, hm n = some b → km n = some b) (hr' : HRel x' hm' w')
    (hk : ∀ n b, km' n = some b → hm' n = some b ∨ (hm n = none ∧ hm' n = none ∧ km n = some b)) : HRel x' km' w' := by
  have hro := hr.sub hsub
  have hmono := h.mono hro
  have old : ∀ n b, hm n = none → km n = some b → ∃ c, x.m n = some c ∧ x'.m n = some c ∧ BRel x' w' (x'.κ n) c b ∧ ¬ x'.F c ∧ c < w.heap.size ∧ (∀ n' b', hm n' = some b' → x.m n' ≠ some c) := by
    intro n b h0 e
    obtain ⟨c, e1, e2, e3⟩ := hr.blk n b e
    have hn : ∀ n' b', hm n' = some b' → x.m n' ≠ some c := fun n' b' e' hx => by
      have := hr.inj n n' b b' c e (hsub _ _ e') e1 hx
      subst this
      rw [h0] at e'
      cases e'
    refine ⟨c, e1, h.m _ _ e1, by rw [h.κ _ _ e1]; exact e2.mono hmono (h.fr c e2.lt hn), fun hf => ?_, e2.lt, hn⟩
    rcases h.Fn c hf with hf | hf
    · exact e3 hf
    · have := e2.lt; omega
  refine ⟨fun n b e => ?_, fun n n' b b' c e e' hx hx' => ?_, hr'.fb, hr'.mb⟩
  · rcases hk n b e with e | ⟨h0, _, e⟩
    · exact hr'.blk n b e
    · obtain ⟨c, _, e2, e3, e4, _⟩ := old n b h0 e
      exact ⟨c, e2, e3, e4⟩
  · rcases hk n b e with e | ⟨h0, _, e⟩ <;> rcases hk n' b' e' with e' | ⟨h0', _, e'⟩
    · exact hr'.inj n n' b b' c e e' hx hx'
    · obtain ⟨c2, q1, q2, _, _, hlt, hn⟩ := old n' b' h0' e'
      rw [hx'] at q2
      cases q2
      rcases h.im n b c e hx with ⟨n2, b2, e2, hx2⟩ | hge
      · exact absurd hx2 (hn n2 b2 e2)
      · omega
    · obtain ⟨c2, q1, q2, _, _, hlt, hn⟩ := old n b h0 e
      rw [hx] at q2
      cases q2
      rcases h.im n' b' c e' hx' with ⟨n2, b2, e2, hx2⟩ | hge
      · exact absurd hx2 (hn n2 b2 e2)
      · omega
    · obtain ⟨c1, p1, p2, _⟩ := old n b h0 e
      obtain ⟨c2, q1, q2, _⟩ := old n' b' h0' e'
      rw [hx] at p2; cases p2
      rw [hx'] at q2; cases q2
      exact hr.inj n n' b b' c e e' p1 q1
end Go.Abs
