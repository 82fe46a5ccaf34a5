/- What is proved: a part of the proof of the tied card of TxnEnds (text G7 of it). Conditions: those that its theorems name. -/
import Derived.Test.YtmdlgcmjemdfnaaGreatDoorG6
import Derived.Calls
import Derived.LoopN
import Derived.Tactics
import Derived.Orders
import Derived.CallsIn
import Derived.OrdersIn
import Derived.TacticsIn
import Derived.LoopNIn
import Derived.RangeFuncIn
import Derived.RangeFuncLeaves
import Derived.RangeFuncRecord
set_option linter.unusedVariables false
set_option linter.unusedSimpArgs false
set_option linter.unusedSectionVars false
namespace Go.Abs
noncomputable section
variable [Bnd]
variable {P : Program} {Sg : FuncId → Option Sp} {x : Cx} {w : World}
/-- the fences that let all in: of a function's activation, of a round's -/
def fen : Option Nat → Fence
  | none => .wide
  | some l => Fence.wide.inRound l
theorem fen_fn (l : Option Nat) (f : FuncId) : (fen l).fn f := by cases l <;> trivial
theorem fen_round (l : Option Nat) : (fen l).round = l := by cases l <;> rfl
theorem fen_depth (l : Option Nat) : (fen l).depth = none := by cases l <;> rfl
theorem fen_in (l : Option Nat) (k : Nat) : (fen l).inRound k = fen (some k) := by cases l <;> rfl
theorem callsIn_fen {l : Option Nat} {n : Nat} {f : FuncId} {as : Array Value} {R : Ending → World → Prop} (h : Calls P f as w R) : CallsIn (fen l) n P f as w R := by
  cases l with
  | none => exact callsIn_wide.2 h
  | some k => exact (callsIn_wide.2 h : CallsIn Fence.wide n P f as w R)
/-- the marks among an activation's deferred calls -/
def DRel (x : Cx) : List Nat → List Deferred → Prop
  | [], [] => True
  | n :: l, d :: ds => (∃ c, x.m n = some c ∧ d = { target := .collected c, args := #[] }) ∧ DRel x l ds
  | _, _ => False
theorem DRel.mono {x y : Cx} (hm : ∀ n c, x.m n = some c → y.m n = some c) : ∀ {l : List Nat} {ds : List Deferred}, DRel x l ds → DRel y l ds
  | [], [], _ => trivial
  | _ :: _, _ :: _, ⟨⟨c, h1, h2⟩, h3⟩ => ⟨⟨c, hm _ _ h1, h2⟩, DRel.mono hm h3⟩
structure SRel (x : Cx) (w : World) (s : St) (a : Act) : Prop where
  tm : ∀ t, VRel x w ((s.tm.get t).getD (.tup [])) (a.tmps.getD t undef)
  nt : a.tmps.size = s.nt
  df : DRel x s.df a.defers
  hp : HRel x s.hp.blks.get w
def Went (x : Cx) (s : St) (w : World) (s' : St) (a' : Act) (w' : World) : Prop :=
  ∃ y, Ext x s.hp.blks.get s.hp.next w y s'.hp.blks.get s'.hp.next w' ∧ SRel y w' s' a'
def Free (x : Cx) (h h' : Hp) : Prop := ∀ n, h.next ≤ n → n < h'.next → x.m n = none
def Ex.out : Ex → Exit
  | .normal => .normal
  | .exit i => .exit i
  | .ret => .ret
def SpecOK (P : Program) (f : FuncId) (sp : List AV → Hp → Option AV) : Prop :=
  Enters P f ∧ ∀ (x : Cx) (w : World) (h : Hp) (as : List AV) (as' : Array Value) (v : AV), sp as h = some v → VRels x w as as'.toList → HRel x h.blks.get w →
    Calls P f as' w (fun e w' => ∃ r, e = .returned r ∧ Did x h w v h r w')
/-- a function without Go text -/
def ExtOK (P : Program) (f : FuncId) (sp : List AV → Option AV) : Prop := ∀ (x : Cx) (w : World) (as : List AV) (as' : Array Value) (v : AV), sp as = some v → VRels x w as as'.toList →
    ∃ r, (callFunc f as').run P w = .ok (.value r) w ∧ VRel x w v r
def MapcOK (P : Program) (f : FuncId) : Prop := ∀ (as : Array Value) (w w' : World) (v : Value), (Extern.MapsClone.clone as).run P w = .ok v w' → (callFunc f as).run P w = .ok (.value v) w'
def hmL (l : List (Nat × Blk)) : HM := (putL .lf l).get
/-- calls whose outcome is written down -/
def MemoOK (P : Program) (f : FuncId) (es : List Ent) : Prop := Enters P f ∧ ∀ e ∈ es, ∀ (x : Cx) (w : World) (as' : Array Value), VRels x w e.as as'.toList → HRel x (hmL e.pre) w → (∀ n, e.n0 ≤ n → n < e.n1 → x.m n = none) → (∀ n b, (n, b) ∈ e.pre → n < e.n0) →
  Calls P f as' w (fun en w' => ∃ r, en = .returned r ∧ ∃ y, Ext x (hmL e.pre) e.n0 w y (hmL e.post) e.n1 w' ∧ HRel y (hmL e.post) w' ∧ VRel y w' e.v r)
structure Sound (P : Program) (Sg : FuncId → Option Sp) : Prop where
  names : ∀ (f : FuncId) (fn : Func), P.funcs[f]? = some fn → fn.body.isNone = false → (fn.name == "runtime.NumGoroutine") = false
  spec : ∀ f sp, Sg f = some (.fn sp) → SpecOK P f sp
  ext : ∀ f sp, Sg f = some (.ext sp) → ExtOK P f sp
  mapc : ∀ f, Sg f = some .mapc → MapcOK P f
  memo : ∀ f es, Sg f = some (.memo es) → MemoOK P f es
  mixed : P.follows .mixedOrders = true
def OpS (P : Program) (Sg : FuncId → Option Sp) (n : Nat) : Prop := ∀ (tm : Tr AV) (h : Hp) (o : Oper) (v : AV) (h' : Hp) (x : Cx) (w : World) (a : Act), opC P Sg n tm h o.op = some (v, h') → ER x w tm a.eval o.op.operands.toList →
  HRel x h.blks.get w → Wf h → Free x h h' → ∀ (l : Option Nat) K Q, (∀ r w', Did x h w v h' r w' → K (a.put o.dst r) w') → o.wpIn (fen l) 0 P a w K Q
def CallS (P : Program) (Sg : FuncId → Option Sp) (n : Nat) : Prop := ∀ (f : FuncId) (as : List AV) (h : Hp) (v : AV) (h' : Hp) (x : Cx) (w : World) (as' : Array Value), call P Sg n f as h = some (v, h') → VRels x w as as'.toList →
  HRel x h.blks.get w → Wf h → Free x h h' → Calls P f as' w (fun e w' => ∃ r, e = .returned r ∧ Did x h w v h' r w')
def CodeS (P : Program) (Sg : FuncId → Option Sp) (n : Nat) : Prop := ∀ (c : Code) (s : St) (r : Ex × St) (x : Cx) (w : World) (a : Act), code P Sg n c s = some r → SRel x w s a → Wf s.hp → Free x s.hp r.2.hp →
  ∀ l : Option Nat, s.rd = l.isSome → ∀ Q, (∀ a' w', Went x s w r.2 a' w' → Q r.1.out a' w') → c.wpIn (fen l) 0 P Q a w
def LoopS (P : Program) (Sg : FuncId → Option Sp) (n : Nat) : Prop := ∀ (c : Code) (s : St) (r : Ex × St) (x : Cx) (w : World) (a : Act), code P Sg n (.loop c) s = some r → luOf c s = none → SRel x w s a → Wf s.hp → Free x s.hp r.2.hp →
  ∀ l : Option Nat, s.rd = l.isSome → ∀ Q, (∀ a' w', Went x s w r.2 a' w' → Q r.1.out a' w') → Code.roundsIn (fen l) 0 P c Q n a w
/-- the rule for loops over input -/
def LoopRS (P : Program) (Sg : FuncId → Option Sp) (n : Nat) : Prop := ∀ (c : Code) (s : St) (u : Lu) (q : Nat) (ws : List Tmp) (r : Ex × St) (x : Cx) (w : World) (a : Act), luOf c s = some (u, q, ws) → loopR (code P Sg n) s u q ws = some r → SRel x w s a → Wf s.hp → Free x s.hp r.2.hp →
  ∀ l : Option Nat, s.rd = l.isSome → ∀ Q, (∀ a' w', Went x s w r.2 a' w' → Q r.1.out a' w') → (Code.loop c).wpIn (fen l) 0 P Q a w
def RoundS (P : Program) (Sg : FuncId → Option Sp) (n : Nat) : Prop := ∀ (n0 : Nat) (as : List AV) (h : Hp) (v : AV) (h' : Hp) (x : Cx) (w : World) (c : Nat) (rc : Loop) (as' : Array Value), round P Sg n n0 as h = some (v, h') →
  x.m n0 = some c → w.heap[c]? = some (.loop rc) → VRels x w as as'.toList → as'.size = rc.params.size → HRel x h.blks.get w → Wf h → Free x h h' →
  ∀ l : Option Nat, RoundIn (fen l) 0 P c rc.fn ((rc.params.zip as').foldl (fun tmps (t, a) => tmps.setIfInBounds t a) rc.tmps) rc.assign rc.body w (fun e w' => ∃ r, e = .returned r ∧ Did x h w v h' r w')
def ListS (P : Program) (Sg : FuncId → Option Sp) (n : Nat) : Prop := ∀ (ops : Array Oper) (l : List Oper) (s s' : St) (x : Cx) (w : World) (a : Act), opsR P Sg n ops l s = some s' → SRel x w s a → Wf s.hp → Free x s.hp s'.hp →
  ∀ (m : Option Nat) Q, (∀ a' w', Went x s w s' a' w' → Q .normal a' w') → wpListIn (fen m) 0 P ops Q l a w
def DrawS (P : Program) (Sg : FuncId → Option Sp) (n : Nat) : Prop := ∀ (u : Bool) (ops : Array Oper) (ord : List Nat) (s s' : St) (recs : List (Nat × Rc)) (x : Cx) (w : World) (a : Act), opsD P Sg n u ops ord s = some (recs, s') → okD P ops ord s recs = true → Wf s.hp → SRel x w s a → Free x s.hp s'.hp →
  ∀ (m : Option Nat) Q, (∀ a' w', Went x s w s' a' w' → Q .normal a' w') → wpAnyIn (fen m) 0 P .any ops Q ops.size (Array.replicate ops.size false) a w

theorem srel_eval {s : St} {a : Act} (h : SRel x w s a) (ys : List Operand) : ER x w s.tm a.eval ys := by
  intro y _ v hv
  cases y with
  | tmp t => simp only [evalO] at hv; injection hv with hv; subst hv; exact h.tm t
  | const c => exact ofValue_rel hv
  | func f => simp only [evalO] at hv; injection hv with hv; subst hv; exact .func _ _ _ _ _ .nil .nil
  | global g => cases hv
theorem bool_of_getD {a : Array Value} {d : Nat} {b : Bool} (h : a.getD d undef = .bool b) : a[d]? = some (.bool b) := by
  rw [Array.getD_eq_getD_getElem?] at h
  cases e : a[d]? with
  | none => rw [e] at h; cases h
  | some v => rw [e] at h; simp at h; rw [h]
theorem not_bool_of_getD {a : Array Value} {d : Nat} {c : Array Value} (h : a.getD d undef = .tuple c) : ∀ b, a[d]? ≠ some (.bool b) := by
  intro b e
  rw [Array.getD_eq_getD_getElem?, e] at h
  cases h
theorem wanted_gen {ops : Array Oper} {o : Oper} {tm : Tr AV} {tmps : Array Value} {b : Bool} (h : ∀ g, o.guard = some g → ∀ d, (ops[g.1]?).bind (·.dst) = some d → VRel x w ((tm.get d).getD (.tup [])) (tmps.getD d undef)) (e : wantedA ops tm o.guard = some b) :
    Region.wanted o (yielded ops tmps) = b := by
  unfold wantedA at e
  unfold Region.wanted
  cases hg : o.guard with
  | none => rw [hg] at e; injection e
  | some g =>
    obtain ⟨j, want⟩ := g
    have hh := h _ hg
    rw [hg] at e
    simp only [] at e ⊢
    cases ho : ops[j]? with
    | none => rw [ho] at e; cases e
    | some oj =>
      rw [ho] at e
      simp only [] at e
      cases hd : oj.dst with
      | none => rw [hd] at e; cases e
      | some d =>
        rw [hd] at e
        simp only [] at e
        have := hh d (by simp [ho, hd])
        cases hv : tm.get d with
        | none => rw [hv] at e; cases e
        | some v =>
          rw [hv] at e this
          simp only [Option.getD_some] at this
          cases v <;> simp only [] at e <;> (try (cases e; done))
          · rename_i c
            injection e with e
            generalize hp : tmps.getD d undef = p at this
            cases this
            rw [← e]
            simp [yielded, ho, hd, bool_of_getD hp]
          · injection e with e
            generalize hp : tmps.getD d undef = p at this
            cases this
            rw [← e]
            have := not_bool_of_getD hp
            have hy : yielded ops tmps j = none := by
              unfold yielded
              simp only [ho, hd, Option.bind_some]
            rw [hy]
            cases want <;> rfl
theorem srel_wanted {ops : Array Oper} {o : Oper} {s : St} {a : Act} {b : Bool} (h : SRel x w s a) (e : wantedA ops s.tm o.guard = some b) : Region.wanted o (yielded ops a.tmps) = b :=
  wanted_gen (fun _ _ d _ => h.tm d) e
theorem put_rel {tm : Tr AV} {a : Act} {nt : Nat} {d : Option Tmp} {v : AV} {r : Value} (h : ∀ t, VRel x w ((tm.get t).getD (.tup [])) (a.tmps.getD t undef)) (hn : a.tmps.size = nt) (hv : VRel x w v r) :
    ∀ t, VRel x w (((putT tm nt d v).get t).getD (.tup [])) ((a.put d r).tmps.getD t undef) := by
  intro t
  cases d with
  | none => exact h t
  | some d =>
    simp only [putT, Act.put]
    by_cases hd : d < nt
    · rw [if_pos hd]
      by_cases ht : t = d
      · subst ht
        rw [Tr.get_put, if_pos rfl]
        simpa [Array.getD_eq_getD_getElem?, Array.getElem?_setIfInBounds, hn, hd] using hv
      · rw [Tr.get_put, if_neg ht]
        have := h t
        simpa [Array.getD_eq_getD_getElem?, Array.getElem?_setIfInBounds_ne (Ne.symm ht)] using this
    · rw [if_neg hd]
      have := h t
      have e : a.tmps.setIfInBounds d r = a.tmps := by
        apply Array.ext_getElem?
        intro i
        rw [Array.getElem?_setIfInBounds]
        split
        · rename_i hi
          subst hi
          rw [← hn] at hd
          rw [if_neg hd, Array.getElem?_eq_none (Nat.le_of_not_lt hd)]
        · rfl
      rw [e]
      exact this
theorem put_size (a : Act) (d : Option Tmp) (r : Value) : (a.put d r).tmps.size = a.tmps.size := by cases d <;> simp [Act.put]
theorem put_defers (a : Act) (d : Option Tmp) (r : Value) : (a.put d r).defers = a.defers := by cases d <;> rfl
/-- one operation done -/
theorem Did.srel {s : St} {a : Act} {v : AV} {h' : Hp} {d : Option Tmp} {r : Value} {w' : World} (h : SRel x w s a) (hd : Did x s.hp w v h' r w') :
    Went x s w ⟨putT s.tm s.nt d v, s.nt, h', s.df, s.rd⟩ (a.put d r) w' := by
  obtain ⟨y, e, k, l⟩ := hd
  have hm := e.mono h.hp
  exact ⟨y, e, put_rel (fun t => (h.tm t).mono hm) h.nt l, by rw [put_size]; exact h.nt, by rw [put_defers]; exact h.df.mono e.m, k⟩
theorem Went.trans {s s1 s2 : St} {y : Cx} {w1 w2 : World} {a2 : Act} (h : Ext x s.hp.blks.get s.hp.next w y s1.hp.blks.get s1.hp.next w1) (k : Went y s1 w1 s2 a2 w2) (h01 : s.hp.next ≤ s1.hp.next) (h12 : s1.hp.next ≤ s2.hp.next) : Went x s w s2 a2 w2 := by
  obtain ⟨z, e, r⟩ := k
  exact ⟨z, h.trans e h01 h12, r⟩
theorem Free.next {h h1 h2 : Hp} {y : Cx} {hm hm' : HM} {w1 : World} (hf : Free x h h2) (e : Ext x hm h.next w y hm' h1.next w1) (h01 : h.next ≤ h1.next) : Free y h1 h2 := by
  intro n hn hn2
  rw [e.mo n (.inr hn)]
  exact hf n (by omega) hn2
theorem Free.sub {h h1 h2 : Hp} (hf : Free x h h2) (h12 : h1.next ≤ h2.next) : Free x h h1 := fun n hn hn2 => hf n hn (by omega)
theorem call_enters {n : Nat} {f : FuncId} {as : List AV} {h : Hp} {r : AV × Hp} (hS : Sound P Sg) (e : call P Sg n f as h = some r) : Enters P f := by
  cases n with
  | zero => simp [call] at e
  | succ n =>
    simp only [call] at e
    split at e
    · rename_i sp hsp
      exact (hS.spec _ _ hsp).1
    · rename_i es hes
      exact (hS.memo _ _ hes).1
    · cases e
    · cases e
    · split at e
      · rename_i fn hfn
        split at e
        · rename_i c hc
          exact ⟨fn, hfn, by rw [hc]; rfl, hS.names f fn hfn (by rw [hc]; rfl)⟩
        · cases e
      · cases e
theorem mapc_sim {h h' : Hp} {as : List AV} {as' : Array Value} {v : AV} (e : mapcA h as = some (v, h')) (hr : HRel x h.blks.get w) (ha : VRels x w as as'.toList) (hf : Free x h h') :
    ∃ r w', (Extern.MapsClone.clone as').run P w = .ok r w' ∧ Did x h w v h' r w' := by
  unfold mapcA at e
  split at e
  · rename_i t m
    split at e
    · rename_i es clock hb
      injection e with e
      injection e with e1 e2
      subst e1; subst e2
      obtain ⟨l⟩ := as'
      match l, ha with
      | [p], .cons _ _ _ _ hp _ =>
      cases hp with | iface _ _ q hq =>
      cases hq with | map _ c hm =>
      obtain ⟨c', k1, ⟨es', k2, k3⟩, _⟩ := hr.blk _ _ hb
      rw [hm] at k1; cases k1
      obtain ⟨y, y1, y2, y3, _⟩ := new_sim (b := .map es clock) (o := .map es' clock) 0 hr (hf _ (Nat.le_refl _) (Nat.lt_succ_self _)) (fun y u hmo hu => ⟨es', hu, ERel.mono hmo k3⟩)
      refine ⟨.iface t (.map (some w.heap.size)), w.alloc (.map es' clock), ?_, y, y1, y2, .iface _ _ _ (.map _ _ y3)⟩
      show Sem.run P (do
        let .map entries clock ← getObj c | stuck "maps.clone: a map expected"
        pure (Value.iface t (.map (some (← newObj (.map entries clock)))))) w = _
      simp [run_getObj' k2]
    · cases e
  · cases e
theorem opA_nodefer {tm : Tr AV} {h : Hp} {o : Op} {nx : Nx} (e : opA P tm h o = some nx) : ∀ c, o ≠ .defer c := by
  intro c hc
  subst hc
  simp [opA] at e
theorem opS_of {n : Nat} (hS : Sound P Sg) (hc : CallS P Sg n) (hrd : RoundS P Sg n) : OpS P Sg (n + 1) := by
  intro tm h o v h' x w a e he hr hwf hf l K Q hK
  simp only [opC] at e
  cases ha : opA P tm h o.op with
  | none => rw [ha] at e; cases e
  | some nx =>
    rw [ha] at e
    unfold Oper.wpIn
    refine ⟨fun f _ => fen_fn l f, ?_⟩
    rw [Oper.semAt_eq _ _ _ (opA_nodefer ha)]
    cases nx with
    | val v1 h1 =>
      injection e with e
      injection e with e1 e2
      subst e1; subst e2
      obtain ⟨r, w', r1, u, rfl, r2⟩ := opA_sim ha he hr hf (fun _ _ _ h => by cases h)
      rw [r1, Oper.uponIn_value]
      exact hK _ _ r2
    | skip h1 =>
      injection e with e
      injection e with e1 e2
      subst e1; subst e2
      obtain ⟨r, w', r1, rfl, r2⟩ := opA_sim ha he hr hf (fun _ _ _ h => by cases h)
      rw [r1, Oper.uponIn_skip]
      exact hK _ _ r2
    | enter f as h1 =>
      simp only [] at e
      have hgr := opA_grow ha
      split at e
      · rename_i sp hsp
        obtain ⟨u, h2, h3⟩ := Option.map_eq_some_iff.1 e
        injection h3 with e1 e2
        subst e1; subst e2
        obtain ⟨rfl, as', k1, k2⟩ := opA_enter ha he
        obtain ⟨r, k3, k4⟩ := hS.ext _ _ hsp _ _ _ _ _ h2 k2
        rw [k1, k3, Oper.uponIn_value]
        exact hK _ _ (Did.same hr k4)
      · rename_i hsp
        obtain ⟨rfl, as', k1, k2⟩ := opA_enter ha he
        obtain ⟨r, w', k3, k4⟩ := mapc_sim (P := P) e hr k2 hf
        rw [k1, hS.mapc _ hsp _ _ _ _ k3, Oper.uponIn_value]
        exact hK _ _ k4
      · have hen := call_enters hS e
        have g5 := (grows (P := P) (Sg := Sg) n).2.2.2.2.1 _ _ _ _ e
        obtain ⟨r, w', r1, as', rfl, rfl, rfl, r2⟩ := opA_sim ha he hr (fun k hn hn2 => hf k hn (Nat.lt_of_lt_of_le hn2 g5.1)) (fun f' as2 h2 h => by injection h with h _ _; rw [← h]; exact hen)
        rw [r1, Oper.uponIn_enter]
        refine ⟨fun hdp => (by rw [fen_depth] at hdp; cases hdp), CallsIn.mono (callsIn_fen (hc _ _ _ _ _ _ _ _ e r2 hr hwf hf)) (fun e' w'' hh => ?_)⟩
        obtain ⟨r, rfl, hd⟩ := hh
        exact hK _ _ hd
    | round n0 as h1 =>
      simp only [] at e
      have g6 := (grows (P := P) (Sg := Sg) n).2.2.2.2.2 _ _ _ _ e
      obtain ⟨r, w', r1, c, rc, as', rfl, rfl, rfl, r2, r3, r4, r5⟩ := opA_sim ha he hr (fun k hn hn2 => hf k hn (Nat.lt_of_lt_of_le hn2 g6.1)) (fun _ _ _ h => by cases h)
      rw [r1, Oper.uponIn_round]
      refine ⟨fun hdp => (by rw [fen_depth] at hdp; cases hdp), RoundIn.mono (hrd _ _ _ _ _ _ _ _ _ _ e r2 r3 r4 r5 hr hwf hf l) (fun e' w'' hh => ?_)⟩
      obtain ⟨r, rfl, hd⟩ := hh
      exact hK _ _ hd
theorem listS_of {n : Nat} (ho : OpS P Sg n) (hl : ListS P Sg n) : ListS P Sg (n + 1) := by
  intro ops l s s' x w a e hs hwf hf m Q hQ
  cases l with
  | nil =>
    simp only [opsR] at e
    injection e with e
    subst e
    exact hQ _ _ ⟨x, Ext.refl, hs⟩
  | cons o l =>
    simp only [opsR] at e
    unfold wpListIn
    split at e
    · rename_i hw
      rw [srel_wanted hs hw]
      simp only [if_true]
      split at e
      · rename_i v h' h1
        have g1 := (grows (P := P) (Sg := Sg) n).2.2.2.1 _ _ _ _ h1
        have g2 := (grows (P := P) (Sg := Sg) n).2.1 _ _ _ _ e
        refine (ho _ _ _ _ _ _ _ _ h1 (srel_eval hs _) hs.hp hwf (hf.sub g2.1) m _ _ (fun r w' hd => ?_))
        obtain ⟨y, e1, hs1⟩ := hd.srel (d := o.dst) hs
        exact hl _ _ _ _ _ _ _ e hs1 (g1.2 hwf) (hf.next e1 g1.1) m Q (fun a' w' hw' => hQ _ _ (Went.trans (s1 := ⟨_, _, h', _, _⟩) e1 hw' g1.1 g2.1))
      · cases e
    · rename_i hw
      rw [srel_wanted hs hw]
      simp only [Bool.false_eq_true, if_false]
      refine ⟨fun f _ => fen_fn m f, ?_⟩
      obtain ⟨y, e1, hs1⟩ := (Did.same hs.hp (v := .tup []) (r := undef) undef_rel).srel (d := o.dst) hs
      have g2 := (grows (P := P) (Sg := Sg) n).2.1 _ _ _ _ e
      exact hl _ _ _ _ _ _ _ e hs1 hwf (hf.next e1 (Nat.le_refl _)) m Q (fun a' w' hw' => hQ _ _ (Went.trans (s1 := ⟨_, _, s.hp, _, _⟩) e1 hw' (Nat.le_refl _) g2.1))
    · cases e
end
end Go.Abs

namespace Go.Abs
noncomputable section
variable [Bnd]
variable {P : Program} {Sg : FuncId → Option Sp} {x : Cx} {w : World}
theorem SRel.drew {s : St} {a : Act} (h : SRel x w s a) : SRel x w.drew s a := ⟨fun t => (h.tm t).mono mono_drew, h.nt, h.df, h.hp.drew⟩
theorem codeS_of {n : Nat} (hS : Sound P Sg) (hl : ListS P Sg n) (hd : DrawS P Sg n) (hc : CodeS P Sg n) (hlp : LoopS P Sg (n + 1)) (hcl : CallS P Sg n) (hlr : LoopRS P Sg n) : CodeS P Sg (n + 1) := by
  intro c s r x w a e hs hwf hf l hrd Q hQ
  cases c
  case loop c =>
    cases hlu : luOf c s with
    | none => exact wpIn_loop_rounds (n + 1) (hlp _ _ _ _ _ _ e hlu hs hwf hf l hrd Q hQ)
    | some p =>
      obtain ⟨u, q, ws⟩ := p
      simp only [code, hlu] at e
      exact hlr _ _ _ _ _ _ _ _ _ hlu e hs hwf hf l hrd Q hQ
  all_goals simp only [code] at e
  all_goals try (cases e; done)
  case skip => injection e with e; subst e; exact wpIn_skip (hQ _ _ ⟨x, Ext.refl, hs⟩)
  case region id ops draw =>
    cases draw with
    | true =>
      simp only [if_true] at e
      split at e
      · rename_i recs s' h1
        have go : ∀ (u : Bool) (recs : List (Nat × Rc)) (s' : St), opsD P Sg n u ops (canon ops ops.size [] (List.range ops.size)) s = some (recs, s') → okD P ops (canon ops ops.size [] (List.range ops.size)) s recs = true → r = (.normal, s') → (Code.region id ops true).wpIn (fen l) 0 P Q a w := by
          intro u recs s' h1 hok e
          subst e
          refine wpIn_region_any hS.mixed ?_
          refine hd u _ _ _ _ _ x w.drew a h1 hok hwf hs.drew hf l Q (fun a' w' hw => hQ _ _ ?_)
          obtain ⟨y, e1, r1⟩ := hw
          exact ⟨y, (Ext.drew (x := x) (n := s.hp.next)).trans e1 (Nat.le_refl _) ((grows (P := P) (Sg := Sg) n).2.2.1 _ _ _ _ _ h1).1, r1⟩
        split at e
        · rename_i hok
          injection e with e
          exact go _ _ _ h1 hok e.symm
        · split at e
          · rename_i recs2 s2 h2
            split at e
            · rename_i hok
              injection e with e
              exact go _ _ _ h2 hok e.symm
            · cases e
          · cases e
      · cases e
    | false =>
      simp only [Bool.false_eq_true, if_false] at e
      obtain ⟨s', h1, rfl⟩ := Option.map_eq_some_iff.1 e
      exact wpIn_region_list (hl _ _ _ _ _ _ _ h1 hs hwf hf l Q (fun a' w' hw => hQ _ _ hw))
  case seq c1 c2 =>
    refine wpIn_seq ?_
    split at e
    · rename_i s1 h1
      have g1 := (grows (P := P) (Sg := Sg) n).1 _ _ _ h1
      have g2 := (grows (P := P) (Sg := Sg) n).1 _ _ _ e
      refine hc _ _ _ _ _ _ h1 hs hwf (hf.sub g2.1) l hrd _ (fun a1 w1 hw => ?_)
      obtain ⟨y, e1, hs1⟩ := hw
      exact hc _ _ _ _ _ _ e hs1 (g1.2 hwf) (hf.next e1 g1.1) l (((rds (P := P) (Sg := Sg) n).1 _ _ _ h1).trans hrd) Q (fun a2 w2 hw2 => hQ _ _ (Went.trans e1 hw2 g1.1 g2.1))
    · rename_i hne
      refine hc _ _ _ _ _ _ e hs hwf hf l hrd _ (fun a1 w1 hw => ?_)
      obtain ⟨ex, s1⟩ := r
      cases ex
      · exact absurd e (hne _)
      · exact hQ _ _ hw
      · exact hQ _ _ hw
  case cond y c1 c2 =>
    split at e
    · rename_i t ht
      have := srel_eval hs [y] y (by simp) _ ht
      generalize hp : a.eval y = p at this
      cases this
      exact wpIn_cond hp (hc _ _ _ _ _ _ e hs hwf hf l hrd Q hQ)
    · cases e
  case block id c1 =>
    refine wpIn_block ?_
    split at e
    · rename_i i s1 h1
      split at e
      · rename_i hi
        injection e with e
        subst e
        refine hc _ _ _ _ _ _ h1 hs hwf hf l hrd _ (fun a1 w1 hw => ?_)
        simp only [Ex.out, Exit.inBlock, hi, if_true]
        exact hQ _ _ hw
      · rename_i hi
        injection e with e
        subst e
        refine hc _ _ _ _ _ _ h1 hs hwf hf l hrd _ (fun a1 w1 hw => ?_)
        simp only [Ex.out, Exit.inBlock, hi, if_false]
        exact hQ _ _ hw
    · rename_i hne
      refine hc _ _ _ _ _ _ e hs hwf hf l hrd _ (fun a1 w1 hw => ?_)
      obtain ⟨ex, s1⟩ := r
      cases ex
      · exact hQ _ _ hw
      · exact absurd e (hne _ _)
      · exact hQ _ _ hw
  case exit id => injection e with e; subst e; exact wpIn_exit (hQ _ _ ⟨x, Ext.refl, hs⟩)
  case ret => injection e with e; subst e; exact wpIn_ret (hQ _ _ ⟨x, Ext.refl, hs⟩)
  case rangeFunc g ps asn body =>
    split at e
    · cases e
    · rename_i hrdn
      have hl0 : l = none := by
        cases l with
        | none => rfl
        | some k => exact absurd hrd hrdn
      subst hl0
      split at e
      · rename_i gf first caps hg
        split at e
        · rename_i v h3 hcall
          split at e
          · rename_i st pd tm3 nt3 ps3 asn3 body3 hb3
            have key : st ≠ .busy ∧ ∃ ex, exOf pd = some ex ∧ r = (ex, ⟨s.tm, s.nt, h3.kill (s.hp.next + 1), s.hp.next :: s.df, s.rd⟩) := by
              cases hex : exOf pd with
              | none => rw [hex] at e; cases st <;> cases e
              | some ex => rw [hex] at e; cases st <;> first | (cases e; done) | (injection e with e; exact ⟨by simp, ex, rfl, e.symm⟩)
            obtain ⟨hnb, ex, hex, rfl⟩ := key
            have gN := (grows (P := P) (Sg := Sg) n).2.2.2.2.1 _ _ _ _ hcall
            have hnx : s.hp.next + 2 ≤ h3.next := gN.1
            have hfx : ∀ k, s.hp.next ≤ k → k < h3.next → x.m k = none := fun k h1 h2 => hf k h1 h2
            have hpf := srel_eval hs [g] g (by simp) _ hg
            generalize hgf : a.eval g = pf at hpf
            cases hpf with | func _ _ _ first' caps' g1 g2 =>
            obtain ⟨y1, e1, r1, m1, _⟩ := new_sim (b := .dfr) (o := .deferred (some [])) 0 hs.hp (hfx _ (Nat.le_refl _) (by omega)) (fun y u hmo hu => hu)
            refine wpIn_rangeFunc (fun fn _ => ?_)
            rw [fen_round]
            obtain ⟨y2, e2, r2, m2, _⟩ := new_sim (h := (s.hp.new .dfr).1) (b := .loop .ready none s.tm s.nt ps asn body) (o := .loop { state := .ready, pending := none, fn, tmps := a.tmps, params := ps, assign := asn, body, defers := w.heap.size }) 0 r1
              (by rw [e1.mo _ (.inr (Nat.le_refl _))]; exact hfx _ (Nat.le_succ _) (by show s.hp.next + 1 < _; omega))
              (fun y u hmo hu => ⟨_, hu, rfl, rfl, rfl, rfl, rfl, hs.nt, fun t => ((hs.tm t).mono (e1.mono hs.hp)).mono hmo⟩)
            obtain ⟨W2, hW2⟩ : ∃ W2, (w.alloc (.deferred (some []))).alloc (.loop { state := .ready, pending := none, fn, tmps := a.tmps, params := ps, assign := asn, body, defers := w.heap.size }) = W2 := ⟨_, rfl⟩
            have hent := run_enterLoop_outer (P := P) (w := w) fn a.tmps ps asn body
            rw [hW2] at e2 r2 hent
            have m2' : y2.m (s.hp.next + 1) = some (w.heap.size + 1) := by
              have := m2
              rw [World.size_alloc] at this
              exact this
            have hm12 := (e1.mono hs.hp).trans (e2.mono r1)
            have hv2 : VRels y2 W2 (first ++ [.yld (s.hp.next + 1)] ++ caps) (first' ++ #[Value.func (.yield (w.heap.size + 1)) #[] #[]] ++ caps').toList := by
              simp only [Array.toList_append]
              exact ((g1.mono hm12).app (.one (.yld _ _ m2'))).app (g2.mono hm12)
            have hcl' := hcl _ _ _ _ _ _ _ _ hcall hv2 r2 ((grow_new _ _).2 ((grow_new _ _).2 hwf)) (fun k hk hk2 => by
              have hk' : s.hp.next + 2 ≤ k := hk
              rw [e2.mo k (.inr hk), e1.mo k (.inr (by show s.hp.next + 1 ≤ k; omega))]
              exact hfx k (by omega) hk2)
            obtain ⟨fn0, b1, b2, b3⟩ := call_enters hS hcall
            have b2' : fn0.body ≠ none := by intro hn; rw [hn] at b2; cases b2
            have b3' : fn0.name ≠ "runtime.NumGoroutine" := by simpa using b3
            refine ⟨w.heap.size + 1, [{ target := .collected w.heap.size, args := #[] }], W2, { target := .fn (.func gf) caps', args := first' ++ #[Value.func (.yield (w.heap.size + 1)) #[] #[]] }, W2, gf, first' ++ #[Value.func (.yield (w.heap.size + 1)) #[] #[]] ++ caps', W2, hent, ?_, fun f _ => fen_fn none f, ?_, fun hdp => (by rw [fen_depth] at hdp; cases hdp), CallsIn.mono (callsIn_fen hcl') (fun e' w3 hh => ?_)⟩
            · have hma : ∀ u : Value, Array.map a.eval #[Operand.const u] = #[u] := fun u => by simp only [List.map_toArray, List.map_cons, List.map_nil]; rfl
              simp only [resolve, rangeCall, hgf, Deferred.ofValue, hma, Sem.run_pure]
            · simp [invoke, callFunc, b1, b2', b3']
            · obtain ⟨rv, rfl, y3, e3, r3, _⟩ := hh
              obtain ⟨c3, k1, ⟨rc, k2, k3, k4, _⟩, _⟩ := r3.blk _ _ hb3
              have m3 := e3.m _ _ m2'
              rw [m3] at k1; cases k1
              refine ⟨pd, _, by rw [← k4]; exact run_endLoop k2 (by rw [k3]; exact hnb), ?_⟩
              obtain ⟨q1, q2⟩ := kill_sim (u := w3.putObj (w.heap.size + 1) (.loop { rc with state := .exhausted })) r3 hb3 m3 (fun k hk => World.putObj_heap_other hk) World.putObj_size rfl rfl rfl
              have hw : Went x s w ⟨s.tm, s.nt, h3.kill (s.hp.next + 1), s.hp.next :: s.df, s.rd⟩ { a with defers := [{ target := .collected w.heap.size, args := #[] }] ++ a.defers } (w3.putObj (w.heap.size + 1) (.loop { rc with state := .exhausted })) := by
                have hm123 := (hm12.trans (e3.mono r2)).trans (q1.mono r3)
                have t1 := e1.trans e2 (Nat.le_succ _) (Nat.le_succ _)
                have t2 := t1.trans e3 (Nat.le_succ_of_le (Nat.le_succ _)) gN.1
                have t3 := t2.trans q1 (by omega) (Nat.le_refl _)
                have hdr : DRel y3 (s.hp.next :: s.df) ([{ target := .collected w.heap.size, args := #[] }] ++ a.defers) := ⟨⟨_, e3.m _ _ (e2.m _ _ m1), rfl⟩, hs.df.mono hm123.m⟩
                exact ⟨y3, t3, ⟨fun t => (hs.tm t).mono hm123, hs.nt, hdr, q2⟩⟩
              cases pd with
              | none =>
                simp only [exOf] at hex
                injection hex with hex
                subst hex
                exact hQ _ _ hw
              | some jc =>
                cases jc <;> simp only [exOf] at hex <;> (try (cases hex; done))
                case exit i => injection hex with hex; subst hex; exact wpIn_exit (hQ _ _ hw)
                case ret => injection hex with hex; subst hex; exact wpIn_ret (hQ _ _ hw)
          · cases e
        · cases e
      · cases e
theorem loopS_of {n : Nat} (hc : CodeS P Sg n) (hlp : LoopS P Sg n) : LoopS P Sg (n + 1) := by
  intro c s r x w a e hlu hs hwf hf l hrd Q hQ
  simp only [code, hlu] at e
  rw [roundsIn_succ]
  split at e
  · rename_i s1 h1
    split at e
    · cases e
    rename_i hlu1
    have g1 := (grows (P := P) (Sg := Sg) n).1 _ _ _ h1
    have g2 := (grows (P := P) (Sg := Sg) n).1 _ _ _ e
    refine hc _ _ _ _ _ _ h1 hs hwf (hf.sub g2.1) l hrd _ (fun a1 w1 hw => ?_)
    obtain ⟨y, e1, hs1⟩ := hw
    exact hlp _ _ _ _ _ _ e hlu1 hs1 (g1.2 hwf) (hf.next e1 g1.1) l (((rds (P := P) (Sg := Sg) n).1 _ _ _ h1).trans hrd) Q (fun a2 w2 hw2 => hQ _ _ (Went.trans e1 hw2 g1.1 g2.1))
  · rename_i hne
    refine hc _ _ _ _ _ _ e hs hwf hf l hrd _ (fun a1 w1 hw => ?_)
    obtain ⟨ex, s1⟩ := r
    cases ex
    · exact absurd e (hne _)
    · exact hQ _ _ hw
    · exact hQ _ _ hw
theorem args0_get : ∀ (l : List AV) (i : Nat) (t : Tr AV) (k : Nat), (args0 i l t).get k = if i ≤ k ∧ k < i + l.length then l[k - i]? else t.get k
  | [], i, t, k => by
    rw [if_neg (by simp)]
    first | done | rfl
  | v :: l, i, t, k => by
    rw [args0, args0_get l (i + 1), Tr.get_put]
    by_cases h : k = i
    · subst h
      rw [if_neg (by omega), if_pos rfl, if_pos (by simp)]
      simp
    · rw [if_neg h]
      by_cases h2 : i + 1 ≤ k ∧ k < i + 1 + l.length
      · rw [if_pos h2, if_pos (by simp; omega)]
        rw [show k - i = (k - (i + 1)) + 1 by omega]
        simp
      · rw [if_neg h2, if_neg (by simp; omega)]
theorem lf_get {α : Type} (k : Nat) : (Tr.lf : Tr α).get k = none := rfl
theorem args_rel {as : List AV} {as' : Array Value} (h : VRels x w as as'.toList) (m : Nat) (t : Nat) : VRel x w (((args0 0 as .lf).get t).getD (.tup [])) ((as' ++ Array.replicate m undef).getD t undef) := by
  have hl := h.length
  rw [Array.length_toList] at hl
  rw [args0_get, Array.getD_eq_getD_getElem?, Array.getElem?_append]
  by_cases ht : t < as.length
  · rw [if_pos (by omega), if_pos (by omega)]
    obtain ⟨v, hv⟩ : ∃ v, as[t]? = some v := ⟨_, List.getElem?_eq_getElem ht⟩
    obtain ⟨v', h1, h2⟩ := h.get hv
    simp only [Nat.sub_zero]
    rw [hv, ← Array.getElem?_toList, h1]
    exact h2
  · rw [if_neg (by omega), if_neg (by omega), lf_get]
    have : (Array.replicate m undef)[t - as'.size]?.getD undef = undef := by
      rw [Array.getElem?_replicate]
      split <;> rfl
    rw [this]
    exact undef_rel
theorem load_asAddr {h : Hp} {t : TypeId} {a v : AV} {p : Value} (e : loadA P h t a = some v) (hr : HRel x h.blks.get w) (ha : VRel x w a p) :
    ∃ r, (do loadVar t (← asAddr p) : Sem Value).run P w = .ok r w ∧ VRel x w v r := by
  obtain ⟨r, r1, r2⟩ := load_sim e hr ha
  refine ⟨r, ?_, r2⟩
  have hp : ∃ ad, p = .pointer (some ad) := by
    unfold loadA at e
    split at e
    · cases ha; exact ⟨_, rfl⟩
    · cases ha; exact ⟨_, rfl⟩
    · cases ha; exact ⟨_, rfl⟩
    · cases e
  obtain ⟨ad, rfl⟩ := hp
  simpa [Instr.loadAt, Instr.sureAddr, asAddr] using r1
theorem results_sim {s : St} {a : Act} (hs : SRel x w s a) : ∀ {l : List ResultVar} {vs : List AV}, resA P s.hp s.tm l = some vs →
    ∃ us, (l.mapM (fun | .tmp t => pure (a.tmps.getD t undef) | .cell ad t => do loadVar t (← asAddr (a.tmps.getD ad undef)) : ResultVar → Sem Value)).run P w = .ok us w ∧ VRels x w vs us
  | [], vs, e => by
    simp only [resA] at e
    injection e with e
    subst e
    exact ⟨[], by simp, .nil⟩
  | .tmp t :: l, vs, e => by
    simp only [resA] at e
    split at e
    · rename_i l' h1
      injection e with e
      subst e
      obtain ⟨us, k1, k2⟩ := results_sim hs h1
      refine ⟨_ :: us, ?_, .cons _ _ _ _ (hs.tm t) k2⟩
      simp only [List.mapM_cons, Sem.run_bind, Sem.run_pure, Result.andThen_ok, k1]
    · cases e
  | .cell ad t :: l, vs, e => by
    simp only [resA] at e
    split at e
    · rename_i av l' hav h1
      split at e
      · rename_i v hv
        injection e with e
        subst e
        obtain ⟨us, k1, k2⟩ := results_sim hs h1
        have ha := hs.tm ad
        rw [hav] at ha
        obtain ⟨r, r1, r2⟩ := load_asAddr hv hs.hp ha
        refine ⟨r :: us, ?_, .cons _ _ _ _ r2 k2⟩
        simp only [List.mapM_cons]
        rw [Sem.run_bind, r1]
        simp only [Result.andThen_ok, Sem.run_bind, k1, Sem.run_pure]
      · cases e
    · cases e
theorem results_rel {s : St} {a : Act} {fn : Func} {vs : List AV} (hs : SRel x w s a) (e : resA P s.hp s.tm fn.results.toList = some vs) : ∃ v, (results fn a.tmps).run P w = .ok v w ∧ VRel x w (one vs) v := by
  obtain ⟨us, k1, k2⟩ := results_sim hs e
  have hm : (fn.results.mapM (fun | .tmp t => pure (a.tmps.getD t undef) | .cell ad t => do loadVar t (← asAddr (a.tmps.getD ad undef)) : ResultVar → Sem Value)).run P w = .ok us.toArray w := by
    rw [Array.mapM_eq_mapM_toList]
    simp only [Sem.run_map, k1, Result.andThen_ok]
  have hr : (results fn a.tmps).run P w = .ok (if h : us.toArray.size = 1 then us.toArray[0] else .tuple us.toArray) w := by
    unfold results
    rw [Sem.run_bind]
    have hm' := hm
    refine Eq.trans (congrArg (fun z => Result.andThen z _) hm') ?_
    simp only [Result.andThen_ok, Sem.run_pure]
  refine ⟨_, hr, ?_⟩
  have hl := k2.length
  match vs, us, k2 with
  | [], [], _ => exact .tup _ _ .nil
  | [v], [u], .cons _ _ _ _ h _ => exact h
  | v1 :: v2 :: vs, u1 :: u2 :: us, k2 => exact .tup _ _ k2
theorem leaves_of {fn : Func} {tm : Tr AV} {tmps : Array Value} {vs : List AV} {hE : Hp} {R : Ending → World → Prop} (he : resA P hE tm fn.results.toList = some vs) : ∀ {df : List Nat} {h : Hp} {ds : List Deferred} {w : World}, shutA df h = some hE → DRel x df ds → HRel x h.blks.get w →
    (∀ t, VRel x w ((tm.get t).getD (.tup [])) (tmps.getD t undef)) → (∀ w' r, Ext x h.blks.get h.next w x hE.blks.get hE.next w' → HRel x hE.blks.get w' → VRel x w' (one vs) r → R (.returned r) w') →
    LeavesInM (fen none) 0 P fn tmps R ds .returning w
  | [], h, [], w, h1, _, h3, h4, h5 => by
    simp only [shutA] at h1
    injection h1 with h1
    subst h1
    have hs : SRel x w ⟨tm, tmps.size, h, [], false⟩ { tmps := tmps, defers := [] } := ⟨h4, rfl, trivial, h3⟩
    obtain ⟨r, r1, r2⟩ := results_rel hs he
    exact ⟨r, r1, h5 _ _ Ext.refl h3 r2⟩
  | n :: df, h, d :: ds, w, h1, ⟨⟨c, h2, h2'⟩, h2''⟩, h3, h4, h5 => by
    simp only [shutA] at h1
    split at h1
    · rename_i hb
      obtain ⟨c', k1, k2, _⟩ := h3.blk _ _ hb
      rw [h2] at k1; cases k1
      subst h2'
      obtain ⟨q1, q2⟩ := kill_sim (u := w.putObj c (.deferred none)) h3 hb h2 (fun k hk => World.putObj_heap_other hk) World.putObj_size rfl rfl rfl
      refine ⟨by simp, .inl ⟨c, _, rfl, run_takeDeferred k2, leaves_of he h1 h2'' q2 (fun t => (h4 t).mono (q1.mono h3)) (fun w' r e1 e2 e3 => ?_)⟩⟩
      exact h5 _ _ (q1.trans e1 (Nat.le_refl _) (shut_grow h1).1) e2 e3
    · cases h1
theorem hmL_mem {l : List (Nat × Blk)} {n : Nat} {b : Blk} (h : hmL l n = some b) : (n, b) ∈ l := by
  rcases putL_get h with h | ⟨_, h⟩
  · exact h
  · rw [lf_get] at h; cases h
theorem memo_sim {f : FuncId} {es : List Ent} {as : List AV} {as' : Array Value} {h h' : Hp} {v : AV} (hM : MemoOK P f es) (e : memoA as h es = some (v, h')) (ha : VRels x w as as'.toList) (hr : HRel x h.blks.get w) (hwf : Wf h) (hf : Free x h h') :
    Calls P f as' w (fun en w' => ∃ r, en = .returned r ∧ Did x h w v h' r w') := by
  obtain ⟨en, h0, h1, h2, h3, h4, h5, h6⟩ := memoA_form e
  injection h6 with h6 h7
  subst h6; subst h7
  rw [← sames_eq h2] at ha
  have hsub : ∀ n b, hmL en.pre n = some b → h.blks.get n = some b := fun n b hb => holdsB_spec h3 n b (hmL_mem hb)
  refine Calls.mono (hM.2 en h0 x w as' ha (hr.sub hsub) (fun n hn hn2 => hf n (by omega) hn2) (fun n b hb => by rw [h1]; exact hwf n b (holdsB_spec h3 n b hb))) (fun e' w' hh => ?_)
  obtain ⟨r, rfl, y, e1, r1, v1⟩ := hh
  rw [h1] at e1
  have hk : ∀ n b, (putL (delL h.blks en.pre) en.post).get n = some b → hmL en.post n = some b ∨ (hmL en.pre n = none ∧ hmL en.post n = none ∧ h.blks.get n = some b) := by
    intro n b hb
    cases hp : hmL en.post n with
    | some c =>
      left
      have hc : ∀ (l : List (Nat × Blk)) (t t' : Tr Blk), (putL t l).get n = some b → (putL t' l).get n = some c → (∃ d, (n, d) ∈ l) → b = c := by
        intro l
        induction l with
        | nil => intro t t' _ _ hd; obtain ⟨d, hd⟩ := hd; cases hd
        | cons p l ih =>
          intro t t' q1 q2 hd
          obtain ⟨m, d⟩ := p
          by_cases hml : ∃ d, (n, d) ∈ l
          · exact ih _ _ q1 q2 hml
          · have hmn : n = m := by
              obtain ⟨d', hd'⟩ := hd
              rcases List.mem_cons.1 hd' with e | e
              · injection e
              · exact absurd ⟨d', e⟩ hml
            subst hmn
            simp only [putL] at q1 q2
            rcases putL_get q1 with q1 | ⟨_, q1⟩
            · exact absurd ⟨_, q1⟩ hml
            rcases putL_get q2 with q2 | ⟨_, q2⟩
            · exact absurd ⟨_, q2⟩ hml
            rw [Tr.get_put, if_pos rfl] at q1 q2
            rw [← Option.some.inj q1, ← Option.some.inj q2]
      exact congrArg some (hc en.post _ _ hb hp ⟨c, hmL_mem hp⟩).symm
    | none =>
      right
      have hno : ∀ c, (n, c) ∉ en.post := by
        intro c hc
        have key : ∀ (l : List (Nat × Blk)) (t : Tr Blk), (∃ c, (n, c) ∈ l) → ∃ d, (putL t l).get n = some d := by
          intro l
          induction l with
          | nil => intro t ⟨c, hc⟩; cases hc
          | cons p l ih =>
            intro t hd
            obtain ⟨m, d⟩ := p
            by_cases hml : ∃ c, (n, c) ∈ l
            · exact ih _ hml
            · have hmn : n = m := by
                obtain ⟨d', hd'⟩ := hd
                rcases List.mem_cons.1 hd' with e | e
                · injection e
                · exact absurd ⟨d', e⟩ hml
              subst hmn
              have keep : ∀ (l : List (Nat × Blk)) (t : Tr Blk), (¬ ∃ c, (n, c) ∈ l) → (putL t l).get n = t.get n := by
                intro l
                induction l with
                | nil => intro t _; rfl
                | cons p l ih =>
                  intro t hn
                  obtain ⟨m, d⟩ := p
                  simp only [putL]
                  rw [ih _ (fun ⟨c, hc⟩ => hn ⟨c, List.mem_cons_of_mem _ hc⟩), Tr.get_put, if_neg]
                  rintro rfl
                  exact hn ⟨d, List.mem_cons_self⟩
              exact ⟨d, by simp only [putL]; rw [keep _ _ hml, Tr.get_put, if_pos rfl]⟩
        obtain ⟨d, hd⟩ := key en.post .lf ⟨c, hc⟩
        rw [show hmL en.post n = (putL .lf en.post).get n from rfl, hd] at hp
        cases hp
      rcases putL_get hb with hb | ⟨_, hb⟩
      · exact absurd hb (hno b)
      · obtain ⟨q1, q2⟩ := delL_get hb
        refine ⟨?_, rfl, q1⟩
        cases hq : hmL en.pre n with
        | none => rfl
        | some c => exact absurd (hmL_mem hq) (q2 c)
  refine ⟨r, rfl, y, ⟨e1.m, e1.κ, e1.mo, e1.F, e1.Fn, e1.τ, e1.os, e1.tape, e1.output, e1.size, fun c hc hn => e1.fr c hc (fun n b hb => hn n b (hsub n b hb)), fun n b c hb hx => ?_⟩, Ext.frame e1 hr hsub r1 hk, v1⟩
  rcases hk n b hb with q | ⟨_, _, q⟩
  · rcases e1.im n b c q hx with ⟨n', b', q1, q2⟩ | q
    · exact .inl ⟨n', b', hsub _ _ q1, q2⟩
    · exact .inr q
  · obtain ⟨c', k1, _⟩ := hr.blk n b q
    have := e1.m _ _ k1
    rw [hx] at this
    cases this
    exact .inl ⟨n, b, q, k1⟩
/-- a body run -/
theorem bodyS_of {n : Nat} (hc : CodeS P Sg n) {f : FuncId} {fn : Func} {c : Code} {as : List AV} {h : Hp} {v : AV} {h' : Hp} {x : Cx} {w : World} {as' : Array Value} (hfn : P.funcs[f]? = some fn) (hcb : fn.body = some c)
    (e : (match code P Sg n c ⟨args0 0 as .lf, max fn.ntmps as.length, h, [], false⟩ with
      | some (.normal, s) | some (.ret, s) => match shutA s.df s.hp with
        | some h' => (resA P h' s.tm fn.results.toList).map fun l => (one l, h')
        | none => none
      | _ => none) = some (v, h')) (ha : VRels x w as as'.toList) (hr : HRel x h.blks.get w) (hwf : Wf h) (hf : Free x h h') : Calls P f as' w (fun e w' => ∃ r, e = .returned r ∧ Did x h w v h' r w') := by
  have hlen := ha.length
  rw [Array.length_toList] at hlen
  have hs : SRel x w ⟨args0 0 as .lf, max fn.ntmps as.length, h, [], false⟩ { tmps := as' ++ Array.replicate (fn.ntmps - as'.size) undef, defers := [] } :=
    ⟨args_rel ha _, by simp only [Array.size_append, Array.size_replicate]; omega, trivial, hr⟩
  refine callsIn_wide.1 (callsIn_of_wp_marks (F := Fence.wide) (n := 0) hfn hcb trivial ?_)
  have fin : ∀ (ex : Ex) (s1 : St), code P Sg n c ⟨args0 0 as .lf, max fn.ntmps as.length, h, [], false⟩ = some (ex, s1) → ex.out = .normal ∨ ex.out = .ret → (match shutA s1.df s1.hp with
      | some h' => (resA P h' s1.tm fn.results.toList).map fun l => (one l, h')
      | none => none) = some (v, h') →
      c.wpIn (fen none) 0 P (bodyPostM Fence.wide 0 P fn fun e w' => ∃ r, e = .returned r ∧ Did x h w v h' r w') { tmps := as' ++ Array.replicate (fn.ntmps - as'.size) undef, defers := [] } w := by
    intro ex s1 h1 hex e
    split at e
    · rename_i hE hsh
      obtain ⟨vs, hvs, h2⟩ := Option.map_eq_some_iff.1 e
      injection h2 with e1 e2
      subst e1; subst e2
      have hg := shut_grow hsh
      refine hc _ _ _ _ _ _ h1 hs hwf (hf.sub hg.1) none rfl _ (fun a1 w1 hw => ?_)
      obtain ⟨y, e1, hs1⟩ := hw
      have hgr := (grows (P := P) (Sg := Sg) n).1 _ _ _ h1
      have hL : LeavesInM (fen none) 0 P fn a1.tmps (fun e w' => ∃ r, e = .returned r ∧ Did x h w (one vs) hE r w') a1.defers .returning w1 :=
        leaves_of hvs hsh hs1.df hs1.hp hs1.tm (fun w' r q1 q2 q3 => ⟨r, rfl, y, e1.trans q1 hgr.1 hg.1, q2, q3⟩)
      rcases hex with hex | hex <;> simp only [hex] <;> exact hL
    · cases e
  split at e
  · rename_i s1 h1; exact fin _ _ h1 (.inl rfl) e
  · rename_i s1 h1; exact fin _ _ h1 (.inr rfl) e
  · cases e
theorem callS_of {n : Nat} (hS : Sound P Sg) (hc : CodeS P Sg n) : CallS P Sg (n + 1) := by
  intro f as h v h' x w as' e ha hr hwf hf
  simp only [call] at e
  split at e
  · rename_i sp hsp
    split at e
    · rename_i v1 hv
      injection e with e
      injection e with e1 e2
      subst e1; subst e2
      exact (hS.spec _ _ hsp).2 _ _ _ _ _ _ hv ha hr
    · cases e
  · rename_i es hes
    exact memo_sim (hS.memo _ _ hes) e ha hr hwf hf
  · cases e
  · cases e
  · split at e
    · rename_i fn hfn
      split at e
      · rename_i c hcb
        exact bodyS_of hc hfn hcb e ha hr hwf hf
      · cases e
    · cases e
theorem setL_rel {nt : Nat} : ∀ {ds : List Tmp} {vs : List AV} {us : List Value} {tm : Tr AV} {tmps : Array Value}, VRels x w vs us → (∀ t, VRel x w ((tm.get t).getD (.tup [])) (tmps.getD t undef)) → tmps.size = nt →
    (∀ t, VRel x w (((setL tm nt ds vs).get t).getD (.tup [])) (((ds.zip us).foldl (fun tmps (t, a) => tmps.setIfInBounds t a) tmps).getD t undef)) ∧ ((ds.zip us).foldl (fun tmps (t, a) => tmps.setIfInBounds t a) tmps).size = nt
  | [], _, _, _, _, _, h, hn => ⟨by simpa [setL] using h, by simpa using hn⟩
  | _ :: _, _, _, _, _, .nil, h, hn => ⟨by simpa [setL] using h, by simpa using hn⟩
  | d :: ds, _, _, tm, tmps, .cons v u vs us hv hvs, h, hn => by
    have := put_rel (a := { tmps := tmps, defers := [] }) (d := some d) h hn hv
    exact setL_rel (tm := putT tm nt (some d) v) (tmps := tmps.setIfInBounds d u) hvs this (by simpa using hn)
theorem roundS_of {n : Nat} (hc : CodeS P Sg n) : RoundS P Sg (n + 1) := by
  intro n0 as h v h' x w c rc as' e hm hrc ha hsz hr hwf hf l
  simp only [round] at e
  split at e
  · rename_i st pd tm nt ps asn body hb
    obtain ⟨c', k1, ⟨rc', k2, k3, k4, k5, k6, k7, k8, k9⟩, _⟩ := hr.blk _ _ hb
    rw [hm] at k1; cases k1
    rw [hrc] at k2; cases k2
    split at e
    · rename_i s1 h1
      split at e
      · rename_i pd1 tm1 nt1 ps1 asn1 body1 hb1
        split at e
        · rename_i ex s2 h2
          split at e
          · rename_i st2 pd2 tm2 nt2 ps2 asn2 body2 hb2
            injection e with e
            injection e with e1 e2
            subst e1; subst e2
            have g1 := (grows (P := P) (Sg := Sg) n).1 _ _ _ h1
            have g2 := (grows (P := P) (Sg := Sg) n).1 _ _ _ h2
            have hz : ((rc.params.zip as').foldl (fun tmps (t, a) => tmps.setIfInBounds t a) rc.tmps) = ((ps.toList.zip as'.toList).foldl (fun tmps (t, a) => tmps.setIfInBounds t a) rc.tmps) := by
              rw [← k5, ← Array.foldl_toList, Array.toList_zip]
            have hset := setL_rel (ds := ps.toList) ha k9 k8
            rw [hz]
            refine roundIn_of_wpIn (fen_fn l _) ?_
            rw [fen_in, k6, k7]
            have hs0 : SRel x w ⟨setL tm nt ps.toList as, nt, h, [], true⟩ { tmps := (ps.toList.zip as'.toList).foldl (fun tmps (t, a) => tmps.setIfInBounds t a) rc.tmps, defers := [] } := ⟨hset.1, hset.2, trivial, hr⟩
            refine hc _ _ _ _ _ _ h1 hs0 hwf (hf.sub g2.1) (some c) rfl _ (fun a1 w1 hw => ?_)
            obtain ⟨y, e1, hs1⟩ := hw
            have m1 := e1.m _ _ hm
            obtain ⟨c1, j1, ⟨rc1, j2, j3, j4, j5, j6, j7, j8, j9⟩, _⟩ := hs1.hp.blk _ _ hb1
            rw [m1] at j1; cases j1
            refine ⟨_, run_beginRound j2 j3, ?_⟩
            obtain ⟨q1, q2⟩ := setObj_sim (b' := .loop .busy pd1 tm1 nt1 ps1 asn1 body1) (o := .loop { rc1 with state := .busy }) hb1 hs1.hp m1 (fun u hmo hu => ⟨_, hu, rfl, j4, j5, j6, j7, j8, fun t => (j9 t).mono hmo⟩)
            have hs1' : SRel y (World.setO w1 c (.loop { rc1 with state := .busy })) ⟨s1.tm, s1.nt, s1.hp.set n0 (.loop .busy pd1 tm1 nt1 ps1 asn1 body1), s1.df, s1.rd⟩ a1 :=
              ⟨fun t => (hs1.tm t).mono (q1.mono hs1.hp), hs1.nt, hs1.df, q2⟩
            have hrd1 : s1.rd = true := (rds (P := P) (Sg := Sg) n).1 _ _ _ h1
            have ex1 : Ext x h.blks.get h.next w y (s1.hp.set n0 (.loop .busy pd1 tm1 nt1 ps1 asn1 body1)).blks.get s1.hp.next (World.setO w1 c (.loop { rc1 with state := .busy })) := e1.trans q1 g1.1 (Nat.le_refl _)
            refine hc _ _ _ _ _ _ h2 hs1' ((grow_set hb1).2 (g1.2 hwf)) (Free.next (h1 := s1.hp.set n0 (.loop .busy pd1 tm1 nt1 ps1 asn1 body1)) hf ex1 g1.1) (some c) (by rw [hrd1]; rfl) _ (fun a2 w2 hw2 => ?_)
            obtain ⟨z, e2, hs2⟩ := hw2
            have m2 := e2.m _ _ m1
            obtain ⟨c2, i1, ⟨rc2, i2, i3, i4, i5, i6, i7, i8, i9⟩, _⟩ := hs2.hp.blk _ _ hb2
            rw [m2] at i1; cases i1
            have fin : ∀ j : Option Code, j = jumpOf ex → ∃ v w', (Instr.endRound c j).run P w2 = .ok v w' ∧ ∃ r, (Ending.returned v) = .returned r ∧ Did x h w (.bool (jumpOf ex).isNone) (s2.hp.set n0 (.loop (if (jumpOf ex).isNone then .ready else .done) (jumpOf ex) tm2 nt2 ps2 asn2 body2)) r w' := by
              rintro j rfl
              refine ⟨_, _, run_endRound _ i2, _, rfl, ?_⟩
              obtain ⟨p1, p2⟩ := setObj_sim (b' := .loop (if (jumpOf ex).isNone then .ready else .done) (jumpOf ex) tm2 nt2 ps2 asn2 body2) (o := .loop { rc2 with state := if (jumpOf ex).isNone then .ready else .done, pending := jumpOf ex }) hb2 hs2.hp m2 (fun u hmo hu => ⟨_, hu, rfl, rfl, i5, i6, i7, i8, fun t => (i9 t).mono hmo⟩)
              exact ⟨z, (ex1.trans e2 g1.1 g2.1).trans p1 (Nat.le_trans g1.1 g2.1) (Nat.le_refl _), p2, .bool _⟩
            cases ex
            · exact fin none rfl
            · exact fin _ rfl
            · exact fin _ rfl
          · cases e
        · cases e
      · cases e
    · cases e
  · cases e
end
end Go.Abs
