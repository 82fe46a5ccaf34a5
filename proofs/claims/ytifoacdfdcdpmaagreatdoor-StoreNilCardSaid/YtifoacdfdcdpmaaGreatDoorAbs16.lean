/- What is proved: a part of the proof of the tied card of StoreNil (text Abs16 of it). Conditions: those that its theorems name. -/
import Derived.Test.YtifoacdfdcdpmaaGreatDoorAbs15
import Derived.Calls
import Derived.LoopN
import Derived.Tactics
import Derived.Orders
set_option linter.unusedVariables false
set_option linter.unusedSimpArgs false
namespace Go.Abs
variable {P : Program} {Sg : FuncId → Option Sp} {x : Cx} {w : World}
structure SRel (x : Cx) (w : World) (s : St) (a : Act) : Prop where
  tm : ∀ t, VRel x w ((s.tm.get t).getD (.tup [])) (a.tmps.getD t undef)
  nt : a.tmps.size = s.nt
  df : a.defers = []
  hp : HRel x s.hp.blks.get w
def Went (x : Cx) (s : St) (w : World) (s' : St) (a' : Act) (w' : World) : Prop :=
  ∃ y, Ext x s.hp.blks.get s.hp.next w y s'.hp.blks.get s'.hp.next w' ∧ SRel y w' s' a'
def Free (x : Cx) (h h' : Hp) : Prop := ∀ n, h.next ≤ n → n < h'.next → x.m n = none
def Ex.out : Ex → Exit
  | .normal => .normal
  | .exit i => .exit i
  | .ret => .ret
def SpecOK (P : Program) (f : FuncId) (sp : List AV → Hp → Option AV) : Prop :=
  Enters P f ∧ ∀ (x : Cx) (w : World) (h : Hp) (as : List AV) (as' : Array Value) (v : AV), sp as h = some v → VRels x w as as'.toList → HRel x h.blks.get w →
    Calls P f as' w (fun e w' => ∃ r, e = .returned r ∧ Did x h w v h r w')
/-- a function without Go text -/
def ExtOK (P : Program) (f : FuncId) (sp : List AV → Option AV) : Prop := ∀ (x : Cx) (w : World) (as : List AV) (as' : Array Value) (v : AV), sp as = some v → VRels x w as as'.toList →
    ∃ r, (callFunc f as').run P w = .ok (.value r) w ∧ VRel x w v r
structure Sound (P : Program) (Sg : FuncId → Option Sp) : Prop where
  names : ∀ (f : FuncId) (fn : Func), P.funcs[f]? = some fn → fn.body.isNone = false → (fn.name == "runtime.NumGoroutine") = false
  spec : ∀ f sp, Sg f = some (.fn sp) → SpecOK P f sp
  ext : ∀ f sp, Sg f = some (.ext sp) → ExtOK P f sp
  mixed : P.follows .mixedOrders = true
def OpS (P : Program) (Sg : FuncId → Option Sp) (n : Nat) : Prop := ∀ (tm : Tr AV) (h : Hp) (o : Oper) (v : AV) (h' : Hp) (x : Cx) (w : World) (a : Act), opC P Sg n tm h o.op = some (v, h') → ER x w tm a.eval o.op.operands.toList →
  HRel x h.blks.get w → Wf h → Free x h h' → ∀ K Q, (∀ r w', Did x h w v h' r w' → K (a.put o.dst r) w') → o.wp P a w K Q
def CallS (P : Program) (Sg : FuncId → Option Sp) (n : Nat) : Prop := ∀ (f : FuncId) (as : List AV) (h : Hp) (v : AV) (h' : Hp) (x : Cx) (w : World) (as' : Array Value), call P Sg n f as h = some (v, h') → VRels x w as as'.toList →
  HRel x h.blks.get w → Wf h → Free x h h' → Calls P f as' w (fun e w' => ∃ r, e = .returned r ∧ Did x h w v h' r w')
def CodeS (P : Program) (Sg : FuncId → Option Sp) (n : Nat) : Prop := ∀ (c : Code) (s : St) (r : Ex × St) (x : Cx) (w : World) (a : Act), code P Sg n c s = some r → SRel x w s a → Wf s.hp → Free x s.hp r.2.hp →
  ∀ Q, (∀ a' w', Went x s w r.2 a' w' → Q r.1.out a' w') → c.wp P Q a w
def LoopS (P : Program) (Sg : FuncId → Option Sp) (n : Nat) : Prop := ∀ (c : Code) (s : St) (r : Ex × St) (x : Cx) (w : World) (a : Act), code P Sg n (.loop c) s = some r → SRel x w s a → Wf s.hp → Free x s.hp r.2.hp →
  ∀ Q, (∀ a' w', Went x s w r.2 a' w' → Q r.1.out a' w') → Code.rounds P c Q n a w
def ListS (P : Program) (Sg : FuncId → Option Sp) (n : Nat) : Prop := ∀ (ops : Array Oper) (l : List Oper) (s s' : St) (x : Cx) (w : World) (a : Act), opsR P Sg n ops l s = some s' → SRel x w s a → Wf s.hp → Free x s.hp s'.hp →
  ∀ Q, (∀ a' w', Went x s w s' a' w' → Q .normal a' w') → wpList P ops Q l a w
def DrawS (P : Program) (Sg : FuncId → Option Sp) (n : Nat) : Prop := ∀ (ops : Array Oper) (ord : List Nat) (s s' : St) (recs : List (Nat × Rc)) (x : Cx) (w : World) (a : Act), opsD P Sg n ops ord s = some (recs, s') → okR ops ord = true →
  recs.all (chkRd P ops (preds ops ord []) (snapsOf recs [] s.hp)) = true → Wf s.hp → SRel x w s a → Free x s.hp s'.hp →
  ∀ Q, (∀ a' w', Went x s w s' a' w' → Q .normal a' w') → wpAny P .any ops Q ops.size (Array.replicate ops.size false) a w

theorem srel_eval {s : St} {a : Act} (h : SRel x w s a) (ys : List Operand) : ER x w s.tm a.eval ys := by
  intro y _ v hv
  cases y with
  | tmp t => simp only [evalO] at hv; injection hv with hv; subst hv; exact h.tm t
  | const c => exact ofValue_rel hv
  | func f => simp only [evalO] at hv; injection hv with hv; subst hv; exact .func _ _ _ _ _ .nil .nil
  | global g => cases hv
theorem bool_of_getD {a : Array Value} {d : Nat} {b : Bool} (h : a.getD d undef = .bool b) : a[d]? = some (.bool b) := by
  rw [Array.getD_eq_getD_getElem?] at h
  cases e : a[d]? with
  | none => rw [e] at h; cases h
  | some v => rw [e] at h; simp at h; rw [h]
theorem not_bool_of_getD {a : Array Value} {d : Nat} {c : Array Value} (h : a.getD d undef = .tuple c) : ∀ b, a[d]? ≠ some (.bool b) := by
  intro b e
  rw [Array.getD_eq_getD_getElem?, e] at h
  cases h
theorem wanted_gen {ops : Array Oper} {o : Oper} {tm : Tr AV} {tmps : Array Value} {b : Bool} (h : ∀ g, o.guard = some g → ∀ d, (ops[g.1]?).bind (·.dst) = some d → VRel x w ((tm.get d).getD (.tup [])) (tmps.getD d undef)) (e : wantedA ops tm o.guard = some b) :
    Region.wanted o (yielded ops tmps) = b := by
  unfold wantedA at e
  unfold Region.wanted
  cases hg : o.guard with
  | none => rw [hg] at e; injection e
  | some g =>
    obtain ⟨j, want⟩ := g
    have hh := h _ hg
    rw [hg] at e
    simp only [] at e ⊢
    cases ho : ops[j]? with
    | none => rw [ho] at e; cases e
    | some oj =>
      rw [ho] at e
      simp only [] at e
      cases hd : oj.dst with
      | none => rw [hd] at e; cases e
      | some d =>
        rw [hd] at e
        simp only [] at e
        have := hh d (by simp [ho, hd])
        cases hv : tm.get d with
        | none => rw [hv] at e; cases e
        | some v =>
          rw [hv] at e this
          simp only [Option.getD_some] at this
          cases v <;> simp only [] at e <;> (try (cases e; done))
          · rename_i c
            injection e with e
            generalize hp : tmps.getD d undef = p at this
            cases this
            rw [← e]
            simp [yielded, ho, hd, bool_of_getD hp]
          · injection e with e
            generalize hp : tmps.getD d undef = p at this
            cases this
            rw [← e]
            have := not_bool_of_getD hp
            have hy : yielded ops tmps j = none := by
              unfold yielded
              simp only [ho, hd, Option.bind_some]
            rw [hy]
            cases want <;> rfl
theorem srel_wanted {ops : Array Oper} {o : Oper} {s : St} {a : Act} {b : Bool} (h : SRel x w s a) (e : wantedA ops s.tm o.guard = some b) : Region.wanted o (yielded ops a.tmps) = b :=
  wanted_gen (fun _ _ d _ => h.tm d) e
theorem put_rel {tm : Tr AV} {a : Act} {nt : Nat} {d : Option Tmp} {v : AV} {r : Value} (h : ∀ t, VRel x w ((tm.get t).getD (.tup [])) (a.tmps.getD t undef)) (hn : a.tmps.size = nt) (hv : VRel x w v r) :
    ∀ t, VRel x w (((putT tm nt d v).get t).getD (.tup [])) ((a.put d r).tmps.getD t undef) := by
  intro t
  cases d with
  | none => exact h t
  | some d =>
    simp only [putT, Act.put]
    by_cases hd : d < nt
    · rw [if_pos hd]
      by_cases ht : t = d
      · subst ht
        rw [Tr.get_put, if_pos rfl]
        simpa [Array.getD_eq_getD_getElem?, Array.getElem?_setIfInBounds, hn, hd] using hv
      · rw [Tr.get_put, if_neg ht]
        have := h t
        simpa [Array.getD_eq_getD_getElem?, Array.getElem?_setIfInBounds_ne (Ne.symm ht)] using this
    · rw [if_neg hd]
      have := h t
      have e : a.tmps.setIfInBounds d r = a.tmps := by
        apply Array.ext_getElem?
        intro i
        rw [Array.getElem?_setIfInBounds]
        split
        · rename_i hi
          subst hi
          rw [← hn] at hd
          rw [if_neg hd, Array.getElem?_eq_none (Nat.le_of_not_lt hd)]
        · rfl
      rw [e]
      exact this
theorem put_size (a : Act) (d : Option Tmp) (r : Value) : (a.put d r).tmps.size = a.tmps.size := by cases d <;> simp [Act.put]
theorem put_defers (a : Act) (d : Option Tmp) (r : Value) : (a.put d r).defers = a.defers := by cases d <;> rfl
/-- one operation done -/
theorem Did.srel {s : St} {a : Act} {v : AV} {h' : Hp} {d : Option Tmp} {r : Value} {w' : World} (h : SRel x w s a) (hd : Did x s.hp w v h' r w') :
    Went x s w ⟨putT s.tm s.nt d v, s.nt, h'⟩ (a.put d r) w' := by
  obtain ⟨y, e, k, l⟩ := hd
  have hm := e.mono h.hp
  exact ⟨y, e, put_rel (fun t => (h.tm t).mono hm) h.nt l, by rw [put_size]; exact h.nt, by rw [put_defers]; exact h.df, k⟩
theorem Went.trans {s s1 s2 : St} {y : Cx} {w1 w2 : World} {a2 : Act} (h : Ext x s.hp.blks.get s.hp.next w y s1.hp.blks.get s1.hp.next w1) (k : Went y s1 w1 s2 a2 w2) (h01 : s.hp.next ≤ s1.hp.next) (h12 : s1.hp.next ≤ s2.hp.next) : Went x s w s2 a2 w2 := by
  obtain ⟨z, e, r⟩ := k
  exact ⟨z, h.trans e h01 h12, r⟩
theorem Free.next {h h1 h2 : Hp} {y : Cx} {hm hm' : HM} {w1 : World} (hf : Free x h h2) (e : Ext x hm h.next w y hm' h1.next w1) (h01 : h.next ≤ h1.next) : Free y h1 h2 := by
  intro n hn hn2
  rw [e.mo n (.inr hn)]
  exact hf n (by omega) hn2
theorem Free.sub {h h1 h2 : Hp} (hf : Free x h h2) (h12 : h1.next ≤ h2.next) : Free x h h1 := fun n hn hn2 => hf n hn (by omega)
theorem call_enters {n : Nat} {f : FuncId} {as : List AV} {h : Hp} {r : AV × Hp} (hS : Sound P Sg) (e : call P Sg n f as h = some r) : Enters P f := by
  cases n with
  | zero => simp [call] at e
  | succ n =>
    simp only [call] at e
    split at e
    · rename_i sp hsp
      exact (hS.spec _ _ hsp).1
    · cases e
    · split at e
      · rename_i fn hfn
        split at e
        · rename_i c hc
          exact ⟨fn, hfn, by rw [hc]; rfl, hS.names f fn hfn (by rw [hc]; rfl)⟩
        · cases e
      · cases e
theorem opS_of {n : Nat} (hS : Sound P Sg) (hc : CallS P Sg n) : OpS P Sg (n + 1) := by
  intro tm h o v h' x w a e he hr hwf hf K Q hK
  simp only [opC] at e
  cases ha : opA P tm h o.op with
  | none => rw [ha] at e; cases e
  | some nx =>
    rw [ha] at e
    cases nx with
    | val v1 h1 =>
      injection e with e
      injection e with e1 e2
      subst e1; subst e2
      obtain ⟨r, w', r1, u, rfl, r2⟩ := opA_sim ha he hr hf (fun _ _ _ h => by cases h)
      unfold Oper.wp
      rw [r1, Oper.upon_value]
      exact hK _ _ r2
    | skip h1 =>
      injection e with e
      injection e with e1 e2
      subst e1; subst e2
      obtain ⟨r, w', r1, rfl, r2⟩ := opA_sim ha he hr hf (fun _ _ _ h => by cases h)
      unfold Oper.wp
      rw [r1, Oper.upon_skip]
      exact hK _ _ r2
    | enter f as h1 =>
      simp only [] at e
      have hgr := opA_grow ha
      split at e
      · rename_i sp hsp
        obtain ⟨u, h2, h3⟩ := Option.map_eq_some_iff.1 e
        injection h3 with e1 e2
        subst e1; subst e2
        obtain ⟨rfl, as', k1, k2⟩ := opA_enter ha he
        obtain ⟨r, k3, k4⟩ := hS.ext _ _ hsp _ _ _ _ _ h2 k2
        unfold Oper.wp
        rw [k1, k3, Oper.upon_value]
        exact hK _ _ (Did.same hr k4)
      have hen := call_enters hS e
      have g5 := (grows (P := P) (Sg := Sg) n).2.2.2.2 _ _ _ _ e
      obtain ⟨r, w', r1, as', rfl, rfl, rfl, r2⟩ := opA_sim ha he hr (fun k hn hn2 => hf k hn (Nat.lt_of_lt_of_le hn2 g5.1)) (fun f' as2 h2 h => by injection h with h _ _; rw [← h]; exact hen)
      unfold Oper.wp
      rw [r1, Oper.upon_enter]
      refine Calls.mono (hc _ _ _ _ _ _ _ _ e r2 hr hwf hf) (fun e' w'' hh => ?_)
      obtain ⟨r, rfl, hd⟩ := hh
      exact hK _ _ hd
theorem listS_of {n : Nat} (ho : OpS P Sg n) (hl : ListS P Sg n) : ListS P Sg (n + 1) := by
  intro ops l s s' x w a e hs hwf hf Q hQ
  cases l with
  | nil =>
    simp only [opsR] at e
    injection e with e
    subst e
    exact hQ _ _ ⟨x, Ext.refl, hs⟩
  | cons o l =>
    simp only [opsR] at e
    unfold wpList
    split at e
    · rename_i hw
      rw [srel_wanted hs hw]
      simp only [if_true]
      split at e
      · rename_i v h' h1
        have g1 := (grows (P := P) (Sg := Sg) n).2.2.2.1 _ _ _ _ h1
        have g2 := (grows (P := P) (Sg := Sg) n).2.1 _ _ _ _ e
        refine .inl (ho _ _ _ _ _ _ _ _ h1 (srel_eval hs _) hs.hp hwf (hf.sub g2.1) _ _ (fun r w' hd => ?_))
        obtain ⟨y, e1, hs1⟩ := hd.srel (d := o.dst) hs
        exact hl _ _ _ _ _ _ _ e hs1 (g1.2 hwf) (hf.next e1 g1.1) Q (fun a' w' hw' => hQ _ _ (Went.trans (s1 := ⟨_, _, h'⟩) e1 hw' g1.1 g2.1))
      · cases e
    · rename_i hw
      rw [srel_wanted hs hw]
      simp only [Bool.false_eq_true, if_false]
      obtain ⟨y, e1, hs1⟩ := (Did.same hs.hp (v := .tup []) (r := undef) undef_rel).srel (d := o.dst) hs
      have g2 := (grows (P := P) (Sg := Sg) n).2.1 _ _ _ _ e
      exact hl _ _ _ _ _ _ _ e hs1 hwf (hf.next e1 (Nat.le_refl _)) Q (fun a' w' hw' => hQ _ _ (Went.trans (s1 := ⟨_, _, s.hp⟩) e1 hw' (Nat.le_refl _) g2.1))
    · cases e
end Go.Abs
