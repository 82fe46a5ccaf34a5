/- What is proved: a part of the proof of the tied card of TxnEnds (text G12 of it). Conditions: those that its theorems name. -/
import Derived.Test.YtmdlgcmjemdfnaaGreatDoorG11
import Derived.Test.YtmdlgcmjemdfnaaGreatDoorG1
import Derived.Laws.Externs
import Derived.ChangeArms
import Derived.ChangeOld
import Derived.DataReads
set_option linter.unusedVariables false
set_option linter.unusedSimpArgs false
set_option linter.unusedSectionVars false
namespace Go.Abs
variable [Bnd]
theorem esc_ok {P : Program} {f : FuncId} {fn : Func} (hf : P.funcs[f]? = some fn) (h1 : (fn.name == "runtime.NumGoroutine") = false) (h2 : fn.body.isNone = true) (h3 : Extern.findNext fn = none) (h4 : Extern.find fn = some Extern.AbiNoEscape.same) : ExtOK P f escX := by
  intro x w ar ar' v h hr
  unfold escX at h
  split at h
  · injection h with h
    subst h
    obtain ⟨l⟩ := ar'
    match l, hr with
    | [p], .cons _ _ _ _ hp _ =>
      refine ⟨p, ?_, hp⟩
      rw [run_callFunc_extern hf h1 h2 h3 h4]
      rfl
  · cases h
theorem cmp_ok {P : Program} {f : FuncId} {fn : Func} (hf : P.funcs[f]? = some fn) (h1 : (fn.name == "runtime.NumGoroutine") = false) (h2 : fn.body.isNone = true) (h3 : Extern.findNext fn = none) (h4 : Extern.find fn = some Extern.BytealgCompare.compare) : ExtOK P f cmpX := by
  intro x w ar ar' v h hr
  unfold cmpX at h
  split at h
  · injection h with h
    subst h
    obtain ⟨l⟩ := ar'
    match l, hr with
    | [p, q], .cons _ _ _ _ hp (.cons _ _ _ _ hq _) =>
      cases hp with | str s _ e1 => cases hq with | str s' _ e2 =>
      refine ⟨_, ?_, .int _ _⟩
      rw [run_callFunc_extern hf h1 h2 h3 h4, Lib.run_compareString, e1, e2]
      rfl
  · cases h
theorem mapc_ok {P : Program} {f : FuncId} {fn : Func} (hf : P.funcs[f]? = some fn) (h1 : (fn.name == "runtime.NumGoroutine") = false) (h2 : fn.body.isNone = true) (h3 : Extern.findNext fn = none) (h4 : Extern.find fn = some Extern.MapsClone.clone) : MapcOK P f := by
  intro ar w w' v h
  rw [run_callFunc_extern hf h1 h2 h3 h4, h]
  rfl
/-- fields that take one cell each, none a struct, none an array -/
def flatB (P : Program) (fs : Array Field) : Bool := (List.range fs.size).all fun i => match fs[i]? with
  | some f => f.offset == i && P.cellsOf f.type == 1 && (match P.underlying f.type with
    | some (.struct _) => false
    | some (.array _ _) => false
    | some _ => true
    | none => false)
  | none => false
theorem trod_one {H : Type} {enc : TypeId × Value → H} {P : Program} {w : World} {base : Nat} {spare : Nat → Bool} {held : Bool} {fuel : Nat} {t : TypeId} {v : Value} {x : DataW H × List MemPlace} (h : DataW.trod enc P w base spare held fuel t [v] = some x)
    (hns : ∀ fs, P.underlying t ≠ some (.struct fs)) (hna : ∀ n e, P.underlying t ≠ some (.array n e)) : v.oneCell' = true := by
  cases fuel with
  | zero => simp [DataW.trod] at h
  | succ n =>
    unfold DataW.trod at h
    split at h
    all_goals first
      | rfl
      | (exact absurd (by assumption) (hns _))
      | (exact absurd (by assumption) (hna _ _))
      | (cases h; done)
      | (rename_i heq; injection heq with e1 e2; subst e1; rfl)
      | skip
theorem struct_cells {H : Type} {enc : TypeId × Value → H} {P : Program} {w : World} {base : Nat} {spare : Nat → Bool} {held : Bool} {t : TypeId} {cs : Array Value} {d : DataW H} {ps : List MemPlace} {fs : Array Field} (ht : P.underlying t = some (.struct fs)) (hf : flatB P fs = true) (hsz : cs.size = fs.size)
    (h : DataW.Trod enc P w base spare held t (.agg cs) d ps) : ∀ v ∈ cs.toList, v.oneCell' = true := by
  obtain ⟨fuel, h⟩ := h
  obtain ⟨xs, n, _, _, hcl, hlen, hg⟩ := DataW.trod_struct ht h
  intro v hv
  obtain ⟨i, hi, rfl⟩ := List.getElem_of_mem hv
  have hi2 : i < fs.size := by rw [Array.length_toList] at hi; omega
  have hfi : fs[i]? = some fs[i] := Array.getElem?_eq_getElem hi2
  have hb := List.all_eq_true.1 hf i (List.mem_range.2 hi2)
  rw [hfi] at hb
  simp only [Bool.and_eq_true, beq_iff_eq] at hb
  obtain ⟨⟨ho, hc⟩, hu⟩ := hb
  have h1 := hg i _ hfi
  rw [ho, hc] at h1
  have hcs : ((Value.agg cs).cells.toList.drop i).take 1 = [cs.toList[i]] := by
    show (cs.toList.drop i).take 1 = _
    rw [List.drop_eq_getElem_cons hi]
    rfl
  rw [hcs] at h1
  obtain ⟨y, hy⟩ : ∃ y, xs[i]? = some y := ⟨_, List.getElem?_eq_getElem (by omega)⟩
  rw [hy] at h1
  refine trod_one h1 (fun fs' e => ?_) (fun n e' e => ?_)
  · rw [e] at hu; cases hu
  · rw [e] at hu; cases hu
end Go.Abs

namespace Go.Abs
noncomputable section
variable {P : Program} {Sg : FuncId → Option Sp} {w : World}
/-- the memory that lay there stays -/
def Low (w w' : World) : Prop := w'.os = w.os ∧ w'.tape = w.tape ∧ w'.output = w.output ∧ w.heap.size ≤ w'.heap.size ∧ ∀ c, c < w.heap.size → w'.heap[c]? = w.heap[c]?
def ownCx (F : Nat → Prop) (τ : Kn) : Cx := ⟨fun _ => none, fun _ => 0, F, τ⟩
/-- a call in a context of its own -/
theorem own_call [Bnd] (hS : Sound P Sg) {n : Nat} {f : FuncId} {as : List AV} {v : AV} {F : Nat → Prop} {τ : Kn} {as' : Array Value} (e : ((runF P Sg n).call f as ⟨.lf, 0⟩).map (·.1) = some v) (ha : VRels (ownCx F τ) w as as'.toList) (hF : ∀ c, F c → c < w.heap.size) :
    Calls P f as' w (fun en w' => ∃ r, en = .returned r ∧ Low w w' ∧ ∃ y, VRel y w' v r) := by
  obtain ⟨⟨v', h'⟩, h1, h2⟩ := Option.map_eq_some_iff.1 e
  simp only [] at h2
  subst h2
  rw [← call_run] at h1
  have hr0 : HRel (ownCx F τ) (Tr.lf : Tr Blk).get w := ⟨fun n b e => (by rw [lf_get] at e; cases e), fun n _ _ _ _ e => (by rw [lf_get] at e; cases e), hF, fun _ _ h => (by cases h)⟩
  refine Calls.mono (call_sound hS h1 ha hr0 (fun n b e => by rw [lf_get] at e; cases e) (fun _ _ _ => rfl)) (fun en w' hh => ?_)
  obtain ⟨r, rfl, y, e1, _, v1⟩ := hh
  exact ⟨r, rfl, ⟨e1.os, e1.tape, e1.output, e1.size, fun c hc => e1.fr c hc (fun n b e => by rw [lf_get] at e; cases e)⟩, y, v1⟩
/-- back into what is around -/
theorem low_did [Bnd] {x : Cx} {h : Hp} {w' : World} {v : AV} {r : Value} (hr : HRel x h.blks.get w) (hl : Low w w') (hv : VRel x w' v r) : Did x h w v h r w' := by
  obtain ⟨h1, h2, h3, h4, h5⟩ := hl
  have hmo : Mono x w x w' := ⟨fun _ _ h => h, fun _ _ _ => rfl, fun _ h => h, rfl, fun c hc => h5 c (hr.fb c hc)⟩
  refine ⟨x, ⟨fun _ _ h => h, fun _ _ _ => rfl, fun _ _ => rfl, fun _ h => h, fun _ h => .inl h, rfl, h1, h2, h3, h4, fun c hc _ => h5 c hc, fun n b c e hx => .inl ⟨n, b, e, hx⟩⟩, ⟨fun n b e => ?_, hr.inj, fun c hc => Nat.lt_of_lt_of_le (hr.fb c hc) h4, fun n c hx => Nat.lt_of_lt_of_le (hr.mb n c hx) h4⟩, hv⟩
  obtain ⟨c, k1, k2, k3⟩ := hr.blk n b e
  exact ⟨c, k1, k2.mono hmo (h5 c k2.lt), k3⟩
/-- a function's body run in a context of its own -/
theorem own_body [Bnd] (hS : Sound P Sg) {n : Nat} {f : FuncId} {fn : Func} {as : List AV} {v : AV} {F : Nat → Prop} {τ : Kn} {as' : Array Value} (hfn : P.funcs[f]? = some fn) (e : (l_fn P (runF P Sg n) fn as ⟨.lf, 0⟩).map (·.1) = some v) (ha : VRels (ownCx F τ) w as as'.toList) (hF : ∀ c, F c → c < w.heap.size) :
    Calls P f as' w (fun en w' => ∃ r, en = .returned r ∧ Low w w' ∧ ∃ y, VRel y w' v r) := by
  obtain ⟨⟨v', h'⟩, h1, h2⟩ := Option.map_eq_some_iff.1 e
  simp only [] at h2
  subst h2
  unfold l_fn at h1
  split at h1
  · rename_i c hcb
    rw [(run_eq P Sg n).1] at h1
    have hr0 : HRel (ownCx F τ) (Tr.lf : Tr Blk).get w := ⟨fun n b e => (by rw [lf_get] at e; cases e), fun n _ _ _ _ e => (by rw [lf_get] at e; cases e), hF, fun _ _ h => (by cases h)⟩
    refine Calls.mono (bodyS_of (x := ownCx F τ) (w := w) (as' := as') ((sound hS n).1) hfn hcb h1 ha hr0 (fun n b e => by rw [lf_get] at e; cases e) (fun _ _ _ => rfl)) (fun en w' hh => ?_)
    obtain ⟨r, rfl, y, e1, _, v1⟩ := hh
    exact ⟨r, rfl, ⟨e1.os, e1.tape, e1.output, e1.size, fun c hc => e1.fr c hc (fun n b e => by rw [lf_get] at e; cases e)⟩, y, v1⟩
  · cases h1
theorem body_enters [Bnd] (hS : Sound P Sg) {n : Nat} {f : FuncId} {fn : Func} {as : List AV} {v : AV} (hfn : P.funcs[f]? = some fn) (e : (l_fn P (runF P Sg n) fn as ⟨.lf, 0⟩).map (·.1) = some v) : Enters P f := by
  obtain ⟨⟨v', h'⟩, h1, h2⟩ := Option.map_eq_some_iff.1 e
  unfold l_fn at h1
  split at h1
  · rename_i c hcb
    exact ⟨fn, hfn, by rw [hcb]; rfl, hS.names f fn hfn (by rw [hcb]; rfl)⟩
  · cases h1
theorem own_enters [Bnd] (hS : Sound P Sg) {n : Nat} {f : FuncId} {as : List AV} {v : AV} (e : ((runF P Sg n).call f as ⟨.lf, 0⟩).map (·.1) = some v) : Enters P f := by
  obtain ⟨⟨v', h'⟩, h1, h2⟩ := Option.map_eq_some_iff.1 e
  rw [← call_run] at h1
  exact call_enters hS h1
theorem anys_rel [Bnd] {x : Cx} : ∀ {l : List AV} {vs : List Value}, l.length = vs.length → (∀ v ∈ vs, v.oneCell' = true) → VRels x w (l.map fun _ => .any) vs
  | [], [], _, _ => .nil
  | _ :: _, v :: vs, h, k => .cons _ _ _ _ (.any v (k v List.mem_cons_self)) (anys_rel (by simpa using h) (fun u hu => k u (List.mem_cons_of_mem _ hu)))
/-! ### slices.Clone -/
def cloneSp (S : List Ck) : List AV → Hp → Option AV := fun as _ => match as with
  | [.elt s _] => if sameC s S then some .any else none
  | [.inp _ s _] => if sameC s S then some .any else none
  | _ => none
def kn1 (v : Value) (d : Nat) : Kn := ⟨fun _ => v, 0, d⟩
theorem clone_spec [B : Bnd] (hS : Sound P Sg) {n : Nat} {f : FuncId} {S : List Ck} {v1 v2 : AV} (h1 : ((runF P Sg n).call f [.nilsl] ⟨.lf, 0⟩).map (·.1) = some v1) (h2 : ((runF P Sg n).call f [.eltN S false] ⟨.lf, 0⟩).map (·.1) = some v2) (k1 : v1.sc = true) (k2 : v2.sc = true) : SpecOK P f (cloneSp S) := by
  refine ⟨own_enters hS h1, fun x w h as as' v hv ha hr => ?_⟩
  have key : ∀ (u : Value) (d : Nat) (b : Bool), Dep x.τ.D d b → RdS x.F w d S u → Calls P f #[u] w (fun e w' => ∃ r, e = .returned r ∧ Did x h w .any h r w') := by
    intro u d b hd hrd
    have fin : ∀ {v0 : AV} {as0 : List AV}, v0.sc = true → ((runF P Sg n).call f as0 ⟨.lf, 0⟩).map (·.1) = some v0 → VRels (ownCx x.F (kn1 u d)) w as0 [u] → Calls P f #[u] w (fun e w' => ∃ r, e = .returned r ∧ Did x h w .any h r w') := by
      intro v0 as0 hsc hrun hrel
      refine Calls.mono (own_call hS hrun hrel hr.fb) (fun en w' hh => ?_)
      obtain ⟨r, rfl, hlow, y, hy⟩ := hh
      exact ⟨r, rfl, low_did hr hlow (.any r (hy.sc hsc))⟩
    cases hrd with
    | nil => exact fin k1 h1 (.one .nilsl)
    | mk d' _ a m cap hn hc hF hall => exact fin k2 h2 (.one (.eltN S false a m cap (d' + 1) ⟨.inr ⟨rfl, rfl⟩, by
        have h1 := hd.2
        have h2 : d' + 1 ≤ x.τ.D := by rcases hd.1 with h | ⟨_, h⟩ <;> omega
        show d' + 1 ≤ Bnd.B
        omega⟩ (.mk d' S a m cap hn hc hF hall)))
  unfold cloneSp at hv
  obtain ⟨as'⟩ := as'
  split at hv
  · rename_i s b
    split at hv
    · rename_i hs
      injection hv with hv
      subst hv
      rw [sameC_eq hs] at ha
      match as', ha with
      | [u], .cons _ _ _ _ hu .nil =>
      cases hu with | elt _ _ _ d hd hrd => exact key u d b hd hrd
    · cases hv
  · rename_i i s b
    split at hv
    · rename_i hs
      injection hv with hv
      subst hv
      rw [sameC_eq hs] at ha
      match as', ha with
      | [u], .cons _ _ _ _ hu .nil =>
      have hk : ∀ u, VRel x w (.inp i S b) u → Calls P f #[u] w (fun e w' => ∃ r, e = .returned r ∧ Did x h w .any h r w') := by
        intro u hu
        cases hu with | inp _ _ _ d hd hrd => exact key _ d b hd hrd
      exact hk u hu
    · cases hv
  · cases hv
end
end Go.Abs

namespace Go.Abs
noncomputable section
variable {P : Program} {Sg0 : FuncId → Option Sp}
/-- an expression: two numbers, a value, a name, arguments -/
def exS : List Ck := [.num, .num, .any, .any, .any, .any, .self]
def strictE : AV → Bool
  | .elt s true => sameC s exS
  | .inp _ s true => sameC s exS
  | _ => false
def intAV : AV → Bool
  | .una .i64 lo hi => decide (-9223372036854775808 ≤ lo) && decide (hi ≤ 9223372036854775807)
  | .int .i64 n => decide (-9223372036854775808 ≤ n) && decide (n ≤ 9223372036854775807)
  | _ => false
def any7 : AV := .agg [.any, .any, .any, .any, .any, .any, .any]
def U64 : AV := .una .i64 (-9223372036854775808) 9223372036854775807
def cloneESp : List AV → Hp → Option AV := fun as _ => match as with
  | [.agg [a, b, c, d, e, f, g]] => if a.sc && b.sc && c.sc && d.sc && e.sc && f.sc && strictE g then some any7 else none
  | _ => none
theorem strict_form [Bnd] {x : Cx} {w : World} {g : AV} {u : Value} (h : strictE g = true) (hv : VRel x w g u) : ∃ d, d < x.τ.D ∧ x.τ.D ≤ Bnd.B ∧ RdS x.F w d exS u := by
  unfold strictE at h
  split at h
  · rename_i s
    rw [sameC_eq h] at hv
    cases hv with | elt _ _ _ d hd hr =>
    exact ⟨d, (by rcases hd.1 with h | ⟨h, _⟩; exact h; cases h), hd.2, hr⟩
  · rename_i i s
    rw [sameC_eq h] at hv
    cases hv with | inp _ _ _ d hd hr =>
    exact ⟨d, (by rcases hd.1 with h | ⟨h, _⟩; exact h; cases h), hd.2, hr⟩
  · cases h
theorem int_form [Bnd] {x : Cx} {w : World} {a : AV} {u : Value} (h : intAV a = true) (hv : VRel x w a u) : ∃ z : Int, u = .int .i64 z ∧ -9223372036854775808 ≤ z ∧ z ≤ 9223372036854775807 := by
  unfold intAV at h
  split at h
  · simp only [Bool.and_eq_true, decide_eq_true_eq] at h
    cases hv with | una _ _ _ z hz => exact ⟨z, rfl, by omega, by omega⟩
  · simp only [Bool.and_eq_true, decide_eq_true_eq] at h
    cases hv
    exact ⟨_, rfl, h.1, h.2⟩
  · cases h
theorem any7_of [Bnd] {y x : Cx} {w w' : World} {l : List AV} {r : Value} (hl : l.length = 7) (hs : l.all AV.sc = true) (h : VRel y w (.agg l) r) : ∃ cs : Array Value, r = .agg cs ∧ cs.toList.length = 7 ∧ ∀ v ∈ cs.toList, v.oneCell' = true := by
  cases h with | agg _ cs hc => exact ⟨cs, rfl, by rw [hc.length, hl], hc.sc hs⟩
theorem any7_rel [Bnd] {x : Cx} {w : World} {cs : Array Value} (h : cs.toList.length = 7) (h1 : ∀ v ∈ cs.toList, v.oneCell' = true) : VRel x w any7 (.agg cs) :=
  .agg _ _ (anys_rel (l := [.any, .any, .any, .any, .any, .any, .any]) h.symm h1)
/-- an expression's copy: by the depth of its arguments -/
theorem cloneE_spec {f : FuncId} {fn : Func} {n : Nat} {l : List AV} (hfn : P.funcs[f]? = some fn) (h0 : ∀ B : Bnd, Sound P Sg0) (hl : l.length = 7) (hs : l.all AV.sc = true)
    (hrun : (l_fn P (runF P (SgF Sg0 f cloneESp) n) fn [.agg [.any, .any, .any, .any, .any, .any, .inp 0 exS false]] ⟨.lf, 0⟩).map (·.1) = some (.agg l)) : ∀ B : Nat, @SpecOK ⟨B⟩ P f cloneESp := by
  have hen : Enters P f := by
    obtain ⟨⟨v', h'⟩, h1, h2⟩ := Option.map_eq_some_iff.1 hrun
    unfold l_fn at h1
    split at h1
    · rename_i c hcb
      letI : Bnd := ⟨0⟩
      exact ⟨fn, hfn, by rw [hcb]; rfl, (h0 ⟨0⟩).names f fn hfn (by rw [hcb]; rfl)⟩
    · cases h1
  intro B
  induction B with
  | zero =>
    letI : Bnd := ⟨0⟩
    refine ⟨hen, fun x w h as as' v hv ha hr => ?_⟩
    unfold cloneESp at hv
    split at hv
    · split at hv
      · rename_i hc
        simp only [Bool.and_eq_true] at hc
        obtain ⟨as'⟩ := as'
        match as', ha with
        | [u], .cons _ _ _ _ hu .nil =>
        cases hu with | agg _ cs hcs =>
        obtain ⟨cs⟩ := cs
        match cs, hcs with
        | [u1, u2, u3, u4, u5, u6, u7], .cons _ _ _ _ k1 (.cons _ _ _ _ k2 (.cons _ _ _ _ k3 (.cons _ _ _ _ k4 (.cons _ _ _ _ k5 (.cons _ _ _ _ k6 (.cons _ _ _ _ k7 .nil)))))) =>
        obtain ⟨d, hd, hD, _⟩ := strict_form hc.2 k7
        have hD : x.τ.D ≤ 0 := hD
        omega
      · cases hv
    · cases hv
  | succ B ih =>
    have hS : @Sound ⟨B⟩ P (SgF Sg0 f cloneESp) := @sound_fn ⟨B⟩ _ _ (h0 ⟨B⟩) _ _ ih
    letI : Bnd := ⟨B + 1⟩
    refine ⟨hen, fun x w h as as' v hv ha hr => ?_⟩
    unfold cloneESp at hv
    split at hv
    · split at hv
      · rename_i hc
        injection hv with hv
        subst hv
        simp only [Bool.and_eq_true] at hc
        obtain ⟨⟨⟨⟨⟨⟨c1, c2⟩, c3⟩, c4⟩, c5⟩, c6⟩, c7⟩ := hc
        obtain ⟨as'⟩ := as'
        match as', ha with
        | [u], .cons _ _ _ _ hu .nil =>
        cases hu with | agg _ cs hcs =>
        obtain ⟨cs⟩ := cs
        match cs, hcs with
        | [u1, u2, u3, u4, u5, u6, u7], .cons _ _ _ _ k1 (.cons _ _ _ _ k2 (.cons _ _ _ _ k3 (.cons _ _ _ _ k4 (.cons _ _ _ _ k5 (.cons _ _ _ _ k6 (.cons _ _ _ _ k7 .nil)))))) =>
        obtain ⟨d, hd, hD, hrd⟩ := strict_form c7 k7
        have hD : x.τ.D ≤ B + 1 := hD
        have hfb := hr.fb
        have own : Calls P f #[.agg ⟨[u1, u2, u3, u4, u5, u6, u7]⟩] w (fun en w' => ∃ r, en = .returned r ∧ Low w w' ∧ ∃ y, @VRel ⟨B⟩ y w' (.agg l) r) :=
          @own_body P _ w ⟨B⟩ hS n f fn _ _ x.F (kn1 u7 d) _ hfn hrun
            (@VRels.one ⟨B⟩ _ _ _ _ (@VRel.agg ⟨B⟩ _ _ _ _ (@VRels.cons ⟨B⟩ _ _ _ _ _ _ (@VRel.any ⟨B⟩ _ _ _ (k1.sc c1)) (@VRels.cons ⟨B⟩ _ _ _ _ _ _ (@VRel.any ⟨B⟩ _ _ _ (k2.sc c2)) (@VRels.cons ⟨B⟩ _ _ _ _ _ _ (@VRel.any ⟨B⟩ _ _ _ (k3.sc c3))
              (@VRels.cons ⟨B⟩ _ _ _ _ _ _ (@VRel.any ⟨B⟩ _ _ _ (k4.sc c4)) (@VRels.cons ⟨B⟩ _ _ _ _ _ _ (@VRel.any ⟨B⟩ _ _ _ (k5.sc c5)) (@VRels.cons ⟨B⟩ _ _ _ _ _ _ (@VRel.any ⟨B⟩ _ _ _ (k6.sc c6))
              (@VRels.one ⟨B⟩ _ _ _ _ (@VRel.inp ⟨B⟩ (ownCx x.F (kn1 u7 d)) w 0 exS false d ⟨.inr ⟨rfl, rfl⟩, by show d ≤ B; omega⟩ hrd)))))))))) hfb
        refine Calls.mono own (fun en w' hh => ?_)
        obtain ⟨r, rfl, hlow, y, hy⟩ := hh
        obtain ⟨cs', rfl, e1, e2⟩ := @any7_of ⟨B⟩ y y w' w' l r hl hs hy
        exact ⟨_, rfl, low_did hr hlow (any7_rel e1 e2)⟩
      · cases hv
    · cases hv
/-! ### a map over an expression's parts, with a function that adds nothing -/
def capZ : List AV → Bool
  | [.int .i64 n] => n == 0
  | _ => false
def capOK (h : Hp) : AV → Bool
  | .lptr l => capZ l
  | .ptr m o => match readAt h m o 1 with
    | some l => capZ l
    | none => false
  | _ => false
def mapSp (g : FuncId) : List AV → Hp → Option AV := fun as h => match as with
  | [.agg [a, b, c, d, e, f, z], .func (.func k) [] [p]] => if k == g && intAV a && intAV b && c.sc && d.sc && e.sc && f.sc && strictE z && capOK h p then some any7 else none
  | _ => none
theorem capZ_form [Bnd] {x : Cx} {w : World} {l : List AV} {vs : List Value} (h : capZ l = true) (hv : VRels x w l vs) : vs = [.int .i64 0] := by
  unfold capZ at h
  split at h
  · simp only [beq_iff_eq] at h
    subst h
    match vs, hv with
    | [u], .cons _ _ _ _ hu .nil => cases hu; rfl
  · cases h
/-- what the function captured lies in memory that stays, or in a named block -/
theorem cap_form [Bnd] {x : Cx} {h : Hp} {w : World} {p : AV} {u : Value} (hr : HRel x h.blks.get w) (hv : VRel x w p u) (hc : capOK h p = true) : ∃ a : Addr, u = .pointer (some a) ∧ a.block < w.heap.size ∧ ∀ i v, ([.int .i64 0] : List Value)[i]? = some v → w.cell? (a.add i) = some v := by
  unfold capOK at hc
  split at hc
  · rename_i l hv
    cases hv with | lptr _ vs a hvs hl =>
    have := capZ_form hc hvs
    subst this
    exact ⟨a, rfl, hr.fb _ hl.1, hl.2⟩
  · rename_i _ m o
    split at hc
    · rename_i l hl
      obtain ⟨c, vs, h1, h2, h3, h4, _⟩ := read_sim hl hr
      have := capZ_form hc h2
      subst this
      cases hv with | ptr _ c' _ hm =>
      rw [h1] at hm; cases hm
      exact ⟨⟨c, o, none⟩, rfl, hr.mb _ _ h1, fun i v hi => by rw [add_lit']; exact h4 i v hi⟩
    · cases hc
  · cases hc
def capC (g : FuncId) : AV := .func (.func g) [] [.lptr [.int .i64 0]]
def mapArgs (g : FuncId) (a : AV) : List AV := [.agg [a, U64, .any, .any, .any, .any, .inp 0 exS false], capC g]
theorem mapped_spec {f g : FuncId} {fn : Func} {n : Nat} {l1 l2 l3 : List AV} (hfn : P.funcs[f]? = some fn) (h0 : ∀ B : Bnd, Sound P Sg0) (hl1 : l1.length = 7) (hs1 : l1.all AV.sc = true) (hl2 : l2.length = 7) (hs2 : l2.all AV.sc = true) (hl3 : l3.length = 7) (hs3 : l3.all AV.sc = true)
    (hrun1 : (l_fn P (runF P (SgF Sg0 f (mapSp g)) n) fn (mapArgs g (.una .i64 (-9223372036854775808) 1)) ⟨.lf, 0⟩).map (·.1) = some (.agg l1))
    (hrun2 : (l_fn P (runF P (SgF Sg0 f (mapSp g)) n) fn (mapArgs g (.int .i64 2)) ⟨.lf, 0⟩).map (·.1) = some (.agg l2))
    (hrun3 : (l_fn P (runF P (SgF Sg0 f (mapSp g)) n) fn (mapArgs g (.una .i64 3 9223372036854775807)) ⟨.lf, 0⟩).map (·.1) = some (.agg l3)) : ∀ B : Nat, @SpecOK ⟨B⟩ P f (mapSp g) := by
  have hen : Enters P f := by
    obtain ⟨⟨v', h'⟩, h1, h2⟩ := Option.map_eq_some_iff.1 hrun1
    unfold l_fn at h1
    split at h1
    · rename_i c hcb
      letI : Bnd := ⟨0⟩
      exact ⟨fn, hfn, by rw [hcb]; rfl, (h0 ⟨0⟩).names f fn hfn (by rw [hcb]; rfl)⟩
    · cases h1
  intro B
  induction B with
  | zero =>
    letI : Bnd := ⟨0⟩
    refine ⟨hen, fun x w h as as' v hv ha hr => ?_⟩
    unfold mapSp at hv
    split at hv
    · split at hv
      · rename_i hc
        simp only [Bool.and_eq_true] at hc
        obtain ⟨as'⟩ := as'
        match as', ha with
        | [u, uf], .cons _ _ _ _ hu (.cons _ _ _ _ huf .nil) =>
        cases hu with | agg _ cs hcs =>
        obtain ⟨cs⟩ := cs
        match cs, hcs with
        | [u1, u2, u3, u4, u5, u6, u7], .cons _ _ _ _ k1 (.cons _ _ _ _ k2 (.cons _ _ _ _ k3 (.cons _ _ _ _ k4 (.cons _ _ _ _ k5 (.cons _ _ _ _ k6 (.cons _ _ _ _ k7 .nil)))))) =>
        obtain ⟨d, hd, hD, _⟩ := strict_form hc.1.2 k7
        have hD : x.τ.D ≤ 0 := hD
        omega
      · cases hv
    · cases hv
  | succ B ih =>
    have hS : @Sound ⟨B⟩ P (SgF Sg0 f (mapSp g)) := @sound_fn ⟨B⟩ _ _ (h0 ⟨B⟩) _ _ ih
    letI : Bnd := ⟨B + 1⟩
    refine ⟨hen, fun x w h as as' v hv ha hr => ?_⟩
    unfold mapSp at hv
    split at hv
    · rename_i a b c d e ff z k p
      split at hv
      · rename_i hc
        injection hv with hv
        subst hv
        simp only [Bool.and_eq_true, beq_iff_eq] at hc
        obtain ⟨⟨⟨⟨⟨⟨⟨⟨c0, c1⟩, c2⟩, c3⟩, c4⟩, c5⟩, c6⟩, c7⟩, c8⟩ := hc
        subst c0
        obtain ⟨as'⟩ := as'
        match as', ha with
        | [u, uf], .cons _ _ _ _ hu (.cons _ _ _ _ huf .nil) =>
        cases hu with | agg _ cs hcs =>
        obtain ⟨cs⟩ := cs
        match cs, hcs with
        | [u1, u2, u3, u4, u5, u6, u7], .cons _ _ _ _ k1 (.cons _ _ _ _ k2 (.cons _ _ _ _ k3 (.cons _ _ _ _ k4 (.cons _ _ _ _ k5 (.cons _ _ _ _ k6 (.cons _ _ _ _ k7 .nil)))))) =>
        obtain ⟨dd, hd, hD, hrd⟩ := strict_form c7 k7
        have hD : x.τ.D ≤ B + 1 := hD
        obtain ⟨z1, rfl, hz1, hz2⟩ := int_form c1 k1
        obtain ⟨z2, rfl, hy1, hy2⟩ := int_form c2 k2
        cases huf with | func _ _ _ a' b' hq1 hq2 =>
        obtain ⟨a'⟩ := a'
        obtain ⟨b'⟩ := b'
        match a', hq1 with
        | [], .nil =>
        match b', hq2 with
        | [up], .cons _ _ _ _ hup .nil =>
        obtain ⟨ad, rfl, hab, hcell⟩ := cap_form hr hup c8
        let F : Nat → Prop := fun c => x.F c ∨ c = ad.block
        have hfb : ∀ c, F c → c < w.heap.size := by
          rintro c (hc | rfl)
          · exact hr.fb c hc
          · exact hab
        have hrd2 : RdS F w dd exS u7 := hrd.mono (fun c hc => .inl hc) (fun _ _ => rfl)
        have hcap : @VRel ⟨B⟩ (ownCx F (kn1 u7 dd)) w (capC k) (.func (.func k) ⟨[]⟩ ⟨[.pointer (some ad)]⟩) :=
          @VRel.func ⟨B⟩ _ _ _ _ _ _ _ (@VRels.nil ⟨B⟩ _ _) (@VRels.one ⟨B⟩ _ _ _ _ (@VRel.lptr ⟨B⟩ _ _ _ [.int .i64 0] ad (@VRels.one ⟨B⟩ _ _ _ _ (@VRel.int ⟨B⟩ _ _ _ _)) ⟨.inr rfl, hcell⟩))
        have go : ∀ (av : AV) (l : List AV), l.length = 7 → l.all AV.sc = true → (l_fn P (runF P (SgF Sg0 f (mapSp k)) n) fn (mapArgs k av) ⟨.lf, 0⟩).map (·.1) = some (.agg l) → @VRel ⟨B⟩ (ownCx F (kn1 u7 dd)) w av (.int .i64 z1) →
            Calls P f #[.agg ⟨[.int .i64 z1, .int .i64 z2, u3, u4, u5, u6, u7]⟩, .func (.func k) ⟨[]⟩ ⟨[.pointer (some ad)]⟩] w (fun en w' => ∃ r, en = .returned r ∧ Did x h w any7 h r w') := by
          intro av l hl hs hrun hav
          have own : Calls P f #[.agg ⟨[.int .i64 z1, .int .i64 z2, u3, u4, u5, u6, u7]⟩, .func (.func k) ⟨[]⟩ ⟨[.pointer (some ad)]⟩] w (fun en w' => ∃ r, en = .returned r ∧ Low w w' ∧ ∃ y, @VRel ⟨B⟩ y w' (.agg l) r) :=
            @own_body P _ w ⟨B⟩ hS n f fn _ _ F (kn1 u7 dd) _ hfn hrun
              (@VRels.cons ⟨B⟩ _ _ _ _ _ _ (@VRel.agg ⟨B⟩ _ _ _ _ (@VRels.cons ⟨B⟩ _ _ _ _ _ _ hav (@VRels.cons ⟨B⟩ _ _ _ _ _ _ (@VRel.una ⟨B⟩ _ _ _ _ _ _ ⟨hy1, hy2⟩) (@VRels.cons ⟨B⟩ _ _ _ _ _ _ (@VRel.any ⟨B⟩ _ _ _ (k3.sc c3))
                (@VRels.cons ⟨B⟩ _ _ _ _ _ _ (@VRel.any ⟨B⟩ _ _ _ (k4.sc c4)) (@VRels.cons ⟨B⟩ _ _ _ _ _ _ (@VRel.any ⟨B⟩ _ _ _ (k5.sc c5)) (@VRels.cons ⟨B⟩ _ _ _ _ _ _ (@VRel.any ⟨B⟩ _ _ _ (k6.sc c6))
                (@VRels.one ⟨B⟩ _ _ _ _ (@VRel.inp ⟨B⟩ (ownCx F (kn1 u7 dd)) w 0 exS false dd ⟨.inr ⟨rfl, rfl⟩, by show dd ≤ B; omega⟩ hrd2))))))))) (@VRels.one ⟨B⟩ _ _ _ _ hcap)) hfb
          refine Calls.mono own (fun en w' hh => ?_)
          obtain ⟨r, rfl, hlow, y, hy⟩ := hh
          obtain ⟨cs', rfl, e1, e2⟩ := @any7_of ⟨B⟩ y y w' w' l r hl hs hy
          exact ⟨_, rfl, low_did hr hlow (any7_rel e1 e2)⟩
        by_cases hz : z1 ≤ 1
        · exact go _ _ hl1 hs1 hrun1 (@VRel.una ⟨B⟩ _ _ _ _ _ _ ⟨hz1, hz⟩)
        · by_cases hz' : z1 = 2
          · subst hz'
            exact go _ _ hl2 hs2 hrun2 (@VRel.int ⟨B⟩ _ _ _ _)
          · exact go _ _ hl3 hs3 hrun3 (@VRel.una ⟨B⟩ _ _ _ _ _ _ ⟨by omega, hz2⟩)
      · cases hv
    · cases hv
end
end Go.Abs

namespace Go.Abs
theorem add_blk (a : Addr) (i : Nat) : (a.add i).block = a.block := by unfold Addr.add; split <;> rfl
/-! ### what a reading says of slices -/
section
variable {F : Nat → Prop} {w : World}
mutual
theorem RdS.up : ∀ {d : Nat} {s : List Ck} {v : Value}, RdS F w d s v → ∀ {d' : Nat}, d ≤ d' → RdS F w d' s v
  | _, _, _, .nil d s, d', _ => .nil d' s
  | _, _, _, .mk d s a n cap hn hc hF h, d', hd => by
    obtain ⟨e, rfl⟩ : ∃ e, d' = e + 1 := ⟨d' - 1, by omega⟩
    exact .mk e s a n cap hn hc hF (fun k hk => RdE.up (h k hk) (by omega))
theorem RdE.up : ∀ {d : Nat} {s : List Ck} {a : Addr}, RdE F w d s a → ∀ {d' : Nat}, d ≤ d' → RdE F w d' s a
  | _, _, _, .mk d s a l hl hr, d', hd => .mk d' s a l hl (RdL.up hr hd)
theorem RdL.up : ∀ {d : Nat} {s l : List Ck} {vs : List Value}, RdL F w d s l vs → ∀ {d' : Nat}, d ≤ d' → RdL F w d' s l vs
  | _, _, _, _, .nil d s, d', hd => .nil d' s
  | _, _, _, _, .any d s v l l' h hs, d', hd => .any d' s v l l' h (RdL.up hs hd)
  | _, _, _, _, .num d s z l l' h hs, d', hd => .num d' s z l l' h (RdL.up hs hd)
  | _, _, _, _, .self d s v l l' h hs, d', hd => .self d' s v l l' (RdS.up h hd) (RdL.up hs hd)
  | _, _, _, _, .sl d s s' v l l' h hs, d', hd => .sl d' s s' v l l' (RdS.up h hd) (RdL.up hs hd)
end
theorem RdL.app : ∀ {d : Nat} {s l k : List Ck} {vs us : List Value}, RdL F w d s l vs → RdL F w d s k us → RdL F w d s (l ++ k) (vs ++ us)
  | _, _, _, _, _, _, .nil d s, h => h
  | _, _, _, _, _, _, .any d s v l l' h hs, k => .any d s v _ _ h (RdL.app hs k)
  | _, _, _, _, _, _, .num d s z l l' h hs, k => .num d s z _ _ h (RdL.app hs k)
  | _, _, _, _, _, _, .self d s v l l' h hs, k => .self d s v _ _ h (RdL.app hs k)
  | _, _, _, _, _, _, .sl d s s' v l l' h hs, k => .sl d s s' v _ _ h (RdL.app hs k)
end
/-! ### a type's cells have a shape -/
def fitFs (P : Program) (g : TypeId → List Ck → Bool) : List Field → Nat → List Ck → Bool
  | [], _, cks => cks.isEmpty
  | f :: fs, off, cks => f.offset == off && decide (P.cellsOf f.type ≤ cks.length) && g f.type (cks.take (P.cellsOf f.type)) && fitFs P g fs (off + P.cellsOf f.type) (cks.drop (P.cellsOf f.type))
def fitSl (P : Program) (E e : TypeId) (r : List Ck → Bool) : List Ck → Bool
  | [.self] => e == E && decide (0 < P.cellsOf e)
  | [.sl s'] => s'.length == P.cellsOf e && decide (0 < P.cellsOf e) && decide (wt s' ≤ P.bytesOf e) && r s'
  | [.any] => true
  | _ => false
def fitI : List Ck → Bool
  | [.num] => true
  | [.any] => true
  | _ => false
def fitO : List Ck → Bool
  | [.any] => true
  | _ => false
def fitC (P : Program) : Nat → TypeId → TypeId → List Ck → Bool
  | 0, _, _, _ => false
  | k + 1, E, t, cks => match P.underlying t with
    | some (.struct fs) => cks.length == P.cellsOf t && fitFs P (fitC P k E) fs.toList 0 cks
    | some (.array _ _) => false
    | some (.slice e) => fitSl P E e (fun s' => fitC P k e e s') cks
    | some (.int .i64) => fitI cks
    | some _ => fitO cks
    | none => false
section
variable {H : Type} {enc : TypeId × Value → H} {P : Program} {w : World} {spare : Nat → Bool} {held : Bool}
theorem trod_single {n : Nat} {t : TypeId} {cs : List Value} {x : DataW H × List MemPlace} (h : DataW.trod enc P w 0 spare held n t cs = some x)
    (hns : ∀ fs, P.underlying t ≠ some (.struct fs)) (hna : ∀ n e, P.underlying t ≠ some (.array n e)) : ∃ v, cs = [v] ∧ v.oneCell' = true := by
  cases n with
  | zero => simp [DataW.trod] at h
  | succ n =>
    unfold DataW.trod at h
    split at h
    all_goals first
      | exact ⟨_, rfl, rfl⟩
      | (exact absurd (by assumption) (hns _))
      | (exact absurd (by assumption) (hna _ _))
      | (cases h; done)
/-- what a reader bounds: slices are not too heavy, each part is as bounded -/
structure Bounds (P : Program) (Sm : TypeId → DataW H → Prop) : Prop where
  sl : ∀ t e es sp, P.underlying t = some (.slice e) → Sm t (.slice es sp) → es.length * P.bytesOf e ≤ 2 ^ 47 ∧ ∀ y ∈ es, Sm e y
  st : ∀ (t : TypeId) (fs : Array Field) (ps : List (DataW H)), P.underlying t = some (.struct fs) → Sm t (.agg ps) → ∀ (i : Nat) (f : Field) (p : DataW H), fs[i]? = some f → ps[i]? = some p → Sm f.type p
theorem rd_of {Sm : TypeId → DataW H → Prop} (hB : Bounds P Sm) : ∀ (n kE k : Nat) (E t : TypeId) (S cks : List Ck) (cs : List Value) (x : DataW H × List MemPlace), S.length = P.cellsOf E → wt S ≤ P.bytesOf E → fitC P kE E E S = true → fitC P k E t cks = true →
    DataW.trod enc P w 0 spare held n t cs = some x → Sm t x.1 → RdL (fun c => c < w.heap.size) w n S cks cs := by
  intro n
  induction n with
  | zero => intro kE k E t S cks cs x _ _ _ _ h; simp [DataW.trod] at h
  | succ n ih =>
    intro kE k E t S cks cs x hSE hWE hE hfit h hSm
    cases k with
    | zero => simp [fitC] at hfit
    | succ k =>
    -- a slice of elements of a shape
    have slice : ∀ (e : TypeId) (S' : List Ck) (kE' : Nat) (v : Value), P.underlying t = some (.slice e) → cs = [v] → S'.length = P.cellsOf e → 0 < P.cellsOf e → wt S' ≤ P.bytesOf e → fitC P kE' e e S' = true → RdS (fun c => c < w.heap.size) w (n + 1) S' v := by
      intro e S' kE' v hu hv hS' hpos hwt hfe
      rcases DataW.trod_slice hu h with ⟨h1, _⟩ | ⟨a, len, cap, elems, rest, m, hm, h1, hx, _, hlc, _, hel, hget, _, _⟩
      · rw [hv] at h1
        injection h1 with h1 _
        subst h1
        exact .nil _ _
      · rw [hv] at h1
        injection h1 with h1 _
        subst h1
        have hmn : m = n := by omega
        subst hmn
        rw [hx] at hSm
        obtain ⟨b1, b2⟩ := hB.sl t e _ _ hu hSm
        rw [List.length_map, hel] at b1
        have each : ∀ i, i < len → ∃ l y, w.cells? 0 (a.add (i * P.cellsOf e)) (P.cellsOf e) = some l ∧ DataW.trod enc P w 0 spare held m e l = some y ∧ y ∈ elems := by
          intro i hi
          have h2 := hget i hi
          have hi2 : i < elems.length := by omega
          rw [List.getElem?_eq_getElem hi2] at h2
          obtain ⟨l, h3, h4⟩ := Option.bind_eq_some_iff.1 h2
          exact ⟨l, _, h3, h4, List.getElem_mem hi2⟩
        refine .mk m S' a len cap ?_ hlc (fun h0 => ?_) (fun i hi => ?_)
        · exact Nat.le_trans (Nat.mul_le_mul_left _ hwt) b1
        · obtain ⟨l, y, h3, _⟩ := each 0 h0
          have := World.cells?_block h3 hpos
          rw [add_blk] at this
          exact this
        · obtain ⟨l, y, h3, h4, h5⟩ := each i hi
          obtain ⟨_, h6, h7⟩ := World.cells?_some h3
          rw [hS']
          refine .mk m S' _ l (fun j u hj => ?_) (ih kE' kE' e e S' S' l y hS' hwt hfe hfe h4 (b2 _ (List.mem_map.2 ⟨y, h5, rfl⟩)))
          have hj2 : j < P.cellsOf e := by rw [← h6]; exact (List.getElem?_eq_some_iff.1 hj).1
          rw [h7 j hj2]
          exact hj
    have one : (∀ fs, P.underlying t ≠ some (.struct fs)) → (∀ n e, P.underlying t ≠ some (.array n e)) → ∃ v, cs = [v] ∧ v.oneCell' = true := trod_single h
    unfold fitC at hfit
    split at hfit
    · rename_i fs hu
      simp only [Bool.and_eq_true, beq_iff_eq] at hfit
      obtain ⟨hcl, hfs⟩ := hfit
      obtain ⟨xs, m, hm, hx, hcs, hlen, hg⟩ := DataW.trod_struct hu h
      have hmn : m = n := by omega
      subst hmn
      rw [hx] at hSm
      have go : ∀ (fs' : List Field) (off i0 : Nat) (cks' : List Ck), fs.toList.drop i0 = fs' → fitFs P (fitC P k E) fs' off cks' = true → off + cks'.length = cs.length → RdL (fun c => c < w.heap.size) w m S cks' (cs.drop off) := by
        intro fs'
        induction fs' with
        | nil =>
          intro off i0 cks' _ hf hl
          simp only [fitFs, List.isEmpty_iff] at hf
          subst hf
          have : cs.drop off = [] := List.drop_eq_nil_of_le (by simp at hl; omega)
          rw [this]
          exact .nil _ _
        | cons f fs' ih2 =>
          intro off i0 cks' hd hf hl
          simp only [fitFs, Bool.and_eq_true, beq_iff_eq, decide_eq_true_eq] at hf
          obtain ⟨⟨⟨f1, f2⟩, f3⟩, f4⟩ := hf
          have hi : fs[i0]? = some f := by
            have : (fs.toList.drop i0)[0]? = some f := by rw [hd]; rfl
            rw [List.getElem?_drop] at this
            simpa using this
          have hi2 : i0 < xs.length := by rw [hlen]; exact (Array.getElem?_eq_some_iff.1 hi).1
          have h3 := hg i0 f hi
          rw [List.getElem?_eq_getElem hi2, f1] at h3
          have h4 : Sm f.type (xs[i0]).1 := hB.st t fs _ hu hSm i0 f _ hi (by rw [List.getElem?_map, List.getElem?_eq_getElem hi2]; rfl)
          have h5 := ih kE k E f.type S _ _ _ hSE hWE hE f3 h3 h4
          have hd2 : fs.toList.drop (i0 + 1) = fs' := by
            rw [← List.drop_drop, hd]; rfl
          have h6 := ih2 (off + P.cellsOf f.type) (i0 + 1) (cks'.drop (P.cellsOf f.type)) hd2 f4 (by rw [List.length_drop]; omega)
          have h7 := h5.app h6
          rw [List.take_append_drop, ← List.drop_drop, List.take_append_drop] at h7
          exact h7
      have := go fs.toList 0 0 cks (by simp) hfs (by rw [hcs, Nat.zero_add]; exact hcl)
      rw [List.drop_zero] at this
      exact this.up (Nat.le_succ _)
    · cases hfit
    · rename_i e hu
      obtain ⟨v, hv, hone⟩ := one (fun fs h => by rw [hu] at h; cases h) (fun n e h => by rw [hu] at h; cases h)
      unfold fitSl at hfit
      split at hfit
      · simp only [Bool.and_eq_true, beq_iff_eq, decide_eq_true_eq] at hfit
        obtain ⟨rfl, hpos⟩ := hfit
        rw [hv]
        exact .self _ _ _ _ _ (slice e S kE v hu hv hSE hpos hWE hE) (.nil _ _)
      · rename_i s'
        simp only [Bool.and_eq_true, beq_iff_eq, decide_eq_true_eq] at hfit
        obtain ⟨⟨⟨h1, h2⟩, h3⟩, h4⟩ := hfit
        rw [hv]
        exact .sl _ _ _ _ _ _ (slice e s' k v hu hv h1 h2 h3 h4) (.nil _ _)
      · rw [hv]
        exact .any _ _ _ _ _ hone (.nil _ _)
      · cases hfit
    · rename_i hu
      obtain ⟨z, hz, _, hwf⟩ := DataW.trod_int hu h
      have hb : -9223372036854775808 ≤ z ∧ z ≤ 9223372036854775807 := by
        simp [Lit.wf, IntKind.min, IntKind.max, IntKind.signed, IntKind.bits] at hwf
        omega
      unfold fitI at hfit
      split at hfit
      · rw [hz]
        exact .num _ _ _ _ _ hb (.nil _ _)
      · rw [hz]
        exact .any _ _ _ _ _ rfl (.nil _ _)
      · cases hfit
    · rename_i d n1 n2 n3 n4 hu
      obtain ⟨v, hv, hone⟩ := one (fun fs h => by rw [hu] at h; injection h with h; exact n1 _ h) (fun n e h => by rw [hu] at h; injection h with h; exact n2 _ _ h)
      unfold fitO at hfit
      split at hfit
      · rw [hv]
        exact .any _ _ _ _ _ hone (.nil _ _)
      · cases hfit
    · cases hfit
end
/-! ### values out of a reading -/
def avOf (S : List Ck) : Nat → List Ck → List AV
  | _, [] => []
  | i, .any :: r => .any :: avOf S i r
  | i, .num :: r => U64 :: avOf S i r
  | i, .self :: r => .inp i S true :: avOf S (i + 1) r
  | i, .sl s' :: r => .inp i s' true :: avOf S (i + 1) r
def slsOf : List Ck → List Value → List Value
  | .self :: r, v :: vs => v :: slsOf r vs
  | .sl _ :: r, v :: vs => v :: slsOf r vs
  | _ :: r, _ :: vs => slsOf r vs
  | _, _ => []
theorem avs_rel [Bnd] {F : Nat → Prop} {w : World} {d : Nat} {S : List Ck} {L : List Value} (hd : d + 1 ≤ Bnd.B) : ∀ {cks : List Ck} {vs : List Value}, RdL F w d S cks vs → ∀ (pre : List Value), L = pre ++ slsOf cks vs → VRels (ownCx F ⟨fun i => (L[i]?).getD undef, 0, d + 1⟩) w (avOf S pre.length cks) vs
  | _, _, .nil _ _, pre, _ => .nil
  | _, _, .any _ _ v l l' h hs, pre, hL => .cons _ _ _ _ (.any v h) (avs_rel hd hs pre hL)
  | _, _, .num _ _ z l l' h hs, pre, hL => .cons _ _ _ _ (.una _ _ _ z h) (avs_rel hd hs pre hL)
  | _, _, .self _ _ v l l' h hs, pre, hL => by
    have hv : (ownCx F ⟨fun i => (L[i]?).getD undef, 0, d + 1⟩).τ.v pre.length = v := by
      show (L[pre.length]?).getD undef = v
      rw [hL]
      simp [slsOf]
    have h2 := avs_rel (L := L) hd hs (pre ++ [v]) (by rw [hL]; simp [slsOf])
    rw [List.length_append] at h2
    refine .cons _ _ _ _ ?_ h2
    have : VRel (ownCx F ⟨fun i => (L[i]?).getD undef, 0, d + 1⟩) w (.inp pre.length S true) ((ownCx F ⟨fun i => (L[i]?).getD undef, 0, d + 1⟩).τ.v pre.length) := .inp _ _ _ d ⟨.inl (Nat.lt_succ_self d), hd⟩ (by rw [hv]; exact h)
    rw [hv] at this
    exact this
  | _, _, .sl _ _ s' v l l' h hs, pre, hL => by
    have hv : (ownCx F ⟨fun i => (L[i]?).getD undef, 0, d + 1⟩).τ.v pre.length = v := by
      show (L[pre.length]?).getD undef = v
      rw [hL]
      simp [slsOf]
    have h2 := avs_rel (L := L) hd hs (pre ++ [v]) (by rw [hL]; simp [slsOf])
    rw [List.length_append] at h2
    refine .cons _ _ _ _ ?_ h2
    have : VRel (ownCx F ⟨fun i => (L[i]?).getD undef, 0, d + 1⟩) w (.inp pre.length s' true) ((ownCx F ⟨fun i => (L[i]?).getD undef, 0, d + 1⟩).τ.v pre.length) := .inp _ _ _ d ⟨.inl (Nat.lt_succ_self d), hd⟩ (by rw [hv]; exact h)
    rw [hv] at this
    exact this
end Go.Abs
