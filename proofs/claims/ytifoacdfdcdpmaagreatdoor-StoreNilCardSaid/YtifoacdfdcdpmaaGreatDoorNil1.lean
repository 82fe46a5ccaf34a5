/- What is proved: a part of the proof of the tied card of StoreNil (text Nil1 of it). Conditions: those that its theorems name. -/
import Derived.Test.YtifoacdfdcdpmaaGreatDoorAbs23
import Derived.Test.YtifoacdfdcdpmaaGreatDoorKey
import Derived.Laws.Externs
import Derived.Test.YtifoacdfdcdpmaaGreatDoorProg
set_option linter.unusedVariables false
set_option linter.unusedSimpArgs false
namespace Go.Abs
open Go.Proofs
theorem esc_ok {P : Program} {f : FuncId} {fn : Func} (hf : P.funcs[f]? = some fn) (h1 : (fn.name == "runtime.NumGoroutine") = false) (h2 : fn.body.isNone = true) (h3 : Extern.findNext fn = none) (h4 : Extern.find fn = some Extern.AbiNoEscape.same) : ExtOK P f escX := by
  intro x w ar ar' v h hr
  unfold escX at h
  split at h
  · injection h with h
    subst h
    obtain ⟨l⟩ := ar'
    match l, hr with
    | [p], .cons _ _ _ _ hp _ =>
      refine ⟨p, ?_, hp⟩
      rw [run_callFunc_extern hf h1 h2 h3 h4]
      rfl
  · cases h
theorem cmp_ok {P : Program} {f : FuncId} {fn : Func} (hf : P.funcs[f]? = some fn) (h1 : (fn.name == "runtime.NumGoroutine") = false) (h2 : fn.body.isNone = true) (h3 : Extern.findNext fn = none) (h4 : Extern.find fn = some Extern.BytealgCompare.compare) : ExtOK P f cmpX := by
  intro x w ar ar' v h hr
  unfold cmpX at h
  split at h
  · injection h with h
    subst h
    obtain ⟨l⟩ := ar'
    match l, hr with
    | [p, q], .cons _ _ _ _ hp (.cons _ _ _ _ hq _) =>
      cases hp with | str s _ e1 => cases hq with | str s' _ e2 =>
      refine ⟨_, ?_, .int _ _⟩
      rw [run_callFunc_extern hf h1 h2 h3 h4, Lib.run_compareString, e1, e2]
      rfl
  · cases h
/-- from no memory at all: what lay there stays -/
def noCx (τ : Nat → Value) : Cx := ⟨fun _ => none, fun _ => 0, fun _ => False, τ⟩
theorem closed_call {P : Program} {Sg : FuncId → Option Sp} (hS : Sound P Sg) {n : Nat} {f : FuncId} {ar : List AV} {b : Bool} {ar' : Array Value} {w : World} {τ : Nat → Value} (e : (call P Sg n f ar ⟨.lf, 0⟩).map (·.1) = some (.bool b)) (ha : VRels (noCx τ) w ar ar'.toList) :
    Calls P f ar' w (fun e w' => e = .returned (.bool b) ∧ RowKit.Below w.heap.size w w') := by
  obtain ⟨⟨v, h'⟩, h1, h2⟩ := Option.map_eq_some_iff.1 e
  simp only [] at h2
  subst h2
  have hr : HRel (noCx τ) (Tr.lf : Tr Blk).get w := ⟨fun n b e => (by rw [lf_get] at e; cases e), fun n _ _ _ _ e => (by rw [lf_get] at e; cases e), fun _ h => h.elim, fun _ _ h => (by cases h)⟩
  refine Calls.mono (call_sound hS (x := noCx τ) h1 ha hr (fun n b e => by rw [lf_get] at e; cases e) (fun _ _ _ => rfl)) ?_
  rintro e w' ⟨r, rfl, y, hE, _, hv⟩
  cases hv
  exact ⟨rfl, hE.os, hE.tape, hE.output, hE.size, fun k hk => hE.fr k hk (fun n b e => by rw [lf_get] at e; cases e)⟩
/-- fields that take one cell each, none a struct, none an array -/
def flatB (P : Program) (fs : Array Field) : Bool := (List.range fs.size).all fun i => match fs[i]? with
  | some f => f.offset == i && P.cellsOf f.type == 1 && (match P.underlying f.type with
    | some (.struct _) => false
    | some (.array _ _) => false
    | some _ => true
    | none => false)
  | none => false
theorem trod_one {H : Type} {enc : TypeId × Value → H} {P : Program} {w : World} {base : Nat} {spare : Nat → Bool} {held : Bool} {fuel : Nat} {t : TypeId} {v : Value} {x : DataW H × List MemPlace} (h : DataW.trod enc P w base spare held fuel t [v] = some x)
    (hns : ∀ fs, P.underlying t ≠ some (.struct fs)) (hna : ∀ n e, P.underlying t ≠ some (.array n e)) : v.oneCell' = true := by
  cases fuel with
  | zero => simp [DataW.trod] at h
  | succ n =>
    unfold DataW.trod at h
    split at h
    all_goals first
      | rfl
      | (exact absurd (by assumption) (hns _))
      | (exact absurd (by assumption) (hna _ _))
      | (cases h; done)
      | (rename_i heq; injection heq with e1 e2; subst e1; rfl)
      | skip
theorem struct_cells {H : Type} {enc : TypeId × Value → H} {P : Program} {w : World} {base : Nat} {spare : Nat → Bool} {held : Bool} {t : TypeId} {cs : Array Value} {d : DataW H} {ps : List MemPlace} {fs : Array Field} (ht : P.underlying t = some (.struct fs)) (hf : flatB P fs = true) (hsz : cs.size = fs.size)
    (h : DataW.Trod enc P w base spare held t (.agg cs) d ps) : ∀ v ∈ cs.toList, v.oneCell' = true := by
  obtain ⟨fuel, h⟩ := h
  obtain ⟨xs, n, _, _, hcl, hlen, hg⟩ := DataW.trod_struct ht h
  intro v hv
  obtain ⟨i, hi, rfl⟩ := List.getElem_of_mem hv
  have hi2 : i < fs.size := by rw [Array.length_toList] at hi; omega
  have hfi : fs[i]? = some fs[i] := Array.getElem?_eq_getElem hi2
  have hb := List.all_eq_true.1 hf i (List.mem_range.2 hi2)
  rw [hfi] at hb
  simp only [Bool.and_eq_true, beq_iff_eq] at hb
  obtain ⟨⟨ho, hc⟩, hu⟩ := hb
  have h1 := hg i _ hfi
  rw [ho, hc] at h1
  have hcs : ((Value.agg cs).cells.toList.drop i).take 1 = [cs.toList[i]] := by
    show (cs.toList.drop i).take 1 = _
    rw [List.drop_eq_getElem_cons hi]
    rfl
  rw [hcs] at h1
  obtain ⟨y, hy⟩ : ∃ y, xs[i]? = some y := ⟨_, List.getElem?_eq_getElem (by omega)⟩
  rw [hy] at h1
  refine trod_one h1 (fun fs' e => ?_) (fun n e' e => ?_)
  · rw [e] at hu; cases hu
  · rw [e] at hu; cases hu
theorem opqs_rel {τ : Nat → Value} {w : World} : ∀ (l : List Value) (i : Nat), (∀ k v, l[k]? = some v → τ (i + k) = v ∧ v.oneCell' = true) → VRels (noCx τ) w ((List.range' i l.length).map .opq) l
  | [], i, _ => .nil
  | v :: l, i, h => by
    rw [List.length_cons, List.range'_succ, List.map_cons]
    obtain ⟨h1, h2⟩ := h 0 v rfl
    refine .cons _ _ _ _ ?_ (opqs_rel l (i + 1) (fun k u hk => by
      have := h (k + 1) u (by simpa using hk)
      rw [show i + 1 + k = i + (k + 1) by omega]; exact this))
    have : VRel (noCx τ) w (.opq i) ((noCx τ).τ i) := .opq i (by show (τ i).oneCell' = true; rw [show τ i = v from h1]; exact h2)
    rw [show (noCx τ).τ i = v from h1] at this
    exact this
end Go.Abs
