/- What is proved: a part of the proof of the tied card of StoreNil (text Abs7 of it). Conditions: those that its theorems name. -/
import Derived.Test.YtifoacdfdcdpmaaGreatDoorAbs6
set_option linter.unusedVariables false
set_option linter.unusedSimpArgs false
namespace Go.Abs
variable {P : Program} {x : Cx} {w : World}
theorem un_sim {op : UnOp} {a v : AV} {p : Value} (h : unA op a = some v) (ha : VRel x w a p) : ∃ r, (Op.unary op p).run P w = .ok r w ∧ VRel x w v r := by
  unfold unA at h
  split at h
  · injection h with h; subst h; cases ha; exact ⟨_, rfl, .int _ _⟩
  · injection h with h; subst h; cases ha; exact ⟨_, rfl, .bool _⟩
  · cases ha; exact bits_sim h
  · cases h
/-! ### bounds -/
abbrev IV := Option (IntKind × Int)
def avs (o : IV) : Option AV := o.map fun p => .int p.1 p.2
def vals (o : IV) : Option Value := o.map fun p => .int p.1 p.2
def bnd (o : IV) (dflt top n : Nat) : Prop := match o with
  | none => n = dflt
  | some (_, i) => 0 ≤ i ∧ i ≤ (top : Int) ∧ n = i.toNat
theorem boundA_form {dflt top n : Nat} {o : Option AV} (h : boundA dflt top o = some n) : ∃ o0 : IV, o = avs o0 ∧ bnd o0 dflt top n := by
  unfold boundA at h
  split at h
  · injection h with h; subst h; exact ⟨none, rfl, rfl⟩
  · split at h
    · rename_i k i hi
      injection h with h; subst h
      exact ⟨some (k, i), rfl, hi.1, hi.2, rfl⟩
    · cases h
  · cases h
theorem bndA_form {len cap a b m : Nat} {lo hi mx : Option AV} (h : bndA len cap lo hi mx = some (a, b, m)) :
    ∃ l0 h0 m0 : IV, lo = avs l0 ∧ hi = avs h0 ∧ mx = avs m0 ∧ (m0.isSome = true → h0.isSome = true) ∧ bnd m0 cap cap m ∧ bnd h0 len m b ∧ bnd l0 0 b a := by
  unfold bndA at h
  split at h
  · cases h
  · rename_i hn
    split at h
    · rename_i m' h1
      split at h
      · rename_i b' h2
        split at h
        · rename_i a' h3
          injection h with h
          simp only [Prod.mk.injEq] at h
          obtain ⟨rfl, rfl, rfl⟩ := h
          obtain ⟨m0, e1, k1⟩ := boundA_form h1
          obtain ⟨h0, e2, k2⟩ := boundA_form h2
          obtain ⟨l0, e3, k3⟩ := boundA_form h3
          refine ⟨l0, h0, m0, e3, e2, e1, fun hs => ?_, k1, k2, k3⟩
          subst e1; subst e2
          cases m0 with
          | none => cases hs
          | some p =>
            cases h0 with
            | none => exact (hn _ rfl rfl).elim
            | some q => rfl
        · cases h
      · cases h
    · cases h
theorem bound_run {v : Value} {k : IntKind} {i : Int} {y : Nat} (hv : v = .int k i) (h0 : 0 ≤ i) (h1 : i ≤ (y : Int)) (code : BoundsCode) : (Instr.sliceBound v y code).run P w = .ok i.toNat w := by
  subst hv
  simp [Instr.sliceBound, asIntOf, h0, h1]
theorem bounds_run (isS : Bool) {len cap a b m : Nat} {l0 h0 m0 : IV} (hs : m0.isSome = true → h0.isSome = true) (hm : bnd m0 cap cap m) (hb : bnd h0 len m b) (ha : bnd l0 0 b a) :
    (Instr.sliceBounds isS len cap (vals l0) (vals h0) (vals m0)).run P w = .ok (a, b, m) w := by
  unfold Instr.sliceBounds
  cases m0 with
  | none =>
    simp only [bnd] at hm
    subst hm
    cases h0 with
    | none =>
      simp only [bnd] at hb
      subst hb
      cases l0 with
      | none => simp only [bnd] at ha; subst ha; simp [vals]
      | some p => obtain ⟨k, i⟩ := p; obtain ⟨k1, k2, k3⟩ := ha; subst k3; simp [vals, bound_run rfl k1 k2]
    | some q =>
      obtain ⟨k, i⟩ := q; obtain ⟨q1, q2, q3⟩ := hb; subst q3
      cases l0 with
      | none => simp only [bnd] at ha; subst ha; simp [vals, bound_run rfl q1 q2]
      | some p => obtain ⟨k', i'⟩ := p; obtain ⟨k1, k2, k3⟩ := ha; subst k3; simp [vals, bound_run rfl q1 q2, bound_run rfl k1 k2]
  | some r =>
    obtain ⟨k0, i0⟩ := r; obtain ⟨r1, r2, r3⟩ := hm; subst r3
    cases h0 with
    | none => simp at hs
    | some q =>
      obtain ⟨k, i⟩ := q; obtain ⟨q1, q2, q3⟩ := hb; subst q3
      cases l0 with
      | none => simp only [bnd] at ha; subst ha; simp [vals, bound_run rfl r1 r2, bound_run rfl q1 q2]
      | some p => obtain ⟨k', i'⟩ := p; obtain ⟨k1, k2, k3⟩ := ha; subst k3; simp [vals, bound_run rfl r1 r2, bound_run rfl q1 q2, bound_run rfl k1 k2]
theorem bnd_le {o : IV} {d top n : Nat} (h : bnd o d top n) (hd : d ≤ top) : n ≤ top := by
  cases o with
  | none => simp only [bnd] at h; omega
  | some p => obtain ⟨_, _⟩ := p; obtain ⟨h1, h2, rfl⟩ := h; omega
theorem bnd_top {o : IV} {d d' top top' n : Nat} (h : bnd o d top n) (ho : o.isSome = true) (ht : top ≤ top') : bnd o d' top' n := by
  cases o with
  | none => cases ho
  | some p => obtain ⟨_, _⟩ := p; obtain ⟨h1, h2, rfl⟩ := h; exact ⟨h1, by omega, rfl⟩
/-- options of values -/
def OR (x : Cx) (w : World) (o : Option AV) (o' : Option Value) : Prop := match o, o' with
  | none, none => True
  | some a, some v => VRel x w a v
  | _, _ => False
theorem OR_vals {o : IV} {o' : Option Value} (h : OR x w (avs o) o') : o' = vals o := by
  cases o with
  | none => cases o' with
    | none => rfl
    | some _ => cases h
  | some p => cases o' with
    | none => cases h
    | some v => simp only [avs, Option.map, OR] at h; cases h; rfl
theorem extract_take (s : ByteArray) (a b : Nat) : (s.extract a b).data.toList = (s.data.toList.take b).drop a := by
  rw [ByteArray.data_extract, Array.toList_extract]
  simp [List.extract, List.drop_take]
theorem lies_drop {a : Addr} {vs : List Value} {k : Nat} (h : Lies x w a vs) : Lies x w (a.add k) (vs.drop k) := by
  refine ⟨by rw [add_block]; exact h.1, fun i v hi => ?_⟩
  rw [List.getElem?_drop] at hi
  have e : (a.add k).add i = a.add (k + i) := by
    unfold Addr.add
    by_cases h0 : k = 0
    · subst h0; simp
    · by_cases h1 : i = 0
      · subst h1; simp [h0]
      · simp [h0, h1, Nat.add_assoc]
  rw [e]
  exact h.2 _ _ hi
theorem lies_take {a : Addr} {vs : List Value} {k : Nat} (h : Lies x w a vs) : Lies x w a (vs.take k) := ⟨h.1, fun i v hi => h.2 i v (by
  rw [List.getElem?_take] at hi
  split at hi
  · exact hi
  · cases hi)⟩
end Go.Abs
