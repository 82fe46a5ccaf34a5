/- What is proved: a part of the proof of the tied card of StoreNil (text Abs23 of it). Conditions: those that its theorems name. -/
import Derived.Test.YtifoacdfdcdpmaaGreatDoorAbs22
set_option linter.unusedVariables false
set_option linter.unusedSimpArgs false
namespace Go.Abs
variable {P : Program} {Sg : FuncId → Option Sp} {ops : Array Oper} {N : Nat} {s s' : St} {T : List El}
variable {x0 x : Cx} {w0 w : World}
/-- the listed -/
def LA (l : Array Bool) : Nat → Bool := fun j => l.getD j false
theorem ready_of {l : Array Bool} (hs : l.size = ops.size) {i : Nat} (h : i ∈ Region.ready .any ops l) : i < ops.size ∧ LA l i = false ∧ ∀ j ∈ afters ops i, LA l j = true := by
  unfold Region.ready at h
  obtain ⟨h1, h2⟩ := List.mem_filter.1 h
  have hi := List.mem_range.1 h1
  simp only [Bool.and_eq_true, Bool.not_eq_true'] at h2
  refine ⟨hi, ?_, fun j hj => ?_⟩
  · have := h2.1
    rw [Array.getD_eq_getD_getElem?, Array.getElem?_eq_getElem (by omega)] at this
    simp only [LA, Array.getD_eq_getD_getElem?, Array.getElem?_eq_getElem (show i < l.size by omega)]
    exact this
  · have := h2.2
    unfold afters at hj
    cases ho : ops[i]? with
    | none => rw [ho] at hj; cases hj
    | some o =>
      rw [ho] at hj this
      simp only [Option.map_some, Option.getD_some] at hj this
      obtain ⟨ed, he1, rfl⟩ := List.mem_map.1 hj
      obtain ⟨he1, he2⟩ := List.mem_filter.1 he1
      have h3 := Array.all_eq_true'.1 this ed (by simpa using he1)
      rw [he2] at h3
      simpa [LA] using h3
theorem not_ready {l : Array Bool} (hs : l.size = ops.size) (h : Region.ready .any ops l = []) {i : Nat} (hi : i < ops.size) (ha : ∀ j ∈ afters ops i, LA l j = true) : LA l i = true := by
  cases hl : LA l i with
  | true => rfl
  | false =>
    have : i ∈ Region.ready .any ops l := by
      unfold Region.ready
      refine List.mem_filter.2 ⟨List.mem_range.2 hi, ?_⟩
      simp only [Bool.and_eq_true, Bool.not_eq_true']
      constructor
      · simp only [LA, Array.getD_eq_getD_getElem?, Array.getElem?_eq_getElem (show i < l.size by omega)] at hl
        rw [Array.getD_eq_getD_getElem?, Array.getElem?_eq_getElem (by omega)]
        exact hl
      · rw [Array.getElem?_eq_getElem hi]
        simp only [Option.map_some, Option.getD_some]
        refine Array.all_eq_true'.2 (fun ed hed => ?_)
        cases hb : Region.binds .any ed with
        | false => rfl
        | true =>
          have := ha ed.on (by
            unfold afters
            rw [Array.getElem?_eq_getElem hi]
            exact List.mem_map.2 ⟨ed, List.mem_filter.2 ⟨by simpa using hed, hb⟩, rfl⟩)
          simpa [LA] using this
    rw [h] at this
    cases this
theorem LA_set {l : Array Bool} (hs : l.size = ops.size) {i : Nat} (hi : i < ops.size) : LA (l.setIfInBounds i true) = Ladd (LA l) i := by
  funext j
  simp only [LA, Ladd, Array.getD_eq_getD_getElem?, Array.getElem?_setIfInBounds]
  by_cases h : i = j
  · subst h
    rw [if_pos rfl, if_pos (by omega)]
    simp
  · rw [if_neg h]
    have : (j == i) = false := by simpa using Ne.symm h
    simp [this]
theorem any_of (F : Facts P Sg N ops s s' T) (hop : ∀ k, k < N → OpS P Sg k) {Q : Exit → Act → World → Prop} (hQ : ∀ a' w', Went x0 s w0 s' a' w' → Q .normal a' w') :
    ∀ (fuel : Nat) (l : Array Bool) (left : List Nat) (x : Cx) (a : Act) (w : World), l.size = ops.size → left.Nodup → left.length = fuel → (∀ j, j ∈ left ↔ j < ops.size ∧ LA l j = false) → Inv ops s s' T x0 w0 (LA l) x a w → wpAny P .any ops Q fuel l a w := by
  have fin : ∀ (l : Array Bool) (x : Cx) (a : Act) (w : World), l.size = ops.size → Inv ops s s' T x0 w0 (LA l) x a w → Region.ready .any ops l = [] → Q .normal a w := by
    intro l x a w hs I hr
    have hall : ∀ e ∈ T, LA l e.i = true := fun e he =>
      okOrd_all (L := LA l) (T.map (·.i)) [] F.ord (fun _ h => by cases h) (fun i hi ha => by
        obtain ⟨f, hf, rfl⟩ := List.mem_map.1 hi
        exact not_ready hs hr (F.lt hf) ha) e.i (List.mem_map.2 ⟨e, he, rfl⟩)
    have htm : ∀ t, (tmOf ops s.nt (LA l) T s.tm).get t = s'.tm.get t := by
      intro t
      rw [← tm_canon F.chain F.steps]
      exact tmOf_congr T _ _ (fun e he _ => hall e he) rfl
    have hhm : hmOf (LA l) T s.hp.blks.get = s'.hp.blks.get := by
      rw [← hm_canon F.chain F.steps]
      exact hmOf_congr T _ (fun e he _ => hall e he)
    refine hQ _ _ ⟨x, by rw [← hhm]; exact I.ext, fun t => by rw [← htm]; exact I.tm t, ?_, I.df, by rw [← hhm]; exact I.hp⟩
    rw [I.nt, (chain_grow F.chain F.steps).2]
  intro fuel
  induction fuel with
  | zero =>
    intro l left x a w hs hnd hlen hmem I
    have hr : Region.ready .any ops l = [] := by
      cases h : Region.ready .any ops l with
      | nil => rfl
      | cons i r =>
        obtain ⟨h1, h2, _⟩ := ready_of hs (i := i) (by rw [h]; exact List.mem_cons_self)
        have := (hmem i).2 ⟨h1, h2⟩
        rw [List.eq_nil_of_length_eq_zero hlen] at this
        cases this
    exact ⟨hr, fin l x a w hs I hr⟩
  | succ fuel ih =>
    intro l left x a w hs hnd hlen hmem I
    refine ⟨fin l x a w hs I, fun i hi => ?_⟩
    obtain ⟨h1, h2, h3⟩ := ready_of hs hi
    obtain ⟨e, he, rfl⟩ := F.all h1
    obtain ⟨p, q, hT⟩ := List.append_of_mem he
    refine I.step F hop hT h2 h3 (fun y a' w' I' => ?_)
    rw [← LA_set hs h1] at I'
    refine ih _ (left.erase e.i) y a' w' (by simpa using hs) (hnd.erase _) ?_ (fun j => ?_) I'
    · rw [List.length_erase_of_mem ((hmem _).2 ⟨h1, h2⟩), hlen]; rfl
    · rw [LA_set hs h1, hnd.mem_erase_iff, hmem]
      by_cases hj : j = e.i
      · subst hj
        simp [Ladd_self]
      · rw [Ladd_ne hj]
        simp [hj]
theorem drawS_of {n : Nat} (hop : ∀ k, k < n → OpS P Sg k) : DrawS P Sg n := by
  intro ops ord s s' recs x w a h hok hchk hwf hs hf Q hQ
  obtain ⟨T, t1, t2, t3, t4⟩ := opsD_trace n n ord s s' recs (Nat.le_refl _) h
  have F : Facts P Sg n ops s s' T := ⟨t3, t4, by rw [t1]; exact hok, fun e he => by
    rw [t1, ← t2]
    exact List.all_eq_true.1 hchk e.key (by rw [t2]; exact List.mem_map.2 ⟨e, he, rfl⟩), hwf⟩
  have hL0 : LA (Array.replicate ops.size false) = fun _ => false := by
    funext j
    simp only [LA, Array.getD_eq_getD_getElem?, Array.getElem?_replicate]
    split <;> rfl
  refine any_of F hop hQ ops.size _ (List.range ops.size) x a w (by simp) List.nodup_range (by simp) (fun j => by rw [hL0]; simp) ?_
  rw [hL0]
  have h1 : hmOf (fun _ => false) T s.hp.blks.get = s.hp.blks.get := hmOf_off T _ (fun _ _ => rfl)
  refine ⟨fun t => ?_, hs.nt, hs.df, by rw [h1]; exact hs.hp, ?_, fun e he _ k hk1 hk2 => ?_, fun i hi => by cases hi⟩
  · rw [tmOf_skip T _ (fun _ _ _ => rfl)]
    exact hs.tm t
  · rw [h1]
    have := (Ext.refl (x := x) (hm := s.hp.blks.get) (n := s.hp.next) (w := w))
    exact ⟨this.m, this.κ, fun _ _ => rfl, this.F, this.Fn, this.τ, this.os, this.tape, this.output, this.size, this.fr, this.im⟩
  · have := chain_above F.chain F.steps he
    exact hf k (by omega) (by omega)
/-- what the interpreter says is what the program does -/
theorem sound (hS : Sound P Sg) : ∀ n, CodeS P Sg n ∧ LoopS P Sg n ∧ ListS P Sg n ∧ OpS P Sg n ∧ CallS P Sg n ∧ ∀ k, k ≤ n → OpS P Sg k
  | 0 => ⟨fun _ _ _ _ _ _ e => by simp [code] at e, fun _ _ _ _ _ _ e => by simp [code] at e, fun _ _ _ _ _ _ _ e => by simp [opsR] at e, fun _ _ _ _ _ _ _ _ e => by simp [opC] at e, fun _ _ _ _ _ _ _ _ e => by simp [call] at e,
    fun k hk => by
      have : k = 0 := by omega
      subst this
      exact fun _ _ _ _ _ _ _ _ e => by simp [opC] at e⟩
  | n + 1 => by
    obtain ⟨h1, h2, h3, h4, h5, h6⟩ := sound hS n
    have hl := loopS_of h1 h2
    have ho := opS_of hS h5
    refine ⟨codeS_of hS h3 (drawS_of (fun k hk => h6 k (by omega))) h1 hl, hl, listS_of h4 h3, ho, callS_of hS h1, fun k hk => ?_⟩
    by_cases hkn : k = n + 1
    · subst hkn; exact ho
    · exact h6 k (by omega)
/-- a call -/
theorem call_sound (hS : Sound P Sg) {n : Nat} {f : FuncId} {as : List AV} {v : AV} {h h' : Hp} {x : Cx} {w : World} {as' : Array Value} (e : call P Sg n f as h = some (v, h')) (ha : VRels x w as as'.toList) (hr : HRel x h.blks.get w) (hwf : Wf h) (hf : Free x h h') :
    Calls P f as' w (fun e w' => ∃ r, e = .returned r ∧ Did x h w v h' r w') :=
  (sound hS n).2.2.2.2.1 _ _ _ _ _ _ _ _ e ha hr hwf hf
end Go.Abs
#print axioms Go.Abs.call_sound
