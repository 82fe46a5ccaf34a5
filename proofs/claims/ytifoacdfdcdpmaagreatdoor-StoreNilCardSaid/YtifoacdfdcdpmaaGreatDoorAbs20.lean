/- What is proved: a part of the proof of the tied card of StoreNil (text Abs20 of it). Conditions: those that its theorems name. -/
import Derived.Test.YtifoacdfdcdpmaaGreatDoorAbs19
set_option linter.unusedVariables false
set_option linter.unusedSimpArgs false
namespace Go.Abs
variable {P : Program} {Sg : FuncId → Option Sp} {ops : Array Oper}
/-! ### the facts of a region -/
structure Facts (P : Program) (Sg : FuncId → Option Sp) (N : Nat) (ops : Array Oper) (s s' : St) (T : List El) : Prop where
  chain : Chain s T s'
  steps : ∀ e ∈ T, StepR P Sg N ops e
  ok : okR ops (T.map (·.i)) = true
  chk : ∀ e ∈ T, chkRd P ops (preds ops (T.map (·.i)) []) (snapsOf (T.map El.key) [] s.hp) e.key = true
  wf : Wf s.hp
variable {N : Nat} {s s' : St} {T : List El}
theorem Facts.ord (F : Facts P Sg N ops s s' T) : okOrd ops [] (T.map (·.i)) = true := by
  have := F.ok
  simp only [okR, Bool.and_eq_true] at this
  exact this.1.1.1.1.2
theorem Facts.efo (F : Facts P Sg N ops s s' T) : okEf ops (preds ops (T.map (·.i)) []) [] (T.map (·.i)) = true := by
  have := F.ok
  simp only [okR, Bool.and_eq_true] at this
  exact this.1.1.1.2
theorem Facts.tmo (F : Facts P Sg N ops s s' T) : okTm ops (preds ops (T.map (·.i)) []) (T.map (·.i)) = true := by
  have := F.ok
  simp only [okR, Bool.and_eq_true] at this
  exact this.1.1.2
theorem Facts.lt (F : Facts P Sg N ops s s' T) {e : El} (he : e ∈ T) : e.i < ops.size := by
  have := F.ok
  simp only [okR, Bool.and_eq_true, List.all_eq_true] at this
  simpa using this.1.2 e.i (List.mem_map.2 ⟨e, he, rfl⟩)
theorem Facts.all (F : Facts P Sg N ops s s' T) {i : Nat} (hi : i < ops.size) : ∃ e ∈ T, e.i = i := by
  have := F.ok
  simp only [okR, Bool.and_eq_true, List.all_eq_true, List.contains_iff_mem, List.mem_range] at this
  obtain ⟨e, h1, h2⟩ := List.mem_map.1 (this.2 i hi)
  exact ⟨e, h1, h2⟩
theorem Facts.notin (F : Facts P Sg N ops s s' T) {p q : List El} {e : El} (h : T = p ++ e :: q) : (∀ f ∈ p, f.i ≠ e.i) ∧ ∀ f ∈ q, f.i ≠ e.i := by
  have ho := F.ord
  constructor
  · intro f hf he
    rw [h, List.map_append, List.map_cons] at ho
    have := (okOrd_split _ [] e.i _ ho).2.2
    exact this (he ▸ List.mem_map.2 ⟨f, hf, rfl⟩)
  · intro f hf he
    obtain ⟨q1, q2, rfl⟩ := List.append_of_mem hf
    rw [h, show p ++ e :: (q1 ++ f :: q2) = (p ++ e :: q1) ++ f :: q2 by simp, List.map_append, List.map_cons (a := f)] at ho
    have := (okOrd_split _ [] f.i _ ho).2.2
    apply this
    rw [he]
    exact List.mem_map.2 ⟨e, by simp, rfl⟩
theorem Facts.before (F : Facts P Sg N ops s s' T) {p q : List El} {e : El} (h : T = p ++ e :: q) {j : Nat} (hr : Reach ops j e.i) : ∃ f ∈ p, f.i = j := by
  have := reach_before F.ord hr (p.map (·.i)) (q.map (·.i)) (by rw [h]; simp)
  obtain ⟨f, h1, h2⟩ := List.mem_map.1 this
  exact ⟨f, h1, h2⟩
theorem ef_isEf {e : El} (h : StepR P Sg N ops e) (hr : e.rc.ef? = true) : isEf ops e.i = true := by
  cases h with
  | off o ho hw hrc ha =>
    cases he : isEf ops e.i with
    | true => rfl
    | false => rw [hrc, he] at hr; cases hr
  | on o k v h ho hw hk hc ha hrc =>
    unfold isEf kindAt
    rw [ho]
    simp only []
    cases hkd : kindO o.op <;> rw [hkd] at hrc <;> simp only [] at hrc ⊢
    · rw [hrc] at hr; cases hr
    · rw [hrc] at hr; cases hr
    · obtain ⟨b, _, hrc⟩ := hrc; rw [hrc] at hr; cases hr
theorem al_isAl {e : El} (h : StepR P Sg N ops e) (hr : e.rc.al? = true) : isAl ops e.i = true := by
  cases h with
  | off o ho hw hrc ha =>
    rw [hrc] at hr
    split at hr <;> cases hr
  | on o k v h ho hw hk hc ha hrc =>
    unfold isAl kindAt
    rw [ho]
    simp only []
    cases hkd : kindO o.op <;> rw [hkd] at hrc <;> simp only [] at hrc ⊢
    · rw [hrc] at hr; cases hr
    · rw [hrc] at hr; cases hr
    · rw [hrc] at hr; cases hr
/-- an effect comes behind every effect and every new block ahead of it -/
theorem Facts.reach (F : Facts P Sg N ops s s' T) {p q : List El} {e f : El} (h : T = p ++ e :: q) (he : e.rc.ef? = true) (hf : f ∈ p) (hk : f.rc.ef? = true ∨ f.rc.al? = true) : Reach ops f.i e.i := by
  have hs := F.steps
  have hT : T.map (·.i) = p.map (·.i) ++ e.i :: q.map (·.i) := by rw [h]; simp
  have h0 := F.efo
  rw [hT] at h0
  have h1 := okEf_split (p.map (·.i)) [] e.i (q.map (·.i)) h0 (ef_isEf (hs e (by rw [h]; simp)) he) f.i (.inr (List.mem_map.2 ⟨f, hf, rfl⟩))
    (by rcases hk with hk | hk
        · rw [ef_isEf (hs f (by rw [h]; simp [hf])) hk]; rfl
        · rw [al_isAl (hs f (by rw [h]; simp [hf])) hk]; simp)
  exact pre_reach h1
theorem Facts.slots (F : Facts P Sg N ops s s' T) {e f : El} (he : e ∈ T) (hf : f ∈ T) (hne : e.i ≠ f.i) {d : Tmp} (hd : dstAt ops e.i = some d) :
    dstAt ops f.i ≠ some d ∧ ∀ o, ops[f.i]? = some o → d ∈ o.looksAt ops → Reach ops e.i f.i ∨ Reach ops f.i e.i := by
  have h := F.tmo
  simp only [okTm, List.all_eq_true] at h
  have h1 := h e.i (List.mem_map.2 ⟨e, he, rfl⟩)
  rw [hd] at h1
  simp only [List.all_eq_true] at h1
  have h2 := h1 f.i (List.mem_map.2 ⟨f, hf, rfl⟩)
  have hb : (e.i == f.i) = false := by simpa using hne
  rw [hb] at h2
  simp only [Bool.false_or, Bool.and_eq_true, bne_iff_ne, ne_eq] at h2
  refine ⟨h2.1, fun o ho hm => ?_⟩
  have h3 := h2.2
  rw [ho] at h3
  simp only [Bool.or_eq_true, Bool.not_eq_true'] at h3
  rcases h3 with (h3 | h3) | h3
  · rw [← Bool.not_eq_true, List.contains_iff_mem] at h3; exact absurd hm h3
  · exact .inl (pre_reach h3)
  · exact .inr (pre_reach h3)
/-! ### snapshots -/
theorem snap {L : Nat → Bool} : ∀ (l : List El) (done : List Nat) (h : Hp) (hm : HM), (∀ i ∈ done, L i = true) → Wf h → (∀ n b, h.blks.get n = some b → hm n = some b) → (∀ e ∈ l, h.next ≤ e.b.hp.next) → (∀ e ∈ l, StepR P Sg N ops e) →
    (∀ p e q, l = p ++ e :: q → e.rc.ef? = true → L e.i = true → ∀ f ∈ p, f.rc.ef? = true → L f.i = true) → (∀ e ∈ l, ∀ v h', e.rc = .ef v h' → h' = e.a.hp ∧ Wf h' ∧ ∀ f q p, l = p ++ e :: q → f ∈ q → h'.next ≤ f.b.hp.next) →
    ∃ σ ∈ snapsOf (l.map El.key) done h, (∀ i ∈ σ.1, L i = true) ∧ (∀ i ∈ efs σ.2.2, L i = false) ∧ ∀ n b, σ.2.1.blks.get n = some b → hmOf L l hm n = some b
  | [], done, h, hm, hd, hwf, hsub, _, _, _, _ => ⟨(done, h, []), by simp [snapsOf], hd, by simp [efs], hsub⟩
  | e :: l, done, h, hm, hd, hwf, hsub, hab, hst, hpre, hef => by
    have tl_pre : ∀ p f q, l = p ++ f :: q → f.rc.ef? = true → L f.i = true → ∀ g ∈ p, g.rc.ef? = true → L g.i = true :=
      fun p f q h1 h2 h3 g hg => hpre (e :: p) f q (by rw [h1]; rfl) h2 h3 g (List.mem_cons_of_mem _ hg)
    have tl_ef : ∀ f ∈ l, ∀ v h', f.rc = .ef v h' → h' = f.a.hp ∧ Wf h' ∧ ∀ g q p, l = p ++ f :: q → g ∈ q → h'.next ≤ g.b.hp.next :=
      fun f hf v h' hr => let ⟨a, b, c⟩ := hef f (List.mem_cons_of_mem _ hf) v h' hr; ⟨a, b, fun g q p h1 hg => c g q (e :: p) (by rw [h1]; rfl) hg⟩
    have tl_st := fun f (hf : f ∈ l) => hst f (List.mem_cons_of_mem _ hf)
    have tl_ab := fun f (hf : f ∈ l) => hab f (List.mem_cons_of_mem _ hf)
    have plain : e.rc.ef? = false → (∀ n b, h.blks.get n = some b → (if L e.i then hm1 hm e.rc else hm) n = some b) →
        ∃ σ ∈ snapsOf ((e :: l).map El.key) done h, (∀ i ∈ σ.1, L i = true) ∧ (∀ i ∈ efs σ.2.2, L i = false) ∧ ∀ n b, σ.2.1.blks.get n = some b → hmOf L (e :: l) hm n = some b := by
      intro hne hs2
      obtain ⟨σ, h1, h2⟩ := snap l done h _ hd hwf hs2 tl_ab tl_st tl_pre tl_ef
      refine ⟨σ, ?_, h2⟩
      rw [List.map_cons]
      have : snapsOf (e.key :: l.map El.key) done h = snapsOf (l.map El.key) done h := by
        unfold El.key
        cases hr : e.rc with
        | ef _ _ => rw [hr] at hne; cases hne
        | off => rfl
        | val _ _ => rfl
        | al _ _ _ => rfl
      rw [this]
      exact h1
    cases hr : e.rc with
    | off => exact plain (by rw [hr]; rfl) (by rw [hr]; simpa [hm1] using hsub)
    | val _ _ => exact plain (by rw [hr]; rfl) (by rw [hr]; simpa [hm1] using hsub)
    | al v n b =>
      refine plain (by rw [hr]; rfl) (fun k c hk => ?_)
      split
      · rw [hr]
        simp only [hm1, upd]
        have hlt := hwf _ _ hk
        have hge := hab e List.mem_cons_self
        rw [if_neg]
        · exact hsub _ _ hk
        · intro hkn
          have hn : n = e.b.hp.next := by
            cases hst e List.mem_cons_self with
            | off o ho hw hr' ha =>
              rw [hr] at hr'
              split at hr' <;> cases hr'
            | on o k' v' h' ho hw hk hc ha hr' =>
              rw [hr] at hr'
              cases hkd : kindO o.op <;> rw [hkd] at hr' <;> simp only [] at hr'
              · cases hr'
              · cases hr'
              · obtain ⟨_, _, e2⟩ := hr'; injection e2
              · cases hr'
          omega
      · exact hsub _ _ hk
    | ef v h' =>
      obtain ⟨he1, he2, he3⟩ := hef e List.mem_cons_self v h' hr
      have hsn : snapsOf ((e :: l).map El.key) done h = (done, h, (e :: l).map El.key) :: snapsOf (l.map El.key) (e.i :: done) h' := by
        rw [List.map_cons]
        simp only [El.key, hr, snapsOf]
      rw [hsn]
      by_cases hl : L e.i = true
      · obtain ⟨σ, h1, h2, h3, h4⟩ := snap l (e.i :: done) h' (hm1 hm e.rc) (fun i hi => by
          rcases List.mem_cons.1 hi with rfl | hi
          · exact hl
          · exact hd i hi) he2 (fun n b hn => by rw [hr]; exact hn) (fun f hf => he3 f l [] rfl hf) tl_st tl_pre tl_ef
        refine ⟨σ, List.mem_cons_of_mem _ h1, h2, h3, ?_⟩
        rw [hmOf, if_pos hl]
        exact h4
      · have hl' : L e.i = false := by simpa using hl
        have hnone : ∀ f ∈ e :: l, f.rc.ef? = true → L f.i = false := by
          intro f hf hfe
          rcases List.mem_cons.1 hf with rfl | hf
          · exact hl'
          · obtain ⟨p, q, hpq⟩ := List.append_of_mem hf
            cases hLf : L f.i with
            | false => rfl
            | true =>
              have := hpre (e :: p) f q (by rw [hpq]; rfl) hfe hLf e List.mem_cons_self (by rw [hr]; rfl)
              rw [hl'] at this; cases this
        refine ⟨(done, h, (e :: l).map El.key), List.mem_cons_self, hd, ?_, ?_⟩
        · intro i hi
          simp only [efs] at hi
          obtain ⟨⟨j, rc⟩, hj, hji⟩ := List.mem_filterMap.1 hi
          obtain ⟨f, hf, hfk⟩ := List.mem_map.1 hj
          unfold El.key at hfk
          injection hfk with h1 h2
          simp only [] at hji
          split at hji
          · injection hji with hji
            rw [← hji, ← h1]
            exact hnone f hf (by rw [h2]; rfl)
          · cases hji
        · intro n b hn
          rw [hmOf_adds (e :: l) hm hnone]
          have hlt := hwf _ _ hn
          cases ha : hmOf L (e :: l) (fun _ => none) n with
          | none => simp only [ha, Option.none_or]; exact hsub _ _ hn
          | some b' =>
            rcases adds_above (m := h.next) hnone hst hab ha with h | h
            · cases h
            · omega
/-! ### a frame around a step -/
theorem Ext.around {x : Cx} {hm : HM} {n0 : Nat} {w : World} {y : Cx} {hm' : HM} {n1 : Nat} {w' : World} (h : Ext x hm n0 w y hm' n1 w') {km km' : HM} {m0 m1 : Nat} (hr : HRel x km w) (hsub : ∀ n b, hm n = some b → km n = some b)
    (hk : ∀ n b, km' n = some b → hm' n = some b ∨ (hm n = none ∧ hm' n = none ∧ km n = some b)) (hmo : ∀ n, n < m0 ∨ m1 ≤ n → n < n0 ∨ n1 ≤ n) : Ext x km m0 w y km' m1 w' where
  m := h.m
  κ := h.κ
  mo n hn := h.mo n (hmo n hn)
  F := h.F
  Fn := h.Fn
  τ := h.τ
  os := h.os
  tape := h.tape
  output := h.output
  size := h.size
  fr c hc hn := h.fr c hc (fun n b e => hn n b (hsub n b e))
  im n b c e hx := by
    rcases hk n b e with e | ⟨_, _, e⟩
    · rcases h.im n b c e hx with ⟨n', b', e', hx'⟩ | hge
      · exact .inl ⟨n', b', hsub _ _ e', hx'⟩
      · exact .inr hge
    · obtain ⟨c0, h0, _⟩ := hr.blk n b e
      have := h.m _ _ h0
      rw [hx] at this
      injection this with this
      subst this
      exact .inl ⟨n, b, e, h0⟩
theorem Ext.then {x y z : Cx} {hm km lm : HM} {n0 n1 : Nat} {u v w : World} (h : Ext x hm n0 u y km n1 v) (k : Ext y km n0 v z lm n1 w) : Ext x hm n0 u z lm n1 w where
  m n c e := k.m n c (h.m n c e)
  κ n c e := (k.κ n c (h.m n c e)).trans (h.κ n c e)
  mo n e := by rw [k.mo n e, h.mo n e]
  F c e := k.F c (h.F c e)
  Fn c e := by
    rcases k.Fn c e with e | e
    · exact h.Fn c e
    · exact .inr (Nat.le_trans h.size e)
  τ := k.τ.trans h.τ
  os := k.os.trans h.os
  tape := k.tape.trans h.tape
  output := k.output.trans h.output
  size := Nat.le_trans h.size k.size
  fr c hc hn := by
    rw [k.fr c (Nat.lt_of_lt_of_le hc h.size) (fun n b e hx => by
      rcases h.im n b c e hx with ⟨n', b', e', hx'⟩ | hge
      · exact hn n' b' e' hx'
      · omega)]
    exact h.fr c hc hn
  im n b c e hx := by
    rcases k.im n b c e hx with ⟨n', b', e', hx'⟩ | hge
    · exact h.im n' b' c e' hx'
    · exact .inr (Nat.le_trans h.size hge)
end Go.Abs
