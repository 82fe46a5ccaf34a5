/- What is proved: a part of the proof of the tied card of StoreNil (text Abs18 of it). Conditions: those that its theorems name. -/
import Derived.Test.YtifoacdfdcdpmaaGreatDoorAbs17
set_option linter.unusedVariables false
set_option linter.unusedSimpArgs false
namespace Go.Abs
variable {P : Program} {Sg : FuncId → Option Sp} {ops : Array Oper}
/-! ### what comes before what -/
inductive Reach (ops : Array Oper) : Nat → Nat → Prop
  | one {i j : Nat} (h : i ∈ afters ops j) : Reach ops i j
  | more {i k j : Nat} (h : Reach ops i k) (hk : k ∈ afters ops j) : Reach ops i j
theorem mem_of_lookup {l : List (Nat × List Nat)} {j : Nat} {r : List Nat} (h : l.lookup j = some r) : (j, r) ∈ l := by
  induction l with
  | nil => cases h
  | cons p l ih =>
    obtain ⟨a, b⟩ := p
    rw [List.lookup_cons] at h
    split at h
    · rename_i hj
      simp only [beq_iff_eq] at hj
      injection h with h
      subst hj; subst h
      exact List.mem_cons_self
    · exact List.mem_cons_of_mem _ (ih h)
theorem preds_reach : ∀ (l : List Nat) (acc : List (Nat × List Nat)), (∀ i r, (i, r) ∈ acc → ∀ j ∈ r, Reach ops j i) → ∀ i r, (i, r) ∈ preds ops l acc → ∀ j ∈ r, Reach ops j i
  | [], acc, h, i, r, hm, j, hj => h i r hm j hj
  | a :: l, acc, h, i, r, hm, j, hj => by
    rw [preds] at hm
    refine preds_reach l _ (fun i r hm j hj => ?_) i r hm j hj
    rcases List.mem_cons.1 hm with e | hm
    · injection e with e1 e2
      subst e1; subst e2
      rcases List.mem_append.1 hj with hj | hj
      · exact .one hj
      · obtain ⟨k, hk, hj⟩ := List.mem_flatMap.1 hj
        cases hl : acc.lookup k with
        | none => rw [hl] at hj; cases hj
        | some r => rw [hl] at hj; exact .more (h _ _ (mem_of_lookup hl) _ hj) hk
    · exact h i r hm j hj
theorem pre_reach {ord : List Nat} {i j : Nat} (h : pre (preds ops ord []) i j = true) : Reach ops i j := by
  unfold pre at h
  cases hl : (preds ops ord []).lookup j with
  | none => rw [hl] at h; simp at h
  | some r =>
    rw [hl] at h
    simp only [Option.getD_some, List.contains_iff_mem] at h
    exact preds_reach ord [] (fun _ _ h => by cases h) _ _ (mem_of_lookup hl) _ h
theorem okOrd_split : ∀ (p : List Nat) (seen : List Nat) (i : Nat) (q : List Nat), okOrd ops seen (p ++ i :: q) = true → (∀ j ∈ afters ops i, j ∈ seen ∨ j ∈ p) ∧ i ∉ seen ∧ i ∉ p
  | [], seen, i, q, h => by
    simp only [List.nil_append, okOrd, Bool.and_eq_true, List.all_eq_true, List.contains_iff_mem, Bool.not_eq_true'] at h
    refine ⟨fun j hj => .inl (h.1.1 j hj), fun hm => ?_, by simp⟩
    have := h.1.2
    rw [← Bool.not_eq_true, List.contains_iff_mem] at this
    exact this hm
  | a :: p, seen, i, q, h => by
    rw [List.cons_append, okOrd, Bool.and_eq_true] at h
    obtain ⟨h1, h2, h3⟩ := okOrd_split p (a :: seen) i q h.2
    refine ⟨fun j hj => ?_, fun hm => h2 (List.mem_cons_of_mem _ hm), fun hm => ?_⟩
    · rcases h1 j hj with hj | hj
      · rcases List.mem_cons.1 hj with rfl | hj
        · exact .inr List.mem_cons_self
        · exact .inl hj
      · exact .inr (List.mem_cons_of_mem _ hj)
    · rcases List.mem_cons.1 hm with rfl | hm
      · exact h2 List.mem_cons_self
      · exact h3 hm
theorem okOrd_all {L : Nat → Bool} : ∀ (l seen : List Nat), okOrd ops seen l = true → (∀ j ∈ seen, L j = true) → (∀ i ∈ l, (∀ j ∈ afters ops i, L j = true) → L i = true) → ∀ i ∈ l, L i = true
  | [], _, _, _, _, i, hi => by cases hi
  | a :: l, seen, h, hs, hr, i, hi => by
    simp only [okOrd, Bool.and_eq_true, List.all_eq_true, List.contains_iff_mem] at h
    have ha : L a = true := hr a List.mem_cons_self (fun j hj => hs j (h.1.1 j hj))
    rcases List.mem_cons.1 hi with rfl | hi
    · exact ha
    · refine okOrd_all l (a :: seen) h.2 (fun j hj => ?_) (fun k hk => hr k (List.mem_cons_of_mem _ hk)) i hi
      rcases List.mem_cons.1 hj with rfl | hj
      · exact ha
      · exact hs j hj
theorem reach_before {ord : List Nat} (h : okOrd ops [] ord = true) {j i : Nat} (hr : Reach ops j i) : ∀ p q, ord = p ++ i :: q → j ∈ p := by
  induction hr with
  | one hj =>
    intro p q e
    rw [e] at h
    rcases (okOrd_split p [] _ q h).1 _ hj with hj | hj
    · cases hj
    · exact hj
  | more hr hk ih =>
    rename_i k0 j0
    intro p q e
    rw [e] at h
    rcases (okOrd_split p [] _ q h).1 _ hk with hk | hk
    · cases hk
    · obtain ⟨p1, p2, rfl⟩ := List.append_of_mem hk
      have := ih p1 (p2 ++ j0 :: q) (by rw [e]; simp)
      exact List.mem_append_left _ this
theorem okEf_split {ps : List (Nat × List Nat)} : ∀ (p seen : List Nat) (i : Nat) (q : List Nat), okEf ops ps seen (p ++ i :: q) = true → isEf ops i = true → ∀ j, j ∈ seen ∨ j ∈ p → (isEf ops j || isAl ops j) = true → pre ps j i = true
  | [], seen, i, q, h, hi, j, hj, hk => by
    simp only [List.nil_append, okEf, hi, Bool.and_eq_true, List.all_eq_true, Bool.not_true, Bool.false_or] at h
    rcases hj with hj | hj
    · have := h.1 j hj
      rw [hk] at this
      simpa using this
    · cases hj
  | a :: p, seen, i, q, h, hi, j, hj, hk => by
    rw [List.cons_append, okEf, Bool.and_eq_true] at h
    refine okEf_split p (a :: seen) i q h.2 hi j ?_ hk
    rcases hj with hj | hj
    · exact .inl (List.mem_cons_of_mem _ hj)
    · rcases List.mem_cons.1 hj with rfl | hj
      · exact .inl List.mem_cons_self
      · exact .inr hj
/-- what is listed is listed with what comes before it -/
def Closed (ops : Array Oper) (L : Nat → Bool) : Prop := ∀ i, L i = true → ∀ j ∈ afters ops i, L j = true
theorem reach_listed {L : Nat → Bool} (hc : Closed ops L) {i j : Nat} (hr : Reach ops j i) (hi : ∀ k ∈ afters ops i, L k = true) : L j = true := by
  induction hr with
  | one hj => exact hi _ hj
  | more hr hk ih => exact ih (fun k hk' => hc _ (hi _ hk) k hk')
/-! ### the trace -/
structure El where
  b : St
  i : Nat
  rc : Rc
  a : St
def Rc.v : Rc → AV
  | .off => .tup []
  | .val _ v => v
  | .al v _ _ => v
  | .ef v _ => v
inductive StepR (P : Program) (Sg : FuncId → Option Sp) (N : Nat) (ops : Array Oper) (e : El) : Prop
  | off (o : Oper) (ho : ops[e.i]? = some o) (hw : wantedA ops e.b.tm o.guard = some false) (hr : e.rc = if isEf ops e.i then .ef (.tup []) e.b.hp else .off) (ha : e.a = ⟨putT e.b.tm e.b.nt o.dst (.tup []), e.b.nt, e.b.hp⟩)
  | on (o : Oper) (k : Nat) (v : AV) (h : Hp) (ho : ops[e.i]? = some o) (hw : wantedA ops e.b.tm o.guard = some true) (hk : k < N) (hc : opC P Sg k e.b.tm e.b.hp o.op = some (v, h)) (ha : e.a = ⟨putT e.b.tm e.b.nt o.dst v, e.b.nt, h⟩)
      (hr : match kindO o.op with
        | .ef => e.rc = .ef v h
        | .al => ∃ b, h.blks.get e.b.hp.next = some b ∧ e.rc = .al v e.b.hp.next b
        | _ => e.rc = .val e.b.tm v)
def Chain : St → List El → St → Prop
  | s, [], s' => s = s'
  | s, e :: l, s' => e.b = s ∧ Chain e.a l s'
def El.key (e : El) : Nat × Rc := (e.i, e.rc)
theorem opsD_trace : ∀ (n N : Nat) (ord : List Nat) (s s' : St) (recs : List (Nat × Rc)), n ≤ N → opsD P Sg n ops ord s = some (recs, s') →
    ∃ T : List El, T.map (·.i) = ord ∧ recs = T.map El.key ∧ Chain s T s' ∧ ∀ e ∈ T, StepR P Sg N ops e
  | 0, N, ord, s, s', recs, hN, h => by simp [opsD] at h
  | n + 1, N, [], s, s', recs, hN, h => by
    simp only [opsD] at h
    injection h with h
    injection h with h1 h2
    subst h1; subst h2
    exact ⟨[], rfl, rfl, rfl, by simp⟩
  | n + 1, N, i :: r, s, s', recs, hN, h => by
    simp only [opsD] at h
    split at h
    · cases h
    · rename_i o ho
      split at h
      · rename_i hw
        split at h
        · rename_i v h' h1
          split at h
          · rename_i l s1 h2
            obtain ⟨T, t1, t2, t3, t4⟩ := opsD_trace n N r _ _ _ (by omega) h2
            have fin : ∀ rc, (match kindO o.op with
                | .ef => rc = .ef v h'
                | .al => ∃ b, h'.blks.get s.hp.next = some b ∧ rc = .al v s.hp.next b
                | _ => rc = .val s.tm v) → ∃ T' : List El, T'.map (·.i) = i :: r ∧ (i, rc) :: l = T'.map El.key ∧ Chain s T' s1 ∧ ∀ e ∈ T', StepR P Sg N ops e := by
              intro rc hrc
              refine ⟨⟨s, i, rc, ⟨putT s.tm s.nt o.dst v, s.nt, h'⟩⟩ :: T, by simp [t1], by simp [El.key, t2], ⟨rfl, t3⟩, ?_⟩
              intro e he
              rcases List.mem_cons.1 he with rfl | he
              · exact .on o n v h' ho hw (by omega) h1 rfl hrc
              · exact t4 e he
            cases hk : kindO o.op <;> rw [hk] at h fin <;> simp only [] at h fin
            · injection h with h; injection h with h1 h2; subst h1; subst h2; exact fin _ rfl
            · injection h with h; injection h with h1 h2; subst h1; subst h2; exact fin _ rfl
            · split at h
              · rename_i b hb
                injection h with h; injection h with h1 h2; subst h1; subst h2; exact fin _ ⟨b, hb, rfl⟩
              · cases h
            · injection h with h; injection h with h1 h2; subst h1; subst h2; exact fin _ rfl
          · cases h
        · cases h
      · rename_i hw
        split at h
        · rename_i l s1 h2
          injection h with h; injection h with h1 h2'; subst h1; subst h2'
          obtain ⟨T, t1, t2, t3, t4⟩ := opsD_trace n N r _ _ _ (by omega) h2
          refine ⟨⟨s, i, if isEf ops i then .ef (.tup []) s.hp else .off, ⟨putT s.tm s.nt o.dst (.tup []), s.nt, s.hp⟩⟩ :: T, by simp [t1], by simp [El.key, t2], ⟨rfl, t3⟩, ?_⟩
          intro e he
          rcases List.mem_cons.1 he with rfl | he
          · exact .off o ho hw rfl rfl
          · exact t4 e he
        · cases h
      · cases h
theorem step_grow {N : Nat} {e : El} (h : StepR P Sg N ops e) : Grow e.b.hp e.a.hp := by
  cases h with
  | off o ho hw hr ha => rw [ha]; exact Grow.refl _
  | on o k v h ho hw hk hc ha hr => rw [ha]; exact (grows (P := P) (Sg := Sg) k).2.2.2.1 _ _ _ _ hc
theorem step_nt {N : Nat} {e : El} (h : StepR P Sg N ops e) : e.a.nt = e.b.nt := by
  cases h with
  | off o ho hw hr ha => rw [ha]
  | on o k v h ho hw hk hc ha hr => rw [ha]
theorem chain_split : ∀ {p : List El} {s s' : St} {e : El} {q : List El}, Chain s (p ++ e :: q) s' → Chain s p e.b ∧ Chain e.a q s'
  | [], s, s', e, q, h => ⟨h.1.symm, h.2⟩
  | f :: p, s, s', e, q, h => by
    obtain ⟨h1, h2⟩ := chain_split (p := p) h.2
    exact ⟨⟨h.1, h1⟩, h2⟩
theorem chain_grow {N : Nat} : ∀ {l : List El} {s s' : St}, Chain s l s' → (∀ e ∈ l, StepR P Sg N ops e) → Grow s.hp s'.hp ∧ s'.nt = s.nt
  | [], s, s', h, _ => by cases h; exact ⟨Grow.refl _, rfl⟩
  | e :: l, s, s', h, hs => by
    obtain ⟨rfl, h2⟩ := h
    obtain ⟨g1, g2⟩ := chain_grow h2 (fun f hf => hs f (List.mem_cons_of_mem _ hf))
    have h0 := hs e List.mem_cons_self
    exact ⟨(step_grow h0).trans g1, g2.trans (step_nt h0)⟩
/-- those that come later lie above -/
theorem chain_above {N : Nat} {l : List El} {s s' : St} (h : Chain s l s') (hs : ∀ e ∈ l, StepR P Sg N ops e) {e : El} (he : e ∈ l) : s.hp.next ≤ e.b.hp.next ∧ e.a.hp.next ≤ s'.hp.next := by
  obtain ⟨p, q, rfl⟩ := List.append_of_mem he
  obtain ⟨h1, h2⟩ := chain_split h
  exact ⟨(chain_grow h1 (fun f hf => hs f (by simp [hf]))).1.1, (chain_grow h2 (fun f hf => hs f (by simp [hf]))).1.1⟩
end Go.Abs
