/- What is proved: a part of the proof of the tied card of TxnEnds (text G9 of it). Conditions: those that its theorems name. -/
import Derived.Test.YtmdlgcmjemdfnaaGreatDoorG7
set_option linter.unusedVariables false
set_option linter.unusedSimpArgs false
set_option linter.unusedSectionVars false
namespace Go.Abs
noncomputable section
variable [Bnd]
variable {P : Program} {Sg : FuncId → Option Sp} {ops : Array Oper}
/-! ### what comes before what -/
inductive Reach (ops : Array Oper) : Nat → Nat → Prop
  | one {i j : Nat} (h : i ∈ afters ops j) : Reach ops i j
  | more {i k j : Nat} (h : Reach ops i k) (hk : k ∈ afters ops j) : Reach ops i j
theorem mem_of_lookup {l : List (Nat × List Nat)} {j : Nat} {r : List Nat} (h : l.lookup j = some r) : (j, r) ∈ l := by
  induction l with
  | nil => cases h
  | cons p l ih =>
    obtain ⟨a, b⟩ := p
    rw [List.lookup_cons] at h
    split at h
    · rename_i hj
      simp only [beq_iff_eq] at hj
      injection h with h
      subst hj; subst h
      exact List.mem_cons_self
    · exact List.mem_cons_of_mem _ (ih h)
theorem preds_reach : ∀ (l : List Nat) (acc : List (Nat × List Nat)), (∀ i r, (i, r) ∈ acc → ∀ j ∈ r, Reach ops j i) → ∀ i r, (i, r) ∈ preds ops l acc → ∀ j ∈ r, Reach ops j i
  | [], acc, h, i, r, hm, j, hj => h i r hm j hj
  | a :: l, acc, h, i, r, hm, j, hj => by
    rw [preds] at hm
    refine preds_reach l _ (fun i r hm j hj => ?_) i r hm j hj
    rcases List.mem_cons.1 hm with e | hm
    · injection e with e1 e2
      subst e1; subst e2
      rcases List.mem_append.1 hj with hj | hj
      · exact .one hj
      · obtain ⟨k, hk, hj⟩ := List.mem_flatMap.1 hj
        cases hl : acc.lookup k with
        | none => rw [hl] at hj; cases hj
        | some r => rw [hl] at hj; exact .more (h _ _ (mem_of_lookup hl) _ hj) hk
    · exact h i r hm j hj
theorem pre_reach {ord : List Nat} {i j : Nat} (h : pre (preds ops ord []) i j = true) : Reach ops i j := by
  unfold pre at h
  cases hl : (preds ops ord []).lookup j with
  | none => rw [hl] at h; simp at h
  | some r =>
    rw [hl] at h
    simp only [Option.getD_some, List.contains_iff_mem] at h
    exact preds_reach ord [] (fun _ _ h => by cases h) _ _ (mem_of_lookup hl) _ h
theorem okOrd_split : ∀ (p : List Nat) (seen : List Nat) (i : Nat) (q : List Nat), okOrd ops seen (p ++ i :: q) = true → (∀ j ∈ afters ops i, j ∈ seen ∨ j ∈ p) ∧ i ∉ seen ∧ i ∉ p
  | [], seen, i, q, h => by
    simp only [List.nil_append, okOrd, Bool.and_eq_true, List.all_eq_true, List.contains_iff_mem, Bool.not_eq_true'] at h
    refine ⟨fun j hj => .inl (h.1.1 j hj), fun hm => ?_, by simp⟩
    have := h.1.2
    rw [← Bool.not_eq_true, List.contains_iff_mem] at this
    exact this hm
  | a :: p, seen, i, q, h => by
    rw [List.cons_append, okOrd, Bool.and_eq_true] at h
    obtain ⟨h1, h2, h3⟩ := okOrd_split p (a :: seen) i q h.2
    refine ⟨fun j hj => ?_, fun hm => h2 (List.mem_cons_of_mem _ hm), fun hm => ?_⟩
    · rcases h1 j hj with hj | hj
      · rcases List.mem_cons.1 hj with rfl | hj
        · exact .inr List.mem_cons_self
        · exact .inl hj
      · exact .inr (List.mem_cons_of_mem _ hj)
    · rcases List.mem_cons.1 hm with rfl | hm
      · exact h2 List.mem_cons_self
      · exact h3 hm
theorem okOrd_all {L : Nat → Bool} : ∀ (l seen : List Nat), okOrd ops seen l = true → (∀ j ∈ seen, L j = true) → (∀ i ∈ l, (∀ j ∈ afters ops i, L j = true) → L i = true) → ∀ i ∈ l, L i = true
  | [], _, _, _, _, i, hi => by cases hi
  | a :: l, seen, h, hs, hr, i, hi => by
    simp only [okOrd, Bool.and_eq_true, List.all_eq_true, List.contains_iff_mem] at h
    have ha : L a = true := hr a List.mem_cons_self (fun j hj => hs j (h.1.1 j hj))
    rcases List.mem_cons.1 hi with rfl | hi
    · exact ha
    · refine okOrd_all l (a :: seen) h.2 (fun j hj => ?_) (fun k hk => hr k (List.mem_cons_of_mem _ hk)) i hi
      rcases List.mem_cons.1 hj with rfl | hj
      · exact ha
      · exact hs j hj
theorem reach_before {ord : List Nat} (h : okOrd ops [] ord = true) {j i : Nat} (hr : Reach ops j i) : ∀ p q, ord = p ++ i :: q → j ∈ p := by
  induction hr with
  | one hj =>
    intro p q e
    rw [e] at h
    rcases (okOrd_split p [] _ q h).1 _ hj with hj | hj
    · cases hj
    · exact hj
  | more hr hk ih =>
    rename_i k0 j0
    intro p q e
    rw [e] at h
    rcases (okOrd_split p [] _ q h).1 _ hk with hk | hk
    · cases hk
    · obtain ⟨p1, p2, rfl⟩ := List.append_of_mem hk
      have := ih p1 (p2 ++ j0 :: q) (by rw [e]; simp)
      exact List.mem_append_left _ this
theorem okEf_split {E : Nat → Bool} {ps : List (Nat × List Nat)} : ∀ (p seen : List Nat) (i : Nat) (q : List Nat), okEf ops E ps seen (p ++ i :: q) = true → E i = true → ∀ j, j ∈ seen ∨ j ∈ p → (E j || isAl ops j) = true → pre ps j i = true
  | [], seen, i, q, h, hi, j, hj, hk => by
    simp only [List.nil_append, okEf, hi, Bool.and_eq_true, List.all_eq_true, Bool.not_true, Bool.false_or] at h
    rcases hj with hj | hj
    · have := h.1 j hj
      rw [hk] at this
      simpa using this
    · cases hj
  | a :: p, seen, i, q, h, hi, j, hj, hk => by
    rw [List.cons_append, okEf, Bool.and_eq_true] at h
    refine okEf_split p (a :: seen) i q h.2 hi j ?_ hk
    rcases hj with hj | hj
    · exact .inl (List.mem_cons_of_mem _ hj)
    · rcases List.mem_cons.1 hj with rfl | hj
      · exact .inl List.mem_cons_self
      · exact .inr hj
/-- what is listed is listed with what comes before it -/
def Closed (ops : Array Oper) (L : Nat → Bool) : Prop := ∀ i, L i = true → ∀ j ∈ afters ops i, L j = true
theorem reach_listed {L : Nat → Bool} (hc : Closed ops L) {i j : Nat} (hr : Reach ops j i) (hi : ∀ k ∈ afters ops i, L k = true) : L j = true := by
  induction hr with
  | one hj => exact hi _ hj
  | more hr hk ih => exact ih (fun k hk' => hc _ (hi _ hk) k hk')
/-! ### the trace -/
structure El where
  b : St
  i : Nat
  rc : Rc
  a : St
def Rc.v : Rc → AV
  | .off => .tup []
  | .val _ v => v
  | .al v _ _ => v
  | .ef v _ => v
  | .up _ _ => .tup []
/-- a store to one block -/
def UpAt (P : Program) (tm : Tr AV) (h : Hp) (o : Op) (v : AV) (h' : Hp) (n : Nat) (b : Blk) : Prop :=
  ∃ b0, h.blks.get n = some b0 ∧ (h'.blks.get = fun k => if k = n then some b else h.blks.get k) ∧ h'.next = h.next ∧ v = .tup [] ∧ opA P tm h o = some (.skip h') ∧
    ∀ g : Hp, g.blks.get n = some b0 → ∃ g', opA P tm g o = some (.skip g') ∧ (g'.blks.get = fun k => if k = n then some b else g.blks.get k) ∧ g'.next = g.next
inductive StepR (P : Program) (Sg : FuncId → Option Sp) (N : Nat) (ops : Array Oper) (e : El) : Prop
  | off (o : Oper) (ho : ops[e.i]? = some o) (hw : wantedA ops e.b.tm o.guard = some false) (hr : e.rc = if isEf ops e.i then .ef (.tup []) e.b.hp else .off) (ha : e.a = ⟨putT e.b.tm e.b.nt o.dst (.tup []), e.b.nt, e.b.hp, e.b.df, e.b.rd⟩)
  | on (o : Oper) (k : Nat) (v : AV) (h : Hp) (ho : ops[e.i]? = some o) (hw : wantedA ops e.b.tm o.guard = some true) (hk : k < N) (hc : opC P Sg k e.b.tm e.b.hp o.op = some (v, h)) (ha : e.a = ⟨putT e.b.tm e.b.nt o.dst v, e.b.nt, h, e.b.df, e.b.rd⟩)
      (hr : match kindO o.op with
        | .ef => e.rc = .ef v h ∨ ∃ n b, e.rc = .up n b ∧ UpAt P e.b.tm e.b.hp o.op v h n b
        | .al => ∃ b, h.blks.get e.b.hp.next = some b ∧ e.rc = .al v e.b.hp.next b
        | _ => e.rc = .val e.b.tm v)
def Chain : St → List El → St → Prop
  | s, [], s' => s = s'
  | s, e :: l, s' => e.b = s ∧ Chain e.a l s'
def El.key (e : El) : Nat × Rc := (e.i, e.rc)
theorem write_up {h h' : Hp} {n off : Nat} {vs : List AV} (e : writeAt h n off vs = some h') : ∃ b0 b, h.blks.get n = some b0 ∧ h'.blks.get n = some b ∧ (h'.blks.get = fun k => if k = n then some b else h.blks.get k) ∧ h'.next = h.next ∧
    ∀ g : Hp, g.blks.get n = some b0 → ∃ g', writeAt g n off vs = some g' ∧ (g'.blks.get = fun k => if k = n then some b else g.blks.get k) ∧ g'.next = g.next := by
  unfold writeAt at e
  split at e
  · rename_i cs ty hg
    split at e
    · rename_i hc
      injection e with e
      subst e
      refine ⟨_, _, hg, by rw [Tr.get_put, if_pos rfl], by funext k; rw [Tr.get_put], rfl, fun g hgg => ?_⟩
      refine ⟨⟨g.blks.put n (.cells (splice cs off vs) ty), g.next⟩, ?_, by funext k; rw [Tr.get_put], rfl⟩
      unfold writeAt
      rw [hgg]
      simp only []
      rw [if_pos hc]
    · cases e
  · cases e
theorem upOf_form {tm : Tr AV} {h h' : Hp} {o : Op} {v : AV} {n k : Nat} {b : Blk} (hu : upOf tm o h' = some (n, b)) (e : opC P Sg k tm h o = some (v, h')) : UpAt P tm h o v h' n b := by
  unfold upOf at hu
  split at hu
  · rename_i t a y
    cases k with
    | zero => simp [opC] at e
    | succ k =>
    simp only [opC] at e
    cases ho : opA P tm h (.store t a y) with
    | none => rw [ho] at e; cases e
    | some nx =>
    rw [ho] at e
    simp only [opA] at ho
    split at ho
    · rename_i av yv hav hyv
      obtain ⟨h1, h2, h3⟩ := Option.map_eq_some_iff.1 ho
      subst h3
      simp only [] at e
      injection e with e; injection e with e1 e2
      subst e1; subst e2
      rw [hav] at hu
      have opg : ∀ g g' : Hp, storeA P g t av yv = some g' → opA P tm g (.store t a y) = some (.skip g') := by
        intro g g' hg
        simp only [opA, hav, hyv, hg, Option.map_some]
      split at hu
      · rename_i n' off heq
        injection heq with heq
        subst heq
        obtain ⟨b', hb', hnb⟩ := Option.map_eq_some_iff.1 hu
        injection hnb with hn hb
        subst hn; subst hb
        simp only [storeA] at h2
        split at h2
        · rename_i z hz
          split at h2
          · rename_i hc
            obtain ⟨b0, b, w1, w2, w3, w4, w5⟩ := write_up h2
            rw [w2] at hb'
            injection hb' with hb'
            subst hb'
            refine ⟨b0, w1, w3, w4, rfl, opg _ _ (by simp only [storeA, hz]; rw [if_pos hc]; exact h2), fun g hg => ?_⟩
            obtain ⟨g', g1, g2, g3⟩ := w5 g hg
            exact ⟨g', opg _ _ (by simp only [storeA, hz]; rw [if_pos hc]; exact g1), g2, g3⟩
          · cases h2
        · cases h2
      · rename_i n' es heq
        injection heq with heq
        subst heq
        obtain ⟨b', hb', hnb⟩ := Option.map_eq_some_iff.1 hu
        injection hnb with hn hb
        subst hn; subst hb
        simp only [storeA] at h2
        split at h2
        · rename_i z ty hz hg0
          split at h2
          · rename_i hc
            injection h2 with h2
            subst h2
            rw [hg0] at hb'
            injection hb' with hb'
            subst hb'
            have fx : ∀ g : Hp, g.blks.get n' = some (.ucells ty) → g.blks.get = fun k => if k = n' then some (.ucells ty) else g.blks.get k := by
              intro g hg
              funext k
              split
              · rename_i hk; rw [hk]; exact hg
              · rfl
            have sg : ∀ g : Hp, g.blks.get n' = some (.ucells ty) → storeA P g t (.uptr n' es) yv = some g := by
              intro g hg
              simp only [storeA, hz, hg]
              rw [if_pos hc]
            exact ⟨_, hg0, fx _ hg0, rfl, rfl, opg _ _ (sg _ hg0), fun g hg => ⟨g, opg _ _ (sg _ hg), fx _ hg, rfl⟩⟩
          · cases h2
        · cases h2
      · cases hu
    · cases ho
  · cases hu
theorem efRc_form {u : Bool} {k : Nat} {tm : Tr AV} {h h' : Hp} {o : Op} {v : AV} (hk : kindO o = .ef) (e : opC P Sg k tm h o = some (v, h')) : efRc u tm o v h' = .ef v h' ∨ ∃ n b, efRc u tm o v h' = .up n b ∧ UpAt P tm h o v h' n b := by
  unfold efRc
  split
  · rename_i n b hu
    exact .inr ⟨n, b, rfl, upOf_form hu e⟩
  · exact .inl rfl
theorem opsD_trace (u : Bool) : ∀ (n N : Nat) (ord : List Nat) (s s' : St) (recs : List (Nat × Rc)), n ≤ N → opsD P Sg n u ops ord s = some (recs, s') →
    ∃ T : List El, T.map (·.i) = ord ∧ recs = T.map El.key ∧ Chain s T s' ∧ ∀ e ∈ T, StepR P Sg N ops e
  | 0, N, ord, s, s', recs, hN, h => by simp [opsD] at h
  | n + 1, N, [], s, s', recs, hN, h => by
    simp only [opsD] at h
    injection h with h
    injection h with h1 h2
    subst h1; subst h2
    exact ⟨[], rfl, rfl, rfl, by simp⟩
  | n + 1, N, i :: r, s, s', recs, hN, h => by
    simp only [opsD] at h
    split at h
    · cases h
    · rename_i o ho
      split at h
      · rename_i hw
        split at h
        · rename_i v h' h1
          split at h
          · rename_i l s1 h2
            obtain ⟨T, t1, t2, t3, t4⟩ := opsD_trace u n N r _ _ _ (by omega) h2
            have fin : ∀ rc, (match kindO o.op with
                | .ef => rc = .ef v h' ∨ ∃ n b, rc = .up n b ∧ UpAt P s.tm s.hp o.op v h' n b
                | .al => ∃ b, h'.blks.get s.hp.next = some b ∧ rc = .al v s.hp.next b
                | _ => rc = .val s.tm v) → ∃ T' : List El, T'.map (·.i) = i :: r ∧ (i, rc) :: l = T'.map El.key ∧ Chain s T' s1 ∧ ∀ e ∈ T', StepR P Sg N ops e := by
              intro rc hrc
              refine ⟨⟨s, i, rc, ⟨putT s.tm s.nt o.dst v, s.nt, h', s.df, s.rd⟩⟩ :: T, by simp [t1], by simp [El.key, t2], ⟨rfl, t3⟩, ?_⟩
              intro e he
              rcases List.mem_cons.1 he with rfl | he
              · exact .on o n v h' ho hw (by omega) h1 rfl hrc
              · exact t4 e he
            cases hk : kindO o.op <;> rw [hk] at h fin <;> simp only [] at h fin
            · injection h with h; injection h with h1 h2; subst h1; subst h2; exact fin _ rfl
            · injection h with h; injection h with h1 h2; subst h1; subst h2; exact fin _ rfl
            · split at h
              · rename_i b hb
                injection h with h; injection h with h1 h2; subst h1; subst h2; exact fin _ ⟨b, hb, rfl⟩
              · cases h
            · injection h with h; injection h with h4 h2; subst h4; subst h2; exact fin _ (efRc_form hk h1)
          · cases h
        · cases h
      · rename_i hw
        split at h
        · rename_i l s1 h2
          injection h with h; injection h with h1 h2'; subst h1; subst h2'
          obtain ⟨T, t1, t2, t3, t4⟩ := opsD_trace u n N r _ _ _ (by omega) h2
          refine ⟨⟨s, i, if isEf ops i then .ef (.tup []) s.hp else .off, ⟨putT s.tm s.nt o.dst (.tup []), s.nt, s.hp, s.df, s.rd⟩⟩ :: T, by simp [t1], by simp [El.key, t2], ⟨rfl, t3⟩, ?_⟩
          intro e he
          rcases List.mem_cons.1 he with rfl | he
          · exact .off o ho hw rfl rfl
          · exact t4 e he
        · cases h
      · cases h
theorem step_grow {N : Nat} {e : El} (h : StepR P Sg N ops e) : Grow e.b.hp e.a.hp := by
  cases h with
  | off o ho hw hr ha => rw [ha]; exact Grow.refl _
  | on o k v h ho hw hk hc ha hr => rw [ha]; exact (grows (P := P) (Sg := Sg) k).2.2.2.1 _ _ _ _ hc
theorem step_nt {N : Nat} {e : El} (h : StepR P Sg N ops e) : e.a.nt = e.b.nt := by
  cases h with
  | off o ho hw hr ha => rw [ha]
  | on o k v h ho hw hk hc ha hr => rw [ha]
theorem chain_split : ∀ {p : List El} {s s' : St} {e : El} {q : List El}, Chain s (p ++ e :: q) s' → Chain s p e.b ∧ Chain e.a q s'
  | [], s, s', e, q, h => ⟨h.1.symm, h.2⟩
  | f :: p, s, s', e, q, h => by
    obtain ⟨h1, h2⟩ := chain_split (p := p) h.2
    exact ⟨⟨h.1, h1⟩, h2⟩
theorem chain_grow {N : Nat} : ∀ {l : List El} {s s' : St}, Chain s l s' → (∀ e ∈ l, StepR P Sg N ops e) → Grow s.hp s'.hp ∧ s'.nt = s.nt
  | [], s, s', h, _ => by cases h; exact ⟨Grow.refl _, rfl⟩
  | e :: l, s, s', h, hs => by
    obtain ⟨rfl, h2⟩ := h
    obtain ⟨g1, g2⟩ := chain_grow h2 (fun f hf => hs f (List.mem_cons_of_mem _ hf))
    have h0 := hs e List.mem_cons_self
    exact ⟨(step_grow h0).trans g1, g2.trans (step_nt h0)⟩
theorem step_df {N : Nat} {e : El} (h : StepR P Sg N ops e) : e.a.df = e.b.df := by
  cases h with
  | off o ho hw hr ha => rw [ha]
  | on o k v h ho hw hk hc ha hr => rw [ha]
theorem chain_df {N : Nat} : ∀ {l : List El} {s s' : St}, Chain s l s' → (∀ e ∈ l, StepR P Sg N ops e) → s'.df = s.df
  | [], s, s', h, _ => by cases h; rfl
  | e :: l, s, s', h, hs => by
    obtain ⟨rfl, h2⟩ := h
    exact (chain_df h2 (fun f hf => hs f (List.mem_cons_of_mem _ hf))).trans (step_df (hs e List.mem_cons_self))
/-- those that come later lie above -/
theorem chain_above {N : Nat} {l : List El} {s s' : St} (h : Chain s l s') (hs : ∀ e ∈ l, StepR P Sg N ops e) {e : El} (he : e ∈ l) : s.hp.next ≤ e.b.hp.next ∧ e.a.hp.next ≤ s'.hp.next := by
  obtain ⟨p, q, rfl⟩ := List.append_of_mem he
  obtain ⟨h1, h2⟩ := chain_split h
  exact ⟨(chain_grow h1 (fun f hf => hs f (by simp [hf]))).1.1, (chain_grow h2 (fun f hf => hs f (by simp [hf]))).1.1⟩
end
end Go.Abs

namespace Go.Abs
noncomputable section
variable [Bnd]
variable {P : Program} {Sg : FuncId → Option Sp} {ops : Array Oper}
/-! ### what a listed part of a region has come to -/
def tmOf (ops : Array Oper) (nt : Nat) (L : Nat → Bool) : List El → Tr AV → Tr AV
  | [], tm => tm
  | e :: l, tm => tmOf ops nt L l (if L e.i then putT tm nt (dstAt ops e.i) e.rc.v else tm)
def upd (hm : HM) (n : Nat) (b : Blk) : HM := fun k => if k = n then some b else hm k
def hm1 (hm : HM) : Rc → HM
  | .al _ n b => upd hm n b
  | .ef _ h => h.blks.get
  | .up n b => upd hm n b
  | _ => hm
def hmOf (L : Nat → Bool) : List El → HM → HM
  | [], hm => hm
  | e :: l, hm => hmOf L l (if L e.i then hm1 hm e.rc else hm)
theorem putT_get (tm : Tr AV) (nt : Nat) (d : Option Tmp) (v : AV) (t : Tmp) : (putT tm nt d v).get t = if d = some t ∧ t < nt then some v else tm.get t := by
  unfold putT
  cases d with
  | none => simp
  | some d =>
    simp only []
    by_cases hd : d < nt
    · rw [if_pos hd, Tr.get_put]
      by_cases ht : t = d
      · subst ht; simp [hd]
      · rw [if_neg ht, if_neg (by rintro ⟨h, _⟩; injection h with h; exact ht h.symm)]
    · rw [if_neg hd, if_neg (by rintro ⟨h, h2⟩; injection h with h; subst h; exact hd h2)]
theorem tmOf_congr {nt : Nat} {L L2 : Nat → Bool} {t : Tmp} : ∀ (l : List El) (tm tm2 : Tr AV), (∀ e ∈ l, dstAt ops e.i = some t → L e.i = L2 e.i) → tm.get t = tm2.get t → (tmOf ops nt L l tm).get t = (tmOf ops nt L2 l tm2).get t
  | [], tm, tm2, _, h => h
  | e :: l, tm, tm2, hc, h => by
    refine tmOf_congr l _ _ (fun f hf => hc f (List.mem_cons_of_mem _ hf)) ?_
    by_cases hd : dstAt ops e.i = some t
    · rw [hc e List.mem_cons_self hd]
      split
      · rw [putT_get, putT_get, h]
      · exact h
    · have h1 : ∀ (tm : Tr AV) (b : Bool), (if b then putT tm nt (dstAt ops e.i) e.rc.v else tm).get t = tm.get t := by
        intro tm b
        split
        · rw [putT_get, if_neg (fun h => hd h.1)]
        · rfl
      rw [h1, h1, h]
theorem tmOf_skip {nt : Nat} {L : Nat → Bool} {t : Tmp} : ∀ (l : List El) (tm : Tr AV), (∀ e ∈ l, dstAt ops e.i = some t → L e.i = false) → (tmOf ops nt L l tm).get t = tm.get t
  | [], tm, _ => rfl
  | e :: l, tm, hc => by
    rw [tmOf, tmOf_skip l _ (fun f hf => hc f (List.mem_cons_of_mem _ hf))]
    split
    · rename_i hl
      rw [putT_get, if_neg]
      rintro ⟨hd, _⟩
      rw [hc e List.mem_cons_self hd] at hl
      cases hl
    · rfl
theorem tmOf_app {nt : Nat} {L : Nat → Bool} : ∀ (p q : List El) (tm : Tr AV), tmOf ops nt L (p ++ q) tm = tmOf ops nt L q (tmOf ops nt L p tm)
  | [], q, tm => rfl
  | e :: p, q, tm => tmOf_app p q _
theorem hmOf_app {L : Nat → Bool} : ∀ (p q : List El) (hm : HM), hmOf L (p ++ q) hm = hmOf L q (hmOf L p hm)
  | [], q, hm => rfl
  | e :: p, q, hm => hmOf_app p q _
def Rc.ef? : Rc → Bool
  | .ef .. => true
  | _ => false
/-- turns memory -/
def Rc.tn? : Rc → Bool
  | .ef .. => true
  | .up .. => true
  | _ => false
def Rc.up? : Rc → Bool
  | .up .. => true
  | _ => false
def Rc.al? : Rc → Bool
  | .al .. => true
  | _ => false
theorem hmOf_congr {L L2 : Nat → Bool} : ∀ (l : List El) (hm : HM), (∀ e ∈ l, e.rc.tn? = true ∨ e.rc.al? = true → L e.i = L2 e.i) → hmOf L l hm = hmOf L2 l hm
  | [], hm, _ => rfl
  | e :: l, hm, hc => by
    have h0 : (if L e.i then hm1 hm e.rc else hm) = (if L2 e.i then hm1 hm e.rc else hm) := by
      cases hr : e.rc with
      | off => simp [hm1]
      | val _ _ => simp [hm1]
      | al v n b => rw [hc e List.mem_cons_self (.inr (by rw [hr]; rfl))]
      | ef v h => rw [hc e List.mem_cons_self (.inl (by rw [hr]; rfl))]
      | up n b => rw [hc e List.mem_cons_self (.inl (by rw [hr]; rfl))]
    rw [hmOf, hmOf, h0]
    exact hmOf_congr l _ (fun f hf => hc f (List.mem_cons_of_mem _ hf))
/-- with none listed that turns memory, what is listed is beside -/
theorem hmOf_adds {L : Nat → Bool} : ∀ (l : List El) (hm : HM), (∀ e ∈ l, e.rc.tn? = true → L e.i = false) → hmOf L l hm = fun k => (hmOf L l (fun _ => none) k).or (hm k)
  | [], hm, _ => by funext k; simp [hmOf]
  | e :: l, hm, hc => by
    have ht : ∀ f ∈ l, f.rc.tn? = true → L f.i = false := fun f hf => hc f (List.mem_cons_of_mem _ hf)
    rw [hmOf, hmOf]
    by_cases hl : L e.i = true
    · rw [if_pos hl, if_pos hl]
      cases hr : e.rc with
      | off => exact hmOf_adds l hm ht
      | val _ _ => exact hmOf_adds l hm ht
      | al v n b =>
        simp only [hm1]
        rw [hmOf_adds l (upd hm n b) ht, hmOf_adds l (upd (fun _ => none) n b) ht]
        funext k
        simp only [upd]
        split <;> simp
      | ef v h =>
        have := hc e List.mem_cons_self (by rw [hr]; rfl)
        rw [this] at hl
        cases hl
      | up n b =>
        have := hc e List.mem_cons_self (by rw [hr]; rfl)
        rw [this] at hl
        cases hl
    · rw [if_neg hl, if_neg hl]
      exact hmOf_adds l hm ht
theorem adds_above {L : Nat → Bool} {N : Nat} : ∀ {l : List El} {hm : HM} {k : Nat} {b : Blk} {m : Nat}, (∀ e ∈ l, e.rc.tn? = true → L e.i = false) → (∀ e ∈ l, StepR P Sg N ops e) → (∀ e ∈ l, m ≤ e.b.hp.next) → hmOf L l hm k = some b → hm k = some b ∨ m ≤ k
  | [], hm, k, b, m, _, _, _, h => .inl h
  | e :: l, hm, k, b, m, hc, hs, hm', h => by
    rw [hmOf] at h
    rcases adds_above (fun f hf => hc f (List.mem_cons_of_mem _ hf)) (fun f hf => hs f (List.mem_cons_of_mem _ hf)) (fun f hf => hm' f (List.mem_cons_of_mem _ hf)) h with h | h
    · split at h
      · rename_i hl
        cases hr : e.rc with
        | off => rw [hr] at h; exact .inl h
        | val _ _ => rw [hr] at h; exact .inl h
        | al v n b' =>
          rw [hr] at h
          simp only [hm1, upd] at h
          split at h
          · rename_i hk
            subst hk
            have hn : k = e.b.hp.next := by
              cases hs e List.mem_cons_self with
              | off o ho hw hr' ha =>
                rw [hr] at hr'
                split at hr' <;> cases hr'
              | on o k' v' h' ho hw hk hc ha hr' =>
                rw [hr] at hr'
                cases hkd : kindO o.op <;> rw [hkd] at hr' <;> simp only [] at hr'
                · cases hr'
                · cases hr'
                · obtain ⟨_, _, e2⟩ := hr'; injection e2
                · rcases hr' with hr' | ⟨_, _, hr', _⟩ <;> cases hr'
            rw [hn]
            exact .inr (hm' e List.mem_cons_self)
          · exact .inl h
        | ef v h' =>
          have := hc e List.mem_cons_self (by rw [hr]; rfl)
          rw [this] at hl
          cases hl
        | up n b' =>
          have := hc e List.mem_cons_self (by rw [hr]; rfl)
          rw [this] at hl
          cases hl
      · exact .inl h
    · exact .inr h
/-- what reaches a block -/
def aff (k : Nat) : Rc → Prop
  | .ef .. => True
  | .al _ n _ => n = k
  | .up n _ => n = k
  | _ => False
theorem hm1_at {hm hm' : HM} {k : Nat} {rc : Rc} (h : hm k = hm' k) : hm1 hm rc k = hm1 hm' rc k := by
  cases rc <;> simp only [hm1, upd] <;> first | exact h | (split <;> first | rfl | exact h) | rfl
theorem hm1_un {hm : HM} {k : Nat} {rc : Rc} (h : ¬ aff k rc) : hm1 hm rc k = hm k := by
  cases rc <;> simp only [hm1, upd, aff] at h ⊢
  · rw [if_neg (fun hk => h hk.symm)]
  · exact absurd trivial h
  · rw [if_neg (fun hk => h hk.symm)]
theorem hmOf_at {L1 L2 : Nat → Bool} {k : Nat} : ∀ (l : List El) (hm hm' : HM), (∀ f ∈ l, aff k f.rc → L1 f.i = L2 f.i) → hm k = hm' k → hmOf L1 l hm k = hmOf L2 l hm' k
  | [], _, _, _, h => h
  | e :: l, hm, hm', hc, h => by
    refine hmOf_at l _ _ (fun f hf => hc f (List.mem_cons_of_mem _ hf)) ?_
    by_cases ha : aff k e.rc
    · rw [hc e List.mem_cons_self ha]
      split
      · exact hm1_at h
      · exact h
    · have h1 : ∀ (b : Bool) (g : HM), (if b then hm1 g e.rc else g) k = g k := by
        intro b g
        split
        · exact hm1_un ha
        · rfl
      rw [h1, h1]
      exact h
theorem hmOf_skip {L : Nat → Bool} {k : Nat} : ∀ (l : List El) (hm : HM), (∀ f ∈ l, aff k f.rc → L f.i = false) → hmOf L l hm k = hm k
  | [], _, _ => rfl
  | e :: l, hm, hc => by
    rw [hmOf, hmOf_skip l _ (fun f hf => hc f (List.mem_cons_of_mem _ hf))]
    split
    · rename_i hl
      refine hm1_un (fun ha => ?_)
      rw [hc e List.mem_cons_self ha] at hl
      cases hl
    · rfl
/-! ### kinds -/
theorem al_form {tm : Tr AV} {h h' : Hp} {o : Op} {v : AV} (hk : kindO o = .al) (e : opA P tm h o = some (.val v h')) :
    ∃ b, h' = ⟨h.blks.put h.next b, h.next + 1⟩ ∧ ∀ bl, opA P tm ⟨bl, h.next⟩ o = some (.val v ⟨bl.put h.next b, h.next + 1⟩) := by
  cases o <;> simp only [kindO] at hk <;> (try (cases hk; done))
  case alloc t =>
    simp only [opA] at e ⊢
    split at e
    · rename_i z hz
      injection e with e; injection e with e1 e2
      subst e1; subst e2
      refine ⟨_, rfl, fun bl => ?_⟩
      rfl
    · cases e
  case box t y =>
    simp only [opA] at e ⊢
    split at e
    · rename_i z hz
      split at e
      case isFalse => cases e
      injection e with e; injection e with e1 e2
      subst e1; subst e2
      refine ⟨_, rfl, fun bl => ?_⟩
      rw [if_pos (by assumption)]
      rfl
    · cases e
  case buildSlice t len parts =>
    simp only [opA] at e ⊢
    split at e
    · split at e
      · split at e
        · split at e
          · injection e with e; injection e with e1 e2
            subst e1; subst e2
            refine ⟨_, rfl, fun bl => ?_⟩
            simp_all [Hp.new]
          · cases e
        · cases e
      · cases e
    · cases e
  case makeMap t r =>
    cases r with
    | some r => simp only [opA] at e; cases e
    | none =>
      simp only [opA] at e ⊢
      injection e with e; injection e with e1 e2
      subst e1; subst e2
      exact ⟨_, rfl, fun bl => rfl⟩
  case makeSlice t l c =>
    simp only [opA] at e ⊢
    split at e
    · split at e
      · split at e
        · injection e with e; injection e with e1 e2
          subst e1; subst e2
          refine ⟨_, rfl, fun bl => ?_⟩
          simp_all [Hp.new]
        · cases e
      · cases e
    · cases e
  case call c =>
    split at hk <;> cases hk
theorem vl_form {h h' : Hp} {o : Option AV} {v : AV} (e : vl h o = some (.val v h')) : h' = h ∧ o = some v := by
  unfold vl at e
  obtain ⟨u, h1, h2⟩ := Option.map_eq_some_iff.1 e
  injection h2 with h2 h3
  subst h2; subst h3
  exact ⟨rfl, h1⟩
theorem pu_form {tm : Tr AV} {h h' : Hp} {o : Op} {v : AV} (hk : kindO o = .pu) (e : opA P tm h o = some (.val v h')) : h' = h ∧ ∀ g, opA P tm g o = some (.val v g) := by
  cases o <;> simp only [kindO] at hk <;> (try (cases hk; done))
  case call c =>
    simp only [opA] at e ⊢
    split at hk <;> rename_i hcal <;> (try (cases hk; done))
    · rw [hcal] at e ⊢
      simp only [] at e ⊢
      split at e
      · rename_i as has
        obtain ⟨⟨u, h2⟩, h1, h3⟩ := Option.map_eq_some_iff.1 e
        injection h3 with h3 h4
        simp only [] at h3 h4
        subst h3; subst h4
        unfold builtinA at h1 ⊢
        split at h1 <;> simp_all
        obtain ⟨a, h5, h6, h7⟩ := h1
        exact ⟨h7.symm, fun _ => by rw [h5, h6]⟩
      · cases e
    · rw [hcal] at e ⊢
      simp only [] at e ⊢
      split at e
      · rename_i as has
        obtain ⟨⟨u, h2⟩, h1, h3⟩ := Option.map_eq_some_iff.1 e
        injection h3 with h3 h4
        simp only [] at h3 h4
        subst h3; subst h4
        unfold builtinA at h1 ⊢
        split at h1 <;> simp_all
        obtain ⟨a, h5, h6, h7⟩ := h1
        exact ⟨h7.symm, fun _ => by rw [h5, h6]⟩
      · cases e
    · rw [hcal] at e ⊢
      simp only [] at e ⊢
      split at e
      · rename_i as has
        obtain ⟨⟨u, h2⟩, h1, h3⟩ := Option.map_eq_some_iff.1 e
        injection h3 with h3 h4
        simp only [] at h3 h4
        subst h3; subst h4
        unfold builtinA at h1 ⊢
        split at h1 <;> simp_all
        split at h1
        · injection h1 with h1; injection h1 with h5 h6
          exact ⟨h6.symm, fun _ => by rw [h5]⟩
        · split at h1
          · cases h1
          · rename_i hc0
            injection h1 with h1; injection h1 with h5 h6
            exact ⟨h6.symm, fun _ => by rw [if_neg hc0, h5]⟩
        · cases h1
      · cases e
  all_goals simp only [opA] at e ⊢
  all_goals (try (cases e; done))
  all_goals (repeat' split at e)
  all_goals first
    | (cases e; done)
    | (obtain ⟨rfl, h1⟩ := vl_form e; exact ⟨rfl, fun g => by simp_all [vl]⟩)
    | (injection e with e; injection e with e1 e2; subst e1; subst e2; exact ⟨rfl, fun g => by simp_all⟩)
    | skip
theorem rd_form {tm : Tr AV} {h h' : Hp} {o : Op} {v : AV} (hk : kindO o = .rd) (e : opA P tm h o = some (.val v h')) : h' = h := by
  cases o <;> simp only [kindO] at hk <;> (try (cases hk; done))
  case call c =>
    simp only [opA] at e
    split at hk <;> rename_i hcal <;> (try (cases hk; done))
    all_goals
      rw [hcal] at e
      simp only [] at e
      split at e
      · rename_i as has
        obtain ⟨⟨u, h2⟩, h1, h3⟩ := Option.map_eq_some_iff.1 e
        injection h3 with h3 h4
        simp only [] at h3 h4
        subst h3; subst h4
        unfold builtinA at h1
        repeat' split at h1
        all_goals simp_all
      · cases e
  all_goals simp only [opA] at e
  all_goals (repeat' split at e)
  all_goals first
    | (cases e; done)
    | exact (vl_form e).1
theorem opC_val {n : Nat} {tm : Tr AV} {h h' : Hp} {o : Op} {v : AV} (hk : kindO o ≠ .ef) (e : opC P Sg n tm h o = some (v, h')) : opA P tm h o = some (.val v h') := by
  cases n with
  | zero => simp [opC] at e
  | succ n =>
    simp only [opC] at e
    cases ha : opA P tm h o with
    | none => rw [ha] at e; cases e
    | some nx =>
      rw [ha] at e
      cases nx with
      | val v1 h1 =>
        injection e with e; injection e with e1 e2
        subst e1; subst e2; rfl
      | skip h1 =>
        exfalso
        apply hk
        cases o <;> simp only [opA] at ha <;> (try (cases ha; done))
        case makeMap t r => cases r <;> simp only [opA] at ha <;> cases ha
        case store => rfl
        case mapUpdate => rfl
        all_goals (repeat' split at ha)
        all_goals first
          | (cases ha; done)
          | (obtain ⟨_, _, h2⟩ := Option.map_eq_some_iff.1 ha; cases h2)
          | (unfold vl at ha; obtain ⟨_, _, h2⟩ := Option.map_eq_some_iff.1 ha; cases h2)
      | enter f as h1 =>
        exfalso
        apply hk
        cases o <;> simp only [opA] at ha <;> (try (cases ha; done))
        case makeMap t r => cases r <;> simp only [opA] at ha <;> cases ha
        case call c =>
          split at ha <;> rename_i hcal
          · split at ha
            · obtain ⟨_, _, h2⟩ := Option.map_eq_some_iff.1 ha; cases h2
            · cases ha
          · simp [kindO, hcal]
          · cases ha
        all_goals (repeat' split at ha)
        all_goals first
          | (cases ha; done)
          | (obtain ⟨_, _, h2⟩ := Option.map_eq_some_iff.1 ha; cases h2)
          | (unfold vl at ha; obtain ⟨_, _, h2⟩ := Option.map_eq_some_iff.1 ha; cases h2)
      | round n0 as h1 =>
        exfalso
        apply hk
        cases o <;> simp only [opA] at ha <;> (try (cases ha; done))
        case makeMap t r => cases r <;> simp only [opA] at ha <;> cases ha
        case call c =>
          split at ha <;> rename_i hcal
          · split at ha
            · obtain ⟨_, _, h2⟩ := Option.map_eq_some_iff.1 ha; cases h2
            · cases ha
          · simp [kindO, hcal]
          · cases ha
        all_goals (repeat' split at ha)
        all_goals first
          | (cases ha; done)
          | (obtain ⟨_, _, h2⟩ := Option.map_eq_some_iff.1 ha; cases h2)
          | (unfold vl at ha; obtain ⟨_, _, h2⟩ := Option.map_eq_some_iff.1 ha; cases h2)
end
end Go.Abs

namespace Go.Abs
noncomputable section
variable [Bnd]
variable {P : Program} {Sg : FuncId → Option Sp} {ops : Array Oper}
/-! ### the facts of a region -/
structure Facts (P : Program) (Sg : FuncId → Option Sp) (N : Nat) (ops : Array Oper) (s s' : St) (T : List El) : Prop where
  chain : Chain s T s'
  steps : ∀ e ∈ T, StepR P Sg N ops e
  ok : okR ops (T.map (·.i)) (T.map El.key) = true
  chk : ∀ e ∈ T, chkRd P ops (preds ops (T.map (·.i)) []) (ups (T.map El.key)) (snapsOf (T.map El.key) [] s.hp) e.key = true
  wf : Wf s.hp
variable {N : Nat} {s s' : St} {T : List El}
theorem Facts.ord (F : Facts P Sg N ops s s' T) : okOrd ops [] (T.map (·.i)) = true := by
  have := F.ok
  simp only [okR, Bool.and_eq_true] at this
  exact this.1.1.1.1.1.2
theorem Facts.efo (F : Facts P Sg N ops s s' T) : okEf ops (efE ops (T.map El.key)) (preds ops (T.map (·.i)) []) [] (T.map (·.i)) = true := by
  have := F.ok
  simp only [okR, Bool.and_eq_true] at this
  exact this.1.1.1.1.2
theorem Facts.upo (F : Facts P Sg N ops s s' T) : okUp ops (preds ops (T.map (·.i)) []) (T.map El.key) = true := by
  have := F.ok
  simp only [okR, Bool.and_eq_true] at this
  exact this.1.1.1.2
theorem Facts.tmo (F : Facts P Sg N ops s s' T) : okTm ops (preds ops (T.map (·.i)) []) (T.map (·.i)) = true := by
  have := F.ok
  simp only [okR, Bool.and_eq_true] at this
  exact this.1.1.2
theorem Facts.lt (F : Facts P Sg N ops s s' T) {e : El} (he : e ∈ T) : e.i < ops.size := by
  have := F.ok
  simp only [okR, Bool.and_eq_true, List.all_eq_true] at this
  simpa using this.1.2 e.i (List.mem_map.2 ⟨e, he, rfl⟩)
theorem Facts.all (F : Facts P Sg N ops s s' T) {i : Nat} (hi : i < ops.size) : ∃ e ∈ T, e.i = i := by
  have := F.ok
  simp only [okR, Bool.and_eq_true, List.all_eq_true, List.contains_iff_mem, List.mem_range] at this
  obtain ⟨e, h1, h2⟩ := List.mem_map.1 (this.2 i hi)
  exact ⟨e, h1, h2⟩
theorem Facts.notin (F : Facts P Sg N ops s s' T) {p q : List El} {e : El} (h : T = p ++ e :: q) : (∀ f ∈ p, f.i ≠ e.i) ∧ ∀ f ∈ q, f.i ≠ e.i := by
  have ho := F.ord
  constructor
  · intro f hf he
    rw [h, List.map_append, List.map_cons] at ho
    have := (okOrd_split _ [] e.i _ ho).2.2
    exact this (he ▸ List.mem_map.2 ⟨f, hf, rfl⟩)
  · intro f hf he
    obtain ⟨q1, q2, rfl⟩ := List.append_of_mem hf
    rw [h, show p ++ e :: (q1 ++ f :: q2) = (p ++ e :: q1) ++ f :: q2 by simp, List.map_append, List.map_cons (a := f)] at ho
    have := (okOrd_split _ [] f.i _ ho).2.2
    apply this
    rw [he]
    exact List.mem_map.2 ⟨e, by simp, rfl⟩
theorem Facts.before (F : Facts P Sg N ops s s' T) {p q : List El} {e : El} (h : T = p ++ e :: q) {j : Nat} (hr : Reach ops j e.i) : ∃ f ∈ p, f.i = j := by
  have := reach_before F.ord hr (p.map (·.i)) (q.map (·.i)) (by rw [h]; simp)
  obtain ⟨f, h1, h2⟩ := List.mem_map.1 this
  exact ⟨f, h1, h2⟩
theorem ef_efI {e : El} (h : e ∈ T) (hr : e.rc.ef? = true) : efI (T.map El.key) e.i = true := by
  unfold efI
  refine List.any_eq_true.2 ⟨e.key, List.mem_map.2 ⟨e, h, rfl⟩, ?_⟩
  unfold El.key
  cases hrc : e.rc <;> rw [hrc] at hr <;> first | (cases hr; done) | simp
theorem ef_isEf {e : El} (h : StepR P Sg N ops e) (hr : e.rc.ef? = true) : isEf ops e.i = true := by
  cases h with
  | off o ho hw hrc ha =>
    cases he : isEf ops e.i with
    | true => rfl
    | false => rw [hrc, he] at hr; cases hr
  | on o k v h ho hw hk hc ha hrc =>
    unfold isEf kindAt
    rw [ho]
    simp only []
    cases hkd : kindO o.op <;> rw [hkd] at hrc <;> simp only [] at hrc ⊢
    · rw [hrc] at hr; cases hr
    · rw [hrc] at hr; cases hr
    · obtain ⟨b, _, hrc⟩ := hrc; rw [hrc] at hr; cases hr
theorem Facts.ef_efE (F : Facts P Sg N ops s s' T) {e : El} (h : e ∈ T) (hr : e.rc.ef? = true) : efE ops (T.map El.key) e.i = true := by
  unfold efE
  cases ups (T.map El.key) with
  | nil => exact ef_isEf (F.steps e h) hr
  | cons u l => exact ef_efI h hr
theorem up_mem {e : El} (h : e ∈ T) {n : Nat} {b : Blk} (hr : e.rc = .up n b) : (e.i, n) ∈ ups (T.map El.key) := by
  unfold ups
  refine List.mem_filterMap.2 ⟨e.key, List.mem_map.2 ⟨e, h, rfl⟩, ?_⟩
  unfold El.key
  rw [hr]
theorem al_isAl {e : El} (h : StepR P Sg N ops e) (hr : e.rc.al? = true) : isAl ops e.i = true := by
  cases h with
  | off o ho hw hrc ha =>
    rw [hrc] at hr
    split at hr <;> cases hr
  | on o k v h ho hw hk hc ha hrc =>
    unfold isAl kindAt
    rw [ho]
    simp only []
    cases hkd : kindO o.op <;> rw [hkd] at hrc <;> simp only [] at hrc ⊢
    · rw [hrc] at hr; cases hr
    · rw [hrc] at hr; cases hr
    · rcases hrc with hrc | ⟨_, _, hrc, _⟩ <;> (rw [hrc] at hr; cases hr)
/-- an effect comes behind every effect and every new block ahead of it -/
theorem Facts.reach (F : Facts P Sg N ops s s' T) {p q : List El} {e f : El} (h : T = p ++ e :: q) (he : e.rc.ef? = true) (hf : f ∈ p) (hk : f.rc.ef? = true ∨ f.rc.al? = true) : Reach ops f.i e.i := by
  have hs := F.steps
  have hT : T.map (·.i) = p.map (·.i) ++ e.i :: q.map (·.i) := by rw [h]; simp
  have h0 := F.efo
  rw [hT] at h0
  have h1 := okEf_split (p.map (·.i)) [] e.i (q.map (·.i)) h0 (F.ef_efE (by rw [h]; simp) he) f.i (.inr (List.mem_map.2 ⟨f, hf, rfl⟩))
    (by rcases hk with hk | hk
        · rw [F.ef_efE (by rw [h]; simp [hf]) hk]; rfl
        · rw [al_isAl (hs f (by rw [h]; simp [hf])) hk]; simp)
  exact pre_reach h1
/-- what turns one block comes behind what turns memory, and behind new blocks -/
theorem Facts.upReach (F : Facts P Sg N ops s s' T) {e f : El} (he : e ∈ T) (hu : e.rc.up? = true) (hf : f ∈ T) (hk : f.rc.ef? = true ∨ f.rc.al? = true) : Reach ops f.i e.i := by
  have h := F.upo
  unfold okUp at h
  cases hr : e.rc with
  | up n b =>
    have h1 := (Bool.and_eq_true _ _ ▸ List.all_eq_true.1 h _ (up_mem he hr)).1
    have h2 := List.all_eq_true.1 h1 f.key (List.mem_map.2 ⟨f, hf, rfl⟩)
    have hfk : f.key.1 = f.i := rfl
    rw [hfk] at h2
    have h3 : (efI (T.map El.key) f.i || isAl ops f.i) = true := by
      rcases hk with hk | hk
      · rw [ef_efI hf hk]; rfl
      · rw [al_isAl (F.steps f hf) hk]; simp
    rw [h3] at h2
    simp only [Bool.not_true, Bool.false_or] at h2
    exact pre_reach h2
  | _ => rw [hr] at hu; cases hu
theorem Facts.upSame (F : Facts P Sg N ops s s' T) {e f : El} (he : e ∈ T) (hf : f ∈ T) (hne : e.i ≠ f.i) {n : Nat} {b b' : Blk} (hr : e.rc = .up n b) (hr' : f.rc = .up n b') : Reach ops e.i f.i ∨ Reach ops f.i e.i := by
  have h := F.upo
  unfold okUp at h
  have h1 := (Bool.and_eq_true _ _ ▸ List.all_eq_true.1 h _ (up_mem he hr)).2
  have h2 := List.all_eq_true.1 h1 _ (up_mem hf hr')
  simp only [Bool.or_eq_true, beq_iff_eq, Bool.not_eq_true', beq_eq_false_iff_ne, ne_eq, not_true_eq_false, or_false] at h2
  rcases h2 with (h2 | h2) | h2
  · exact absurd h2 hne
  · exact .inl (pre_reach h2)
  · exact .inr (pre_reach h2)
theorem Facts.slots (F : Facts P Sg N ops s s' T) {e f : El} (he : e ∈ T) (hf : f ∈ T) (hne : e.i ≠ f.i) {d : Tmp} (hd : dstAt ops e.i = some d) :
    dstAt ops f.i ≠ some d ∧ ∀ o, ops[f.i]? = some o → d ∈ o.looksAt ops → Reach ops e.i f.i ∨ Reach ops f.i e.i := by
  have h := F.tmo
  simp only [okTm, List.all_eq_true] at h
  have h1 := h e.i (List.mem_map.2 ⟨e, he, rfl⟩)
  rw [hd] at h1
  simp only [List.all_eq_true] at h1
  have h2 := h1 f.i (List.mem_map.2 ⟨f, hf, rfl⟩)
  have hb : (e.i == f.i) = false := by simpa using hne
  rw [hb] at h2
  simp only [Bool.false_or, Bool.and_eq_true, bne_iff_ne, ne_eq] at h2
  refine ⟨h2.1, fun o ho hm => ?_⟩
  have h3 := h2.2
  rw [ho] at h3
  simp only [Bool.or_eq_true, Bool.not_eq_true'] at h3
  rcases h3 with (h3 | h3) | h3
  · rw [← Bool.not_eq_true, List.contains_iff_mem] at h3; exact absurd hm h3
  · exact .inl (pre_reach h3)
  · exact .inr (pre_reach h3)
/-! ### snapshots -/
theorem snap {L : Nat → Bool} : ∀ (l : List El) (done : List Nat) (h : Hp) (hm : HM), (∀ i ∈ done, L i = true) → Wf h → (∀ n b, h.blks.get n = some b → hm n = some b) → (∀ e ∈ l, h.next ≤ e.b.hp.next) → (∀ e ∈ l, StepR P Sg N ops e) →
    (∀ p e q, l = p ++ e :: q → e.rc.ef? = true → L e.i = true → ∀ f ∈ p, f.rc.ef? = true → L f.i = true) → (∀ e ∈ l, e.rc.up? = true → L e.i = false) → (∀ e ∈ l, ∀ v h', e.rc = .ef v h' → h' = e.a.hp ∧ Wf h' ∧ ∀ f q p, l = p ++ e :: q → f ∈ q → h'.next ≤ f.b.hp.next) →
    ∃ σ ∈ snapsOf (l.map El.key) done h, (∀ i ∈ σ.1, L i = true) ∧ (∀ i ∈ efs σ.2.2, L i = false) ∧ ∀ n b, σ.2.1.blks.get n = some b → hmOf L l hm n = some b
  | [], done, h, hm, hd, hwf, hsub, _, _, _, _, _ => ⟨(done, h, []), by simp [snapsOf], hd, by simp [efs], hsub⟩
  | e :: l, done, h, hm, hd, hwf, hsub, hab, hst, hpre, hup, hef => by
    have tl_up := fun f (hf : f ∈ l) => hup f (List.mem_cons_of_mem _ hf)
    have tl_pre : ∀ p f q, l = p ++ f :: q → f.rc.ef? = true → L f.i = true → ∀ g ∈ p, g.rc.ef? = true → L g.i = true :=
      fun p f q h1 h2 h3 g hg => hpre (e :: p) f q (by rw [h1]; rfl) h2 h3 g (List.mem_cons_of_mem _ hg)
    have tl_ef : ∀ f ∈ l, ∀ v h', f.rc = .ef v h' → h' = f.a.hp ∧ Wf h' ∧ ∀ g q p, l = p ++ f :: q → g ∈ q → h'.next ≤ g.b.hp.next :=
      fun f hf v h' hr => let ⟨a, b, c⟩ := hef f (List.mem_cons_of_mem _ hf) v h' hr; ⟨a, b, fun g q p h1 hg => c g q (e :: p) (by rw [h1]; rfl) hg⟩
    have tl_st := fun f (hf : f ∈ l) => hst f (List.mem_cons_of_mem _ hf)
    have tl_ab := fun f (hf : f ∈ l) => hab f (List.mem_cons_of_mem _ hf)
    have plain : e.rc.ef? = false → (∀ n b, h.blks.get n = some b → (if L e.i then hm1 hm e.rc else hm) n = some b) →
        ∃ σ ∈ snapsOf ((e :: l).map El.key) done h, (∀ i ∈ σ.1, L i = true) ∧ (∀ i ∈ efs σ.2.2, L i = false) ∧ ∀ n b, σ.2.1.blks.get n = some b → hmOf L (e :: l) hm n = some b := by
      intro hne hs2
      obtain ⟨σ, h1, h2⟩ := snap l done h _ hd hwf hs2 tl_ab tl_st tl_pre tl_up tl_ef
      refine ⟨σ, ?_, h2⟩
      rw [List.map_cons]
      have : snapsOf (e.key :: l.map El.key) done h = snapsOf (l.map El.key) done h := by
        unfold El.key
        cases hr : e.rc with
        | ef _ _ => rw [hr] at hne; cases hne
        | off => rfl
        | val _ _ => rfl
        | al _ _ _ => rfl
        | up _ _ => rfl
      rw [this]
      exact h1
    cases hr : e.rc with
    | off => exact plain (by rw [hr]; rfl) (by rw [hr]; simpa [hm1] using hsub)
    | val _ _ => exact plain (by rw [hr]; rfl) (by rw [hr]; simpa [hm1] using hsub)
    | up n b => exact plain (by rw [hr]; rfl) (by rw [hup e List.mem_cons_self (by rw [hr]; rfl)]; exact hsub)
    | al v n b =>
      refine plain (by rw [hr]; rfl) (fun k c hk => ?_)
      split
      · rw [hr]
        simp only [hm1, upd]
        have hlt := hwf _ _ hk
        have hge := hab e List.mem_cons_self
        rw [if_neg]
        · exact hsub _ _ hk
        · intro hkn
          have hn : n = e.b.hp.next := by
            cases hst e List.mem_cons_self with
            | off o ho hw hr' ha =>
              rw [hr] at hr'
              split at hr' <;> cases hr'
            | on o k' v' h' ho hw hk hc ha hr' =>
              rw [hr] at hr'
              cases hkd : kindO o.op <;> rw [hkd] at hr' <;> simp only [] at hr'
              · cases hr'
              · cases hr'
              · obtain ⟨_, _, e2⟩ := hr'; injection e2
              · rcases hr' with hr' | ⟨_, _, hr', _⟩ <;> cases hr'
          omega
      · exact hsub _ _ hk
    | ef v h' =>
      obtain ⟨he1, he2, he3⟩ := hef e List.mem_cons_self v h' hr
      have hsn : snapsOf ((e :: l).map El.key) done h = (done, h, (e :: l).map El.key) :: snapsOf (l.map El.key) (e.i :: done) h' := by
        rw [List.map_cons]
        simp only [El.key, hr, snapsOf]
      rw [hsn]
      by_cases hl : L e.i = true
      · obtain ⟨σ, h1, h2, h3, h4⟩ := snap l (e.i :: done) h' (hm1 hm e.rc) (fun i hi => by
          rcases List.mem_cons.1 hi with rfl | hi
          · exact hl
          · exact hd i hi) he2 (fun n b hn => by rw [hr]; exact hn) (fun f hf => he3 f l [] rfl hf) tl_st tl_pre tl_up tl_ef
        refine ⟨σ, List.mem_cons_of_mem _ h1, h2, h3, ?_⟩
        rw [hmOf, if_pos hl]
        exact h4
      · have hl' : L e.i = false := by simpa using hl
        have hnone0 : ∀ f ∈ e :: l, f.rc.ef? = true → L f.i = false := by
          intro f hf hfe
          rcases List.mem_cons.1 hf with rfl | hf
          · exact hl'
          · obtain ⟨p, q, hpq⟩ := List.append_of_mem hf
            cases hLf : L f.i with
            | false => rfl
            | true =>
              have := hpre (e :: p) f q (by rw [hpq]; rfl) hfe hLf e List.mem_cons_self (by rw [hr]; rfl)
              rw [hl'] at this; cases this
        have hnone : ∀ f ∈ e :: l, f.rc.tn? = true → L f.i = false := by
          intro f hf hft
          cases hfr : f.rc with
          | ef _ _ => exact hnone0 f hf (by rw [hfr]; rfl)
          | up _ _ => exact hup f hf (by rw [hfr]; rfl)
          | _ => rw [hfr] at hft; cases hft
        refine ⟨(done, h, (e :: l).map El.key), List.mem_cons_self, hd, ?_, ?_⟩
        · intro i hi
          simp only [efs] at hi
          obtain ⟨⟨j, rc⟩, hj, hji⟩ := List.mem_filterMap.1 hi
          obtain ⟨f, hf, hfk⟩ := List.mem_map.1 hj
          unfold El.key at hfk
          injection hfk with h1 h2
          simp only [] at hji
          split at hji
          · injection hji with hji
            rw [← hji, ← h1]
            exact hnone0 f hf (by rw [h2]; rfl)
          · cases hji
        · intro n b hn
          rw [hmOf_adds (e :: l) hm hnone]
          have hlt := hwf _ _ hn
          cases ha : hmOf L (e :: l) (fun _ => none) n with
          | none => simp only [ha, Option.none_or]; exact hsub _ _ hn
          | some b' =>
            rcases adds_above (m := h.next) hnone hst hab ha with h | h
            · cases h
            · omega
/-! ### a frame around a step -/
theorem Ext.around {x : Cx} {hm : HM} {n0 : Nat} {w : World} {y : Cx} {hm' : HM} {n1 : Nat} {w' : World} (h : Ext x hm n0 w y hm' n1 w') {km km' : HM} {m0 m1 : Nat} (hr : HRel x km w) (hsub : ∀ n b, hm n = some b → km n = some b)
    (hk : ∀ n b, km' n = some b → hm' n = some b ∨ (hm n = none ∧ hm' n = none ∧ km n = some b)) (hmo : ∀ n, n < m0 ∨ m1 ≤ n → n < n0 ∨ n1 ≤ n) : Ext x km m0 w y km' m1 w' where
  m := h.m
  κ := h.κ
  mo n hn := h.mo n (hmo n hn)
  F := h.F
  Fn := h.Fn
  τ := h.τ
  os := h.os
  tape := h.tape
  output := h.output
  size := h.size
  fr c hc hn := h.fr c hc (fun n b e => hn n b (hsub n b e))
  im n b c e hx := by
    rcases hk n b e with e | ⟨_, _, e⟩
    · rcases h.im n b c e hx with ⟨n', b', e', hx'⟩ | hge
      · exact .inl ⟨n', b', hsub _ _ e', hx'⟩
      · exact .inr hge
    · obtain ⟨c0, h0, _⟩ := hr.blk n b e
      have := h.m _ _ h0
      rw [hx] at this
      injection this with this
      subst this
      exact .inl ⟨n, b, e, h0⟩
theorem Ext.then {x y z : Cx} {hm km lm : HM} {n0 n1 : Nat} {u v w : World} (h : Ext x hm n0 u y km n1 v) (k : Ext y km n0 v z lm n1 w) : Ext x hm n0 u z lm n1 w where
  m n c e := k.m n c (h.m n c e)
  κ n c e := (k.κ n c (h.m n c e)).trans (h.κ n c e)
  mo n e := by rw [k.mo n e, h.mo n e]
  F c e := k.F c (h.F c e)
  Fn c e := by
    rcases k.Fn c e with e | e
    · exact h.Fn c e
    · exact .inr (Nat.le_trans h.size e)
  τ := k.τ.trans h.τ
  os := k.os.trans h.os
  tape := k.tape.trans h.tape
  output := k.output.trans h.output
  size := Nat.le_trans h.size k.size
  fr c hc hn := by
    rw [k.fr c (Nat.lt_of_lt_of_le hc h.size) (fun n b e hx => by
      rcases h.im n b c e hx with ⟨n', b', e', hx'⟩ | hge
      · exact hn n' b' e' hx'
      · omega)]
    exact h.fr c hc hn
  im n b c e hx := by
    rcases k.im n b c e hx with ⟨n', b', e', hx'⟩ | hge
    · exact h.im n' b' c e' hx'
    · exact .inr (Nat.le_trans h.size hge)
end
end Go.Abs
