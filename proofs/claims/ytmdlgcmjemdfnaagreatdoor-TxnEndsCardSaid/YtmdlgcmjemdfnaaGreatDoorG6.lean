/- What is proved: a part of the proof of the tied card of TxnEnds (text G6 of it). Conditions: those that its theorems name. -/
import Derived.Test.YtmdlgcmjemdfnaaGreatDoorG5
set_option linter.unusedVariables false
set_option linter.unusedSimpArgs false
set_option linter.unusedSectionVars false
namespace Go.Abs
variable [Bnd]
variable {P : Program}
def Wf (h : Hp) : Prop := ∀ n b, h.blks.get n = some b → n < h.next
/-- from one heap to a later one -/
def Grow (h h' : Hp) : Prop := h.next ≤ h'.next ∧ (Wf h → Wf h')
theorem Grow.refl (h : Hp) : Grow h h := ⟨Nat.le_refl _, id⟩
theorem Grow.trans {a b c : Hp} (h : Grow a b) (k : Grow b c) : Grow a c := ⟨Nat.le_trans h.1 k.1, fun w => k.2 (h.2 w)⟩
theorem grow_new (h : Hp) (b : Blk) : Grow h (h.new b).1 := ⟨Nat.le_succ _, fun w n c e => by
  simp only [Hp.new, Tr.get_put] at e ⊢
  split at e
  · omega
  · exact Nat.lt_succ_of_lt (w n c e)⟩
theorem grow_put {h : Hp} {n : Nat} {b b' : Blk} (hg : h.blks.get n = some b) : Grow h ⟨h.blks.put n b', h.next⟩ := ⟨Nat.le_refl _, fun w k c e => by
  simp only [Tr.get_put] at e
  split at e
  · rename_i hk; subst hk; exact w _ _ hg
  · exact w k c e⟩
theorem grow_kill (h : Hp) (n : Nat) : Grow h (h.kill n) := ⟨Nat.le_refl _, fun w k c e => by
  simp only [Hp.kill, Tr.get_del] at e
  split at e
  · cases e
  · exact w k c e⟩
theorem write_grow {h h' : Hp} {n off : Nat} {vs : List AV} (e : writeAt h n off vs = some h') : Grow h h' := by
  unfold writeAt at e
  split at e
  · rename_i cs hg
    split at e
    · injection e with e; subst e; exact grow_put hg
    · cases e
  · cases e
theorem store_grow {h h' : Hp} {t : TypeId} {a v : AV} (e : storeA P h t a v = some h') : Grow h h' := by
  unfold storeA at e
  repeat' split at e
  all_goals first | (cases e; done) | (injection e with e; subst e; exact Grow.refl _) | exact write_grow e
theorem fresh_grow (h : Hp) (e : TypeId) (cs : List AV) (a b : Nat) : Grow h (freshA h e cs a b).2 := grow_new h _
theorem append_grow {h : Hp} {t : TypeId} {size bytes k : Nat} {s : AV} {cs : List AV} {r : AV × Hp} (e : appendA h t size bytes s cs k = some r) : Grow h r.2 := by
  unfold appendA at e
  repeat' split at e
  all_goals first
    | (cases e; done)
    | (injection e with e; subst e; first | exact Grow.refl _ | exact fresh_grow _ _ _ _ _ | exact (grow_kill _ _).trans (fresh_grow _ _ _ _ _) | exact (grow_kill _ _).trans (grow_new _ _) | (rename_i hw _; exact write_grow hw) | (rename_i hw; exact write_grow hw))
theorem builtin_grow {h : Hp} {b : Builtin} {ts : List TypeId} {as : List AV} {r : AV × Hp} (e : builtinA P h b ts as = some r) : Grow h r.2 := by
  unfold builtinA at e
  repeat' split at e
  all_goals first
    | (cases e; done)
    | (injection e with e; subst e; exact Grow.refl _)
    | exact append_grow e
    | (obtain ⟨_, _, rfl⟩ := Option.map_eq_some_iff.1 e; first | exact Grow.refl _ | exact grow_kill _ _)
theorem update_grow {h h' : Hp} {t : TypeId} {m k v : AV} (e : updateA P h t m k v = some h') : Grow h h' := by
  unfold updateA at e
  split at e
  · split at e
    · split at e
      · rename_i hg
        split at e
        · obtain ⟨_, _, rfl⟩ := Option.map_eq_some_iff.1 e; exact grow_put hg
        · injection e with e; subst e; exact grow_put hg
        · cases e
      · cases e
    · cases e
  · cases e
theorem next_grow {h : Hp} {a : AV} {s : Bool} {r : AV × Hp} (e : nextA h a s = some r) : Grow h r.2 := by
  unfold nextA at e
  split at e
  · split at e
    · rename_i hg
      split at e
      · injection e with e; subst e; exact grow_put hg
      · injection e with e; subst e; exact Grow.refl _
    · injection e with e; subst e; exact Grow.refl _
    · rename_i hg
      split at e
      · injection e with e; subst e; exact Grow.refl _
      · split at e
        · split at e
          · injection e with e; subst e; exact Grow.refl _
          · injection e with e; subst e; exact grow_put hg
        · cases e
      · cases e
    · cases e
  · cases e
theorem range_grow {h : Hp} {t : TypeId} {a : AV} {r : AV × Hp} (e : rangeA P h t a = some r) : Grow h r.2 := by
  unfold rangeA at e
  repeat' split at e
  all_goals first
    | (cases e; done)
    | (injection e with e; subst e; exact grow_new _ _)
theorem vl_grow {h : Hp} {v : Option AV} {nx : Nx} (e : vl h v = some nx) : nx.hp = h := by
  unfold vl at e
  obtain ⟨_, _, rfl⟩ := Option.map_eq_some_iff.1 e
  rfl
theorem opA_grow {tm : Tr AV} {h : Hp} {o : Op} {nx : Nx} (e : opA P tm h o = some nx) : Grow h nx.hp := by
  cases o <;> simp only [opA] at e <;> (try (cases e; done))
  case makeMap t r =>
    cases r
    · simp only [opA] at e; injection e with e; subst e; exact grow_new _ _
    · cases e
  all_goals (repeat' split at e)
  all_goals first
    | (cases e; done)
    | (rw [vl_grow e]; exact Grow.refl _)
    | (injection e with e; subst e; first | exact Grow.refl _ | exact grow_new _ _)
    | (obtain ⟨_, h1, rfl⟩ := Option.map_eq_some_iff.1 e; first | exact store_grow h1 | exact update_grow h1 | exact range_grow h1 | exact next_grow h1 | exact builtin_grow h1)
/-! ### runs -/
variable {Sg : FuncId → Option Sp}
theorem mapc_grow {h : Hp} {as : List AV} {r : AV × Hp} (e : mapcA h as = some r) : Grow h r.2 := by
  unfold mapcA at e
  repeat' split at e
  all_goals first
    | (cases e; done)
    | (injection e with e; subst e; exact grow_new _ _)
theorem belowL_spec {n1 : Nat} : ∀ {l : List (Nat × Blk)}, belowL n1 l = true → ∀ n b, (n, b) ∈ l → n < n1
  | [], _, _, _, h => by cases h
  | (m, c) :: r, h, n, b, hm => by
    simp only [belowL, Bool.and_eq_true, decide_eq_true_eq] at h
    rcases List.mem_cons.1 hm with e | e
    · injection e with e1 e2; subst e1; exact h.1
    · exact belowL_spec h.2 n b e
theorem delL_get : ∀ {l : List (Nat × Blk)} {t : Tr Blk} {n : Nat} {b : Blk}, (delL t l).get n = some b → t.get n = some b ∧ ∀ c, (n, c) ∉ l
  | [], _, _, _, h => ⟨h, fun _ h => by cases h⟩
  | (m, c) :: r, t, n, b, h => by
    obtain ⟨h1, h2⟩ := delL_get (l := r) h
    rw [Tr.get_del] at h1
    split at h1
    · cases h1
    · rename_i hn
      refine ⟨h1, fun d hd => ?_⟩
      rcases List.mem_cons.1 hd with e | e
      · injection e with e1 e2; exact hn e1
      · exact h2 d e
theorem putL_get : ∀ {l : List (Nat × Blk)} {t : Tr Blk} {n : Nat} {b : Blk}, (putL t l).get n = some b → (n, b) ∈ l ∨ ((∀ c, (n, c) ∉ l) ∧ t.get n = some b)
  | [], _, _, _, h => .inr ⟨fun _ h => by (cases h), h⟩
  | (m, c) :: r, t, n, b, h => by
    rcases putL_get (l := r) h with h1 | ⟨h1, h2⟩
    · exact .inl (List.mem_cons_of_mem _ h1)
    · rw [Tr.get_put] at h2
      split at h2
      · rename_i hn
        injection h2 with h2
        subst hn; subst h2
        exact .inl List.mem_cons_self
      · rename_i hn
        refine .inr ⟨fun d hd => ?_, h2⟩
        rcases List.mem_cons.1 hd with e | e
        · injection e with e1 e2; exact hn e1
        · exact h1 d e
theorem memoA_form {as : List AV} {h : Hp} {r : AV × Hp} : ∀ {es : List Ent}, memoA as h es = some r → ∃ e ∈ es, e.n0 = h.next ∧ sames e.as as = true ∧ holdsB h.blks e.pre = true ∧ e.n0 ≤ e.n1 ∧ belowL e.n1 e.post = true ∧ r = (e.v, ⟨putL (delL h.blks e.pre) e.post, e.n1⟩)
  | [], h => by cases h
  | e :: es, h => by
    simp only [memoA] at h
    split at h
    · rename_i hc
      injection h with h
      simp only [Bool.and_eq_true, beq_iff_eq, decide_eq_true_eq] at hc
      exact ⟨e, List.mem_cons_self, hc.1.1.1.1, hc.1.1.1.2, hc.1.1.2, hc.1.2, hc.2, h.symm⟩
    · obtain ⟨e', h1, h2⟩ := memoA_form h
      exact ⟨e', List.mem_cons_of_mem _ h1, h2⟩
theorem memo_grow {as : List AV} {h : Hp} {es : List Ent} {r : AV × Hp} (e : memoA as h es = some r) : Grow h r.2 := by
  obtain ⟨en, h0, h1, h2, h3, h4, h5, rfl⟩ := memoA_form e
  refine ⟨by show h.next ≤ en.n1; omega, fun w n b hg => ?_⟩
  rcases putL_get hg with hg | ⟨_, hg⟩
  · exact belowL_spec h5 n b hg
  · have := w n b (delL_get hg).1
    show n < en.n1
    omega
theorem grow_set {h : Hp} {n : Nat} {b b' : Blk} (hg : h.blks.get n = some b) : Grow h (h.set n b') := grow_put hg
theorem shut_grow : ∀ {l : List Nat} {h h' : Hp}, shutA l h = some h' → Grow h h'
  | [], h, h', e => by simp only [shutA] at e; injection e with e; subst e; exact Grow.refl _
  | n :: l, h, h', e => by
    simp only [shutA] at e
    split at e
    · exact (grow_kill _ _).trans (shut_grow e)
    · cases e
theorem headH_get {m es zz : Nat} {h h' : Hp} : ∀ {k : Nat} {t : Tr Blk} {n : Nat} {b : Blk}, (headH m es zz h h' k t).get n = some b → (∃ b', t.get n = some b') ∨ n < k
  | 0, t, n, b, e => .inl ⟨b, e⟩
  | k + 1, t, n, b, e => by
    simp only [headH] at e
    rcases headH_get e with ⟨b', h1⟩ | h1
    · split at h1
      · rw [Tr.get_put] at h1
        split at h1
        · right; omega
        · exact .inl ⟨b', h1⟩
      · exact .inl ⟨b', h1⟩
    · right; omega
theorem leaveH_get : ∀ {k : Nat} {t : Tr Blk} {n : Nat} {b : Blk}, (leaveH k t).get n = some b → (∃ b', t.get n = some b') ∨ n < k
  | 0, t, n, b, e => .inl ⟨b, e⟩
  | k + 1, t, n, b, e => by
    simp only [leaveH] at e
    rcases leaveH_get e with ⟨b', h1⟩ | h1
    · split at h1
      · rw [Tr.get_put] at h1
        split at h1
        · right; omega
        · exact .inl ⟨b', h1⟩
      · exact .inl ⟨b', h1⟩
    · right; omega
theorem leave_grow {h : Hp} {m es zz k : Nat} {h1 : Hp} : Grow h ⟨leaveH h.next (headH m es zz h h1 h.next h.blks), max (h.next + 1) k⟩ := ⟨Nat.le_trans (Nat.le_succ _) (Nat.le_max_left _ _), fun w n b e => by
  refine Nat.lt_of_lt_of_le ?_ (Nat.le_trans (Nat.le_succ h.next) (Nat.le_max_left _ _))
  rcases leaveH_get e with ⟨b', k1⟩ | k1
  · rcases headH_get k1 with ⟨b2, k2⟩ | k2
    · exact w n b2 k2
    · exact k2
  · exact k1⟩
theorem grows : ∀ n,
    (∀ c s r, code P Sg n c s = some r → Grow s.hp r.2.hp) ∧ (∀ ops l s s', opsR P Sg n ops l s = some s' → Grow s.hp s'.hp) ∧
    (∀ u ops l s r, opsD P Sg n u ops l s = some r → Grow s.hp r.2.hp) ∧ (∀ tm h o r, opC P Sg n tm h o = some r → Grow h r.2) ∧
    (∀ f as h r, call P Sg n f as h = some r → Grow h r.2) ∧ (∀ l as h r, round P Sg n l as h = some r → Grow h r.2)
  | 0 => ⟨fun _ _ _ e => (by simp [code] at e), fun _ _ _ _ e => (by simp [opsR] at e), fun _ _ _ _ _ e => (by simp [opsD] at e), fun _ _ _ _ e => (by simp [opC] at e), fun _ _ _ _ e => (by simp [call] at e), fun _ _ _ _ e => (by simp [round] at e)⟩
  | n + 1 => by
    obtain ⟨i1, i2, i3, i4, i5, i6⟩ := grows n
    refine ⟨fun c s r e => ?_, fun ops l s s' e => ?_, fun u ops l s r e => ?_, fun tm h o r e => ?_, fun f as h r e => ?_, fun l as h r e => ?_⟩
    · cases c <;> simp only [code] at e <;> (try (cases e; done))
      case skip => injection e with e; subst e; exact Grow.refl _
      case region id ops draw =>
        split at e
        · split at e
          · rename_i recs s' h1
            split at e
            · injection e with e; subst e; exact i3 _ _ _ _ _ h1
            · split at e
              · rename_i recs2 s2 h2
                split at e
                · injection e with e; subst e; exact i3 _ _ _ _ _ h2
                · cases e
              · cases e
          · cases e
        · obtain ⟨s', h1, rfl⟩ := Option.map_eq_some_iff.1 e
          exact i2 _ _ _ _ h1
      case seq a b =>
        split at e
        · rename_i s' h1
          exact (i1 _ _ _ h1).trans (i1 _ _ _ e)
        · exact i1 _ _ _ e
      case cond c a b =>
        split at e
        · exact i1 _ _ _ e
        · cases e
      case block id c =>
        split at e
        · rename_i i s' h1
          split at e
          · have := i1 _ _ _ h1; injection e with e; subst e; exact this
          · have := i1 _ _ _ h1; injection e with e; subst e; exact this
        · exact i1 _ _ _ e
      case loop c =>
        split at e
        · unfold loopR at e
          repeat' split at e
          all_goals first
            | (cases e; done)
            | (injection e with e; subst e; exact leave_grow)
        · split at e
          · rename_i s' h1
            split at e
            · cases e
            · exact (i1 _ _ _ h1).trans (i1 _ _ _ e)
          · exact i1 _ _ _ e
      case rangeFunc g ps asn body =>
        split at e
        · cases e
        · split at e
          · split at e
            · rename_i v h1 hc
              split at e
              · split at e
                · cases e
                · injection e with e
                  subst e
                  exact ((((grow_new _ _).trans (grow_new _ _)).trans (i5 _ _ _ _ hc)).trans (grow_kill _ _))
                · cases e
              · cases e
            · cases e
          · cases e
      case exit id => injection e with e; subst e; exact Grow.refl _
      case ret => injection e with e; subst e; exact Grow.refl _
    · cases l with
      | nil => simp only [opsR] at e; injection e with e; subst e; exact Grow.refl _
      | cons o l =>
        simp only [opsR] at e
        split at e
        · split at e
          · rename_i v h' h1
            exact (i4 _ _ _ _ h1).trans (i2 _ _ _ _ e)
          · cases e
        · have := i2 _ _ _ _ e; exact this
        · cases e
    · cases l with
      | nil => simp only [opsD] at e; injection e with e; subst e; exact Grow.refl _
      | cons i l =>
        simp only [opsD] at e
        split at e
        · cases e
        · split at e
          · split at e
            · rename_i v h' h1
              split at e
              · rename_i l' s' h2
                have := (i4 _ _ _ _ h1).trans (i3 _ _ _ _ _ h2)
                repeat' split at e
                all_goals first
                  | (cases e; done)
                  | (injection e with e; subst e; exact this)
              · cases e
            · cases e
          · split at e
            · rename_i l' s' h2
              have := i3 _ _ _ _ _ h2; injection e with e; subst e; exact this
            · cases e
          · cases e
    · simp only [opC] at e
      split at e
      · rename_i h1; injection e with e; subst e; exact opA_grow h1
      · rename_i h1; injection e with e; subst e; exact opA_grow h1
      · rename_i h1
        split at e
        · obtain ⟨_, _, rfl⟩ := Option.map_eq_some_iff.1 e; exact opA_grow h1
        · exact (opA_grow h1).trans (mapc_grow e)
        · exact (opA_grow h1).trans (i5 _ _ _ _ e)
      · rename_i h1
        exact (opA_grow h1).trans (i6 _ _ _ _ e)
      · cases e
    · simp only [call] at e
      split at e
      · split at e
        · injection e with e; subst e; exact Grow.refl _
        · cases e
      · exact memo_grow e
      · cases e
      · cases e
      · split at e
        · split at e
          · split at e
            · rename_i h1
              split at e
              · rename_i h' h2
                obtain ⟨_, _, rfl⟩ := Option.map_eq_some_iff.1 e; exact (i1 _ _ _ h1).trans (shut_grow h2)
              · cases e
            · rename_i h1
              split at e
              · rename_i h' h2
                obtain ⟨_, _, rfl⟩ := Option.map_eq_some_iff.1 e; exact (i1 _ _ _ h1).trans (shut_grow h2)
              · cases e
            · cases e
          · cases e
        · cases e
    · simp only [round] at e
      split at e
      · split at e
        · rename_i s1 h1
          split at e
          · rename_i hg
            split at e
            · rename_i ex s2 h2
              split at e
              · rename_i hg2
                injection e with e
                subst e
                exact ((((i1 _ _ _ h1).trans (grow_set hg)).trans (i1 _ _ _ h2)).trans (grow_set hg2))
              · cases e
            · cases e
          · cases e
        · cases e
      · cases e
theorem rds : ∀ n, (∀ c s r, code P Sg n c s = some r → r.2.rd = s.rd) ∧ (∀ ops l s s', opsR P Sg n ops l s = some s' → s'.rd = s.rd) ∧
    (∀ u ops l s r, opsD P Sg n u ops l s = some r → r.2.rd = s.rd)
  | 0 => ⟨fun _ _ _ e => (by simp [code] at e), fun _ _ _ _ e => (by simp [opsR] at e), fun _ _ _ _ _ e => (by simp [opsD] at e)⟩
  | n + 1 => by
    obtain ⟨i1, i2, i3⟩ := rds n
    refine ⟨fun c s r e => ?_, fun ops l s s' e => ?_, fun u ops l s r e => ?_⟩
    · cases c <;> simp only [code] at e <;> (try (cases e; done))
      case skip => injection e with e; subst e; rfl
      case region id ops draw =>
        split at e
        · split at e
          · rename_i recs s' h1
            split at e
            · injection e with e; subst e; exact i3 _ _ _ _ _ h1
            · split at e
              · rename_i recs2 s2 h2
                split at e
                · injection e with e; subst e; exact i3 _ _ _ _ _ h2
                · cases e
              · cases e
          · cases e
        · obtain ⟨s', h1, rfl⟩ := Option.map_eq_some_iff.1 e
          exact i2 _ _ _ _ h1
      case seq a b =>
        split at e
        · rename_i s' h1
          exact (i1 _ _ _ e).trans (i1 _ _ _ h1)
        · exact i1 _ _ _ e
      case cond c a b =>
        split at e
        · exact i1 _ _ _ e
        · cases e
      case block id c =>
        split at e
        · rename_i i s' h1
          split at e
          · have := i1 _ _ _ h1; injection e with e; subst e; exact this
          · have := i1 _ _ _ h1; injection e with e; subst e; exact this
        · exact i1 _ _ _ e
      case loop c =>
        split at e
        · unfold loopR at e
          repeat' split at e
          all_goals first
            | (cases e; done)
            | (injection e with e; subst e; rfl)
        · split at e
          · rename_i s' h1
            split at e
            · cases e
            · exact (i1 _ _ _ e).trans (i1 _ _ _ h1)
          · exact i1 _ _ _ e
      case rangeFunc g ps asn body =>
        repeat' split at e
        all_goals first
          | (cases e; done)
          | (injection e with e; subst e; rfl)
      case exit id => injection e with e; subst e; rfl
      case ret => injection e with e; subst e; rfl
    · cases l with
      | nil => simp only [opsR] at e; injection e with e; subst e; rfl
      | cons o l =>
        simp only [opsR] at e
        split at e
        · split at e
          · have := i2 _ _ _ _ e; exact this
          · cases e
        · have := i2 _ _ _ _ e; exact this
        · cases e
    · cases l with
      | nil => simp only [opsD] at e; injection e with e; subst e; rfl
      | cons i l =>
        simp only [opsD] at e
        split at e
        · cases e
        · split at e
          · split at e
            · rename_i v h' h1
              split at e
              · rename_i l' s' h2
                have := i3 _ _ _ _ _ h2
                repeat' split at e
                all_goals first
                  | (cases e; done)
                  | (injection e with e; subst e; exact this)
              · cases e
            · cases e
          · split at e
            · rename_i l' s' h2
              have := i3 _ _ _ _ _ h2; injection e with e; subst e; exact this
            · cases e
          · cases e
end Go.Abs

namespace Go.Abs
variable [Bnd]
/-! ### tests of sameness -/
mutual
theorem sameK_eq : ∀ {a b : Ck}, sameK a b = true → a = b
  | .any, b, h => by cases b <;> simp [sameK] at h; rfl
  | .num, b, h => by cases b <;> simp [sameK] at h; rfl
  | .self, b, h => by cases b <;> simp [sameK] at h; rfl
  | .sl a, b, h => by cases b <;> simp [sameK] at h; rw [sameC_eq h]
theorem sameC_eq : ∀ {a b : List Ck}, sameC a b = true → a = b
  | [], [], _ => rfl
  | [], _ :: _, h => by simp [sameC] at h
  | _ :: _, [], h => by simp [sameC] at h
  | a :: x, b :: y, h => by
    simp [sameC] at h
    rw [sameK_eq h.1, sameC_eq h.2]
end
mutual
theorem same_eq : ∀ {a b : AV}, same a b = true → a = b
  | .bool a, b, h => by cases b <;> simp [same] at h; rw [h]
  | .int k a, b, h => by cases b <;> simp [same] at h; rw [h.1, h.2]
  | .str a, b, h => by cases b <;> simp [same] at h; rw [h]
  | .ptr a c, b, h => by cases b <;> simp [same] at h; rw [h.1, h.2]
  | .lptr a, b, h => by cases b <;> simp [same] at h; rw [sames_eq h]
  | .nilptr, b, h => by cases b <;> simp [same] at h; rfl
  | .sl _ _ _ _ _ _, b, h => by cases b <;> simp [same] at h; simp [h]
  | .nilsl, b, h => by cases b <;> simp [same] at h; rfl
  | .esl, b, h => by cases b <;> simp [same] at h; rfl
  | .zsl, b, h => by cases b <;> simp [same] at h; rfl
  | .lst a c, b, h => by cases b <;> simp [same] at h; rw [h.1, sames_eq h.2]
  | .map a, b, h => by cases b <;> simp [same] at h; rw [h]
  | .nilmap, b, h => by cases b <;> simp [same] at h; rfl
  | .nilfunc, b, h => by cases b <;> simp [same] at h; rfl
  | .nilif, b, h => by cases b <;> simp [same] at h; rfl
  | .yld a, b, h => by cases b <;> simp [same] at h; rw [h]
  | .any, b, h => by cases b <;> simp [same] at h; rfl
  | .una k lo hi, b, h => by cases b <;> simp [same] at h; rw [h.1.1, h.1.2, h.2]
  | .ilen a _, b, h => by cases b <;> simp [same] at h; rw [h.1, h.2]
  | .idx a, b, h => by cases b <;> simp [same] at h; rw [h]
  | .usl _ _ _ _, b, h => by cases b <;> simp [same] at h; simp [h]
  | .ixn a, b, h => by cases b <;> simp [same] at h; rw [h]
  | .uptr _ _, b, h => by cases b <;> simp [same] at h; simp [h]
  | .inp i s b, c, h => by cases c <;> simp [same] at h; rw [h.1.1, sameC_eq h.1.2, h.2]
  | .elt s b, c, h => by cases c <;> simp [same] at h; rw [sameC_eq h.1, h.2]
  | .eltN s b, c, h => by cases c <;> simp [same] at h; rw [sameC_eq h.1, h.2]
  | .eptr s, c, h => by cases c <;> simp [same] at h; rw [sameC_eq h]
  | .func fn a b, c, h => by
    cases c
    case func fn' a' b' =>
      cases fn <;> cases fn' <;> simp [same] at h
      rw [h.1.1, sames_eq h.1.2, sames_eq h.2]
    all_goals (cases fn <;> simp [same] at h)
  | .agg a, b, h => by cases b <;> simp [same] at h; rw [sames_eq h]
  | .tup a, b, h => by cases b <;> simp [same] at h; rw [sames_eq h]
  | .opq a, b, h => by cases b <;> simp [same] at h; rw [h]
  | .iface _ _, b, h => by cases b <;> simp [same] at h
theorem sames_eq : ∀ {a b : List AV}, sames a b = true → a = b
  | [], b, h => by cases b <;> simp [sames] at h; rfl
  | a :: x, b, h => by
    cases b with
    | nil => simp [sames] at h
    | cons c y => simp [sames] at h; rw [same_eq h.1, sames_eq h.2]
end
theorem sameE_eq : ∀ {a b : List (AV × AV × Nat)}, sameE a b = true → a = b
  | [], [], _ => rfl
  | [], _ :: _, h => by cases h
  | _ :: _, [], h => by cases h
  | (a1, a2, a3) :: x, (b1, b2, b3) :: y, h => by
    simp only [sameE, Bool.and_eq_true, beq_iff_eq] at h
    rw [same_eq h.1.1.1, same_eq h.1.1.2, h.1.2, sameE_eq h.2]
theorem sameB_eq {a b : Blk} (h : sameB a b = true) : a = b := by
  cases a <;> cases b <;> simp only [sameB] at h <;> (try (cases h; done))
  · simp only [Bool.and_eq_true, beq_iff_eq] at h
    rw [h.1, sames_eq h.2]
  · simp only [Bool.and_eq_true, beq_iff_eq] at h
    rw [h.1, sameE_eq h.2]
theorem holdsB_spec {t : Tr Blk} : ∀ {l : List (Nat × Blk)}, holdsB t l = true → ∀ n b, (n, b) ∈ l → t.get n = some b
  | [], _, _, _, h => by cases h
  | (m, c) :: r, h, n, b, hm => by
    simp only [holdsB, Bool.and_eq_true] at h
    rcases List.mem_cons.1 hm with e | e
    · injection e with e1 e2
      subst e1; subst e2
      have h1 := h.1
      split at h1
      · rename_i b' hb
        rw [sameB_eq h1]
        exact hb
      · cases h1
    · exact holdsB_spec h.2 n b e
end Go.Abs
