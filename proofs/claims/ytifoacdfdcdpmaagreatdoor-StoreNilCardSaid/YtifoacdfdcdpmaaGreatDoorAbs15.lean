/- What is proved: a part of the proof of the tied card of StoreNil (text Abs15 of it). Conditions: those that its theorems name. -/
import Derived.Test.YtifoacdfdcdpmaaGreatDoorAbs14
set_option linter.unusedVariables false
set_option linter.unusedSimpArgs false
namespace Go.Abs
variable {P : Program}
def Wf (h : Hp) : Prop := ∀ n b, h.blks.get n = some b → n < h.next
/-- from one heap to a later one -/
def Grow (h h' : Hp) : Prop := h.next ≤ h'.next ∧ (Wf h → Wf h')
theorem Grow.refl (h : Hp) : Grow h h := ⟨Nat.le_refl _, id⟩
theorem Grow.trans {a b c : Hp} (h : Grow a b) (k : Grow b c) : Grow a c := ⟨Nat.le_trans h.1 k.1, fun w => k.2 (h.2 w)⟩
theorem grow_new (h : Hp) (b : Blk) : Grow h (h.new b).1 := ⟨Nat.le_succ _, fun w n c e => by
  simp only [Hp.new, Tr.get_put] at e ⊢
  split at e
  · omega
  · exact Nat.lt_succ_of_lt (w n c e)⟩
theorem grow_put {h : Hp} {n : Nat} {b b' : Blk} (hg : h.blks.get n = some b) : Grow h ⟨h.blks.put n b', h.next⟩ := ⟨Nat.le_refl _, fun w k c e => by
  simp only [Tr.get_put] at e
  split at e
  · rename_i hk; subst hk; exact w _ _ hg
  · exact w k c e⟩
theorem grow_kill (h : Hp) (n : Nat) : Grow h (h.kill n) := ⟨Nat.le_refl _, fun w k c e => by
  simp only [Hp.kill, Tr.get_del] at e
  split at e
  · cases e
  · exact w k c e⟩
theorem write_grow {h h' : Hp} {n off : Nat} {vs : List AV} (e : writeAt h n off vs = some h') : Grow h h' := by
  unfold writeAt at e
  split at e
  · rename_i cs hg
    split at e
    · injection e with e; subst e; exact grow_put hg
    · cases e
  · cases e
theorem store_grow {h h' : Hp} {t : TypeId} {a v : AV} (e : storeA P h t a v = some h') : Grow h h' := by
  unfold storeA at e
  repeat' split at e
  all_goals first | (cases e; done) | exact write_grow e
theorem fresh_grow (h : Hp) (e : TypeId) (cs : List AV) (a b : Nat) : Grow h (freshA h e cs a b).2 := grow_new h _
theorem append_grow {h : Hp} {t : TypeId} {size bytes k : Nat} {s : AV} {cs : List AV} {r : AV × Hp} (e : appendA h t size bytes s cs k = some r) : Grow h r.2 := by
  unfold appendA at e
  repeat' split at e
  all_goals first
    | (cases e; done)
    | (injection e with e; subst e; first | exact Grow.refl _ | exact fresh_grow _ _ _ _ _ | exact (grow_kill _ _).trans (fresh_grow _ _ _ _ _) | (rename_i hw _; exact write_grow hw) | (rename_i hw; exact write_grow hw))
theorem builtin_grow {h : Hp} {b : Builtin} {ts : List TypeId} {as : List AV} {r : AV × Hp} (e : builtinA P h b ts as = some r) : Grow h r.2 := by
  unfold builtinA at e
  repeat' split at e
  all_goals first
    | (cases e; done)
    | (injection e with e; subst e; exact Grow.refl _)
    | exact append_grow e
    | (obtain ⟨_, _, rfl⟩ := Option.map_eq_some_iff.1 e; first | exact Grow.refl _ | exact grow_kill _ _)
theorem update_grow {h h' : Hp} {t : TypeId} {m k v : AV} (e : updateA P h t m k v = some h') : Grow h h' := by
  unfold updateA at e
  split at e
  · split at e
    · split at e
      · rename_i hg
        split at e
        · obtain ⟨_, _, rfl⟩ := Option.map_eq_some_iff.1 e; exact grow_put hg
        · injection e with e; subst e; exact grow_put hg
        · cases e
      · cases e
    · cases e
  · cases e
theorem next_grow {h : Hp} {a : AV} {s : Bool} {r : AV × Hp} (e : nextA h a s = some r) : Grow h r.2 := by
  unfold nextA at e
  split at e
  · split at e
    · rename_i hg
      split at e
      · injection e with e; subst e; exact grow_put hg
      · injection e with e; subst e; exact Grow.refl _
    · injection e with e; subst e; exact Grow.refl _
    · rename_i hg
      split at e
      · injection e with e; subst e; exact Grow.refl _
      · split at e
        · split at e
          · injection e with e; subst e; exact Grow.refl _
          · injection e with e; subst e; exact grow_put hg
        · cases e
      · cases e
    · cases e
  · cases e
theorem range_grow {h : Hp} {t : TypeId} {a : AV} {r : AV × Hp} (e : rangeA P h t a = some r) : Grow h r.2 := by
  unfold rangeA at e
  repeat' split at e
  all_goals first
    | (cases e; done)
    | (injection e with e; subst e; exact grow_new _ _)
theorem vl_grow {h : Hp} {v : Option AV} {nx : Nx} (e : vl h v = some nx) : nx.hp = h := by
  unfold vl at e
  obtain ⟨_, _, rfl⟩ := Option.map_eq_some_iff.1 e
  rfl
theorem opA_grow {tm : Tr AV} {h : Hp} {o : Op} {nx : Nx} (e : opA P tm h o = some nx) : Grow h nx.hp := by
  cases o <;> simp only [opA] at e <;> (try (cases e; done))
  case makeMap t r =>
    cases r
    · simp only [opA] at e; injection e with e; subst e; exact grow_new _ _
    · cases e
  all_goals (repeat' split at e)
  all_goals first
    | (cases e; done)
    | (rw [vl_grow e]; exact Grow.refl _)
    | (injection e with e; subst e; first | exact Grow.refl _ | exact grow_new _ _)
    | (obtain ⟨_, h1, rfl⟩ := Option.map_eq_some_iff.1 e; first | exact store_grow h1 | exact update_grow h1 | exact range_grow h1 | exact next_grow h1 | exact builtin_grow h1)
/-! ### runs -/
variable {Sg : FuncId → Option Sp}
theorem grows : ∀ n,
    (∀ c s r, code P Sg n c s = some r → Grow s.hp r.2.hp) ∧ (∀ ops l s s', opsR P Sg n ops l s = some s' → Grow s.hp s'.hp) ∧
    (∀ ops l s r, opsD P Sg n ops l s = some r → Grow s.hp r.2.hp) ∧ (∀ tm h o r, opC P Sg n tm h o = some r → Grow h r.2) ∧
    (∀ f as h r, call P Sg n f as h = some r → Grow h r.2)
  | 0 => ⟨fun _ _ _ e => (by simp [code] at e), fun _ _ _ _ e => (by simp [opsR] at e), fun _ _ _ _ e => (by simp [opsD] at e), fun _ _ _ _ e => (by simp [opC] at e), fun _ _ _ _ e => (by simp [call] at e)⟩
  | n + 1 => by
    obtain ⟨i1, i2, i3, i4, i5⟩ := grows n
    refine ⟨fun c s r e => ?_, fun ops l s s' e => ?_, fun ops l s r e => ?_, fun tm h o r e => ?_, fun f as h r e => ?_⟩
    · cases c <;> simp only [code] at e <;> (try (cases e; done))
      case skip => injection e with e; subst e; exact Grow.refl _
      case region id ops draw =>
        split at e
        · split at e
          · rename_i recs s' h1
            split at e
            · injection e with e; subst e; exact i3 _ _ _ _ h1
            · cases e
          · cases e
        · obtain ⟨s', h1, rfl⟩ := Option.map_eq_some_iff.1 e
          exact i2 _ _ _ _ h1
      case seq a b =>
        split at e
        · rename_i s' h1
          exact (i1 _ _ _ h1).trans (i1 _ _ _ e)
        · exact i1 _ _ _ e
      case cond c a b =>
        split at e
        · exact i1 _ _ _ e
        · cases e
      case block id c =>
        split at e
        · rename_i i s' h1
          split at e
          · have := i1 _ _ _ h1; injection e with e; subst e; exact this
          · have := i1 _ _ _ h1; injection e with e; subst e; exact this
        · exact i1 _ _ _ e
      case loop c =>
        split at e
        · rename_i s' h1
          exact (i1 _ _ _ h1).trans (i1 _ _ _ e)
        · exact i1 _ _ _ e
      case exit id => injection e with e; subst e; exact Grow.refl _
      case ret => injection e with e; subst e; exact Grow.refl _
    · cases l with
      | nil => simp only [opsR] at e; injection e with e; subst e; exact Grow.refl _
      | cons o l =>
        simp only [opsR] at e
        split at e
        · split at e
          · rename_i v h' h1
            exact (i4 _ _ _ _ h1).trans (i2 _ _ _ _ e)
          · cases e
        · have := i2 _ _ _ _ e; exact this
        · cases e
    · cases l with
      | nil => simp only [opsD] at e; injection e with e; subst e; exact Grow.refl _
      | cons i l =>
        simp only [opsD] at e
        split at e
        · cases e
        · split at e
          · split at e
            · rename_i v h' h1
              split at e
              · rename_i l' s' h2
                have := (i4 _ _ _ _ h1).trans (i3 _ _ _ _ h2)
                repeat' split at e
                all_goals first
                  | (cases e; done)
                  | (injection e with e; subst e; exact this)
              · cases e
            · cases e
          · split at e
            · rename_i l' s' h2
              have := i3 _ _ _ _ h2; injection e with e; subst e; exact this
            · cases e
          · cases e
    · simp only [opC] at e
      split at e
      · rename_i h1; injection e with e; subst e; exact opA_grow h1
      · rename_i h1; injection e with e; subst e; exact opA_grow h1
      · rename_i h1
        split at e
        · obtain ⟨_, _, rfl⟩ := Option.map_eq_some_iff.1 e; exact opA_grow h1
        · exact (opA_grow h1).trans (i5 _ _ _ _ e)
      · cases e
    · simp only [call] at e
      split at e
      · split at e
        · injection e with e; subst e; exact Grow.refl _
        · cases e
      · cases e
      · split at e
        · split at e
          · split at e
            · rename_i h1; obtain ⟨_, _, rfl⟩ := Option.map_eq_some_iff.1 e; exact i1 _ _ _ h1
            · rename_i h1; obtain ⟨_, _, rfl⟩ := Option.map_eq_some_iff.1 e; exact i1 _ _ _ h1
            · cases e
          · cases e
        · cases e
end Go.Abs
