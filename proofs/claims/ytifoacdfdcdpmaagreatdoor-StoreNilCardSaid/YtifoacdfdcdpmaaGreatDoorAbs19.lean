/- What is proved: a part of the proof of the tied card of StoreNil (text Abs19 of it). Conditions: those that its theorems name. -/
import Derived.Test.YtifoacdfdcdpmaaGreatDoorAbs18
set_option linter.unusedVariables false
set_option linter.unusedSimpArgs false
namespace Go.Abs
variable {P : Program} {Sg : FuncId → Option Sp} {ops : Array Oper}
/-! ### what a listed part of a region has come to -/
def tmOf (ops : Array Oper) (nt : Nat) (L : Nat → Bool) : List El → Tr AV → Tr AV
  | [], tm => tm
  | e :: l, tm => tmOf ops nt L l (if L e.i then putT tm nt (dstAt ops e.i) e.rc.v else tm)
def upd (hm : HM) (n : Nat) (b : Blk) : HM := fun k => if k = n then some b else hm k
def hm1 (hm : HM) : Rc → HM
  | .al _ n b => upd hm n b
  | .ef _ h => h.blks.get
  | _ => hm
def hmOf (L : Nat → Bool) : List El → HM → HM
  | [], hm => hm
  | e :: l, hm => hmOf L l (if L e.i then hm1 hm e.rc else hm)
theorem putT_get (tm : Tr AV) (nt : Nat) (d : Option Tmp) (v : AV) (t : Tmp) : (putT tm nt d v).get t = if d = some t ∧ t < nt then some v else tm.get t := by
  unfold putT
  cases d with
  | none => simp
  | some d =>
    simp only []
    by_cases hd : d < nt
    · rw [if_pos hd, Tr.get_put]
      by_cases ht : t = d
      · subst ht; simp [hd]
      · rw [if_neg ht, if_neg (by rintro ⟨h, _⟩; injection h with h; exact ht h.symm)]
    · rw [if_neg hd, if_neg (by rintro ⟨h, h2⟩; injection h with h; subst h; exact hd h2)]
theorem tmOf_congr {nt : Nat} {L L2 : Nat → Bool} {t : Tmp} : ∀ (l : List El) (tm tm2 : Tr AV), (∀ e ∈ l, dstAt ops e.i = some t → L e.i = L2 e.i) → tm.get t = tm2.get t → (tmOf ops nt L l tm).get t = (tmOf ops nt L2 l tm2).get t
  | [], tm, tm2, _, h => h
  | e :: l, tm, tm2, hc, h => by
    refine tmOf_congr l _ _ (fun f hf => hc f (List.mem_cons_of_mem _ hf)) ?_
    by_cases hd : dstAt ops e.i = some t
    · rw [hc e List.mem_cons_self hd]
      split
      · rw [putT_get, putT_get, h]
      · exact h
    · have h1 : ∀ (tm : Tr AV) (b : Bool), (if b then putT tm nt (dstAt ops e.i) e.rc.v else tm).get t = tm.get t := by
        intro tm b
        split
        · rw [putT_get, if_neg (fun h => hd h.1)]
        · rfl
      rw [h1, h1, h]
theorem tmOf_skip {nt : Nat} {L : Nat → Bool} {t : Tmp} : ∀ (l : List El) (tm : Tr AV), (∀ e ∈ l, dstAt ops e.i = some t → L e.i = false) → (tmOf ops nt L l tm).get t = tm.get t
  | [], tm, _ => rfl
  | e :: l, tm, hc => by
    rw [tmOf, tmOf_skip l _ (fun f hf => hc f (List.mem_cons_of_mem _ hf))]
    split
    · rename_i hl
      rw [putT_get, if_neg]
      rintro ⟨hd, _⟩
      rw [hc e List.mem_cons_self hd] at hl
      cases hl
    · rfl
theorem tmOf_app {nt : Nat} {L : Nat → Bool} : ∀ (p q : List El) (tm : Tr AV), tmOf ops nt L (p ++ q) tm = tmOf ops nt L q (tmOf ops nt L p tm)
  | [], q, tm => rfl
  | e :: p, q, tm => tmOf_app p q _
theorem hmOf_app {L : Nat → Bool} : ∀ (p q : List El) (hm : HM), hmOf L (p ++ q) hm = hmOf L q (hmOf L p hm)
  | [], q, hm => rfl
  | e :: p, q, hm => hmOf_app p q _
def Rc.ef? : Rc → Bool
  | .ef .. => true
  | _ => false
def Rc.al? : Rc → Bool
  | .al .. => true
  | _ => false
theorem hmOf_congr {L L2 : Nat → Bool} : ∀ (l : List El) (hm : HM), (∀ e ∈ l, e.rc.ef? = true ∨ e.rc.al? = true → L e.i = L2 e.i) → hmOf L l hm = hmOf L2 l hm
  | [], hm, _ => rfl
  | e :: l, hm, hc => by
    have h0 : (if L e.i then hm1 hm e.rc else hm) = (if L2 e.i then hm1 hm e.rc else hm) := by
      cases hr : e.rc with
      | off => simp [hm1]
      | val _ _ => simp [hm1]
      | al v n b => rw [hc e List.mem_cons_self (.inr (by rw [hr]; rfl))]
      | ef v h => rw [hc e List.mem_cons_self (.inl (by rw [hr]; rfl))]
    rw [hmOf, hmOf, h0]
    exact hmOf_congr l _ (fun f hf => hc f (List.mem_cons_of_mem _ hf))
/-- with none listed that turns memory, what is listed is beside -/
theorem hmOf_adds {L : Nat → Bool} : ∀ (l : List El) (hm : HM), (∀ e ∈ l, e.rc.ef? = true → L e.i = false) → hmOf L l hm = fun k => (hmOf L l (fun _ => none) k).or (hm k)
  | [], hm, _ => by funext k; simp [hmOf]
  | e :: l, hm, hc => by
    have ht : ∀ f ∈ l, f.rc.ef? = true → L f.i = false := fun f hf => hc f (List.mem_cons_of_mem _ hf)
    rw [hmOf, hmOf]
    by_cases hl : L e.i = true
    · rw [if_pos hl, if_pos hl]
      cases hr : e.rc with
      | off => exact hmOf_adds l hm ht
      | val _ _ => exact hmOf_adds l hm ht
      | al v n b =>
        simp only [hm1]
        rw [hmOf_adds l (upd hm n b) ht, hmOf_adds l (upd (fun _ => none) n b) ht]
        funext k
        simp only [upd]
        split <;> simp
      | ef v h =>
        have := hc e List.mem_cons_self (by rw [hr]; rfl)
        rw [this] at hl
        cases hl
    · rw [if_neg hl, if_neg hl]
      exact hmOf_adds l hm ht
theorem adds_above {L : Nat → Bool} {N : Nat} : ∀ {l : List El} {hm : HM} {k : Nat} {b : Blk} {m : Nat}, (∀ e ∈ l, e.rc.ef? = true → L e.i = false) → (∀ e ∈ l, StepR P Sg N ops e) → (∀ e ∈ l, m ≤ e.b.hp.next) → hmOf L l hm k = some b → hm k = some b ∨ m ≤ k
  | [], hm, k, b, m, _, _, _, h => .inl h
  | e :: l, hm, k, b, m, hc, hs, hm', h => by
    rw [hmOf] at h
    rcases adds_above (fun f hf => hc f (List.mem_cons_of_mem _ hf)) (fun f hf => hs f (List.mem_cons_of_mem _ hf)) (fun f hf => hm' f (List.mem_cons_of_mem _ hf)) h with h | h
    · split at h
      · rename_i hl
        cases hr : e.rc with
        | off => rw [hr] at h; exact .inl h
        | val _ _ => rw [hr] at h; exact .inl h
        | al v n b' =>
          rw [hr] at h
          simp only [hm1, upd] at h
          split at h
          · rename_i hk
            subst hk
            have hn : k = e.b.hp.next := by
              cases hs e List.mem_cons_self with
              | off o ho hw hr' ha =>
                rw [hr] at hr'
                split at hr' <;> cases hr'
              | on o k' v' h' ho hw hk hc ha hr' =>
                rw [hr] at hr'
                cases hkd : kindO o.op <;> rw [hkd] at hr' <;> simp only [] at hr'
                · cases hr'
                · cases hr'
                · obtain ⟨_, _, e2⟩ := hr'; injection e2
                · cases hr'
            rw [hn]
            exact .inr (hm' e List.mem_cons_self)
          · exact .inl h
        | ef v h' =>
          have := hc e List.mem_cons_self (by rw [hr]; rfl)
          rw [this] at hl
          cases hl
      · exact .inl h
    · exact .inr h
/-! ### kinds -/
theorem al_form {tm : Tr AV} {h h' : Hp} {o : Op} {v : AV} (hk : kindO o = .al) (e : opA P tm h o = some (.val v h')) :
    ∃ b, h' = ⟨h.blks.put h.next b, h.next + 1⟩ ∧ ∀ bl, opA P tm ⟨bl, h.next⟩ o = some (.val v ⟨bl.put h.next b, h.next + 1⟩) := by
  cases o <;> simp only [kindO] at hk <;> (try (cases hk; done))
  case alloc t =>
    simp only [opA] at e ⊢
    split at e
    · rename_i z hz
      injection e with e; injection e with e1 e2
      subst e1; subst e2
      refine ⟨_, rfl, fun bl => ?_⟩
      rfl
    · cases e
  case box t y =>
    simp only [opA] at e ⊢
    split at e
    · rename_i z hz
      injection e with e; injection e with e1 e2
      subst e1; subst e2
      refine ⟨_, rfl, fun bl => ?_⟩
      rfl
    · cases e
  case buildSlice t len parts =>
    simp only [opA] at e ⊢
    split at e
    · split at e
      · split at e
        · split at e
          · injection e with e; injection e with e1 e2
            subst e1; subst e2
            refine ⟨_, rfl, fun bl => ?_⟩
            simp_all [Hp.new]
          · cases e
        · cases e
      · cases e
    · cases e
  case makeMap t r =>
    cases r with
    | some r => simp only [opA] at e; cases e
    | none =>
      simp only [opA] at e ⊢
      injection e with e; injection e with e1 e2
      subst e1; subst e2
      exact ⟨_, rfl, fun bl => rfl⟩
  case makeSlice t l c =>
    simp only [opA] at e ⊢
    split at e
    · split at e
      · split at e
        · injection e with e; injection e with e1 e2
          subst e1; subst e2
          refine ⟨_, rfl, fun bl => ?_⟩
          simp_all [Hp.new]
        · cases e
      · cases e
    · cases e
  case call c =>
    split at hk <;> cases hk
theorem vl_form {h h' : Hp} {o : Option AV} {v : AV} (e : vl h o = some (.val v h')) : h' = h ∧ o = some v := by
  unfold vl at e
  obtain ⟨u, h1, h2⟩ := Option.map_eq_some_iff.1 e
  injection h2 with h2 h3
  subst h2; subst h3
  exact ⟨rfl, h1⟩
theorem pu_form {tm : Tr AV} {h h' : Hp} {o : Op} {v : AV} (hk : kindO o = .pu) (e : opA P tm h o = some (.val v h')) : h' = h ∧ ∀ g, opA P tm g o = some (.val v g) := by
  cases o <;> simp only [kindO] at hk <;> (try (cases hk; done))
  case call c =>
    simp only [opA] at e ⊢
    split at hk <;> rename_i hcal <;> (try (cases hk; done))
    · rw [hcal] at e ⊢
      simp only [] at e ⊢
      split at e
      · rename_i as has
        obtain ⟨⟨u, h2⟩, h1, h3⟩ := Option.map_eq_some_iff.1 e
        injection h3 with h3 h4
        simp only [] at h3 h4
        subst h3; subst h4
        unfold builtinA at h1 ⊢
        split at h1 <;> simp_all
        obtain ⟨a, h5, h6, h7⟩ := h1
        exact ⟨h7.symm, fun _ => by rw [h5, h6]⟩
      · cases e
    · rw [hcal] at e ⊢
      simp only [] at e ⊢
      split at e
      · rename_i as has
        obtain ⟨⟨u, h2⟩, h1, h3⟩ := Option.map_eq_some_iff.1 e
        injection h3 with h3 h4
        simp only [] at h3 h4
        subst h3; subst h4
        unfold builtinA at h1 ⊢
        split at h1 <;> simp_all
        obtain ⟨a, h5, h6, h7⟩ := h1
        exact ⟨h7.symm, fun _ => by rw [h5, h6]⟩
      · cases e
    · rw [hcal] at e ⊢
      simp only [] at e ⊢
      split at e
      · rename_i as has
        obtain ⟨⟨u, h2⟩, h1, h3⟩ := Option.map_eq_some_iff.1 e
        injection h3 with h3 h4
        simp only [] at h3 h4
        subst h3; subst h4
        unfold builtinA at h1 ⊢
        split at h1 <;> simp_all
        split at h1
        · injection h1 with h1; injection h1 with h5 h6
          exact ⟨h6.symm, fun _ => by rw [h5]⟩
        · split at h1
          · cases h1
          · rename_i hc0
            injection h1 with h1; injection h1 with h5 h6
            exact ⟨h6.symm, fun _ => by rw [if_neg hc0, h5]⟩
        · cases h1
      · cases e
  all_goals simp only [opA] at e ⊢
  all_goals (try (cases e; done))
  all_goals (repeat' split at e)
  all_goals first
    | (cases e; done)
    | (obtain ⟨rfl, h1⟩ := vl_form e; exact ⟨rfl, fun g => by simp_all [vl]⟩)
    | (injection e with e; injection e with e1 e2; subst e1; subst e2; exact ⟨rfl, fun g => by simp_all⟩)
    | skip
theorem rd_form {tm : Tr AV} {h h' : Hp} {o : Op} {v : AV} (hk : kindO o = .rd) (e : opA P tm h o = some (.val v h')) : h' = h := by
  cases o <;> simp only [kindO] at hk <;> (try (cases hk; done))
  case call c =>
    simp only [opA] at e
    split at hk <;> rename_i hcal <;> (try (cases hk; done))
    all_goals
      rw [hcal] at e
      simp only [] at e
      split at e
      · rename_i as has
        obtain ⟨⟨u, h2⟩, h1, h3⟩ := Option.map_eq_some_iff.1 e
        injection h3 with h3 h4
        simp only [] at h3 h4
        subst h3; subst h4
        unfold builtinA at h1
        repeat' split at h1
        all_goals simp_all
      · cases e
  all_goals simp only [opA] at e
  all_goals (repeat' split at e)
  all_goals first
    | (cases e; done)
    | exact (vl_form e).1
theorem opC_val {n : Nat} {tm : Tr AV} {h h' : Hp} {o : Op} {v : AV} (hk : kindO o ≠ .ef) (e : opC P Sg n tm h o = some (v, h')) : opA P tm h o = some (.val v h') := by
  cases n with
  | zero => simp [opC] at e
  | succ n =>
    simp only [opC] at e
    cases ha : opA P tm h o with
    | none => rw [ha] at e; cases e
    | some nx =>
      rw [ha] at e
      cases nx with
      | val v1 h1 =>
        injection e with e; injection e with e1 e2
        subst e1; subst e2; rfl
      | skip h1 =>
        exfalso
        apply hk
        cases o <;> simp only [opA] at ha <;> (try (cases ha; done))
        case makeMap t r => cases r <;> simp only [opA] at ha <;> cases ha
        case store => rfl
        case mapUpdate => rfl
        all_goals (repeat' split at ha)
        all_goals first
          | (cases ha; done)
          | (obtain ⟨_, _, h2⟩ := Option.map_eq_some_iff.1 ha; cases h2)
          | (unfold vl at ha; obtain ⟨_, _, h2⟩ := Option.map_eq_some_iff.1 ha; cases h2)
      | enter f as h1 =>
        exfalso
        apply hk
        cases o <;> simp only [opA] at ha <;> (try (cases ha; done))
        case makeMap t r => cases r <;> simp only [opA] at ha <;> cases ha
        case call c =>
          split at ha <;> rename_i hcal
          · split at ha
            · obtain ⟨_, _, h2⟩ := Option.map_eq_some_iff.1 ha; cases h2
            · cases ha
          · simp [kindO, hcal]
          · cases ha
        all_goals (repeat' split at ha)
        all_goals first
          | (cases ha; done)
          | (obtain ⟨_, _, h2⟩ := Option.map_eq_some_iff.1 ha; cases h2)
          | (unfold vl at ha; obtain ⟨_, _, h2⟩ := Option.map_eq_some_iff.1 ha; cases h2)
/-! ### tests of sameness -/
mutual
theorem same_eq : ∀ {a b : AV}, same a b = true → a = b
  | .bool a, b, h => by cases b <;> simp [same] at h; rw [h]
  | .int k a, b, h => by cases b <;> simp [same] at h; rw [h.1, h.2]
  | .str a, b, h => by cases b <;> simp [same] at h; rw [h]
  | .ptr a c, b, h => by cases b <;> simp [same] at h; rw [h.1, h.2]
  | .lptr a, b, h => by cases b <;> simp [same] at h; rw [sames_eq h]
  | .nilptr, b, h => by cases b <;> simp [same] at h; rfl
  | .sl _ _ _ _ _ _, b, h => by cases b <;> simp [same] at h; simp [h]
  | .nilsl, b, h => by cases b <;> simp [same] at h; rfl
  | .esl, b, h => by cases b <;> simp [same] at h; rfl
  | .zsl, b, h => by cases b <;> simp [same] at h; rfl
  | .lst a c, b, h => by cases b <;> simp [same] at h; rw [h.1, sames_eq h.2]
  | .map a, b, h => by cases b <;> simp [same] at h; rw [h]
  | .nilmap, b, h => by cases b <;> simp [same] at h; rfl
  | .nilfunc, b, h => by cases b <;> simp [same] at h; rfl
  | .nilif, b, h => by cases b <;> simp [same] at h; rfl
  | .agg a, b, h => by cases b <;> simp [same] at h; rw [sames_eq h]
  | .tup a, b, h => by cases b <;> simp [same] at h; rw [sames_eq h]
  | .opq a, b, h => by cases b <;> simp [same] at h; rw [h]
  | .func _ _ _, b, h => by cases b <;> simp [same] at h
  | .iface _ _, b, h => by cases b <;> simp [same] at h
theorem sames_eq : ∀ {a b : List AV}, sames a b = true → a = b
  | [], b, h => by cases b <;> simp [sames] at h; rfl
  | a :: x, b, h => by
    cases b with
    | nil => simp [sames] at h
    | cons c y => simp [sames] at h; rw [same_eq h.1, sames_eq h.2]
end
end Go.Abs
