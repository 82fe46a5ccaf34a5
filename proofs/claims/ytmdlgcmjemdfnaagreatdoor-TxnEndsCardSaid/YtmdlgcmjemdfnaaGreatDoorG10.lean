/- What is proved: a part of the proof of the tied card of TxnEnds (text G10 of it). Conditions: those that its theorems name. -/
import Derived.Test.YtmdlgcmjemdfnaaGreatDoorG9
import Derived.Test.YtmdlgcmjemdfnaaGreatDoorG8
set_option linter.unusedVariables false
set_option linter.unusedSimpArgs false
set_option linter.unusedSectionVars false
namespace Go.Abs
noncomputable section
variable [Bnd]
variable {P : Program} {Sg : FuncId → Option Sp} {ops : Array Oper} {N : Nat} {s s' : St} {T : List El}
theorem step_dst {e : El} (h : StepR P Sg N ops e) : ∃ o, ops[e.i]? = some o ∧ e.a.tm = putT e.b.tm e.b.nt o.dst e.rc.v := by
  cases h with
  | off o ho hw hrc ha =>
    refine ⟨o, ho, ?_⟩
    rw [ha, hrc]
    split <;> rfl
  | on o k v h ho hw hk hc ha hrc =>
    refine ⟨o, ho, ?_⟩
    rw [ha]
    have : e.rc.v = v := by
      cases hkd : kindO o.op <;> rw [hkd] at hrc <;> simp only [] at hrc
      · rw [hrc]; rfl
      · rw [hrc]; rfl
      · obtain ⟨b, _, hrc⟩ := hrc; rw [hrc]; rfl
      · rcases hrc with hrc | ⟨n, b, hrc, _, _, _, _, hv, _⟩
        · rw [hrc]; rfl
        · rw [hrc, hv]; rfl
    rw [this]
theorem tm_canon : ∀ {l : List El} {s s1 : St}, Chain s l s1 → (∀ e ∈ l, StepR P Sg N ops e) → tmOf ops s.nt (fun _ => true) l s.tm = s1.tm
  | [], s, s1, h, _ => by cases h; rfl
  | e :: l, s, s1, h, hs => by
    obtain ⟨rfl, h2⟩ := h
    have h0 := hs e List.mem_cons_self
    obtain ⟨o, h3, h4⟩ := step_dst h0
    have := tm_canon h2 (fun f hf => hs f (List.mem_cons_of_mem _ hf))
    rw [tmOf, if_pos rfl, ← this, step_nt h0, h4]
    have : dstAt ops e.i = o.dst := by simp [dstAt, h3]
    rw [this]
theorem step_hm {e : El} (h : StepR P Sg N ops e) : hm1 e.b.hp.blks.get e.rc = e.a.hp.blks.get := by
  cases h with
  | off o ho hw hrc ha =>
    rw [ha, hrc]
    split <;> rfl
  | on o k v h ho hw hk hc ha hrc =>
    rw [ha]
    cases hkd : kindO o.op <;> rw [hkd] at hrc <;> simp only [] at hrc
    · have := (pu_form hkd (opC_val (by rw [hkd]; exact fun h => by cases h) hc)).1
      rw [hrc, this]; rfl
    · have := rd_form hkd (opC_val (by rw [hkd]; exact fun h => by cases h) hc)
      rw [hrc, this]; rfl
    · obtain ⟨b, hb, hrc⟩ := hrc
      obtain ⟨b', h1, _⟩ := al_form hkd (opC_val (by rw [hkd]; exact fun h => by cases h) hc)
      rw [h1] at hb ⊢
      simp only [Tr.get_put, if_true] at hb
      injection hb with hb
      subst hb
      rw [hrc]
      funext k
      simp only [hm1, upd, Tr.get_put]
    · rcases hrc with hrc | ⟨n, b, hrc, b0, _, hg, _⟩
      · rw [hrc]; rfl
      · rw [hrc]
        show _ = h.blks.get
        rw [hg]
        rfl
theorem hm_canon : ∀ {l : List El} {s s1 : St}, Chain s l s1 → (∀ e ∈ l, StepR P Sg N ops e) → hmOf (fun _ => true) l s.hp.blks.get = s1.hp.blks.get
  | [], s, s1, h, _ => by cases h; rfl
  | e :: l, s, s1, h, hs => by
    obtain ⟨rfl, h2⟩ := h
    have h0 := hs e List.mem_cons_self
    have := hm_canon h2 (fun f hf => hs f (List.mem_cons_of_mem _ hf))
    rw [hmOf, if_pos rfl, ← this, step_hm h0]
theorem hmOf_off {L : Nat → Bool} : ∀ (l : List El) (hm : HM), (∀ e ∈ l, L e.i = false) → hmOf L l hm = hm
  | [], _, _ => rfl
  | e :: l, hm, h => by
    rw [hmOf, h e List.mem_cons_self]
    exact hmOf_off l hm (fun f hf => h f (List.mem_cons_of_mem _ hf))
/-! ### a part of a region done -/
structure Inv (ops : Array Oper) (s s' : St) (T : List El) (x0 : Cx) (w0 : World) (L : Nat → Bool) (x : Cx) (a : Act) (w : World) : Prop where
  tm : ∀ t, VRel x w (((tmOf ops s.nt L T s.tm).get t).getD (.tup [])) (a.tmps.getD t undef)
  nt : a.tmps.size = s.nt
  df : DRel x0 s.df a.defers
  hp : HRel x (hmOf L T s.hp.blks.get) w
  ext : Ext x0 s.hp.blks.get s.hp.next w0 x (hmOf L T s.hp.blks.get) s'.hp.next w
  free : ∀ e ∈ T, L e.i = false → ∀ k, e.b.hp.next ≤ k → k < e.a.hp.next → x.m k = none
  cl : Closed ops L
def Ladd (L : Nat → Bool) (i : Nat) : Nat → Bool := fun j => j == i || L j
theorem Ladd_ne {L : Nat → Bool} {i j : Nat} (h : j ≠ i) : Ladd L i j = L j := by simp [Ladd, h]
theorem Ladd_self {L : Nat → Bool} {i : Nat} : Ladd L i i = true := by simp [Ladd]
variable {x0 x : Cx} {w0 w : World} {L : Nat → Bool} {a : Act} {p q : List El} {e : El}
theorem Facts.le (F : Facts P Sg N ops s s' T) (hT : T = p ++ e :: q) : s.hp.next ≤ e.b.hp.next ∧ e.a.hp.next ≤ s'.hp.next ∧ e.b.hp.next ≤ e.a.hp.next :=
  have he : e ∈ T := by rw [hT]; simp
  let h := chain_above F.chain F.steps he
  ⟨h.1, h.2, (step_grow (F.steps e he)).1⟩
theorem Facts.apart (F : Facts P Sg N ops s s' T) (hT : T = p ++ e :: q) : (∀ f ∈ p, f.a.hp.next ≤ e.b.hp.next) ∧ ∀ f ∈ q, e.a.hp.next ≤ f.b.hp.next := by
  have hc := F.chain
  have hs := F.steps
  rw [hT] at hc hs
  obtain ⟨h1, h2⟩ := chain_split hc
  exact ⟨fun f hf => (chain_above h1 (fun g hg => hs g (by simp [hg])) hf).2, fun f hf => (chain_above h2 (fun g hg => hs g (by simp [hg])) hf).1⟩
theorem Facts.mem (hT : T = p ++ e :: q) : e ∈ T := by rw [hT]; simp
/-- what wants e is not listed -/
theorem Facts.later (F : Facts P Sg N ops s s' T) (hc : Closed ops L) (hL : L e.i = false) {j : Nat} (hr : Reach ops e.i j) : L j = false := by
  cases hj : L j with
  | false => rfl
  | true =>
    have := reach_listed hc hr (hc j hj)
    rw [hL] at this; cases this
theorem Facts.noef (F : Facts P Sg N ops s s' T) (hT : T = p ++ e :: q) (hc : Closed ops L) (hL : L e.i = false) (hk : e.rc.ef? = true ∨ e.rc.al? = true) : ∀ f ∈ q, f.rc.tn? = true → L f.i = false := by
  intro f hf hft
  cases hfr : f.rc with
  | ef _ _ =>
    obtain ⟨q1, q2, rfl⟩ := List.append_of_mem hf
    exact F.later hc hL (F.reach (p := p ++ e :: q1) (q := q2) (by rw [hT]; simp) (by rw [hfr]; rfl) (by simp) hk)
  | up _ _ => exact F.later hc hL (F.upReach (by rw [hT]; simp [hf]) (by rw [hfr]; rfl) (Facts.mem hT) hk)
  | _ => rw [hfr] at hft; cases hft
/-- a slot that e looks at holds what it held in the trace -/
theorem Facts.look (F : Facts P Sg N ops s s' T) (hT : T = p ++ e :: q) (hc : Closed ops L) (hL : L e.i = false) (ha : ∀ j ∈ afters ops e.i, L j = true) {o : Oper} (ho : ops[e.i]? = some o) {t : Tmp} (ht : t ∈ o.looksAt ops) :
    (tmOf ops s.nt L T s.tm).get t = e.b.tm.get t := by
  have hch := F.chain
  rw [hT] at hch
  have hcan := tm_canon (chain_split hch).1 (fun f hf => F.steps f (by rw [hT]; simp [hf]))
  have he := Facts.mem hT
  have hn := F.notin hT
  rw [← hcan, hT, tmOf_app, tmOf_skip (e :: q)]
  · refine tmOf_congr p _ _ (fun f hf hd => ?_) rfl
    have hfT : f ∈ T := by rw [hT]; simp [hf]
    rcases (F.slots hfT he (hn.1 f hf) hd).2 o ho ht with hr | hr
    · exact reach_listed hc hr ha
    · obtain ⟨p1, p2, hp⟩ := List.append_of_mem hf
      obtain ⟨e', h1, h2⟩ := F.before (p := p1) (e := f) (q := p2 ++ e :: q) (by rw [hT, hp]; simp) hr
      exact absurd h2 (hn.1 e' (by rw [hp]; simp [h1]))
  · intro f hf hd
    rcases List.mem_cons.1 hf with rfl | hf
    · exact hL
    · have hfT : f ∈ T := by rw [hT]; simp [hf]
      rcases (F.slots hfT he (hn.2 f hf) hd).2 o ho ht with hr | hr
      · obtain ⟨f', h1, h2⟩ := F.before hT hr
        obtain ⟨q1, q2, hq⟩ := List.append_of_mem hf
        have := (F.notin (p := p ++ e :: q1) (e := f) (q := q2) (by rw [hT, hq]; simp)).1 f' (by simp [h1])
        exact absurd h2 this
      · exact F.later hc hL hr
/-- slots after e -/
theorem Facts.put (F : Facts P Sg N ops s s' T) (hT : T = p ++ e :: q) (hL : L e.i = false) {o : Oper} (ho : ops[e.i]? = some o) (t : Tmp) :
    (tmOf ops s.nt (Ladd L e.i) T s.tm).get t = (putT (tmOf ops s.nt L T s.tm) s.nt o.dst e.rc.v).get t := by
  have hn := F.notin hT
  have he := Facts.mem hT
  have hdo : dstAt ops e.i = o.dst := by simp [dstAt, ho]
  have hne : ∀ f ∈ T, f.i ≠ e.i → ∀ d, o.dst = some d → dstAt ops f.i ≠ some d := fun f hf hfe d hd => (F.slots he hf (Ne.symm hfe) (by rw [hdo]; exact hd)).1
  rw [putT_get]
  by_cases hd : o.dst = some t
  · have hp0 : ∀ (L : Nat → Bool), (tmOf ops s.nt L p s.tm).get t = s.tm.get t := fun L => tmOf_skip p _ (fun f hf hdf => absurd hdf (hne f (by rw [hT]; simp [hf]) (hn.1 f hf) t hd))
    have hq0 : ∀ (L : Nat → Bool) (tm : Tr AV), (tmOf ops s.nt L q tm).get t = tm.get t := fun L tm => tmOf_skip q _ (fun f hf hdf => absurd hdf (hne f (by rw [hT]; simp [hf]) (hn.2 f hf) t hd))
    rw [hT, tmOf_app, tmOf, Ladd_self, if_pos rfl, hq0, putT_get, hdo, hp0, tmOf_app, tmOf, hL, hq0]
    simp only [Bool.false_eq_true, if_false]
    rw [hp0]
  · rw [if_neg (fun h => hd h.1)]
    refine tmOf_congr T _ _ (fun f hf hdf => ?_) rfl
    refine Ladd_ne (fun hfe => hd ?_)
    rw [← hdo, ← hfe]; exact hdf
theorem Facts.ne (F : Facts P Sg N ops s s' T) (hT : T = p ++ e :: q) {f : El} (hf : f ∈ T) : f = e ∨ f.i ≠ e.i := by
  rw [hT] at hf
  rcases List.mem_append.1 hf with hf | hf
  · exact .inr ((F.notin hT).1 f hf)
  · rcases List.mem_cons.1 hf with rfl | hf
    · exact .inl rfl
    · exact .inr ((F.notin hT).2 f hf)
theorem Facts.hm_plain (F : Facts P Sg N ops s s' T) (hT : T = p ++ e :: q) (h1 : e.rc.tn? = false) (h2 : e.rc.al? = false) (hm : HM) : hmOf (Ladd L e.i) T hm = hmOf L T hm := by
  refine hmOf_congr T hm (fun f hf hk => ?_)
  rcases F.ne hT hf with rfl | hne
  · rw [h1, h2] at hk; rcases hk with hk | hk <;> cases hk
  · exact Ladd_ne hne
theorem Facts.hm_ef (F : Facts P Sg N ops s s' T) (hT : T = p ++ e :: q) (hc : Closed ops L) (hL : L e.i = false) (ha : ∀ j ∈ afters ops e.i, L j = true) (h1 : e.rc.ef? = true) :
    (hmOf L T s.hp.blks.get = fun k => (hmOf L q (fun _ => none) k).or (e.b.hp.blks.get k)) ∧ (hmOf (Ladd L e.i) T s.hp.blks.get = fun k => (hmOf L q (fun _ => none) k).or (e.a.hp.blks.get k)) := by
  have hch := F.chain
  rw [hT] at hch
  have hcan := hm_canon (chain_split hch).1 (fun f hf => F.steps f (by rw [hT]; simp [hf]))
  have hn := F.notin hT
  have hno := F.noef hT hc hL (.inl h1)
  have hq : ∀ hm, hmOf (Ladd L e.i) q hm = hmOf L q hm := fun hm => hmOf_congr q hm (fun f hf _ => Ladd_ne (hn.2 f hf))
  have hp : hmOf L p s.hp.blks.get = e.b.hp.blks.get := by
    rw [← hcan]
    refine hmOf_congr p _ (fun f hf hk => ?_)
    have hk2 : f.rc.ef? = true ∨ f.rc.al? = true := by
      rcases hk with hk | hk
      · cases hfr : f.rc with
        | ef _ _ => exact .inl rfl
        | up _ _ =>
          exfalso
          have hr := F.upReach (e := f) (f := e) (by rw [hT]; simp [hf]) (by rw [hfr]; rfl) (Facts.mem hT) (.inl h1)
          obtain ⟨p1, p2, hp⟩ := List.append_of_mem hf
          obtain ⟨e', k1, k2⟩ := F.before (p := p1) (e := f) (q := p2 ++ e :: q) (by rw [hT, hp]; simp) hr
          exact hn.1 e' (by rw [hp]; simp [k1]) k2
        | _ => rw [hfr] at hk; cases hk
      · exact .inr hk
    exact reach_listed hc (F.reach hT h1 hf hk2) ha
  constructor
  · rw [hT, hmOf_app, hmOf, hL, hp]
    simp only [Bool.false_eq_true, if_false]
    exact hmOf_adds q _ hno
  · rw [hT, hmOf_app, hmOf, Ladd_self, if_pos rfl, hq]
    have : ∀ hm, hm1 hm e.rc = e.a.hp.blks.get := by
      intro hm
      rw [← step_hm (F.steps e (Facts.mem hT))]
      cases hr : e.rc with
      | ef _ _ => rfl
      | _ => rw [hr] at h1; cases h1
    rw [this]
    exact hmOf_adds q _ hno
theorem Facts.hm_al (F : Facts P Sg N ops s s' T) (hT : T = p ++ e :: q) (hc : Closed ops L) (hL : L e.i = false) {v : AV} {n : Nat} {b : Blk} (h1 : e.rc = .al v n b) :
    (hmOf L T s.hp.blks.get = fun k => (hmOf L q (fun _ => none) k).or (hmOf L p s.hp.blks.get k)) ∧ (hmOf (Ladd L e.i) T s.hp.blks.get = fun k => (hmOf L q (fun _ => none) k).or (upd (hmOf L p s.hp.blks.get) n b k)) := by
  have hn := F.notin hT
  have hno := F.noef hT hc hL (.inr (by rw [h1]; rfl))
  have hq : ∀ hm, hmOf (Ladd L e.i) q hm = hmOf L q hm := fun hm => hmOf_congr q hm (fun f hf _ => Ladd_ne (hn.2 f hf))
  have hp : ∀ hm, hmOf (Ladd L e.i) p hm = hmOf L p hm := fun hm => hmOf_congr p hm (fun f hf _ => Ladd_ne (hn.1 f hf))
  constructor
  · rw [hT, hmOf_app, hmOf, hL]
    simp only [Bool.false_eq_true, if_false]
    exact hmOf_adds q _ hno
  · rw [hT, hmOf_app, hmOf, Ladd_self, if_pos rfl, hq, hp, h1]
    exact hmOf_adds q _ hno
/-- what turns one block -/
theorem Facts.hm_up (F : Facts P Sg N ops s s' T) (hT : T = p ++ e :: q) (hc : Closed ops L) (hL : L e.i = false) (ha : ∀ j ∈ afters ops e.i, L j = true) {n : Nat} {b : Blk} (h1 : e.rc = .up n b) :
    hmOf L T s.hp.blks.get n = e.b.hp.blks.get n ∧ hmOf (Ladd L e.i) T s.hp.blks.get = fun k => if k = n then some b else hmOf L T s.hp.blks.get k := by
  have hch := F.chain
  rw [hT] at hch
  have hcan := hm_canon (chain_split hch).1 (fun f hf => F.steps f (by rw [hT]; simp [hf]))
  have hn := F.notin hT
  have he := Facts.mem hT
  have hu : e.rc.up? = true := by rw [h1]; rfl
  -- what reaches the block: ahead of e and listed, or behind e and not listed
  have key : ∀ f ∈ T, f.i ≠ e.i → aff n f.rc → Reach ops f.i e.i ∨ Reach ops e.i f.i := by
    intro f hf hfe haf
    cases hfr : f.rc with
    | ef _ _ => exact .inl (F.upReach he hu hf (.inl (by rw [hfr]; rfl)))
    | al _ _ _ => exact .inl (F.upReach he hu hf (.inr (by rw [hfr]; rfl)))
    | up m b' =>
      rw [hfr] at haf
      have haf : m = n := haf
      subst haf
      exact F.upSame hf he hfe hfr h1
    | _ => rw [hfr] at haf; exact haf.elim
  have hp : ∀ f ∈ p, aff n f.rc → L f.i = true := by
    intro f hf haf
    rcases key f (by rw [hT]; simp [hf]) (hn.1 f hf) haf with hr | hr
    · exact reach_listed hc hr ha
    · exfalso
      obtain ⟨p1, p2, hp⟩ := List.append_of_mem hf
      obtain ⟨e', k1, k2⟩ := F.before (p := p1) (e := f) (q := p2 ++ e :: q) (by rw [hT, hp]; simp) hr
      exact hn.1 e' (by rw [hp]; simp [k1]) k2
  have hq : ∀ f ∈ q, aff n f.rc → L f.i = false := by
    intro f hf haf
    rcases key f (by rw [hT]; simp [hf]) (hn.2 f hf) haf with hr | hr
    · exfalso
      obtain ⟨f', k1, k2⟩ := F.before hT hr
      obtain ⟨q1, q2, hq⟩ := List.append_of_mem hf
      exact (F.notin (p := p ++ e :: q1) (e := f) (q := q2) (by rw [hT, hq]; simp)).1 f' (by simp [k1]) k2
    · exact F.later hc hL hr
  constructor
  · rw [← hcan, hT, hmOf_app, hmOf, hL]
    simp only [Bool.false_eq_true, if_false]
    rw [hmOf_skip q _ hq]
    exact hmOf_at p _ _ (fun f hf haf => hp f hf haf) rfl
  · funext k
    by_cases hk : k = n
    · subst hk
      rw [if_pos rfl, hT, hmOf_app, hmOf, Ladd_self, if_pos rfl, hmOf_skip q _ (fun f hf haf => by rw [Ladd_ne (hn.2 f hf)]; exact hq f hf haf), h1]
      simp only [hm1, upd, if_true]
    · rw [if_neg hk]
      refine hmOf_at T _ _ (fun f hf haf => ?_) rfl
      rcases F.ne hT hf with rfl | hne
      · rw [h1] at haf
        exact absurd haf.symm hk
      · exact Ladd_ne hne
/-- one more is listed -/
theorem Inv.close (F : Facts P Sg N ops s s' T) (hT : T = p ++ e :: q) (I : Inv ops s s' T x0 w0 L x a w) (hL : L e.i = false) (ha : ∀ j ∈ afters ops e.i, L j = true) {o : Oper} (ho : ops[e.i]? = some o)
    {hm hm' : HM} {n0 n1 : Nat} {y : Cx} {w' : World} {r : Value} (hE : Ext x hm n0 w y hm' n1 w') (hH : HRel y hm' w') (hsub : ∀ n b, hm n = some b → hmOf L T s.hp.blks.get n = some b)
    (hk : ∀ n b, hmOf (Ladd L e.i) T s.hp.blks.get n = some b → hm' n = some b ∨ (hm n = none ∧ hm' n = none ∧ hmOf L T s.hp.blks.get n = some b)) (hmo : ∀ n, n < e.b.hp.next ∨ e.a.hp.next ≤ n → n < n0 ∨ n1 ≤ n) (hv : VRel y w' e.rc.v r) :
    Inv ops s s' T x0 w0 (Ladd L e.i) y (a.put o.dst r) w' := by
  have hmono := hE.mono (I.hp.sub hsub)
  obtain ⟨l1, l2, l3⟩ := F.le hT
  have hfr := hE.frame I.hp hsub hH hk
  refine ⟨fun t => ?_, by rw [put_size]; exact I.nt, by rw [put_defers]; exact I.df, hfr, I.ext.then (hE.around I.hp hsub hk (fun n hn => hmo n (by omega))), fun f hf hLf k hk1 hk2 => ?_, fun i hi j hj => ?_⟩
  · rw [F.put hT hL ho t]
    exact put_rel (fun t => (I.tm t).mono hmono) I.nt hv t
  · rcases F.ne hT hf with rfl | hne
    · rw [Ladd_self] at hLf; cases hLf
    · rw [Ladd_ne hne] at hLf
      rw [hE.mo k (hmo k ?_)]
      · exact I.free f hf hLf k hk1 hk2
      · rw [hT] at hf
        rcases List.mem_append.1 hf with hf | hf
        · have := (F.apart hT).1 f hf; omega
        · rcases List.mem_cons.1 hf with rfl | hf
          · exact absurd rfl hne
          · have := (F.apart hT).2 f hf; omega
  · by_cases hij : i = e.i
    · subst hij
      simp only [Ladd, ha j hj, Bool.or_true]
    · rw [Ladd_ne hij] at hi
      simp only [Ladd, I.cl i hi j hj, Bool.or_true]
end
end Go.Abs

namespace Go.Abs
noncomputable section
variable [Bnd]
variable {P : Program} {Sg : FuncId → Option Sp} {ops : Array Oper} {N : Nat} {s s' : St} {T : List El}
variable {x0 x : Cx} {w0 w : World} {L : Nat → Bool} {a : Act} {p q : List El} {e : El}
theorem Inv.er (F : Facts P Sg N ops s s' T) (hT : T = p ++ e :: q) (I : Inv ops s s' T x0 w0 L x a w) (hL : L e.i = false) (ha : ∀ j ∈ afters ops e.i, L j = true) {o : Oper} (ho : ops[e.i]? = some o) : ER x w e.b.tm a.eval o.op.operands.toList := by
  intro y hy v hv
  cases y with
  | tmp t =>
    simp only [evalO] at hv
    injection hv with hv
    subst hv
    rw [← F.look hT I.cl hL ha ho (t := t) (List.mem_append_left _ (List.mem_filterMap.2 ⟨.tmp t, hy, rfl⟩))]
    exact I.tm t
  | const c => exact ofValue_rel hv
  | func f => simp only [evalO] at hv; injection hv with hv; subst hv; exact .func _ _ _ _ _ .nil .nil
  | global g => cases hv
theorem Inv.wanted (F : Facts P Sg N ops s s' T) (hT : T = p ++ e :: q) (I : Inv ops s s' T x0 w0 L x a w) (hL : L e.i = false) (ha : ∀ j ∈ afters ops e.i, L j = true) {o : Oper} (ho : ops[e.i]? = some o) {b : Bool} (hw : wantedA ops e.b.tm o.guard = some b) :
    Region.wanted o (yielded ops a.tmps) = b := by
  refine wanted_gen (x := x) (w := w) (fun g hg d hd => ?_) hw
  rw [← F.look hT I.cl hL ha ho (t := d)]
  · exact I.tm d
  · refine List.mem_append_right _ ?_
    rw [hg]
    simp only [hd, Option.toList]
    exact List.mem_singleton.2 rfl
theorem or_some {o o' : Option Blk} {b : Blk} (h : o.or o' = some b) : o = some b ∨ (o = none ∧ o' = some b) := by
  cases o with
  | none => exact .inr ⟨rfl, by simpa using h⟩
  | some c => exact .inl (by simpa using h)
/-- the heap of the trace ahead of e, and behind -/
theorem Facts.wfb (F : Facts P Sg N ops s s' T) (hT : T = p ++ e :: q) : Wf e.b.hp ∧ Wf e.a.hp := by
  have hch := F.chain
  rw [hT] at hch
  have h1 := (chain_grow (chain_split hch).1 (fun f hf => F.steps f (by rw [hT]; simp [hf]))).1.2 F.wf
  exact ⟨h1, (step_grow (F.steps e (Facts.mem hT))).2 h1⟩
theorem Facts.adds_ge (F : Facts P Sg N ops s s' T) (hT : T = p ++ e :: q) (hno : ∀ f ∈ q, f.rc.tn? = true → L f.i = false) {k : Nat} {b : Blk} (h : hmOf L q (fun _ => none) k = some b) : e.a.hp.next ≤ k := by
  rcases adds_above (P := P) (Sg := Sg) (N := N) (ops := ops) (m := e.a.hp.next) hno (fun f hf => F.steps f (by rw [hT]; simp [hf])) (F.apart hT).2 h with h | h
  · cases h
  · exact h
theorem Inv.ef_sub (F : Facts P Sg N ops s s' T) (hT : T = p ++ e :: q) (I : Inv ops s s' T x0 w0 L x a w) (hL : L e.i = false) (ha : ∀ j ∈ afters ops e.i, L j = true) (h1 : e.rc.ef? = true) :
    (∀ n b, e.b.hp.blks.get n = some b → hmOf L T s.hp.blks.get n = some b) ∧
    ∀ n b, hmOf (Ladd L e.i) T s.hp.blks.get n = some b → e.a.hp.blks.get n = some b ∨ (e.b.hp.blks.get n = none ∧ e.a.hp.blks.get n = none ∧ hmOf L T s.hp.blks.get n = some b) := by
  obtain ⟨k1, k2⟩ := F.hm_ef hT I.cl hL ha h1
  have hno := F.noef hT I.cl hL (.inl h1)
  obtain ⟨w1, w2⟩ := F.wfb hT
  obtain ⟨_, _, l3⟩ := F.le hT
  rw [k1, k2]
  constructor
  · intro n b hb
    have := w1 _ _ hb
    cases had : hmOf L q (fun _ => none) n with
    | none => simp only [had, Option.none_or]; exact hb
    | some c => have := F.adds_ge hT hno had; omega
  · intro n b hb
    rcases or_some hb with hb | ⟨_, hb⟩
    · have hge := F.adds_ge hT hno hb
      refine .inr ⟨?_, ?_, by simp only [hb, Option.some_or]⟩
      · cases hg : e.b.hp.blks.get n with
        | none => rfl
        | some c => have := w1 _ _ hg; omega
      · cases hg : e.a.hp.blks.get n with
        | none => rfl
        | some c => have := w2 _ _ hg; omega
    · exact .inl hb
theorem Inv.step (F : Facts P Sg N ops s s' T) (hop : ∀ k, k < N → OpS P Sg k) (hT : T = p ++ e :: q) (I : Inv ops s s' T x0 w0 L x a w) (hL : L e.i = false) (ha : ∀ j ∈ afters ops e.i, L j = true) {K : Act → World → Prop} {Q : Exit → Act → World → Prop} (m : Option Nat)
    (hK : ∀ y a' w', Inv ops s s' T x0 w0 (Ladd L e.i) y a' w' → K a' w') : wpOpIn (fen m) 0 P ops Q e.i K a w := by
  have he := Facts.mem hT
  have hfree : Free x e.b.hp e.a.hp := I.free e he hL
  obtain ⟨wb, wa⟩ := F.wfb hT
  obtain ⟨l1, l2, l3⟩ := F.le hT
  cases hst : F.steps e he with
  | off o ho hw hrc hea =>
    have hwant := I.wanted F hT hL ha ho hw
    unfold wpOpIn
    rw [ho]
    simp only [hwant, Bool.false_eq_true, if_false]
    refine ⟨fun f _ => fen_fn m f, ?_⟩
    cases hef : isEf ops e.i with
    | true =>
      rw [hef] at hrc
      simp only [if_true] at hrc
      have h1 : e.rc.ef? = true := by rw [hrc]; rfl
      obtain ⟨k1, k2⟩ := I.ef_sub F hT hL ha h1
      have hh : e.a.hp = e.b.hp := by rw [hea]
      rw [hh] at k2
      exact hK _ _ _ (I.close F hT hL ha ho (Ext.refl (n := 0)) (I.hp.sub k1) k1 k2 (fun n _ => .inr (Nat.zero_le _)) (by rw [hrc]; exact undef_rel))
    | false =>
      rw [hef] at hrc
      simp only [Bool.false_eq_true, if_false] at hrc
      refine hK _ _ _ (I.close (hm := fun _ => none) (hm' := fun _ => none) F hT hL ha ho (Ext.refl (n := 0)) (I.hp.sub (fun _ _ h => by cases h)) (fun _ _ h => by cases h) (fun n b hb => .inr ⟨rfl, rfl, ?_⟩) (fun n _ => .inr (Nat.zero_le _)) (by rw [hrc]; exact undef_rel))
      rw [F.hm_plain hT (by rw [hrc]; rfl) (by rw [hrc]; rfl)] at hb
      exact hb
  | on o k v h ho hw hk hc hea hrc =>
    have hwant := I.wanted F hT hL ha ho hw
    have her := I.er F hT hL ha ho
    unfold wpOpIn
    rw [ho]
    simp only [hwant, if_true]
    have hh : e.a.hp = h := by rw [hea]
    cases hkd : kindO o.op <;> rw [hkd] at hrc <;> simp only [] at hrc
    · -- pure
      have hv := pu_form hkd (opC_val (by rw [hkd]; exact fun h => by cases h) hc)
      have h1 := hv.2 ⟨.lf, 0⟩
      obtain ⟨r, w', r1, u, rfl, y, d1, d2, d3⟩ := opA_sim (x := x) (w := w) h1 her (I.hp.sub (fun n b hb => by rw [lf_get] at hb; cases hb)) (fun n _ hn => absurd hn (Nat.not_lt_zero _)) (fun _ _ _ h => by cases h)
      refine ⟨fun f _ => fen_fn m f, ?_⟩
      rw [Oper.semAt_eq _ _ _ (opA_nodefer h1), r1, Oper.uponIn_value]
      refine hK _ _ _ (I.close F hT hL ha ho d1 d2 (fun n b hb => by rw [lf_get] at hb; cases hb) (fun n b hb => .inr ⟨lf_get _, lf_get _, ?_⟩) (fun n _ => .inr (Nat.zero_le _)) (by rw [hrc]; exact d3))
      rw [F.hm_plain hT (by rw [hrc]; rfl) (by rw [hrc]; rfl)] at hb
      exact hb
    · -- reads
      have hv := opC_val (by rw [hkd]; exact fun h => by cases h) hc
      have hchk := F.chk e he
      unfold chkRd El.key at hchk
      rw [hrc] at hchk
      have hrd : isRd ops e.i = true := by simp [isRd, kindAt, ho, hkd]
      simp only [hrd, if_true, Bool.or_eq_true] at hchk
      rcases hchk with hdf | hchk
      · -- no memory turns it
        have h1 : opA P e.b.tm ⟨.lf, 0⟩ o.op = some (.val v ⟨.lf, 0⟩) := by
          unfold deaf at hdf
          rw [ho] at hdf
          simp only [] at hdf
          split at hdf
          · rename_i v' h' hv'
            rw [← same_eq hdf] at hv'
            rw [hv', rd_form hkd hv']
          · cases hdf
        obtain ⟨r, w', r1, u, rfl, y, d1, d2, d3⟩ := opA_sim (x := x) (w := w) h1 her (I.hp.sub (fun n b hb => by rw [lf_get] at hb; cases hb)) (fun n _ hn => absurd hn (Nat.not_lt_zero _)) (fun _ _ _ h => by cases h)
        refine ⟨fun f _ => fen_fn m f, ?_⟩
        rw [Oper.semAt_eq _ _ _ (opA_nodefer h1), r1, Oper.uponIn_value]
        refine hK _ _ _ (I.close F hT hL ha ho d1 d2 (fun n b hb => by rw [lf_get] at hb; cases hb) (fun n b hb => .inr ⟨lf_get _, lf_get _, ?_⟩) (fun n _ => .inr (Nat.zero_le _)) (by rw [hrc]; exact d3))
        rw [F.hm_plain hT (by rw [hrc]; rfl) (by rw [hrc]; rfl)] at hb
        exact hb
      simp only [Bool.and_eq_true, List.all_eq_true] at hchk
      obtain ⟨hchku, hchk⟩ := hchk
      have hups : ∀ f ∈ T, f.rc.up? = true → L f.i = false := by
        intro f hf hfu
        cases hfr : f.rc with
        | up n b => exact F.later I.cl hL (pre_reach (hchku _ (up_mem hf hfr)))
        | _ => rw [hfr] at hfu; cases hfu
      have hsn := snap (P := P) (Sg := Sg) (N := N) (ops := ops) (L := L) T [] s.hp s.hp.blks.get (fun _ h => by cases h) F.wf (fun _ _ h => h) (fun f hf => (chain_above F.chain F.steps hf).1) F.steps
        (fun p1 f q1 h1 h2 h3 g hg h4 => reach_listed I.cl (F.reach h1 h2 hg (.inl h4)) (I.cl _ h3))
        hups
        (fun f hf v1 h1 hr => by
          have e1 : h1 = f.a.hp := by
            cases F.steps f hf with
            | off o1 ho1 hw1 hrc1 hea1 =>
              rw [hr] at hrc1
              split at hrc1
              · injection hrc1 with _ hrc1; rw [hea1]; exact hrc1
              · cases hrc1
            | on o1 k1 v2 h2 ho1 hw1 hk1 hc1 hea1 hrc1 =>
              rw [hr] at hrc1
              cases hkd1 : kindO o1.op <;> rw [hkd1] at hrc1 <;> simp only [] at hrc1
              · cases hrc1
              · cases hrc1
              · obtain ⟨_, _, hrc1⟩ := hrc1; cases hrc1
              · rcases hrc1 with hrc1 | ⟨_, _, hrc1, _⟩
                · injection hrc1 with _ hrc1; rw [hea1]; exact hrc1
                · cases hrc1
          obtain ⟨p1, q1, hpq⟩ := List.append_of_mem hf
          refine ⟨e1, by rw [e1]; exact (F.wfb hpq).2, fun g q2 p2 hpq2 hg => by rw [e1]; exact (F.apart hpq2).2 g hg⟩)
      obtain ⟨σ, s1, s2, s3, s4⟩ := hsn
      have h3 := hchk σ s1
      simp only [Bool.or_eq_true, List.any_eq_true] at h3
      have hread : opA P e.b.tm σ.2.1 o.op = some (.val v σ.2.1) := by
        rcases h3 with (⟨j, j1, j2⟩ | ⟨j, j1, j2⟩) | h3
        · have := F.later I.cl hL (pre_reach j2)
          rw [s2 j j1] at this; cases this
        · have := reach_listed I.cl (pre_reach j2) ha
          rw [s3 j j1] at this; cases this
        · rw [ho] at h3
          simp only [] at h3
          split at h3
          · rename_i v' h' hv'
            rw [← same_eq h3] at hv'
            rw [hv', rd_form hkd hv']
          · cases h3
      obtain ⟨r, w', r1, u, rfl, y, d1, d2, d3⟩ := opA_sim (x := x) (w := w) hread her (I.hp.sub s4) (fun n hn hn2 => absurd hn2 (Nat.not_lt.2 hn)) (fun _ _ _ h => by cases h)
      refine ⟨fun f _ => fen_fn m f, ?_⟩
      rw [Oper.semAt_eq _ _ _ (opA_nodefer hread), r1, Oper.uponIn_value]
      refine hK _ _ _ (I.close F hT hL ha ho d1 d2 s4 (fun n b hb => ?_) (fun n _ => by omega) (by rw [hrc]; exact d3))
      rw [F.hm_plain hT (by rw [hrc]; rfl) (by rw [hrc]; rfl)] at hb
      cases hg : σ.2.1.blks.get n with
      | none => exact .inr ⟨rfl, rfl, hb⟩
      | some c => rw [s4 _ _ hg] at hb; exact .inl hb
    · -- new blocks
      obtain ⟨b, hb, hrc⟩ := hrc
      obtain ⟨b', f1, f2⟩ := al_form hkd (opC_val (by rw [hkd]; exact fun h => by cases h) hc)
      have hbb : b' = b := by
        rw [f1] at hb
        simp only [Tr.get_put, if_true] at hb
        injection hb
      subst hbb
      have h1 := f2 .lf
      have hnx : e.a.hp.next = e.b.hp.next + 1 := by rw [hh, f1]
      obtain ⟨r, w', r1, u, rfl, y, d1, d2, d3⟩ := opA_sim (x := x) (w := w) h1 her (I.hp.sub (fun n b hb => by rw [lf_get] at hb; cases hb)) (fun n hn hn2 => hfree n hn (by rw [hnx]; exact hn2)) (fun _ _ _ h => by cases h)
      refine ⟨fun f _ => fen_fn m f, ?_⟩
      rw [Oper.semAt_eq _ _ _ (opA_nodefer h1), r1, Oper.uponIn_value]
      obtain ⟨k1, k2⟩ := F.hm_al hT I.cl hL hrc
      have hno := F.noef hT I.cl hL (.inr (by rw [hrc]; rfl))
      refine hK _ _ _ (I.close F hT hL ha ho d1 d2 (fun n b hb => by rw [lf_get] at hb; cases hb) (fun n c hcn => ?_) (fun n hn => by rw [hnx] at hn; exact hn) (by rw [hrc]; exact d3))
      rw [k2] at hcn
      rw [k1]
      simp only [Tr.get_put, lf_get]
      rcases or_some hcn with hcn | ⟨hcn1, hcn⟩
      · have hge := F.adds_ge hT hno hcn
        exact .inr ⟨trivial, by rw [if_neg (by omega)], by simp only [hcn, Option.some_or]⟩
      · simp only [upd] at hcn
        split at hcn
        · rename_i hn; exact .inl (by rw [if_pos hn]; exact hcn)
        · rename_i hn; exact .inr ⟨trivial, by rw [if_neg hn], by simp only [hcn1, Option.none_or]; exact hcn⟩
    · -- what turns memory
      rcases hrc with hrc | ⟨n, b, hrc, b0, u1, u2, u3, u4, u5, u6⟩
      rotate_left
      · -- one block
        obtain ⟨k1, k2⟩ := F.hm_up hT I.cl hL ha hrc
        rw [u1] at k1
        obtain ⟨g', g1, g2, g3⟩ := u6 ⟨(Tr.lf).put n b0, 0⟩ (by rw [Tr.get_put, if_pos rfl])
        have hgn : ∀ j c, ((Tr.lf : Tr Blk).put n b0).get j = some c → j = n ∧ c = b0 := by
          intro j c hj
          rw [Tr.get_put] at hj
          split at hj
          · rename_i hjn; injection hj with hj; exact ⟨hjn, hj.symm⟩
          · rw [lf_get] at hj; cases hj
        have hsub : ∀ j c, ((Tr.lf : Tr Blk).put n b0).get j = some c → hmOf L T s.hp.blks.get j = some c := by
          intro j c hj
          obtain ⟨rfl, rfl⟩ := hgn j c hj
          exact k1
        obtain ⟨r, w', r1, rfl, y, d1, d2, d3⟩ := opA_sim (x := x) (w := w) g1 her (I.hp.sub hsub) (fun j _ hj => by have hj : j < g'.next := hj; rw [g3] at hj; exact absurd hj (Nat.not_lt_zero _)) (fun _ _ _ h => by cases h)
        refine ⟨fun f _ => fen_fn m f, ?_⟩
        rw [Oper.semAt_eq _ _ _ (opA_nodefer g1), r1, Oper.uponIn_skip]
        refine hK _ _ _ (I.close F hT hL ha ho d1 d2 hsub (fun j c hj => ?_) (fun n _ => .inr (by show g'.next ≤ n; rw [g3]; exact Nat.zero_le _)) (by rw [hrc]; exact d3))
        rw [k2] at hj
        show g'.blks.get j = some c ∨ _ ∧ g'.blks.get j = none ∧ _
        rw [g2]
        simp only [] at hj ⊢
        by_cases hjn : j = n
        · rw [if_pos hjn] at hj
          exact .inl (by rw [if_pos hjn]; exact hj)
        · rw [if_neg hjn] at hj
          have hgj : ((Tr.lf : Tr Blk).put n b0).get j = none := by rw [Tr.get_put, if_neg hjn, lf_get]
          exact .inr ⟨hgj, by rw [if_neg hjn]; exact hgj, hj⟩
      have h1 : e.rc.ef? = true := by rw [hrc]; rfl
      obtain ⟨k1, k2⟩ := I.ef_sub F hT hL ha h1
      rw [hh] at k2 hfree
      refine hop k hk _ _ _ _ _ _ _ _ hc her (I.hp.sub k1) wb hfree m K Q (fun r w' hd => ?_)
      obtain ⟨y, d1, d2, d3⟩ := hd
      exact hK _ _ _ (I.close F hT hL ha ho d1 d2 k1 k2 (fun n hn => by rw [← hh]; exact hn) (by rw [hrc]; exact d3))
end
end Go.Abs

namespace Go.Abs
noncomputable section
variable [Bnd]
variable {P : Program} {Sg : FuncId → Option Sp} {ops : Array Oper} {N : Nat} {s s' : St} {T : List El}
variable {x0 x : Cx} {w0 w : World}
/-- the listed -/
def LA (l : Array Bool) : Nat → Bool := fun j => l.getD j false
theorem ready_of {l : Array Bool} (hs : l.size = ops.size) {i : Nat} (h : i ∈ Region.ready .any ops l) : i < ops.size ∧ LA l i = false ∧ ∀ j ∈ afters ops i, LA l j = true := by
  unfold Region.ready at h
  obtain ⟨h1, h2⟩ := List.mem_filter.1 h
  have hi := List.mem_range.1 h1
  simp only [Bool.and_eq_true, Bool.not_eq_true'] at h2
  refine ⟨hi, ?_, fun j hj => ?_⟩
  · have := h2.1
    rw [Array.getD_eq_getD_getElem?, Array.getElem?_eq_getElem (by omega)] at this
    simp only [LA, Array.getD_eq_getD_getElem?, Array.getElem?_eq_getElem (show i < l.size by omega)]
    exact this
  · have := h2.2
    unfold afters at hj
    cases ho : ops[i]? with
    | none => rw [ho] at hj; cases hj
    | some o =>
      rw [ho] at hj this
      simp only [Option.map_some, Option.getD_some] at hj this
      obtain ⟨ed, he1, rfl⟩ := List.mem_map.1 hj
      obtain ⟨he1, he2⟩ := List.mem_filter.1 he1
      have h3 := Array.all_eq_true'.1 this ed (by simpa using he1)
      rw [he2] at h3
      simpa [LA] using h3
theorem not_ready {l : Array Bool} (hs : l.size = ops.size) (h : Region.ready .any ops l = []) {i : Nat} (hi : i < ops.size) (ha : ∀ j ∈ afters ops i, LA l j = true) : LA l i = true := by
  cases hl : LA l i with
  | true => rfl
  | false =>
    have : i ∈ Region.ready .any ops l := by
      unfold Region.ready
      refine List.mem_filter.2 ⟨List.mem_range.2 hi, ?_⟩
      simp only [Bool.and_eq_true, Bool.not_eq_true']
      constructor
      · simp only [LA, Array.getD_eq_getD_getElem?, Array.getElem?_eq_getElem (show i < l.size by omega)] at hl
        rw [Array.getD_eq_getD_getElem?, Array.getElem?_eq_getElem (by omega)]
        exact hl
      · rw [Array.getElem?_eq_getElem hi]
        simp only [Option.map_some, Option.getD_some]
        refine Array.all_eq_true'.2 (fun ed hed => ?_)
        cases hb : Region.binds .any ed with
        | false => rfl
        | true =>
          have := ha ed.on (by
            unfold afters
            rw [Array.getElem?_eq_getElem hi]
            exact List.mem_map.2 ⟨ed, List.mem_filter.2 ⟨by simpa using hed, hb⟩, rfl⟩)
          simpa [LA] using this
    rw [h] at this
    cases this
theorem LA_set {l : Array Bool} (hs : l.size = ops.size) {i : Nat} (hi : i < ops.size) : LA (l.setIfInBounds i true) = Ladd (LA l) i := by
  funext j
  simp only [LA, Ladd, Array.getD_eq_getD_getElem?, Array.getElem?_setIfInBounds]
  by_cases h : i = j
  · subst h
    rw [if_pos rfl, if_pos (by omega)]
    simp
  · rw [if_neg h]
    have : (j == i) = false := by simpa using Ne.symm h
    simp [this]
theorem any_of (m : Option Nat) (F : Facts P Sg N ops s s' T) (hop : ∀ k, k < N → OpS P Sg k) {Q : Exit → Act → World → Prop} (hQ : ∀ a' w', Went x0 s w0 s' a' w' → Q .normal a' w') :
    ∀ (fuel : Nat) (l : Array Bool) (left : List Nat) (x : Cx) (a : Act) (w : World), l.size = ops.size → left.Nodup → left.length = fuel → (∀ j, j ∈ left ↔ j < ops.size ∧ LA l j = false) → Inv ops s s' T x0 w0 (LA l) x a w → wpAnyIn (fen m) 0 P .any ops Q fuel l a w := by
  have fin : ∀ (l : Array Bool) (x : Cx) (a : Act) (w : World), l.size = ops.size → Inv ops s s' T x0 w0 (LA l) x a w → Region.ready .any ops l = [] → Q .normal a w := by
    intro l x a w hs I hr
    have hall : ∀ e ∈ T, LA l e.i = true := fun e he =>
      okOrd_all (L := LA l) (T.map (·.i)) [] F.ord (fun _ h => by cases h) (fun i hi ha => by
        obtain ⟨f, hf, rfl⟩ := List.mem_map.1 hi
        exact not_ready hs hr (F.lt hf) ha) e.i (List.mem_map.2 ⟨e, he, rfl⟩)
    have htm : ∀ t, (tmOf ops s.nt (LA l) T s.tm).get t = s'.tm.get t := by
      intro t
      rw [← tm_canon F.chain F.steps]
      exact tmOf_congr T _ _ (fun e he _ => hall e he) rfl
    have hhm : hmOf (LA l) T s.hp.blks.get = s'.hp.blks.get := by
      rw [← hm_canon F.chain F.steps]
      exact hmOf_congr T _ (fun e he _ => hall e he)
    refine hQ _ _ ⟨x, by rw [← hhm]; exact I.ext, fun t => by rw [← htm]; exact I.tm t, ?_, by rw [chain_df F.chain F.steps]; exact I.df.mono I.ext.m, by rw [← hhm]; exact I.hp⟩
    rw [I.nt, (chain_grow F.chain F.steps).2]
  intro fuel
  induction fuel with
  | zero =>
    intro l left x a w hs hnd hlen hmem I
    have hr : Region.ready .any ops l = [] := by
      cases h : Region.ready .any ops l with
      | nil => rfl
      | cons i r =>
        obtain ⟨h1, h2, _⟩ := ready_of hs (i := i) (by rw [h]; exact List.mem_cons_self)
        have := (hmem i).2 ⟨h1, h2⟩
        rw [List.eq_nil_of_length_eq_zero hlen] at this
        cases this
    exact ⟨hr, fin l x a w hs I hr⟩
  | succ fuel ih =>
    intro l left x a w hs hnd hlen hmem I
    refine ⟨fin l x a w hs I, fun i hi => ?_⟩
    obtain ⟨h1, h2, h3⟩ := ready_of hs hi
    obtain ⟨e, he, rfl⟩ := F.all h1
    obtain ⟨p, q, hT⟩ := List.append_of_mem he
    refine I.step F hop hT h2 h3 m (fun y a' w' I' => ?_)
    rw [← LA_set hs h1] at I'
    refine ih _ (left.erase e.i) y a' w' (by simpa using hs) (hnd.erase _) ?_ (fun j => ?_) I'
    · rw [List.length_erase_of_mem ((hmem _).2 ⟨h1, h2⟩), hlen]; rfl
    · rw [LA_set hs h1, hnd.mem_erase_iff, hmem]
      by_cases hj : j = e.i
      · subst hj
        simp [Ladd_self]
      · rw [Ladd_ne hj]
        simp [hj]
theorem drawS_of {n : Nat} (hop : ∀ k, k < n → OpS P Sg k) : DrawS P Sg n := by
  intro u ops ord s s' recs x w a h hok hwf hs hf m Q hQ
  unfold okD at hok
  rw [Bool.and_eq_true] at hok
  obtain ⟨hok, hchk⟩ := hok
  obtain ⟨T, t1, t2, t3, t4⟩ := opsD_trace u n n ord s s' recs (Nat.le_refl _) h
  have F : Facts P Sg n ops s s' T := ⟨t3, t4, by rw [t1, ← t2]; exact hok, fun e he => by
    rw [t1, ← t2]
    exact List.all_eq_true.1 hchk e.key (by rw [t2]; exact List.mem_map.2 ⟨e, he, rfl⟩), hwf⟩
  have hL0 : LA (Array.replicate ops.size false) = fun _ => false := by
    funext j
    simp only [LA, Array.getD_eq_getD_getElem?, Array.getElem?_replicate]
    split <;> rfl
  refine any_of m F hop hQ ops.size _ (List.range ops.size) x a w (by simp) List.nodup_range (by simp) (fun j => by rw [hL0]; simp) ?_
  rw [hL0]
  have h1 : hmOf (fun _ => false) T s.hp.blks.get = s.hp.blks.get := hmOf_off T _ (fun _ _ => rfl)
  refine ⟨fun t => ?_, hs.nt, hs.df, by rw [h1]; exact hs.hp, ?_, fun e he _ k hk1 hk2 => ?_, fun i hi => by cases hi⟩
  · rw [tmOf_skip T _ (fun _ _ _ => rfl)]
    exact hs.tm t
  · rw [h1]
    have := (Ext.refl (x := x) (hm := s.hp.blks.get) (n := s.hp.next) (w := w))
    exact ⟨this.m, this.κ, fun _ _ => rfl, this.F, this.Fn, this.τ, this.os, this.tape, this.output, this.size, this.fr, this.im⟩
  · have := chain_above F.chain F.steps he
    exact hf k (by omega) (by omega)
/-- what the interpreter says is what the program does -/
theorem sound (hS : Sound P Sg) : ∀ n, CodeS P Sg n ∧ LoopS P Sg n ∧ ListS P Sg n ∧ OpS P Sg n ∧ CallS P Sg n ∧ RoundS P Sg n ∧ ∀ k, k ≤ n → OpS P Sg k
  | 0 => ⟨fun _ _ _ _ _ _ e => by simp [code] at e, fun _ _ _ _ _ _ e => by simp [code] at e, fun _ _ _ _ _ _ _ e => by simp [opsR] at e, fun _ _ _ _ _ _ _ _ e => by simp [opC] at e, fun _ _ _ _ _ _ _ _ e => by simp [call] at e,
    fun _ _ _ _ _ _ _ _ _ _ e => by simp [round] at e,
    fun k hk => by
      have : k = 0 := by omega
      subst this
      exact fun _ _ _ _ _ _ _ _ e => by simp [opC] at e⟩
  | n + 1 => by
    obtain ⟨h1, h2, h3, h4, h5, h6, h7⟩ := sound hS n
    have hl := loopS_of h1 h2
    have ho := opS_of hS h5 h6
    refine ⟨codeS_of hS h3 (drawS_of (fun k hk => h7 k (by omega))) h1 hl h5 (loopRS_of h1), hl, listS_of h4 h3, ho, callS_of hS h1, roundS_of h1, fun k hk => ?_⟩
    by_cases hkn : k = n + 1
    · subst hkn; exact ho
    · exact h7 k (by omega)
/-- a call -/
theorem call_sound (hS : Sound P Sg) {n : Nat} {f : FuncId} {as : List AV} {v : AV} {h h' : Hp} {x : Cx} {w : World} {as' : Array Value} (e : call P Sg n f as h = some (v, h')) (ha : VRels x w as as'.toList) (hr : HRel x h.blks.get w) (hwf : Wf h) (hf : Free x h h') :
    Calls P f as' w (fun e w' => ∃ r, e = .returned r ∧ Did x h w v h' r w') :=
  (sound hS n).2.2.2.2.1 _ _ _ _ _ _ _ _ e ha hr hwf hf
end
end Go.Abs
