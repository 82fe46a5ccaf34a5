/- What is proved: a part of the proof of the tied card of StoreNil (text Abs21 of it). Conditions: those that its theorems name. -/
import Derived.Test.YtifoacdfdcdpmaaGreatDoorAbs20
set_option linter.unusedVariables false
set_option linter.unusedSimpArgs false
namespace Go.Abs
variable {P : Program} {Sg : FuncId → Option Sp} {ops : Array Oper} {N : Nat} {s s' : St} {T : List El}
theorem step_dst {e : El} (h : StepR P Sg N ops e) : ∃ o, ops[e.i]? = some o ∧ e.a.tm = putT e.b.tm e.b.nt o.dst e.rc.v := by
  cases h with
  | off o ho hw hrc ha =>
    refine ⟨o, ho, ?_⟩
    rw [ha, hrc]
    split <;> rfl
  | on o k v h ho hw hk hc ha hrc =>
    refine ⟨o, ho, ?_⟩
    rw [ha]
    have : e.rc.v = v := by
      cases hkd : kindO o.op <;> rw [hkd] at hrc <;> simp only [] at hrc
      · rw [hrc]; rfl
      · rw [hrc]; rfl
      · obtain ⟨b, _, hrc⟩ := hrc; rw [hrc]; rfl
      · rw [hrc]; rfl
    rw [this]
theorem tm_canon : ∀ {l : List El} {s s1 : St}, Chain s l s1 → (∀ e ∈ l, StepR P Sg N ops e) → tmOf ops s.nt (fun _ => true) l s.tm = s1.tm
  | [], s, s1, h, _ => by cases h; rfl
  | e :: l, s, s1, h, hs => by
    obtain ⟨rfl, h2⟩ := h
    have h0 := hs e List.mem_cons_self
    obtain ⟨o, h3, h4⟩ := step_dst h0
    have := tm_canon h2 (fun f hf => hs f (List.mem_cons_of_mem _ hf))
    rw [tmOf, if_pos rfl, ← this, step_nt h0, h4]
    have : dstAt ops e.i = o.dst := by simp [dstAt, h3]
    rw [this]
theorem step_hm {e : El} (h : StepR P Sg N ops e) : hm1 e.b.hp.blks.get e.rc = e.a.hp.blks.get := by
  cases h with
  | off o ho hw hrc ha =>
    rw [ha, hrc]
    split <;> rfl
  | on o k v h ho hw hk hc ha hrc =>
    rw [ha]
    cases hkd : kindO o.op <;> rw [hkd] at hrc <;> simp only [] at hrc
    · have := (pu_form hkd (opC_val (by rw [hkd]; exact fun h => by cases h) hc)).1
      rw [hrc, this]; rfl
    · have := rd_form hkd (opC_val (by rw [hkd]; exact fun h => by cases h) hc)
      rw [hrc, this]; rfl
    · obtain ⟨b, hb, hrc⟩ := hrc
      obtain ⟨b', h1, _⟩ := al_form hkd (opC_val (by rw [hkd]; exact fun h => by cases h) hc)
      rw [h1] at hb ⊢
      simp only [Tr.get_put, if_true] at hb
      injection hb with hb
      subst hb
      rw [hrc]
      funext k
      simp only [hm1, upd, Tr.get_put]
    · rw [hrc]; rfl
theorem hm_canon : ∀ {l : List El} {s s1 : St}, Chain s l s1 → (∀ e ∈ l, StepR P Sg N ops e) → hmOf (fun _ => true) l s.hp.blks.get = s1.hp.blks.get
  | [], s, s1, h, _ => by cases h; rfl
  | e :: l, s, s1, h, hs => by
    obtain ⟨rfl, h2⟩ := h
    have h0 := hs e List.mem_cons_self
    have := hm_canon h2 (fun f hf => hs f (List.mem_cons_of_mem _ hf))
    rw [hmOf, if_pos rfl, ← this, step_hm h0]
theorem hmOf_off {L : Nat → Bool} : ∀ (l : List El) (hm : HM), (∀ e ∈ l, L e.i = false) → hmOf L l hm = hm
  | [], _, _ => rfl
  | e :: l, hm, h => by
    rw [hmOf, h e List.mem_cons_self]
    exact hmOf_off l hm (fun f hf => h f (List.mem_cons_of_mem _ hf))
/-! ### a part of a region done -/
structure Inv (ops : Array Oper) (s s' : St) (T : List El) (x0 : Cx) (w0 : World) (L : Nat → Bool) (x : Cx) (a : Act) (w : World) : Prop where
  tm : ∀ t, VRel x w (((tmOf ops s.nt L T s.tm).get t).getD (.tup [])) (a.tmps.getD t undef)
  nt : a.tmps.size = s.nt
  df : a.defers = []
  hp : HRel x (hmOf L T s.hp.blks.get) w
  ext : Ext x0 s.hp.blks.get s.hp.next w0 x (hmOf L T s.hp.blks.get) s'.hp.next w
  free : ∀ e ∈ T, L e.i = false → ∀ k, e.b.hp.next ≤ k → k < e.a.hp.next → x.m k = none
  cl : Closed ops L
def Ladd (L : Nat → Bool) (i : Nat) : Nat → Bool := fun j => j == i || L j
theorem Ladd_ne {L : Nat → Bool} {i j : Nat} (h : j ≠ i) : Ladd L i j = L j := by simp [Ladd, h]
theorem Ladd_self {L : Nat → Bool} {i : Nat} : Ladd L i i = true := by simp [Ladd]
variable {x0 x : Cx} {w0 w : World} {L : Nat → Bool} {a : Act} {p q : List El} {e : El}
theorem Facts.le (F : Facts P Sg N ops s s' T) (hT : T = p ++ e :: q) : s.hp.next ≤ e.b.hp.next ∧ e.a.hp.next ≤ s'.hp.next ∧ e.b.hp.next ≤ e.a.hp.next :=
  have he : e ∈ T := by rw [hT]; simp
  let h := chain_above F.chain F.steps he
  ⟨h.1, h.2, (step_grow (F.steps e he)).1⟩
theorem Facts.apart (F : Facts P Sg N ops s s' T) (hT : T = p ++ e :: q) : (∀ f ∈ p, f.a.hp.next ≤ e.b.hp.next) ∧ ∀ f ∈ q, e.a.hp.next ≤ f.b.hp.next := by
  have hc := F.chain
  have hs := F.steps
  rw [hT] at hc hs
  obtain ⟨h1, h2⟩ := chain_split hc
  exact ⟨fun f hf => (chain_above h1 (fun g hg => hs g (by simp [hg])) hf).2, fun f hf => (chain_above h2 (fun g hg => hs g (by simp [hg])) hf).1⟩
theorem Facts.mem (hT : T = p ++ e :: q) : e ∈ T := by rw [hT]; simp
/-- what wants e is not listed -/
theorem Facts.later (F : Facts P Sg N ops s s' T) (hc : Closed ops L) (hL : L e.i = false) {j : Nat} (hr : Reach ops e.i j) : L j = false := by
  cases hj : L j with
  | false => rfl
  | true =>
    have := reach_listed hc hr (hc j hj)
    rw [hL] at this; cases this
theorem Facts.noef (F : Facts P Sg N ops s s' T) (hT : T = p ++ e :: q) (hc : Closed ops L) (hL : L e.i = false) (hk : e.rc.ef? = true ∨ e.rc.al? = true) : ∀ f ∈ q, f.rc.ef? = true → L f.i = false := by
  intro f hf hfe
  obtain ⟨q1, q2, rfl⟩ := List.append_of_mem hf
  exact F.later hc hL (F.reach (p := p ++ e :: q1) (q := q2) (by rw [hT]; simp) hfe (by simp) hk)
/-- a slot that e looks at holds what it held in the trace -/
theorem Facts.look (F : Facts P Sg N ops s s' T) (hT : T = p ++ e :: q) (hc : Closed ops L) (hL : L e.i = false) (ha : ∀ j ∈ afters ops e.i, L j = true) {o : Oper} (ho : ops[e.i]? = some o) {t : Tmp} (ht : t ∈ o.looksAt ops) :
    (tmOf ops s.nt L T s.tm).get t = e.b.tm.get t := by
  have hch := F.chain
  rw [hT] at hch
  have hcan := tm_canon (chain_split hch).1 (fun f hf => F.steps f (by rw [hT]; simp [hf]))
  have he := Facts.mem hT
  have hn := F.notin hT
  rw [← hcan, hT, tmOf_app, tmOf_skip (e :: q)]
  · refine tmOf_congr p _ _ (fun f hf hd => ?_) rfl
    have hfT : f ∈ T := by rw [hT]; simp [hf]
    rcases (F.slots hfT he (hn.1 f hf) hd).2 o ho ht with hr | hr
    · exact reach_listed hc hr ha
    · obtain ⟨p1, p2, hp⟩ := List.append_of_mem hf
      obtain ⟨e', h1, h2⟩ := F.before (p := p1) (e := f) (q := p2 ++ e :: q) (by rw [hT, hp]; simp) hr
      exact absurd h2 (hn.1 e' (by rw [hp]; simp [h1]))
  · intro f hf hd
    rcases List.mem_cons.1 hf with rfl | hf
    · exact hL
    · have hfT : f ∈ T := by rw [hT]; simp [hf]
      rcases (F.slots hfT he (hn.2 f hf) hd).2 o ho ht with hr | hr
      · obtain ⟨f', h1, h2⟩ := F.before hT hr
        obtain ⟨q1, q2, hq⟩ := List.append_of_mem hf
        have := (F.notin (p := p ++ e :: q1) (e := f) (q := q2) (by rw [hT, hq]; simp)).1 f' (by simp [h1])
        exact absurd h2 this
      · exact F.later hc hL hr
/-- slots after e -/
theorem Facts.put (F : Facts P Sg N ops s s' T) (hT : T = p ++ e :: q) (hL : L e.i = false) {o : Oper} (ho : ops[e.i]? = some o) (t : Tmp) :
    (tmOf ops s.nt (Ladd L e.i) T s.tm).get t = (putT (tmOf ops s.nt L T s.tm) s.nt o.dst e.rc.v).get t := by
  have hn := F.notin hT
  have he := Facts.mem hT
  have hdo : dstAt ops e.i = o.dst := by simp [dstAt, ho]
  have hne : ∀ f ∈ T, f.i ≠ e.i → ∀ d, o.dst = some d → dstAt ops f.i ≠ some d := fun f hf hfe d hd => (F.slots he hf (Ne.symm hfe) (by rw [hdo]; exact hd)).1
  rw [putT_get]
  by_cases hd : o.dst = some t
  · have hp0 : ∀ (L : Nat → Bool), (tmOf ops s.nt L p s.tm).get t = s.tm.get t := fun L => tmOf_skip p _ (fun f hf hdf => absurd hdf (hne f (by rw [hT]; simp [hf]) (hn.1 f hf) t hd))
    have hq0 : ∀ (L : Nat → Bool) (tm : Tr AV), (tmOf ops s.nt L q tm).get t = tm.get t := fun L tm => tmOf_skip q _ (fun f hf hdf => absurd hdf (hne f (by rw [hT]; simp [hf]) (hn.2 f hf) t hd))
    rw [hT, tmOf_app, tmOf, Ladd_self, if_pos rfl, hq0, putT_get, hdo, hp0, tmOf_app, tmOf, hL, hq0]
    simp only [Bool.false_eq_true, if_false]
    rw [hp0]
  · rw [if_neg (fun h => hd h.1)]
    refine tmOf_congr T _ _ (fun f hf hdf => ?_) rfl
    refine Ladd_ne (fun hfe => hd ?_)
    rw [← hdo, ← hfe]; exact hdf
theorem Facts.ne (F : Facts P Sg N ops s s' T) (hT : T = p ++ e :: q) {f : El} (hf : f ∈ T) : f = e ∨ f.i ≠ e.i := by
  rw [hT] at hf
  rcases List.mem_append.1 hf with hf | hf
  · exact .inr ((F.notin hT).1 f hf)
  · rcases List.mem_cons.1 hf with rfl | hf
    · exact .inl rfl
    · exact .inr ((F.notin hT).2 f hf)
theorem Facts.hm_plain (F : Facts P Sg N ops s s' T) (hT : T = p ++ e :: q) (h1 : e.rc.ef? = false) (h2 : e.rc.al? = false) (hm : HM) : hmOf (Ladd L e.i) T hm = hmOf L T hm := by
  refine hmOf_congr T hm (fun f hf hk => ?_)
  rcases F.ne hT hf with rfl | hne
  · rw [h1, h2] at hk; rcases hk with hk | hk <;> cases hk
  · exact Ladd_ne hne
theorem Facts.hm_ef (F : Facts P Sg N ops s s' T) (hT : T = p ++ e :: q) (hc : Closed ops L) (hL : L e.i = false) (ha : ∀ j ∈ afters ops e.i, L j = true) (h1 : e.rc.ef? = true) :
    (hmOf L T s.hp.blks.get = fun k => (hmOf L q (fun _ => none) k).or (e.b.hp.blks.get k)) ∧ (hmOf (Ladd L e.i) T s.hp.blks.get = fun k => (hmOf L q (fun _ => none) k).or (e.a.hp.blks.get k)) := by
  have hch := F.chain
  rw [hT] at hch
  have hcan := hm_canon (chain_split hch).1 (fun f hf => F.steps f (by rw [hT]; simp [hf]))
  have hn := F.notin hT
  have hno := F.noef hT hc hL (.inl h1)
  have hq : ∀ hm, hmOf (Ladd L e.i) q hm = hmOf L q hm := fun hm => hmOf_congr q hm (fun f hf _ => Ladd_ne (hn.2 f hf))
  have hp : hmOf L p s.hp.blks.get = e.b.hp.blks.get := by
    rw [← hcan]
    exact hmOf_congr p _ (fun f hf hk => reach_listed hc (F.reach hT h1 hf hk) ha)
  constructor
  · rw [hT, hmOf_app, hmOf, hL, hp]
    simp only [Bool.false_eq_true, if_false]
    exact hmOf_adds q _ hno
  · rw [hT, hmOf_app, hmOf, Ladd_self, if_pos rfl, hq]
    have : ∀ hm, hm1 hm e.rc = e.a.hp.blks.get := by
      intro hm
      rw [← step_hm (F.steps e (Facts.mem hT))]
      cases hr : e.rc with
      | ef _ _ => rfl
      | _ => rw [hr] at h1; cases h1
    rw [this]
    exact hmOf_adds q _ hno
theorem Facts.hm_al (F : Facts P Sg N ops s s' T) (hT : T = p ++ e :: q) (hc : Closed ops L) (hL : L e.i = false) {v : AV} {n : Nat} {b : Blk} (h1 : e.rc = .al v n b) :
    (hmOf L T s.hp.blks.get = fun k => (hmOf L q (fun _ => none) k).or (hmOf L p s.hp.blks.get k)) ∧ (hmOf (Ladd L e.i) T s.hp.blks.get = fun k => (hmOf L q (fun _ => none) k).or (upd (hmOf L p s.hp.blks.get) n b k)) := by
  have hn := F.notin hT
  have hno := F.noef hT hc hL (.inr (by rw [h1]; rfl))
  have hq : ∀ hm, hmOf (Ladd L e.i) q hm = hmOf L q hm := fun hm => hmOf_congr q hm (fun f hf _ => Ladd_ne (hn.2 f hf))
  have hp : ∀ hm, hmOf (Ladd L e.i) p hm = hmOf L p hm := fun hm => hmOf_congr p hm (fun f hf _ => Ladd_ne (hn.1 f hf))
  constructor
  · rw [hT, hmOf_app, hmOf, hL]
    simp only [Bool.false_eq_true, if_false]
    exact hmOf_adds q _ hno
  · rw [hT, hmOf_app, hmOf, Ladd_self, if_pos rfl, hq, hp, h1]
    exact hmOf_adds q _ hno
/-- one more is listed -/
theorem Inv.close (F : Facts P Sg N ops s s' T) (hT : T = p ++ e :: q) (I : Inv ops s s' T x0 w0 L x a w) (hL : L e.i = false) (ha : ∀ j ∈ afters ops e.i, L j = true) {o : Oper} (ho : ops[e.i]? = some o)
    {hm hm' : HM} {n0 n1 : Nat} {y : Cx} {w' : World} {r : Value} (hE : Ext x hm n0 w y hm' n1 w') (hH : HRel y hm' w') (hsub : ∀ n b, hm n = some b → hmOf L T s.hp.blks.get n = some b)
    (hk : ∀ n b, hmOf (Ladd L e.i) T s.hp.blks.get n = some b → hm' n = some b ∨ (hm n = none ∧ hm' n = none ∧ hmOf L T s.hp.blks.get n = some b)) (hmo : ∀ n, n < e.b.hp.next ∨ e.a.hp.next ≤ n → n < n0 ∨ n1 ≤ n) (hv : VRel y w' e.rc.v r) :
    Inv ops s s' T x0 w0 (Ladd L e.i) y (a.put o.dst r) w' := by
  have hmono := hE.mono (I.hp.sub hsub)
  obtain ⟨l1, l2, l3⟩ := F.le hT
  have hfr := hE.frame I.hp hsub hH hk
  refine ⟨fun t => ?_, by rw [put_size]; exact I.nt, by rw [put_defers]; exact I.df, hfr, I.ext.then (hE.around I.hp hsub hk (fun n hn => hmo n (by omega))), fun f hf hLf k hk1 hk2 => ?_, fun i hi j hj => ?_⟩
  · rw [F.put hT hL ho t]
    exact put_rel (fun t => (I.tm t).mono hmono) I.nt hv t
  · rcases F.ne hT hf with rfl | hne
    · rw [Ladd_self] at hLf; cases hLf
    · rw [Ladd_ne hne] at hLf
      rw [hE.mo k (hmo k ?_)]
      · exact I.free f hf hLf k hk1 hk2
      · rw [hT] at hf
        rcases List.mem_append.1 hf with hf | hf
        · have := (F.apart hT).1 f hf; omega
        · rcases List.mem_cons.1 hf with rfl | hf
          · exact absurd rfl hne
          · have := (F.apart hT).2 f hf; omega
  · by_cases hij : i = e.i
    · subst hij
      simp only [Ladd, ha j hj, Bool.or_true]
    · rw [Ladd_ne hij] at hi
      simp only [Ladd, I.cl i hi j hj, Bool.or_true]
end Go.Abs
