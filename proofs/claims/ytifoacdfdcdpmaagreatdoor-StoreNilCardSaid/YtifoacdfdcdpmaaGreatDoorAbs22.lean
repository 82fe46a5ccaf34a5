/- What is proved: a part of the proof of the tied card of StoreNil (text Abs22 of it). Conditions: those that its theorems name. -/
import Derived.Test.YtifoacdfdcdpmaaGreatDoorAbs21
set_option linter.unusedVariables false
set_option linter.unusedSimpArgs false
namespace Go.Abs
variable {P : Program} {Sg : FuncId → Option Sp} {ops : Array Oper} {N : Nat} {s s' : St} {T : List El}
variable {x0 x : Cx} {w0 w : World} {L : Nat → Bool} {a : Act} {p q : List El} {e : El}
theorem Inv.er (F : Facts P Sg N ops s s' T) (hT : T = p ++ e :: q) (I : Inv ops s s' T x0 w0 L x a w) (hL : L e.i = false) (ha : ∀ j ∈ afters ops e.i, L j = true) {o : Oper} (ho : ops[e.i]? = some o) : ER x w e.b.tm a.eval o.op.operands.toList := by
  intro y hy v hv
  cases y with
  | tmp t =>
    simp only [evalO] at hv
    injection hv with hv
    subst hv
    rw [← F.look hT I.cl hL ha ho (t := t) (List.mem_append_left _ (List.mem_filterMap.2 ⟨.tmp t, hy, rfl⟩))]
    exact I.tm t
  | const c => exact ofValue_rel hv
  | func f => simp only [evalO] at hv; injection hv with hv; subst hv; exact .func _ _ _ _ _ .nil .nil
  | global g => cases hv
theorem Inv.wanted (F : Facts P Sg N ops s s' T) (hT : T = p ++ e :: q) (I : Inv ops s s' T x0 w0 L x a w) (hL : L e.i = false) (ha : ∀ j ∈ afters ops e.i, L j = true) {o : Oper} (ho : ops[e.i]? = some o) {b : Bool} (hw : wantedA ops e.b.tm o.guard = some b) :
    Region.wanted o (yielded ops a.tmps) = b := by
  refine wanted_gen (x := x) (w := w) (fun g hg d hd => ?_) hw
  rw [← F.look hT I.cl hL ha ho (t := d)]
  · exact I.tm d
  · refine List.mem_append_right _ ?_
    rw [hg]
    simp only [hd, Option.toList]
    exact List.mem_singleton.2 rfl
theorem or_some {o o' : Option Blk} {b : Blk} (h : o.or o' = some b) : o = some b ∨ (o = none ∧ o' = some b) := by
  cases o with
  | none => exact .inr ⟨rfl, by simpa using h⟩
  | some c => exact .inl (by simpa using h)
/-- the heap of the trace ahead of e, and behind -/
theorem Facts.wfb (F : Facts P Sg N ops s s' T) (hT : T = p ++ e :: q) : Wf e.b.hp ∧ Wf e.a.hp := by
  have hch := F.chain
  rw [hT] at hch
  have h1 := (chain_grow (chain_split hch).1 (fun f hf => F.steps f (by rw [hT]; simp [hf]))).1.2 F.wf
  exact ⟨h1, (step_grow (F.steps e (Facts.mem hT))).2 h1⟩
theorem Facts.adds_ge (F : Facts P Sg N ops s s' T) (hT : T = p ++ e :: q) (hno : ∀ f ∈ q, f.rc.ef? = true → L f.i = false) {k : Nat} {b : Blk} (h : hmOf L q (fun _ => none) k = some b) : e.a.hp.next ≤ k := by
  rcases adds_above (P := P) (Sg := Sg) (N := N) (ops := ops) (m := e.a.hp.next) hno (fun f hf => F.steps f (by rw [hT]; simp [hf])) (F.apart hT).2 h with h | h
  · cases h
  · exact h
theorem Inv.ef_sub (F : Facts P Sg N ops s s' T) (hT : T = p ++ e :: q) (I : Inv ops s s' T x0 w0 L x a w) (hL : L e.i = false) (ha : ∀ j ∈ afters ops e.i, L j = true) (h1 : e.rc.ef? = true) :
    (∀ n b, e.b.hp.blks.get n = some b → hmOf L T s.hp.blks.get n = some b) ∧
    ∀ n b, hmOf (Ladd L e.i) T s.hp.blks.get n = some b → e.a.hp.blks.get n = some b ∨ (e.b.hp.blks.get n = none ∧ e.a.hp.blks.get n = none ∧ hmOf L T s.hp.blks.get n = some b) := by
  obtain ⟨k1, k2⟩ := F.hm_ef hT I.cl hL ha h1
  have hno := F.noef hT I.cl hL (.inl h1)
  obtain ⟨w1, w2⟩ := F.wfb hT
  obtain ⟨_, _, l3⟩ := F.le hT
  rw [k1, k2]
  constructor
  · intro n b hb
    have := w1 _ _ hb
    cases had : hmOf L q (fun _ => none) n with
    | none => simp only [had, Option.none_or]; exact hb
    | some c => have := F.adds_ge hT hno had; omega
  · intro n b hb
    rcases or_some hb with hb | ⟨_, hb⟩
    · have hge := F.adds_ge hT hno hb
      refine .inr ⟨?_, ?_, by simp only [hb, Option.some_or]⟩
      · cases hg : e.b.hp.blks.get n with
        | none => rfl
        | some c => have := w1 _ _ hg; omega
      · cases hg : e.a.hp.blks.get n with
        | none => rfl
        | some c => have := w2 _ _ hg; omega
    · exact .inl hb
theorem Inv.step (F : Facts P Sg N ops s s' T) (hop : ∀ k, k < N → OpS P Sg k) (hT : T = p ++ e :: q) (I : Inv ops s s' T x0 w0 L x a w) (hL : L e.i = false) (ha : ∀ j ∈ afters ops e.i, L j = true) {K : Act → World → Prop} {Q : Exit → Act → World → Prop}
    (hK : ∀ y a' w', Inv ops s s' T x0 w0 (Ladd L e.i) y a' w' → K a' w') : wpOp P ops Q e.i K a w := by
  have he := Facts.mem hT
  have hfree : Free x e.b.hp e.a.hp := I.free e he hL
  obtain ⟨wb, wa⟩ := F.wfb hT
  obtain ⟨l1, l2, l3⟩ := F.le hT
  cases hst : F.steps e he with
  | off o ho hw hrc hea =>
    have hwant := I.wanted F hT hL ha ho hw
    unfold wpOp
    rw [ho]
    simp only [hwant, Bool.false_eq_true, if_false]
    cases hef : isEf ops e.i with
    | true =>
      rw [hef] at hrc
      simp only [if_true] at hrc
      have h1 : e.rc.ef? = true := by rw [hrc]; rfl
      obtain ⟨k1, k2⟩ := I.ef_sub F hT hL ha h1
      have hh : e.a.hp = e.b.hp := by rw [hea]
      rw [hh] at k2
      exact hK _ _ _ (I.close F hT hL ha ho (Ext.refl (n := 0)) (I.hp.sub k1) k1 k2 (fun n _ => .inr (Nat.zero_le _)) (by rw [hrc]; exact undef_rel))
    | false =>
      rw [hef] at hrc
      simp only [Bool.false_eq_true, if_false] at hrc
      refine hK _ _ _ (I.close (hm := fun _ => none) (hm' := fun _ => none) F hT hL ha ho (Ext.refl (n := 0)) (I.hp.sub (fun _ _ h => by cases h)) (fun _ _ h => by cases h) (fun n b hb => .inr ⟨rfl, rfl, ?_⟩) (fun n _ => .inr (Nat.zero_le _)) (by rw [hrc]; exact undef_rel))
      rw [F.hm_plain hT (by rw [hrc]; rfl) (by rw [hrc]; rfl)] at hb
      exact hb
  | on o k v h ho hw hk hc hea hrc =>
    have hwant := I.wanted F hT hL ha ho hw
    have her := I.er F hT hL ha ho
    unfold wpOp
    rw [ho]
    simp only [hwant, if_true]
    refine .inl ?_
    have hh : e.a.hp = h := by rw [hea]
    cases hkd : kindO o.op <;> rw [hkd] at hrc <;> simp only [] at hrc
    · -- pure
      have hv := pu_form hkd (opC_val (by rw [hkd]; exact fun h => by cases h) hc)
      have h1 := hv.2 ⟨.lf, 0⟩
      obtain ⟨r, w', r1, u, rfl, y, d1, d2, d3⟩ := opA_sim (x := x) (w := w) h1 her (I.hp.sub (fun n b hb => by rw [lf_get] at hb; cases hb)) (fun n _ hn => absurd hn (Nat.not_lt_zero _)) (fun _ _ _ h => by cases h)
      unfold Oper.wp
      rw [r1, Oper.upon_value]
      refine hK _ _ _ (I.close F hT hL ha ho d1 d2 (fun n b hb => by rw [lf_get] at hb; cases hb) (fun n b hb => .inr ⟨lf_get _, lf_get _, ?_⟩) (fun n _ => .inr (Nat.zero_le _)) (by rw [hrc]; exact d3))
      rw [F.hm_plain hT (by rw [hrc]; rfl) (by rw [hrc]; rfl)] at hb
      exact hb
    · -- reads
      have hv := opC_val (by rw [hkd]; exact fun h => by cases h) hc
      have hsn := snap (P := P) (Sg := Sg) (N := N) (ops := ops) (L := L) T [] s.hp s.hp.blks.get (fun _ h => by cases h) F.wf (fun _ _ h => h) (fun f hf => (chain_above F.chain F.steps hf).1) F.steps
        (fun p1 f q1 h1 h2 h3 g hg h4 => reach_listed I.cl (F.reach h1 h2 hg (.inl h4)) (I.cl _ h3))
        (fun f hf v1 h1 hr => by
          have e1 : h1 = f.a.hp := by
            cases F.steps f hf with
            | off o1 ho1 hw1 hrc1 hea1 =>
              rw [hr] at hrc1
              split at hrc1
              · injection hrc1 with _ hrc1; rw [hea1]; exact hrc1
              · cases hrc1
            | on o1 k1 v2 h2 ho1 hw1 hk1 hc1 hea1 hrc1 =>
              rw [hr] at hrc1
              cases hkd1 : kindO o1.op <;> rw [hkd1] at hrc1 <;> simp only [] at hrc1
              · cases hrc1
              · cases hrc1
              · obtain ⟨_, _, hrc1⟩ := hrc1; cases hrc1
              · injection hrc1 with _ hrc1; rw [hea1]; exact hrc1
          obtain ⟨p1, q1, hpq⟩ := List.append_of_mem hf
          refine ⟨e1, by rw [e1]; exact (F.wfb hpq).2, fun g q2 p2 hpq2 hg => by rw [e1]; exact (F.apart hpq2).2 g hg⟩)
      obtain ⟨σ, s1, s2, s3, s4⟩ := hsn
      have hchk := F.chk e he
      unfold chkRd El.key at hchk
      rw [hrc] at hchk
      have hrd : isRd ops e.i = true := by simp [isRd, kindAt, ho, hkd]
      simp only [hrd, if_true, List.all_eq_true] at hchk
      have h3 := hchk σ s1
      simp only [Bool.or_eq_true, List.any_eq_true] at h3
      have hread : opA P e.b.tm σ.2.1 o.op = some (.val v σ.2.1) := by
        rcases h3 with (⟨j, j1, j2⟩ | ⟨j, j1, j2⟩) | h3
        · have := F.later I.cl hL (pre_reach j2)
          rw [s2 j j1] at this; cases this
        · have := reach_listed I.cl (pre_reach j2) ha
          rw [s3 j j1] at this; cases this
        · rw [ho] at h3
          simp only [] at h3
          split at h3
          · rename_i v' h' hv'
            rw [← same_eq h3] at hv'
            rw [hv', rd_form hkd hv']
          · cases h3
      obtain ⟨r, w', r1, u, rfl, y, d1, d2, d3⟩ := opA_sim (x := x) (w := w) hread her (I.hp.sub s4) (fun n hn hn2 => absurd hn2 (Nat.not_lt.2 hn)) (fun _ _ _ h => by cases h)
      unfold Oper.wp
      rw [r1, Oper.upon_value]
      refine hK _ _ _ (I.close F hT hL ha ho d1 d2 s4 (fun n b hb => ?_) (fun n _ => by omega) (by rw [hrc]; exact d3))
      rw [F.hm_plain hT (by rw [hrc]; rfl) (by rw [hrc]; rfl)] at hb
      cases hg : σ.2.1.blks.get n with
      | none => exact .inr ⟨rfl, rfl, hb⟩
      | some c => rw [s4 _ _ hg] at hb; exact .inl hb
    · -- new blocks
      obtain ⟨b, hb, hrc⟩ := hrc
      obtain ⟨b', f1, f2⟩ := al_form hkd (opC_val (by rw [hkd]; exact fun h => by cases h) hc)
      have hbb : b' = b := by
        rw [f1] at hb
        simp only [Tr.get_put, if_true] at hb
        injection hb
      subst hbb
      have h1 := f2 .lf
      have hnx : e.a.hp.next = e.b.hp.next + 1 := by rw [hh, f1]
      obtain ⟨r, w', r1, u, rfl, y, d1, d2, d3⟩ := opA_sim (x := x) (w := w) h1 her (I.hp.sub (fun n b hb => by rw [lf_get] at hb; cases hb)) (fun n hn hn2 => hfree n hn (by rw [hnx]; exact hn2)) (fun _ _ _ h => by cases h)
      unfold Oper.wp
      rw [r1, Oper.upon_value]
      obtain ⟨k1, k2⟩ := F.hm_al hT I.cl hL hrc
      have hno := F.noef hT I.cl hL (.inr (by rw [hrc]; rfl))
      refine hK _ _ _ (I.close F hT hL ha ho d1 d2 (fun n b hb => by rw [lf_get] at hb; cases hb) (fun n c hcn => ?_) (fun n hn => by rw [hnx] at hn; exact hn) (by rw [hrc]; exact d3))
      rw [k2] at hcn
      rw [k1]
      simp only [Tr.get_put, lf_get]
      rcases or_some hcn with hcn | ⟨hcn1, hcn⟩
      · have hge := F.adds_ge hT hno hcn
        exact .inr ⟨trivial, by rw [if_neg (by omega)], by simp only [hcn, Option.some_or]⟩
      · simp only [upd] at hcn
        split at hcn
        · rename_i hn; exact .inl (by rw [if_pos hn]; exact hcn)
        · rename_i hn; exact .inr ⟨trivial, by rw [if_neg hn], by simp only [hcn1, Option.none_or]; exact hcn⟩
    · -- what turns memory
      have h1 : e.rc.ef? = true := by rw [hrc]; rfl
      obtain ⟨k1, k2⟩ := I.ef_sub F hT hL ha h1
      rw [hh] at k2 hfree
      refine hop k hk _ _ _ _ _ _ _ _ hc her (I.hp.sub k1) wb hfree K Q (fun r w' hd => ?_)
      obtain ⟨y, d1, d2, d3⟩ := hd
      exact hK _ _ _ (I.close F hT hL ha ho d1 d2 k1 k2 (fun n hn => by rw [← hh]; exact hn) (by rw [hrc]; exact d3))
end Go.Abs
