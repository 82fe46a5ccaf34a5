/- What is proved: a part of the proof of the tied card of StoreNil (text Abs14 of it). Conditions: those that its theorems name. -/
import Derived.Test.YtifoacdfdcdpmaaGreatDoorAbs13b
set_option linter.unusedVariables false
set_option linter.unusedSimpArgs false
namespace Go.Abs
variable {P : Program} {x : Cx} {w : World}
def Nx.hp : Nx → Hp
  | .val _ h => h
  | .skip h => h
  | .enter _ _ h => h
def NDid (x : Cx) (h : Hp) (w : World) (r : Next) (w' : World) : Nx → Prop
  | .val v h' => ∃ u, r = .value u ∧ Did x h w v h' u w'
  | .skip h' => r = .skip ∧ Did x h w (.tup []) h' undef w'
  | .enter f as h' => ∃ as', r = .enter f as' ∧ h' = h ∧ w' = w ∧ VRels x w as as'.toList
/-- a function of the program that is entered when it is called -/
def Enters (P : Program) (f : FuncId) : Prop := ∃ fn, P.funcs[f]? = some fn ∧ fn.body.isNone = false ∧ (fn.name == "runtime.NumGoroutine") = false
theorem nx_val {h h' : Hp} {v : AV} {s : Sem Value} {nx : Nx} (hn : some nx = some (.val v h')) (hs : ∃ r w', s.run P w = .ok r w' ∧ Did x h w v h' r w') :
    ∃ r w', (do pure (.value (← s)) : Sem Next).run P w = .ok r w' ∧ NDid x h w r w' nx := by
  injection hn with hn
  subst hn
  obtain ⟨r, w', h1, h2⟩ := hs
  exact ⟨.value r, w', by simp [h1], r, rfl, h2⟩
theorem nx_vl {h : Hp} {o : Option AV} {s : Sem Value} {nx : Nx} (hr : HRel x h.blks.get w) (hn : vl h o = some nx) (hs : ∀ v, o = some v → ∃ r, s.run P w = .ok r w ∧ VRel x w v r) :
    ∃ r w', (do pure (.value (← s)) : Sem Next).run P w = .ok r w' ∧ NDid x h w r w' nx := by
  unfold vl at hn
  obtain ⟨v, h1, rfl⟩ := Option.map_eq_some_iff.1 hn
  obtain ⟨r, k1, k2⟩ := hs v h1
  exact nx_val rfl ⟨r, w, k1, Did.same hr k2⟩
theorem nx_skip {h : Hp} {o : Option Hp} {s : Sem Unit} {nx : Nx} (hn : o.map .skip = some nx) (hs : ∀ h', o = some h' → ∃ w', s.run P w = .ok () w' ∧ Did x h w (.tup []) h' undef w') :
    ∃ r w', (do s; pure .skip : Sem Next).run P w = .ok r w' ∧ NDid x h w r w' nx := by
  obtain ⟨h', h1, rfl⟩ := Option.map_eq_some_iff.1 hn
  obtain ⟨w', k1, k2⟩ := hs h' h1
  exact ⟨.skip, w', by simp [k1], rfl, k2⟩
theorem nx_map {h : Hp} {o : Option (AV × Hp)} {s : Sem Value} {nx : Nx} (hn : (o.map fun r => Nx.val r.1 r.2) = some nx) (hs : ∀ v h', o = some (v, h') → ∃ r w', s.run P w = .ok r w' ∧ Did x h w v h' r w') :
    ∃ r w', (do pure (.value (← s)) : Sem Next).run P w = .ok r w' ∧ NDid x h w r w' nx := by
  obtain ⟨⟨v, h'⟩, h1, rfl⟩ := Option.map_eq_some_iff.1 hn
  exact nx_val rfl (hs v h' h1)
theorem optO_rel {tm : Tr AV} {ρ : Operand → Value} {o : Option Operand} {v : Option AV} (h : optO tm o = some v) (he : ∀ y, o = some y → ∀ v, evalO tm y = some v → VRel x w v (ρ y)) : OR x w v (o.map ρ) := by
  cases o with
  | none => simp [optO] at h; subst h; trivial
  | some y =>
    obtain ⟨a, h1, rfl⟩ := Option.map_eq_some_iff.1 h
    exact he y rfl a h1
theorem builtin_sim {h h' : Hp} {b : Builtin} {ts : Array TypeId} {ty : TypeId} {consts : Array Bool} {as : List AV} {vs : Array Value} {v : AV} (e : builtinA P h b ts.toList as = some (v, h')) (hr : HRel x h.blks.get w) (ha : VRels x w as vs.toList)
    (hf : ∀ n, h.next ≤ n → n < h'.next → x.m n = none) : ∃ r w', (builtin b ts ty consts vs).run P w = .ok (.value r) w' ∧ Did x h w v h' r w' := by
  obtain ⟨vs⟩ := vs
  obtain ⟨ts⟩ := ts
  unfold builtinA at e
  split at e
  · -- len
    rename_i a
    match vs, ha with
    | [p], .cons _ _ _ _ hp _ =>
    have key : ∀ n : Int, (Builtin.len_ ⟨ts⟩ ty ⟨[p]⟩).run P w = .ok (goInt n) w → v = .int .i64 n → h' = h → ∃ r w', (builtin .len ⟨ts⟩ ty consts ⟨[p]⟩).run P w = .ok (.value r) w' ∧ Did x h w v h' r w' := by
      rintro n k1 rfl rfl
      exact ⟨goInt n, w, by simp [builtin, k1], Did.same hr (.int _ _)⟩
    split at e
    · rename_i t heq
      simp only [] at heq
      subst heq
      split at e
      · rename_i s hu
        injection e with e
        injection e with e1 e2
        cases hp with | str s' _ hs =>
        refine key s.length ?_ e1.symm e2.symm
        have : s.length = s'.size := by rw [← hs]; simp
        simp [Builtin.len_, run_underlying hu, this]
      · cases e
      · rename_i hu hns
        split at e
        · rename_i n hl
          injection e with e
          injection e with e1 e2
          obtain ⟨A, cap, rfl⟩ := lenA_slice hl (fun s hs => hns s hs) hp
          refine key n ?_ e1.symm e2.symm
          simp [Builtin.len_, run_underlying hu]
        · cases e
      · rename_i hu
        injection e with e
        injection e with e1 e2
        cases hp
        refine key 0 ?_ e1.symm e2.symm
        simp [Builtin.len_, run_underlying hu]
      · rename_i n hu
        split at e
        · rename_i es clock hb
          injection e with e
          injection e with e1 e2
          cases hp with | map _ c hm =>
          obtain ⟨c', h1, ⟨es', h2, h3⟩, _⟩ := hr.blk _ _ hb
          rw [hm] at h1; cases h1
          refine key es.length ?_ e1.symm e2.symm
          have := h3.length
          rw [Array.length_toList] at this
          simp [Builtin.len_, run_underlying hu, run_getObj' h2, this]
        · cases e
      · cases e
    · cases e
  · -- cap
    rename_i a
    match vs, ha with
    | [p], .cons _ _ _ _ hp _ =>
    have key : ∀ n : Int, (Builtin.cap_ ⟨ts⟩ ty ⟨[p]⟩).run P w = .ok (goInt n) w → v = .int .i64 n → h' = h → ∃ r w', (builtin .cap ⟨ts⟩ ty consts ⟨[p]⟩).run P w = .ok (.value r) w' ∧ Did x h w v h' r w' := by
      rintro n k1 rfl rfl
      exact ⟨goInt n, w, by simp [builtin, k1], Did.same hr (.int _ _)⟩
    split at e
    · rename_i t heq
      simp only [] at heq
      subst heq
      split at e
      · rename_i hu
        injection e with e
        injection e with e1 e2
        cases hp
        refine key 0 ?_ e1.symm e2.symm
        simp [Builtin.cap_, run_underlying hu]
      · rename_i hu
        injection e with e
        injection e with e1 e2
        cases hp
        refine key 0 ?_ e1.symm e2.symm
        simp [Builtin.cap_, run_underlying hu]
      · rename_i cap _ hu
        injection e with e
        injection e with e1 e2
        cases hp with | sl _ _ _ _ _ _ c cap' hm hc he hl hk =>
        refine key cap ?_ e1.symm e2.symm
        simp [Builtin.cap_, run_underlying hu, he rfl]
      · cases e
    · cases e
  · -- append
    rename_i s a
    match vs, ha with
    | [p, q], .cons _ _ _ _ hp (.cons _ _ _ _ hq _) =>
    split at e
    · rename_i t t' heq
      simp only [] at heq
      subst heq
      split at e
      · rename_i el he hst
        split at e
        · rename_i i hi
          split at e
          · rename_i z cs k hz hsrc hlen
            split at e
            · rename_i hcs
              obtain ⟨news, s1, s2, s3⟩ := src_sim hsrc hlen hst hq hr hcs.1
              obtain ⟨r, w', r1, r2⟩ := append_sim e (elemT_form he) hi hz hcs.2 hp s1 s2 hr hf (ty := ty)
              exact ⟨r, w', by simp [builtin, r1], r2⟩
            · cases e
          · cases e
        · cases e
      · cases e
    · cases e
  · -- unsafe.SliceData
    rename_i a
    match vs, ha with
    | [p], .cons _ _ _ _ hp _ =>
    split at e
    · injection e with e
      injection e with e1 e2
      subst e1; subst e2
      cases hp
      exact ⟨.pointer none, w, by simp [builtin, Lib.run_unsafeSliceData_nil], Did.same hr .nilptr⟩
    · rename_i n off len cap ex es
      split at e
      · rename_i hcap
        injection e with e
        injection e with e1 e2
        subst e1; subst e2
        cases hp with | sl _ _ _ _ _ _ c cap' hm hc he hl hk =>
        have hrun := Lib.run_unsafeSliceData_row (P := P) w ⟨ts⟩ ty ⟨c, off, none⟩ len cap' (by omega)
        exact ⟨.pointer (some ⟨c, off, none⟩), w, by simp [builtin, hrun], Did.same hr (.ptr _ _ _ hm)⟩
      · cases e
    · cases e
  · -- unsafe.String
    rename_i a k
    match vs, ha with
    | [p, q], .cons _ _ _ _ hp (.cons _ _ _ _ hq _) =>
    cases hq
    split at e
    · rename_i pt it heq
      simp only [] at heq
      subst heq
      split at e
      · rename_i hk
        subst hk
        have hrun := fun pa => Lib.run_unsafeString_none (P := P) w pt it ty pa
        split at e
        · injection e with e
          injection e with e1 e2
          subst e1; subst e2
          cases hp
          exact ⟨.string .empty, w, by simp only [builtin, Sem.run_bind]; rw [hrun]; simp, Did.same hr (.str _ _ rfl)⟩
        · injection e with e
          injection e with e1 e2
          subst e1; subst e2
          cases hp
          exact ⟨.string .empty, w, by simp only [builtin, Sem.run_bind]; rw [hrun]; simp, Did.same hr (.str _ _ rfl)⟩
        · cases e
      · split at e
        · split at e
          · rename_i cs et e' hb hpt
            split at e
            · rename_i i hi
              split at e
              · rename_i hc
                obtain ⟨l, hl, h2⟩ := Option.map_eq_some_iff.1 e
                injection h2 with e1 e2
                subst e1; subst e2
                obtain ⟨w', r1, r2⟩ := str_sim0 (it := it) (ty := ty) hb hpt hi hc hl hr hp
                exact ⟨_, w', by simp only [builtin, Sem.run_bind]; rw [r1]; simp, r2⟩
              · cases e
            · cases e
          · cases e
        · cases e
    · cases e
  · rename_i a l
    obtain ⟨u, h1, h2⟩ := Option.map_eq_some_iff.1 e
    injection h2 with e1 e2
    subst e1; subst e2
    match vs, ha with
    | p :: l', .cons _ _ _ _ hp hs =>
    obtain ⟨r, r1, r2⟩ := min_sim (P := P) false h1 hp hs
    refine ⟨r, w, ?_, Did.same hr r2⟩
    simp only [Bool.false_eq_true, if_false] at r1
    simp [builtin, Builtin.min_, r1]
  · rename_i a l
    obtain ⟨u, h1, h2⟩ := Option.map_eq_some_iff.1 e
    injection h2 with e1 e2
    subst e1; subst e2
    match vs, ha with
    | p :: l', .cons _ _ _ _ hp hs =>
    obtain ⟨r, r1, r2⟩ := min_sim (P := P) true h1 hp hs
    refine ⟨r, w, ?_, Did.same hr r2⟩
    simp only [if_true] at r1
    simp [builtin, Builtin.max_, r1]
  · cases e

theorem parts_rel {tm : Tr AV} {ρ : Operand → Value} {parts : Array (Nat × Operand)} {ps : List (Nat × AV)} (he : ∀ y ∈ (parts.toList.map (·.2)), ∀ v, evalO tm y = some v → VRel x w v (ρ y)) (h : evalParts tm parts.toList = some ps) :
    ps.map (·.1) = (parts.map fun (i, x) => (i, ρ x)).toList.map (·.1) ∧ VRels x w (ps.map (·.2)) ((parts.map fun (i, x) => (i, ρ x)).toList.map (·.2)) := by
  obtain ⟨h1, h2⟩ := evalParts_rel he h
  refine ⟨?_, ?_⟩
  · simpa [Function.comp_def] using h1
  · simpa [Function.comp_def] using h2
theorem opA_sim {h : Hp} {tm : Tr AV} {o : Oper} {nx : Nx} {ρ : Operand → Value} (e : opA P tm h o.op = some nx) (he : ER x w tm ρ o.op.operands.toList) (hr : HRel x h.blks.get w)
    (hf : ∀ n, h.next ≤ n → n < nx.hp.next → x.m n = none) (hen : ∀ f as h', nx = .enter f as h' → Enters P f) : ∃ r w', (execOp ρ o).run P w = .ok r w' ∧ NDid x h w r w' nx := by
  obtain ⟨dst, op, type, pos, after, g⟩ := o
  simp only [] at e he
  cases op <;> simp only [opA] at e <;> (try (cases e; done))
  case move y => exact ⟨_, w, rfl, by
    obtain ⟨v, h1, rfl⟩ := Option.map_eq_some_iff.1 e
    exact ⟨_, rfl, Did.same hr (he y (by simp [Op.operands]) v h1)⟩⟩
  case assign y => exact ⟨_, w, rfl, by
    obtain ⟨v, h1, rfl⟩ := Option.map_eq_some_iff.1 e
    exact ⟨_, rfl, Did.same hr (he y (by simp [Op.operands]) v h1)⟩⟩
  case pick c a b =>
    split at e
    · rename_i t hc
      obtain ⟨v, h1, rfl⟩ := Option.map_eq_some_iff.1 e
      have hcr := he c (by simp [Op.operands]) _ hc
      generalize hpc : ρ c = pc at hcr
      cases hcr
      cases t
      · exact ⟨.value (ρ b), w, by simp [execOp, hpc, asBool], _, rfl, Did.same hr (he b (by simp [Op.operands]) v h1)⟩
      · exact ⟨.value (ρ a), w, by simp [execOp, hpc, asBool], _, rfl, Did.same hr (he a (by simp [Op.operands]) v h1)⟩
    · cases e
  case alloc t =>
    split at e
    · rename_i z hz
      refine nx_val e.symm (alloc_sim hz hr (hf _ (Nat.le_refl _) ?_))
      injection e with e; subst e
      exact Nat.lt_succ_self _
    · cases e
  case box t y =>
    split at e
    · rename_i v hv
      refine nx_val e.symm (box_sim (he y (by simp [Op.operands]) v hv) hr (hf _ (Nat.le_refl _) ?_))
      injection e with e; subst e
      exact Nat.lt_succ_self _
    · cases e
  case build t parts =>
    split at e
    · rename_i z ps fs hz hps hu
      split at e
      · rename_i pl hpl
        obtain ⟨h1, h2⟩ := parts_rel (fun y hy => he y (by simpa [Op.operands] using hy)) hps
        refine nx_vl hr e (fun v hv => ?_)
        obtain ⟨out, h3, rfl⟩ := Option.map_eq_some_iff.1 hv
        exact build_struct_sim hz hu hpl h3 h1 h2
      · cases e
    · rename_i z ps k el hz hps hu
      split at e
      · rename_i s hs
        obtain ⟨h1, h2⟩ := parts_rel (fun y hy => he y (by simpa [Op.operands] using hy)) hps
        refine nx_vl hr e (fun v hv => ?_)
        obtain ⟨out, h3, rfl⟩ := Option.map_eq_some_iff.1 hv
        exact build_array_sim hz hu hs h3 h1 h2
      · cases e
    · cases e
  case buildSlice t len parts =>
    split at e
    · rename_i el ps hel hps
      split at e
      · rename_i s z hs hz
        split at e
        · rename_i hl
          split at e
          · rename_i cs hcs
            obtain ⟨h1, h2⟩ := parts_rel (fun y hy => he y (by simpa [Op.operands] using hy)) hps
            refine nx_val e.symm (buildSlice_sim hel hs hz hl hcs h1 h2 hr (hf _ (Nat.le_refl _) ?_))
            injection e with e; subst e
            exact Nat.lt_succ_self _
          · cases e
        · cases e
      · cases e
    · cases e
  case load t a =>
    split at e
    · rename_i av hav
      exact nx_vl hr e (fun v hv => load_sim hv hr (he a (by simp [Op.operands]) _ hav))
    · cases e
  case store t a y =>
    split at e
    · rename_i av yv hav hyv
      exact nx_skip e (fun h' hv => store_sim hv hr (he a (by simp [Op.operands]) _ hav) (he y (by simp [Op.operands]) _ hyv))
    · cases e
  case nilCheck y =>
    split at e
    · rename_i n off hy
      injection e with e; subst e
      have hcr := he y (by simp [Op.operands]) _ hy
      generalize hpc : ρ y = pc at hcr
      have hcr' := hcr
      cases hcr
      exact ⟨.value _, w, by simp [execOp, hpc], _, rfl, Did.same hr hcr'⟩
    · rename_i cells hy
      injection e with e; subst e
      have hcr := he y (by simp [Op.operands]) _ hy
      generalize hpc : ρ y = pc at hcr
      have hcr' := hcr
      cases hcr
      exact ⟨.value _, w, by simp [execOp, hpc], _, rfl, Did.same hr hcr'⟩
    · rename_i f a b hy
      injection e with e; subst e
      have hcr := he y (by simp [Op.operands]) _ hy
      generalize hpc : ρ y = pc at hcr
      have hcr' := hcr
      cases hcr
      exact ⟨.value _, w, by simp [execOp, hpc], _, rfl, Did.same hr hcr'⟩
    · cases e
  case binOp op t a b _ =>
    split at e
    · rename_i av bv hav hbv
      exact nx_vl hr e (fun v hv => bin_sim hv (he a (by simp [Op.operands]) _ hav) (he b (by simp [Op.operands]) _ hbv))
    · cases e
  case unOp op t a =>
    split at e
    · rename_i av hav
      exact nx_vl hr e (fun v hv => un_sim hv (he a (by simp [Op.operands]) _ hav))
    · cases e
  case convert s d a =>
    split at e
    · rename_i av hav
      obtain ⟨v, h1, rfl⟩ := Option.map_eq_some_iff.1 e
      split at h1
      · rename_i v' h2
        injection h1 with h1; subst h1
        exact nx_val rfl (conv_sim h2 hr (he a (by simp [Op.operands]) _ hav))
      · obtain ⟨r, r1, r2⟩ := convU_sim h1 hr (he a (by simp [Op.operands]) _ hav)
        exact nx_val rfl ⟨r, w, r1, Did.same hr r2⟩
    · cases e
  case makeFunc fn a b =>
    split at e
    · rename_i al bl hal hbl
      injection e with e; subst e
      have h1 := evalL_rel (fun y hy => he y (by simp [Op.operands] at hy ⊢; exact .inl hy)) hal
      have h2 := evalL_rel (fun y hy => he y (by simp [Op.operands] at hy ⊢; exact .inr hy)) hbl
      refine ⟨.value (.func fn (a.map ρ) (b.map ρ)), w, by simp [execOp, Instr.makeFunc], _, rfl, Did.same hr (.func _ _ _ _ _ (by simpa using h1) (by simpa using h2))⟩
    · cases e
  case makeMap t r =>
    cases r with
    | some r => cases e
    | none =>
      simp only [opA] at e
      refine nx_val e.symm (makeMap_sim hr (hf _ (Nat.le_refl _) ?_))
      injection e with e; subst e
      exact Nat.lt_succ_self _
  case makeSlice t l c =>
    split at e
    · rename_i el l c hel hl hc
      split at e
      · rename_i i z hi hz
        split at e
        · rename_i hcond
          have h1 := he _ (by simp [Op.operands]) _ hl
          have h2 := he _ (by simp [Op.operands]) _ hc
          generalize hp1 : ρ _ = p1 at h1
          generalize hp2 : ρ _ = p2 at h2
          cases h1; cases h2
          simp only [execOp, hp1, hp2]
          refine nx_val e.symm (makeSlice_sim hel hi hz hcond hr (hf _ (Nat.le_refl _) ?_))
          injection e with e; subst e
          exact Nat.lt_succ_self _
        · cases e
      · cases e
    · cases e
  case slice t y lo hi mx =>
    split at e
    · rename_i yv lov hiv mxv hy hlo hhi hmx
      exact nx_vl hr e (fun v hv => slice_sim hv (he y (by simp [Op.operands]) _ hy)
        (optO_rel hlo fun z hz => he z (by simp [Op.operands, hz])) (optO_rel hhi fun z hz => he z (by simp [Op.operands, hz])) (optO_rel hmx fun z hz => he z (by simp [Op.operands, hz])))
    · cases e
  case fieldAddr s y f =>
    split at e
    · rename_i av hav
      exact nx_vl hr e (fun v hv => fieldAddr_sim hv (he y (by simp [Op.operands]) _ hav))
    · cases e
  case field s y f =>
    split at e
    · rename_i av hav
      exact nx_vl hr e (fun v hv => field_sim hv (he y (by simp [Op.operands]) _ hav))
    · cases e
  case indexAddr t a b =>
    split at e
    · rename_i av bv hav hbv
      exact nx_vl hr e (fun v hv => indexAddr_sim hv (he a (by simp [Op.operands]) _ hav) (he b (by simp [Op.operands]) _ hbv))
    · cases e
  case index t a b =>
    split at e
    · rename_i av bv hav hbv
      exact nx_vl hr e (fun v hv => index_sim hv (he a (by simp [Op.operands]) _ hav) (he b (by simp [Op.operands]) _ hbv))
    · cases e
  case lookup t a b ok =>
    split at e
    · rename_i av bv hav hbv
      exact nx_vl hr e (fun v hv => lookup_sim hv hr (he a (by simp [Op.operands]) _ hav) (he b (by simp [Op.operands]) _ hbv))
    · cases e
  case mapUpdate t m k y =>
    split at e
    · rename_i mv kv yv hmv hkv hyv
      exact nx_skip e (fun h' hv => update_sim hv hr (he m (by simp [Op.operands]) _ hmv) (he k (by simp [Op.operands]) _ hkv) (he y (by simp [Op.operands]) _ hyv))
    · cases e
  case range t y =>
    split at e
    · rename_i yv hyv
      refine nx_map e (fun v h' hv => range_sim hv hr (he y (by simp [Op.operands]) _ hyv) (hf _ (Nat.le_refl _) ?_))
      rw [hv] at e
      injection e with e
      subst e
      unfold rangeA at hv
      split at hv
      · injection hv with hv; injection hv with _ hv; subst hv; exact Nat.lt_succ_self _
      · injection hv with hv; injection hv with _ hv; subst hv; exact Nat.lt_succ_self _
      · split at hv
        · injection hv with hv; injection hv with _ hv; subst hv; exact Nat.lt_succ_self _
        · cases hv
      · cases hv
    · cases e
  case next it s =>
    split at e
    · rename_i yv hyv
      exact nx_map e (fun v h' hv => next_sim hv hr (he it (by simp [Op.operands]) _ hyv))
    · cases e
  case extract t i =>
    split at e
    · rename_i vs hvs
      exact nx_vl hr e (fun v hv => extract_sim hv (he t (by simp [Op.operands]) _ hvs))
    · cases e
  case call c =>
    split at e
    · rename_i b hcal
      split at e
      · rename_i as has
        obtain ⟨⟨v, h'⟩, h1, rfl⟩ := Option.map_eq_some_iff.1 e
        have hargs := evalL_rel (fun y hy => he y (by simp only [Op.operands, Call.operands, hcal]; simpa using hy)) has
        obtain ⟨r, w', r1, r2⟩ := builtin_sim (ty := type) (consts := c.args.map fun | .const _ => true | _ => false) (vs := c.args.map ρ) h1 hr (by simpa using hargs) hf
        exact ⟨.value r, w', by simp [execOp, resolve, hcal, invoke]; exact r1, r, rfl, r2⟩
      · cases e
    · rename_i fo hcal
      split at e
      · rename_i f first caps as hfo has
        injection e with e; subst e
        have h1 := he fo (by simp [Op.operands, Call.operands, hcal]) _ hfo
        have h2 := evalL_rel (fun y hy => he y (by simp only [Op.operands, Call.operands, hcal]; simp at hy ⊢; exact .inr hy)) has
        generalize hpf : ρ fo = pf at h1
        cases h1 with | func _ _ _ first' caps' g1 g2 =>
        obtain ⟨fn, b1, b2, b3⟩ := hen _ _ _ rfl
        refine ⟨.enter f (first' ++ c.args.map ρ ++ caps'), w, ?_, _, rfl, rfl, rfl, ?_⟩
        · have b2' : fn.body ≠ none := by intro hn; rw [hn] at b2; cases b2
          have b3' : fn.name ≠ "runtime.NumGoroutine" := by simpa using b3
          simp [execOp, resolve, hcal, hpf, Deferred.ofValue, invoke, callFunc, b1, b2', b3']
        · have := (g1.app h2).app g2
          simpa using this
      · cases e
    · cases e
theorem opA_enter {h h' : Hp} {tm : Tr AV} {o : Oper} {f : FuncId} {as : List AV} {ρ : Operand → Value} (e : opA P tm h o.op = some (.enter f as h')) (he : ER x w tm ρ o.op.operands.toList) :
    h' = h ∧ ∃ as', (execOp ρ o).run P w = (callFunc f as').run P w ∧ VRels x w as as'.toList := by
  obtain ⟨dst, op, type, pos, after, g⟩ := o
  simp only [] at e he
  cases op <;> simp only [opA] at e <;> (try (cases e; done))
  case makeMap t r => cases r <;> simp only [opA] at e <;> cases e
  case call c =>
    split at e
    · split at e
      · obtain ⟨_, _, h2⟩ := Option.map_eq_some_iff.1 e; cases h2
      · cases e
    · rename_i fo hcal
      split at e
      · rename_i f' first caps as' hfo has
        injection e with e
        injection e with e1 e2 e3
        subst e1; subst e2; subst e3
        refine ⟨rfl, ?_⟩
        have h1 := he fo (by simp [Op.operands, Call.operands, hcal]) _ hfo
        have h2 := evalL_rel (fun y hy => he y (by simp only [Op.operands, Call.operands, hcal]; simp at hy ⊢; exact .inr hy)) has
        generalize hpf : ρ fo = pf at h1
        cases h1 with | func _ _ _ first' caps' g1 g2 =>
        refine ⟨first' ++ c.args.map ρ ++ caps', ?_, ?_⟩
        · simp [execOp, resolve, hcal, hpf, Deferred.ofValue, invoke]
        · have := (g1.app h2).app g2
          simpa using this
      · cases e
    · cases e
  all_goals (repeat' split at e)
  all_goals first
    | (cases e; done)
    | (obtain ⟨_, _, h2⟩ := Option.map_eq_some_iff.1 e; cases h2)
    | (unfold vl at e; obtain ⟨_, _, h2⟩ := Option.map_eq_some_iff.1 e; cases h2)
end Go.Abs
