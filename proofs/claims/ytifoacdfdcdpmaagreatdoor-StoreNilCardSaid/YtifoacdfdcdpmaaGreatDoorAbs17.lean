/- What is proved: a part of the proof of the tied card of StoreNil (text Abs17 of it). Conditions: those that its theorems name. -/
import Derived.Test.YtifoacdfdcdpmaaGreatDoorAbs16
set_option linter.unusedVariables false
set_option linter.unusedSimpArgs false
namespace Go.Abs
variable {P : Program} {Sg : FuncId → Option Sp} {x : Cx} {w : World}
theorem SRel.drew {s : St} {a : Act} (h : SRel x w s a) : SRel x w.drew s a := ⟨fun t => (h.tm t).mono mono_drew, h.nt, h.df, h.hp.drew⟩
theorem codeS_of {n : Nat} (hS : Sound P Sg) (hl : ListS P Sg n) (hd : DrawS P Sg n) (hc : CodeS P Sg n) (hlp : LoopS P Sg (n + 1)) : CodeS P Sg (n + 1) := by
  intro c s r x w a e hs hwf hf Q hQ
  cases c
  case loop c => exact wp_loop_rounds (n + 1) (hlp _ _ _ _ _ _ e hs hwf hf Q hQ)
  all_goals simp only [code] at e
  all_goals try (cases e; done)
  case skip => injection e with e; subst e; exact wp_skip (hQ _ _ ⟨x, Ext.refl, hs⟩)
  case region id ops draw =>
    cases draw with
    | true =>
      simp only [if_true] at e
      split at e
      · rename_i recs s' h1
        split at e
        · rename_i hok
          injection e with e
          subst e
          simp only [Bool.and_eq_true] at hok
          refine wp_region_any hS.mixed ?_
          refine hd _ _ _ _ _ x w.drew a h1 hok.1 hok.2 hwf hs.drew hf Q (fun a' w' hw => hQ _ _ ?_)
          obtain ⟨y, e1, r1⟩ := hw
          exact ⟨y, (Ext.drew (x := x) (n := s.hp.next)).trans e1 (Nat.le_refl _) ((grows (P := P) (Sg := Sg) n).2.2.1 _ _ _ _ h1).1, r1⟩
        · cases e
      · cases e
    | false =>
      simp only [Bool.false_eq_true, if_false] at e
      obtain ⟨s', h1, rfl⟩ := Option.map_eq_some_iff.1 e
      exact wp_region_list (hl _ _ _ _ _ _ _ h1 hs hwf hf Q (fun a' w' hw => hQ _ _ hw))
  case seq c1 c2 =>
    refine wp_seq ?_
    split at e
    · rename_i s1 h1
      have g1 := (grows (P := P) (Sg := Sg) n).1 _ _ _ h1
      have g2 := (grows (P := P) (Sg := Sg) n).1 _ _ _ e
      refine hc _ _ _ _ _ _ h1 hs hwf (hf.sub g2.1) _ (fun a1 w1 hw => ?_)
      obtain ⟨y, e1, hs1⟩ := hw
      exact hc _ _ _ _ _ _ e hs1 (g1.2 hwf) (hf.next e1 g1.1) Q (fun a2 w2 hw2 => hQ _ _ (Went.trans e1 hw2 g1.1 g2.1))
    · rename_i hne
      refine hc _ _ _ _ _ _ e hs hwf hf _ (fun a1 w1 hw => ?_)
      obtain ⟨ex, s1⟩ := r
      cases ex
      · exact absurd e (hne _)
      · exact hQ _ _ hw
      · exact hQ _ _ hw
  case cond y c1 c2 =>
    split at e
    · rename_i t ht
      have := srel_eval hs [y] y (by simp) _ ht
      generalize hp : a.eval y = p at this
      cases this
      exact wp_cond hp (hc _ _ _ _ _ _ e hs hwf hf Q hQ)
    · cases e
  case block id c1 =>
    refine wp_block ?_
    split at e
    · rename_i i s1 h1
      split at e
      · rename_i hi
        injection e with e
        subst e
        refine hc _ _ _ _ _ _ h1 hs hwf hf _ (fun a1 w1 hw => ?_)
        simp only [Ex.out, Exit.inBlock, hi, if_true]
        exact hQ _ _ hw
      · rename_i hi
        injection e with e
        subst e
        refine hc _ _ _ _ _ _ h1 hs hwf hf _ (fun a1 w1 hw => ?_)
        simp only [Ex.out, Exit.inBlock, hi, if_false]
        exact hQ _ _ hw
    · rename_i hne
      refine hc _ _ _ _ _ _ e hs hwf hf _ (fun a1 w1 hw => ?_)
      obtain ⟨ex, s1⟩ := r
      cases ex
      · exact hQ _ _ hw
      · exact absurd e (hne _ _)
      · exact hQ _ _ hw
  case exit id => injection e with e; subst e; exact wp_exit (hQ _ _ ⟨x, Ext.refl, hs⟩)
  case ret => injection e with e; subst e; exact wp_ret (hQ _ _ ⟨x, Ext.refl, hs⟩)
theorem loopS_of {n : Nat} (hc : CodeS P Sg n) (hlp : LoopS P Sg n) : LoopS P Sg (n + 1) := by
  intro c s r x w a e hs hwf hf Q hQ
  simp only [code] at e
  rw [rounds_succ]
  split at e
  · rename_i s1 h1
    have g1 := (grows (P := P) (Sg := Sg) n).1 _ _ _ h1
    have g2 := (grows (P := P) (Sg := Sg) n).1 _ _ _ e
    refine hc _ _ _ _ _ _ h1 hs hwf (hf.sub g2.1) _ (fun a1 w1 hw => ?_)
    obtain ⟨y, e1, hs1⟩ := hw
    exact hlp _ _ _ _ _ _ e hs1 (g1.2 hwf) (hf.next e1 g1.1) Q (fun a2 w2 hw2 => hQ _ _ (Went.trans e1 hw2 g1.1 g2.1))
  · rename_i hne
    refine hc _ _ _ _ _ _ e hs hwf hf _ (fun a1 w1 hw => ?_)
    obtain ⟨ex, s1⟩ := r
    cases ex
    · exact absurd e (hne _)
    · exact hQ _ _ hw
    · exact hQ _ _ hw
theorem args0_get : ∀ (l : List AV) (i : Nat) (t : Tr AV) (k : Nat), (args0 i l t).get k = if i ≤ k ∧ k < i + l.length then l[k - i]? else t.get k
  | [], i, t, k => by
    rw [if_neg (by simp)]
    first | done | rfl
  | v :: l, i, t, k => by
    rw [args0, args0_get l (i + 1), Tr.get_put]
    by_cases h : k = i
    · subst h
      rw [if_neg (by omega), if_pos rfl, if_pos (by simp)]
      simp
    · rw [if_neg h]
      by_cases h2 : i + 1 ≤ k ∧ k < i + 1 + l.length
      · rw [if_pos h2, if_pos (by simp; omega)]
        rw [show k - i = (k - (i + 1)) + 1 by omega]
        simp
      · rw [if_neg h2, if_neg (by simp; omega)]
theorem lf_get {α : Type} (k : Nat) : (Tr.lf : Tr α).get k = none := by
  unfold Tr.get
  cases k <;> rfl
theorem args_rel {as : List AV} {as' : Array Value} (h : VRels x w as as'.toList) (m : Nat) (t : Nat) : VRel x w (((args0 0 as .lf).get t).getD (.tup [])) ((as' ++ Array.replicate m undef).getD t undef) := by
  have hl := h.length
  rw [Array.length_toList] at hl
  rw [args0_get, Array.getD_eq_getD_getElem?, Array.getElem?_append]
  by_cases ht : t < as.length
  · rw [if_pos (by omega), if_pos (by omega)]
    obtain ⟨v, hv⟩ : ∃ v, as[t]? = some v := ⟨_, List.getElem?_eq_getElem ht⟩
    obtain ⟨v', h1, h2⟩ := h.get hv
    simp only [Nat.sub_zero]
    rw [hv, ← Array.getElem?_toList, h1]
    exact h2
  · rw [if_neg (by omega), if_neg (by omega), lf_get]
    have : (Array.replicate m undef)[t - as'.size]?.getD undef = undef := by
      rw [Array.getElem?_replicate]
      split <;> rfl
    rw [this]
    exact undef_rel
theorem load_asAddr {h : Hp} {t : TypeId} {a v : AV} {p : Value} (e : loadA P h t a = some v) (hr : HRel x h.blks.get w) (ha : VRel x w a p) :
    ∃ r, (do loadVar t (← asAddr p) : Sem Value).run P w = .ok r w ∧ VRel x w v r := by
  obtain ⟨r, r1, r2⟩ := load_sim e hr ha
  refine ⟨r, ?_, r2⟩
  have hp : ∃ ad, p = .pointer (some ad) := by
    unfold loadA at e
    split at e
    · cases ha; exact ⟨_, rfl⟩
    · cases ha; exact ⟨_, rfl⟩
    · cases e
  obtain ⟨ad, rfl⟩ := hp
  simpa [Instr.loadAt, Instr.sureAddr, asAddr] using r1
theorem results_sim {s : St} {a : Act} (hs : SRel x w s a) : ∀ {l : List ResultVar} {vs : List AV}, resA P s.hp s.tm l = some vs →
    ∃ us, (l.mapM (fun | .tmp t => pure (a.tmps.getD t undef) | .cell ad t => do loadVar t (← asAddr (a.tmps.getD ad undef)) : ResultVar → Sem Value)).run P w = .ok us w ∧ VRels x w vs us
  | [], vs, e => by
    simp only [resA] at e
    injection e with e
    subst e
    exact ⟨[], by simp, .nil⟩
  | .tmp t :: l, vs, e => by
    simp only [resA] at e
    split at e
    · rename_i l' h1
      injection e with e
      subst e
      obtain ⟨us, k1, k2⟩ := results_sim hs h1
      refine ⟨_ :: us, ?_, .cons _ _ _ _ (hs.tm t) k2⟩
      simp only [List.mapM_cons, Sem.run_bind, Sem.run_pure, Result.andThen_ok, k1]
    · cases e
  | .cell ad t :: l, vs, e => by
    simp only [resA] at e
    split at e
    · rename_i av l' hav h1
      split at e
      · rename_i v hv
        injection e with e
        subst e
        obtain ⟨us, k1, k2⟩ := results_sim hs h1
        have ha := hs.tm ad
        rw [hav] at ha
        obtain ⟨r, r1, r2⟩ := load_asAddr hv hs.hp ha
        refine ⟨r :: us, ?_, .cons _ _ _ _ r2 k2⟩
        simp only [List.mapM_cons]
        rw [Sem.run_bind, r1]
        simp only [Result.andThen_ok, Sem.run_bind, k1, Sem.run_pure]
      · cases e
    · cases e
theorem results_rel {s : St} {a : Act} {fn : Func} {vs : List AV} (hs : SRel x w s a) (e : resA P s.hp s.tm fn.results.toList = some vs) : ∃ v, (results fn a.tmps).run P w = .ok v w ∧ VRel x w (one vs) v := by
  obtain ⟨us, k1, k2⟩ := results_sim hs e
  have hm : (fn.results.mapM (fun | .tmp t => pure (a.tmps.getD t undef) | .cell ad t => do loadVar t (← asAddr (a.tmps.getD ad undef)) : ResultVar → Sem Value)).run P w = .ok us.toArray w := by
    rw [Array.mapM_eq_mapM_toList]
    simp only [Sem.run_map, k1, Result.andThen_ok]
  have hr : (results fn a.tmps).run P w = .ok (if h : us.toArray.size = 1 then us.toArray[0] else .tuple us.toArray) w := by
    unfold results
    rw [Sem.run_bind]
    have hm' := hm
    refine Eq.trans (congrArg (fun z => Result.andThen z _) hm') ?_
    simp only [Result.andThen_ok, Sem.run_pure]
  refine ⟨_, hr, ?_⟩
  have hl := k2.length
  match vs, us, k2 with
  | [], [], _ => exact .tup _ _ .nil
  | [v], [u], .cons _ _ _ _ h _ => exact h
  | v1 :: v2 :: vs, u1 :: u2 :: us, k2 => exact .tup _ _ k2
theorem callS_of {n : Nat} (hS : Sound P Sg) (hc : CodeS P Sg n) : CallS P Sg (n + 1) := by
  intro f as h v h' x w as' e ha hr hwf hf
  simp only [call] at e
  split at e
  · rename_i sp hsp
    split at e
    · rename_i v1 hv
      injection e with e
      injection e with e1 e2
      subst e1; subst e2
      exact (hS.spec _ _ hsp).2 _ _ _ _ _ _ hv ha hr
    · cases e
  · cases e
  · split at e
    · rename_i fn hfn
      split at e
      · rename_i c hcb
        have hlen := ha.length
        rw [Array.length_toList] at hlen
        have hs : SRel x w ⟨args0 0 as .lf, max fn.ntmps as.length, h⟩ { tmps := as' ++ Array.replicate (fn.ntmps - as'.size) undef, defers := [] } :=
          ⟨args_rel ha _, by simp only [Array.size_append, Array.size_replicate]; omega, rfl, hr⟩
        refine calls_of_wp hfn hcb ?_
        have fin : ∀ (ex : Ex) (s1 : St), code P Sg n c ⟨args0 0 as .lf, max fn.ntmps as.length, h⟩ = some (ex, s1) → ex.out = .normal ∨ ex.out = .ret → (resA P s1.hp s1.tm fn.results.toList).map (fun l => (one l, s1.hp)) = some (v, h') →
            c.wp P (bodyPost P fn fun e w' => ∃ r, e = .returned r ∧ Did x h w v h' r w') { tmps := as' ++ Array.replicate (fn.ntmps - as'.size) undef, defers := [] } w := by
          intro ex s1 h1 hex e
          obtain ⟨vs, hvs, h2⟩ := Option.map_eq_some_iff.1 e
          injection h2 with e1 e2
          subst e1; subst e2
          refine hc _ _ _ _ _ _ h1 hs hwf hf _ (fun a1 w1 hw => ?_)
          obtain ⟨y, e1, hs1⟩ := hw
          obtain ⟨r, r1, r2⟩ := results_rel hs1 hvs
          rcases hex with hex | hex <;> simp only [hex] <;> exact ⟨hs1.df, r, r1, r, rfl, y, e1, hs1.hp, r2⟩
        split at e
        · rename_i s1 h1; exact fin _ _ h1 (.inl rfl) e
        · rename_i s1 h1; exact fin _ _ h1 (.inr rfl) e
        · cases e
      · cases e
    · cases e
end Go.Abs
