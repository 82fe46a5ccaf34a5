/- What is proved: a part of the proof of the tied card of StoreNil (text Abs13 of it). Conditions: those that its theorems name. -/
import Derived.Test.YtifoacdfdcdpmaaGreatDoorAbs12
set_option linter.unusedVariables false
set_option linter.unusedSimpArgs false
namespace Go.Abs
variable {P : Program} {x : Cx} {w : World}
theorem range_sim {h h' : Hp} {t : TypeId} {a v : AV} {p : Value} (e : rangeA P h t a = some (v, h')) (hr : HRel x h.blks.get w) (ha : VRel x w a p) (hf : x.m h.next = none) :
    ∃ r w', (Instr.range t p).run P w = .ok r w' ∧ Did x h w v h' r w' := by
  unfold rangeA at e
  split at e
  · rename_i l hu
    injection e with e
    injection e with e1 e2
    subst e1; subst e2
    cases ha with | str s _ hs =>
    obtain ⟨y, k1, k2, k3, _⟩ := new_sim (b := .siter l 0) (o := .stringIter s 0) 0 hr hf (fun y u hm hu => ⟨s, hu, hs⟩)
    refine ⟨_, _, ?_, y, k1, k2, .ptr _ _ 0 k3⟩
    simp [Instr.range, run_underlying hu]
  · rename_i hu
    injection e with e
    injection e with e1 e2
    subst e1; subst e2
    cases ha
    obtain ⟨y, k1, k2, k3, _⟩ := new_sim (b := .miter none 0 [] 0) (o := .mapIter none 0 #[] 0) 0 hr hf (fun y u hm hu => ⟨none, hu, .inl ⟨rfl, rfl⟩⟩)
    refine ⟨_, _, ?_, y, k1, k2, .ptr _ _ 0 k3⟩
    simp [Instr.range, run_underlying hu]
  · rename_i m hu
    split at e
    · rename_i es clock hb
      injection e with e
      injection e with e1 e2
      subst e1; subst e2
      cases ha with | map _ c hm =>
      obtain ⟨c', h1, ⟨es', h2, h3⟩, _⟩ := hr.blk _ _ hb
      rw [hm] at h1; cases h1
      obtain ⟨y, k1, k2, k3, _⟩ := new_sim (b := .miter (some m) clock [] clock) (o := .mapIter (some c) clock #[] clock) 0 hr hf (fun y u hmo hu => ⟨some c, hu, .inr ⟨m, c, rfl, rfl, hmo.m _ _ hm⟩⟩)
      refine ⟨_, _, ?_, y, k1, k2, .ptr _ _ 0 k3⟩
      simp [Instr.range, run_underlying hu, run_getObj' h2]
    · cases e
  · cases e
theorem next_sim {h h' : Hp} {a v : AV} {p : Value} {str : Bool} {ty : TypeId} (e : nextA h a str = some (v, h')) (hr : HRel x h.blks.get w) (ha : VRel x w a p) :
    ∃ r w', (Instr.next p str ty).run P w = .ok r w' ∧ Did x h w v h' r w' := by
  unfold nextA at e
  split at e
  · rename_i n
    cases ha with | ptr _ c _ hm =>
    split at e
    · -- string
      rename_i l pos hb
      obtain ⟨c', h1, ⟨s, h2, h3⟩, _⟩ := hr.blk _ _ hb
      rw [hm] at h1; cases h1
      have hsz : l.length = s.size := by rw [← h3]; simp
      have hs : (⟨l.toArray⟩ : ByteArray) = s := by rw [← h3]
      split at e
      · rename_i hp
        injection e with e
        injection e with e1 e2
        subst e1; subst e2
        have hnew : ∀ u, Mono x w x u → u.heap[c]? = some (.stringIter s (pos + (Utf8.decode s pos).2)) → BRel x u (x.κ n) c (.siter l (pos + (Utf8.decode s pos).2)) :=
          fun u hmo hu => ⟨s, hu, h3⟩
        rw [hs]
        refine ⟨_, World.setO w c (.stringIter s (pos + (Utf8.decode s pos).2)), ?_, x, (setObj_sim hb hr hm hnew).1, (setObj_sim hb hr hm hnew).2, .tup _ #[_, _, _] (.cons _ _ _ _ (.bool _) (.cons _ _ _ _ (.int _ _) (.one (.int _ _))))⟩
        rw [hsz] at hp
        simp [Instr.next, run_getObj' h2, hp, goInt]
        rw [run_setObj' h2 (by simp)]; rfl
      · rename_i hp
        injection e with e
        injection e with e1 e2
        subst e1; subst e2
        rw [hsz] at hp
        refine ⟨.tuple #[.bool false], w, ?_, Did.same hr (.tup _ #[_] (.one (.bool _)))⟩
        simp [Instr.next, run_getObj' h2, hp]
    · rename_i since seen st hb
      injection e with e
      injection e with e1 e2
      subst e1; subst e2
      obtain ⟨c', h1, ⟨m', h2, h3⟩, _⟩ := hr.blk _ _ hb
      rw [hm] at h1; cases h1
      rcases h3 with ⟨_, rfl⟩ | ⟨_, _, h3, _⟩
      · refine ⟨.tuple #[.bool false], w, ?_, Did.same hr (.tup _ #[_] (.one (.bool _)))⟩
        simp [Instr.next, run_getObj' h2]
      · cases h3
    · rename_i m since seen st hb
      obtain ⟨c', h1, ⟨m', h2, h3⟩, _⟩ := hr.blk _ _ hb
      rw [hm] at h1; cases h1
      rcases h3 with ⟨h3, _⟩ | ⟨m1, cm, h3, rfl, hmm⟩
      · cases h3
      cases h3
      split at e
      · rename_i clock hbm
        injection e with e
        injection e with e1 e2
        subst e1; subst e2
        obtain ⟨c', h1, ⟨es', h4, h5⟩, _⟩ := hr.blk _ _ hbm
        rw [hmm] at h1; cases h1
        have : es' = #[] := by
          rcases es' with ⟨l⟩
          cases l with
          | nil => rfl
          | cons a b => cases h5
        subst this
        refine ⟨.tuple #[.bool false], w, ?_, Did.same hr (.tup _ #[_] (.one (.bool _)))⟩
        simp [Instr.next, run_getObj' h2, run_getObj' h4, Question.forced]
      · rename_i k0 v0 b clock hbm
        obtain ⟨c', h1, ⟨es', h4, h5⟩, _⟩ := hr.blk _ _ hbm
        rw [hmm] at h1; cases h1
        obtain ⟨en, rfl, g1, g2, g3⟩ : ∃ en : MapEntry, es' = #[en] ∧ VRel x w k0 en.key ∧ VRel x w v0 en.val ∧ en.born = b := by
          rcases es' with ⟨l⟩
          match l, h5 with
          | [en], h5 => exact ⟨en, rfl, h5.1, h5.2.1, h5.2.2.1⟩
        split at e
        · rename_i hlt
          obtain ⟨hlt, hse⟩ := hlt
          have hne : (!seen.isEmpty && (decide (st ≤ b))) = false := by
            cases hsn : seen.isEmpty with
            | true => rfl
            | false =>
              rw [hsn] at hse
              simp only [Bool.false_or, decide_eq_true_eq] at hse
              simpa using hse
          split at e
          · rename_i hc
            injection e with e
            injection e with e1 e2
            subst e1; subst e2
            refine ⟨.tuple #[.bool false], w, ?_, Did.same hr (.tup _ #[_] (.one (.bool _)))⟩
            simp only [List.contains_iff_mem] at hc
            simp [Instr.next, run_getObj' h2, run_getObj' h4, Question.forced, g3, hc]
            simpa using hne
          · rename_i hc
            injection e with e
            injection e with e1 e2
            subst e1; subst e2
            have hnew : ∀ u, Mono x w x u → u.heap[c]? = some (.mapIter (some cm) since (seen.toArray.push b) clock) → BRel x u (x.κ n) c (.miter (some m) since (seen ++ [b]) clock) :=
              fun u hmo hu => ⟨some cm, by simpa using hu, .inr ⟨m, cm, rfl, rfl, hmo.m _ _ hmm⟩⟩
            refine ⟨.tuple #[.bool true, en.key, en.val], World.setO w c (.mapIter (some cm) since (seen.toArray.push b) clock), ?_, x, (setObj_sim hb hr hm hnew).1, (setObj_sim hb hr hm hnew).2, ?_⟩
            · simp only [List.contains_iff_mem] at hc
              simp [Instr.next, run_getObj' h2, run_getObj' h4, Question.forced, g3, hc, hlt, run_setObj' h2]
              simpa using hne
            · have hmo := (setObj_sim hb hr hm hnew).1.mono hr
              exact .tup _ #[_, _, _] (.cons _ _ _ _ (.bool _) (.cons _ _ _ _ (g1.mono hmo) (.one (g2.mono hmo))))
        · cases e
      · cases e
    · cases e
  · cases e
theorem min_sim (mx : Bool) : ∀ {l : List AV} {l' : List Value} {a v : AV} {p : Value}, minmaxA mx a l = some v → VRel x w a p → VRels x w l l' →
    ∃ r, (l'.foldlM (if mx then Builtin.max2 else Builtin.min2) p).run P w = .ok r w ∧ VRel x w v r
  | [], _, a, v, p, e, ha, .nil => by
    simp only [minmaxA] at e
    injection e with e
    subst e
    exact ⟨p, by simp, ha⟩
  | b :: l, _, a, v, p, e, ha, .cons _ q _ l' hb hs => by
    cases a with
    | int k n => cases b with
      | int k' n' =>
        simp only [minmaxA] at e
        split at e
        · rename_i hk
          subst hk
          cases ha; cases hb
          cases mx with
          | true =>
            simp only [if_true] at e
            obtain ⟨r, r1, r2⟩ := min_sim true e (.int k (if n' > n then n' else n)) hs
            refine ⟨r, ?_, r2⟩
            simp only [if_true] at r1
            simpa [Builtin.max2] using r1
          | false =>
            simp only [Bool.false_eq_true, if_false] at e
            obtain ⟨r, r1, r2⟩ := min_sim false e (.int k (if n' < n then n' else n)) hs
            refine ⟨r, ?_, r2⟩
            simp only [Bool.false_eq_true, if_false] at r1
            simpa [Builtin.min2] using r1
        · cases e
      | _ => simp [minmaxA] at e
    | _ => simp [minmaxA] at e
theorem lenA_slice {a : AV} {k : Nat} {p : Value} (h : lenA a = some k) (hs : ∀ s, a ≠ .str s) (ha : VRel x w a p) : ∃ A cap, p = .slice A k cap := by
  cases ha <;> simp [lenA] at h <;> first | (subst h; exact ⟨_, _, rfl⟩) | exact absurd rfl (hs _)
end Go.Abs
