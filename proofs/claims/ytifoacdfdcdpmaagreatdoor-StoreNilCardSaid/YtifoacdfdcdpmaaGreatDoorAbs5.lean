/- What is proved: a part of the proof of the tied card of StoreNil (text Abs5 of it). Conditions: those that its theorems name. -/
import Derived.Test.YtifoacdfdcdpmaaGreatDoorAbs4
set_option linter.unusedVariables false
set_option linter.unusedSimpArgs false
namespace Go.Abs
variable {P : Program} {x : Cx} {w : World}
theorem fold_set (off : Nat) : ∀ (us : List Value) (k : Nat) (arr : Array Value), off + k + us.length ≤ arr.size →
    ((us.zipIdx k).foldl (fun cs (p : Value × Nat) => cs.setIfInBounds (off + p.2) p.1) arr).toList = arr.toList.take (off + k) ++ us ++ arr.toList.drop (off + k + us.length)
  | [], k, arr, h => by simp
  | u :: us, k, arr, h => by
    simp only [List.length_cons] at h
    rw [List.zipIdx_cons, List.foldl_cons, fold_set off us (k + 1) _ (by simp; omega)]
    simp only [Array.toList_setIfInBounds, List.length_cons]
    rw [show off + (k + 1) = off + k + 1 by omega]
    rw [List.drop_set, if_pos (by omega)]
    have hlt : off + k < arr.toList.length := by simp; omega
    rw [List.take_set, List.take_succ_eq_append_getElem hlt, List.set_append_right _ _ (by simp; omega)]
    simp only [List.length_take, Nat.min_eq_left (Nat.le_of_lt hlt), Nat.sub_self, List.set_cons_zero, List.append_assoc, List.cons_append, List.nil_append]
    rw [show off + k + 1 + us.length = off + k + (us.length + 1) by omega]
theorem evalParts_rel {tm : Tr AV} {ρ : Operand → Value} : ∀ {ps : List (Nat × Operand)} {l : List (Nat × AV)}, ER x w tm ρ (ps.map (·.2)) → evalParts tm ps = some l →
    l.map (·.1) = ps.map (·.1) ∧ VRels x w (l.map (·.2)) (ps.map fun p => ρ p.2)
  | [], l, _, h => by simp [evalParts] at h; subst h; exact ⟨rfl, .nil⟩
  | (i, y) :: ps, l, he, h => by
    unfold evalParts at h
    split at h
    · rename_i a l' h1 h2
      injection h with h
      subst h
      obtain ⟨k1, k2⟩ := evalParts_rel (fun z hz => he z (by simp at hz ⊢; exact .inr hz)) h2
      exact ⟨by simp [k1], .cons _ _ _ _ (he y (by simp) _ h1) k2⟩
    · cases h
theorem fill_sim {place : Nat → Option (Nat × Nat)} : ∀ {ps : List (Nat × AV)} {ps' : List (Nat × Value)} {cells out : List AV} {arr : Array Value},
    fillA place cells ps = some out → ps.map (·.1) = ps'.map (·.1) → VRels x w (ps.map (·.2)) (ps'.map (·.2)) → VRels x w cells arr.toList →
    ∃ arr', Instr.fill place arr ps' = some arr' ∧ VRels x w out arr'.toList
  | [], ps', cells, out, arr, h, h1, h2, h3 => by
    simp [fillA] at h
    subst h
    cases ps' with
    | nil => exact ⟨arr, rfl, h3⟩
    | cons _ _ => simp at h1
  | (i, v) :: ps, ps', cells, out, arr, h, h1, h2, h3 => by
    cases ps' with
    | nil => simp at h1
    | cons p ps' =>
      obtain ⟨i', u⟩ := p
      simp only [List.map_cons, List.cons.injEq] at h1
      obtain ⟨rfl, h1⟩ := h1
      simp only [List.map_cons] at h2
      cases h2 with
      | cons _ _ _ _ h4 h5 =>
        simp only [fillA] at h
        split at h
        · cases h
        · rename_i off size hp
          split at h
          · rename_i hc
            have hlen := h4.cells.length
            have hal := h3.length
            have e1 : u.cells.size = size := by rw [← Array.length_toList, hlen, hc.1]
            have e2 : off + u.cells.size ≤ arr.size := by rw [← Array.length_toList (xs := arr), hal, e1]; exact hc.2
            have hs := fold_set off u.cells.toList 0 arr (by simpa using e2)
            have hrel : VRels x w (splice cells off v.cells) ((u.cells.zipIdx.foldl (fun cs (p : Value × Nat) => cs.setIfInBounds (off + p.2) p.1) arr).toList) := by
              have : (u.cells.zipIdx.foldl (fun cs (p : Value × Nat) => cs.setIfInBounds (off + p.2) p.1) arr) = ((u.cells.toList.zipIdx 0).foldl (fun cs (p : Value × Nat) => cs.setIfInBounds (off + p.2) p.1) arr) := by
                rw [← Array.foldl_toList]; simp
              rw [this, hs]
              simpa using splice_rel off h3 h4.cells
            obtain ⟨arr', k1, k2⟩ := fill_sim h h1 h5 hrel
            refine ⟨arr', ?_, k2⟩
            simp only [Instr.fill, hp]
            rw [if_neg (by simp [e1]; rw [e1] at e2; omega)]
            exact k1
          · cases h
theorem run_places (w : World) : ∀ {fs : List Field} {l : List (Nat × Nat)}, placesA P fs = some l → ((fs.mapM fun f => do pure (f.offset, ← sizeOf f.type) : Sem (List (Nat × Nat)))).run P w = .ok l w
  | [], l, h => by simp [placesA] at h; subst h; simp
  | f :: r, l, h => by
    unfold placesA at h
    split at h
    · rename_i s l' h1 h2
      injection h with h
      subst h
      have ih := run_places w h2
      rw [List.mapM_cons]
      simp only [Sem.run_bind, run_sizeOf' h1, Result.andThen_ok, Sem.run_pure]
      rw [ih]
      rfl
    · cases h
theorem build_struct_sim {t : TypeId} {z : List AV} {ps : List (Nat × AV)} {ps' : Array (Nat × Value)} {fs : Array Field} {pl : List (Nat × Nat)} {out : List AV} (hz : zeroT P t = some z) (hu : P.underlying t = some (.struct fs)) (hp : placesA P fs.toList = some pl)
    (h : fillA (fun i => pl[i]?) z ps = some out) (h1 : ps.map (·.1) = ps'.toList.map (·.1)) (h2 : VRels x w (ps.map (·.2)) (ps'.toList.map (·.2))) :
    ∃ r, (Instr.build t ps').run P w = .ok r w ∧ VRel x w (.agg out) r := by
  obtain ⟨v, k1, k2⟩ := run_zeroValue' hz w
  obtain ⟨arr', k3, k4⟩ := fill_sim (arr := v.cells) h h1 h2 (k2 x w)
  have hpl := run_places w hp
  refine ⟨.agg arr', ?_, .agg _ _ k4⟩
  have hm : ((fs.mapM fun f => do pure (f.offset, ← sizeOf f.type) : Sem (Array (Nat × Nat)))).run P w = .ok pl.toArray w := by
    rw [Array.mapM_eq_mapM_toList]
    simp only [Sem.run_map, hpl, Result.andThen_ok]
  simp only [Instr.build, Sem.run_bind, k1, Result.andThen_ok, run_underlying hu]
  rw [hm]
  simp only [Result.andThen_ok]
  have : (fun i : Nat => (pl.toArray)[i]?) = fun i : Nat => pl[i]? := by funext i; simp
  rw [this, k3]
  rfl
theorem build_array_sim {t : TypeId} {z : List AV} {ps : List (Nat × AV)} {ps' : Array (Nat × Value)} {k : Nat} {e : TypeId} {s : Nat} {out : List AV} (hz : zeroT P t = some z) (hu : P.underlying t = some (.array k e)) (hp : sizeT P e = some s)
    (h : fillA (fun i => some (i * s, s)) z ps = some out) (h1 : ps.map (·.1) = ps'.toList.map (·.1)) (h2 : VRels x w (ps.map (·.2)) (ps'.toList.map (·.2))) :
    ∃ r, (Instr.build t ps').run P w = .ok r w ∧ VRel x w (.agg out) r := by
  obtain ⟨v, k1, k2⟩ := run_zeroValue' hz w
  obtain ⟨arr', k3, k4⟩ := fill_sim (arr := v.cells) h h1 h2 (k2 x w)
  refine ⟨.agg arr', ?_, .agg _ _ k4⟩
  simp only [Instr.build, Sem.run_bind, k1, Result.andThen_ok, run_underlying hu, run_sizeOf' hp, k3]
  rfl
theorem reps_len (z : List AV) : ∀ n, (reps z n).length = n * z.length
  | 0 => by simp [reps]
  | n + 1 => by simp [reps, reps_len z n, Nat.add_mul, Nat.add_comm]
theorem range_mod (us : List Value) (hp : 0 < us.length) : ∀ n, (List.range (n * us.length)).map (fun i => us.toArray[i % us.toArray.size]!) = (List.replicate n us).flatten
  | 0 => by simp
  | n + 1 => by
    rw [Nat.add_mul, Nat.one_mul, Nat.add_comm, List.range_add, List.map_append, List.replicate_succ, List.flatten_cons]
    congr 1
    · apply List.ext_getElem?
      intro i
      rw [List.getElem?_map]
      by_cases hi : i < us.length
      · rw [List.getElem?_range hi]
        simp [Nat.mod_eq_of_lt hi, hi]
      · rw [List.getElem?_eq_none (by simpa using hi), List.getElem?_eq_none (by omega)]
        rfl
    · rw [← range_mod us hp n, List.map_map]
      apply List.map_congr_left
      intro i _
      simp
theorem reps_rel {z : List AV} {us : List Value} (h : VRels x w z us) : ∀ n, VRels x w (reps z n) (List.replicate n us).flatten
  | 0 => by simpa [reps] using VRels.nil
  | n + 1 => by rw [reps, List.replicate_succ, List.flatten_cons]; exact h.app (reps_rel h n)
/-- zero cells, n times -/
theorem zeros_rel {z : List AV} {us : Array Value} (h : VRels x w z us.toList) (n : Nat) : VRels x w (reps z n) ((Array.range (n * us.size)).map (us[· % us.size]!)).toList := by
  by_cases h0 : us.size = 0
  · have hz : z = [] := List.eq_nil_of_length_eq_zero (by rw [← h.length, Array.length_toList, h0])
    subst hz
    have : reps ([] : List AV) n = [] := by induction n <;> simp_all [reps]
    rw [this, h0]
    simpa using VRels.nil
  · have := reps_rel h n
    rw [← range_mod us.toList (by rw [Array.length_toList]; omega) n] at this
    simpa using this
end Go.Abs
