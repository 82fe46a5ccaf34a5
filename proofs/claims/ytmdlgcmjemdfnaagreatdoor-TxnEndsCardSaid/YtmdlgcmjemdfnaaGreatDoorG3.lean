/- What is proved: a part of the proof of the tied card of TxnEnds (text G3 of it). Conditions: those that its theorems name. -/
import Derived.Test.YtmdlgcmjemdfnaaGreatDoorG2
import Derived.Laws.StructEq
set_option linter.unusedVariables false
set_option linter.unusedSimpArgs false
set_option linter.unusedSectionVars false
namespace Go.Abs
variable [Bnd]
variable {P : Program} {x : Cx} {w : World}
theorem fold_set (off : Nat) : ∀ (us : List Value) (k : Nat) (arr : Array Value), off + k + us.length ≤ arr.size →
    ((us.zipIdx k).foldl (fun cs (p : Value × Nat) => cs.setIfInBounds (off + p.2) p.1) arr).toList = arr.toList.take (off + k) ++ us ++ arr.toList.drop (off + k + us.length)
  | [], k, arr, h => by simp
  | u :: us, k, arr, h => by
    simp only [List.length_cons] at h
    rw [List.zipIdx_cons, List.foldl_cons, fold_set off us (k + 1) _ (by simp; omega)]
    simp only [Array.toList_setIfInBounds, List.length_cons]
    rw [show off + (k + 1) = off + k + 1 by omega]
    rw [List.drop_set, if_pos (by omega)]
    have hlt : off + k < arr.toList.length := by simp; omega
    rw [List.take_set, List.take_succ_eq_append_getElem hlt, List.set_append_right _ _ (by simp; omega)]
    simp only [List.length_take, Nat.min_eq_left (Nat.le_of_lt hlt), Nat.sub_self, List.set_cons_zero, List.append_assoc, List.cons_append, List.nil_append]
    rw [show off + k + 1 + us.length = off + k + (us.length + 1) by omega]
theorem evalParts_rel {tm : Tr AV} {ρ : Operand → Value} : ∀ {ps : List (Nat × Operand)} {l : List (Nat × AV)}, ER x w tm ρ (ps.map (·.2)) → evalParts tm ps = some l →
    l.map (·.1) = ps.map (·.1) ∧ VRels x w (l.map (·.2)) (ps.map fun p => ρ p.2)
  | [], l, _, h => by simp [evalParts] at h; subst h; exact ⟨rfl, .nil⟩
  | (i, y) :: ps, l, he, h => by
    unfold evalParts at h
    split at h
    · rename_i a l' h1 h2
      injection h with h
      subst h
      obtain ⟨k1, k2⟩ := evalParts_rel (fun z hz => he z (by simp at hz ⊢; exact .inr hz)) h2
      exact ⟨by simp [k1], .cons _ _ _ _ (he y (by simp) _ h1) k2⟩
    · cases h
theorem fill_sim {place : Nat → Option (Nat × Nat)} : ∀ {ps : List (Nat × AV)} {ps' : List (Nat × Value)} {cells out : List AV} {arr : Array Value},
    fillA place cells ps = some out → ps.map (·.1) = ps'.map (·.1) → VRels x w (ps.map (·.2)) (ps'.map (·.2)) → VRels x w cells arr.toList →
    ∃ arr', Instr.fill place arr ps' = some arr' ∧ VRels x w out arr'.toList
  | [], ps', cells, out, arr, h, h1, h2, h3 => by
    simp [fillA] at h
    subst h
    cases ps' with
    | nil => exact ⟨arr, rfl, h3⟩
    | cons _ _ => simp at h1
  | (i, v) :: ps, ps', cells, out, arr, h, h1, h2, h3 => by
    cases ps' with
    | nil => simp at h1
    | cons p ps' =>
      obtain ⟨i', u⟩ := p
      simp only [List.map_cons, List.cons.injEq] at h1
      obtain ⟨rfl, h1⟩ := h1
      simp only [List.map_cons] at h2
      cases h2 with
      | cons _ _ _ _ h4 h5 =>
        simp only [fillA] at h
        split at h
        · cases h
        · rename_i off size hp
          split at h
          · rename_i hc
            have hlen := (h4.cells hc.2.2).length
            have hal := h3.length
            have e1 : u.cells.size = size := by rw [← Array.length_toList, hlen, hc.1]
            have e2 : off + u.cells.size ≤ arr.size := by rw [← Array.length_toList (xs := arr), hal, e1]; exact hc.2.1
            have hs := fold_set off u.cells.toList 0 arr (by simpa using e2)
            have hrel : VRels x w (splice cells off v.cells) ((u.cells.zipIdx.foldl (fun cs (p : Value × Nat) => cs.setIfInBounds (off + p.2) p.1) arr).toList) := by
              have : (u.cells.zipIdx.foldl (fun cs (p : Value × Nat) => cs.setIfInBounds (off + p.2) p.1) arr) = ((u.cells.toList.zipIdx 0).foldl (fun cs (p : Value × Nat) => cs.setIfInBounds (off + p.2) p.1) arr) := by
                rw [← Array.foldl_toList]; simp
              rw [this, hs]
              simpa using splice_rel off h3 (h4.cells hc.2.2)
            obtain ⟨arr', k1, k2⟩ := fill_sim h h1 h5 hrel
            refine ⟨arr', ?_, k2⟩
            simp only [Instr.fill, hp]
            rw [if_neg (by simp [e1]; rw [e1] at e2; omega)]
            exact k1
          · cases h
theorem run_places (w : World) : ∀ {fs : List Field} {l : List (Nat × Nat)}, placesA P fs = some l → ((fs.mapM fun f => do pure (f.offset, ← sizeOf f.type) : Sem (List (Nat × Nat)))).run P w = .ok l w
  | [], l, h => by simp [placesA] at h; subst h; simp
  | f :: r, l, h => by
    unfold placesA at h
    split at h
    · rename_i s l' h1 h2
      injection h with h
      subst h
      have ih := run_places w h2
      rw [List.mapM_cons]
      simp only [Sem.run_bind, run_sizeOf' h1, Result.andThen_ok, Sem.run_pure]
      rw [ih]
      rfl
    · cases h
theorem build_struct_sim {t : TypeId} {z : List AV} {ps : List (Nat × AV)} {ps' : Array (Nat × Value)} {fs : Array Field} {pl : List (Nat × Nat)} {out : List AV} (hz : zeroT P t = some z) (hu : P.underlying t = some (.struct fs)) (hp : placesA P fs.toList = some pl)
    (h : fillA (fun i => pl[i]?) z ps = some out) (h1 : ps.map (·.1) = ps'.toList.map (·.1)) (h2 : VRels x w (ps.map (·.2)) (ps'.toList.map (·.2))) :
    ∃ r, (Instr.build t ps').run P w = .ok r w ∧ VRel x w (.agg out) r := by
  obtain ⟨v, k1, k2⟩ := run_zeroValue' hz w
  obtain ⟨arr', k3, k4⟩ := fill_sim (arr := v.cells) h h1 h2 (k2 x w)
  have hpl := run_places w hp
  refine ⟨.agg arr', ?_, .agg _ _ k4⟩
  have hm : ((fs.mapM fun f => do pure (f.offset, ← sizeOf f.type) : Sem (Array (Nat × Nat)))).run P w = .ok pl.toArray w := by
    rw [Array.mapM_eq_mapM_toList]
    simp only [Sem.run_map, hpl, Result.andThen_ok]
  simp only [Instr.build, Sem.run_bind, k1, Result.andThen_ok, run_underlying hu]
  rw [hm]
  simp only [Result.andThen_ok]
  have : (fun i : Nat => (pl.toArray)[i]?) = fun i : Nat => pl[i]? := by funext i; simp
  rw [this, k3]
  rfl
theorem build_array_sim {t : TypeId} {z : List AV} {ps : List (Nat × AV)} {ps' : Array (Nat × Value)} {k : Nat} {e : TypeId} {s : Nat} {out : List AV} (hz : zeroT P t = some z) (hu : P.underlying t = some (.array k e)) (hp : sizeT P e = some s)
    (h : fillA (fun i => some (i * s, s)) z ps = some out) (h1 : ps.map (·.1) = ps'.toList.map (·.1)) (h2 : VRels x w (ps.map (·.2)) (ps'.toList.map (·.2))) :
    ∃ r, (Instr.build t ps').run P w = .ok r w ∧ VRel x w (.agg out) r := by
  obtain ⟨v, k1, k2⟩ := run_zeroValue' hz w
  obtain ⟨arr', k3, k4⟩ := fill_sim (arr := v.cells) h h1 h2 (k2 x w)
  refine ⟨.agg arr', ?_, .agg _ _ k4⟩
  simp only [Instr.build, Sem.run_bind, k1, Result.andThen_ok, run_underlying hu, run_sizeOf' hp, k3]
  rfl
theorem reps_len (z : List AV) : ∀ n, (reps z n).length = n * z.length
  | 0 => by simp [reps]
  | n + 1 => by simp [reps, reps_len z n, Nat.add_mul, Nat.add_comm]
theorem range_mod (us : List Value) (hp : 0 < us.length) : ∀ n, (List.range (n * us.length)).map (fun i => us.toArray[i % us.toArray.size]!) = (List.replicate n us).flatten
  | 0 => by simp
  | n + 1 => by
    rw [Nat.add_mul, Nat.one_mul, Nat.add_comm, List.range_add, List.map_append, List.replicate_succ, List.flatten_cons]
    congr 1
    · apply List.ext_getElem?
      intro i
      rw [List.getElem?_map]
      by_cases hi : i < us.length
      · rw [List.getElem?_range hi]
        simp [Nat.mod_eq_of_lt hi, hi]
      · rw [List.getElem?_eq_none (by simpa using hi), List.getElem?_eq_none (by omega)]
        rfl
    · rw [← range_mod us hp n, List.map_map]
      apply List.map_congr_left
      intro i _
      simp
theorem reps_rel {z : List AV} {us : List Value} (h : VRels x w z us) : ∀ n, VRels x w (reps z n) (List.replicate n us).flatten
  | 0 => by simpa [reps] using VRels.nil
  | n + 1 => by rw [reps, List.replicate_succ, List.flatten_cons]; exact h.app (reps_rel h n)
/-- zero cells, n times -/
theorem zeros_rel {z : List AV} {us : Array Value} (h : VRels x w z us.toList) (n : Nat) : VRels x w (reps z n) ((Array.range (n * us.size)).map (us[· % us.size]!)).toList := by
  by_cases h0 : us.size = 0
  · have hz : z = [] := List.eq_nil_of_length_eq_zero (by rw [← h.length, Array.length_toList, h0])
    subst hz
    have : reps ([] : List AV) n = [] := by induction n <;> simp_all [reps]
    rw [this, h0]
    simpa using VRels.nil
  · have := reps_rel h n
    rw [← range_mod us.toList (by rw [Array.length_toList]; omega) n] at this
    simpa using this
end Go.Abs

namespace Go.Abs
variable [Bnd]
variable {P : Program} {x : Cx} {w : World}
theorem str_eq {a b : ByteArray} : (a.toList == b.toList) = (a.data.toList == b.data.toList) := by rw [ByteArray.toList_eq, ByteArray.toList_eq]
theorem bytesLess_eq : ∀ (a b : List UInt8), Op.bytesLess a b = bytesLess a b
  | _, [] => by simp [Op.bytesLess, bytesLess]
  | [], _ :: _ => by simp [Op.bytesLess, bytesLess]
  | a :: x, b :: y => by simp [Op.bytesLess, bytesLess, bytesLess_eq x y]
theorem part_sim {t : TypeId} {cs l : List AV} {v : AV} {arr : Array Value} {off s : Nat} (hs : sizeT P t = some s) (hc : cut cs off s = some l) (h : asVal P t l = some v) (hr : VRels x w cs arr.toList) :
    ∃ r, (part t arr off).run P w = .ok r w ∧ VRel x w v r := by
  have hr2 := cut_rel hc hr
  rcases asVal_rel h hr2 with ⟨h1, h2⟩ | ⟨h1, u, h3, h4, h2⟩
  · refine ⟨_, ?_, h2⟩
    have e : (List.take s (List.drop off arr.toList)).toArray = arr.extract off (off + s) := by
      apply Array.ext'
      simp [List.take_drop]
    simp [part, isAggT_true h1, run_sizeOf' hs, e]
  · refine ⟨u, ?_, h2⟩
    have h5 : arr[off]? = some u := by
      have : (List.take s (List.drop off arr.toList))[0]? = some u := by rw [h3]; rfl
      rw [List.getElem?_take] at this
      split at this
      · simpa using this
      · cases this
    simp [part, isAggT_false h1, h5]
theorem ptr_form {a : AV} {p : Value} (ha : VRel x w a p) (h : isPtr a = true) : ∃ A, p = .pointer A ∧ ∀ b, nilA a = some b → A.isNone = b := by
  cases ha <;> first | (simp [isPtr] at h; done) | exact ⟨_, rfl, fun b hb => by simpa [nilA] using hb⟩
theorem sl_form {a : AV} {p : Value} (ha : VRel x w a p) (h : isSl a = true) : ∃ A l c, p = .slice A l c ∧ ∀ b, nilA a = some b → A.isNone = b := by
  cases ha with
  | lst len cells vs A cap hc h0 hr hl =>
    refine ⟨A, len, cap, rfl, fun b hb => ?_⟩
    cases len with
    | zero => simp [nilA] at hb
    | succ n => obtain ⟨a, rfl, _⟩ := hl (by omega); simpa [nilA] using hb
  | _ => first | (simp [isSl] at h; done) | exact ⟨_, _, _, rfl, fun b hb => by simpa [nilA] using hb⟩
theorem map_form {a : AV} {p : Value} (ha : VRel x w a p) (h : isMap a = true) : ∃ A, p = .map A ∧ ∀ b, nilA a = some b → A.isNone = b := by
  cases ha <;> first | (simp [isMap] at h; done) | exact ⟨_, rfl, fun b hb => by simpa [nilA] using hb⟩
theorem fn_form {a : AV} {p : Value} (ha : VRel x w a p) (h : isFn a = true) : (p = .nilFunc ∧ nilA a = some true) ∨ (∃ f b c, p = .func f b c ∧ nilA a = some false) := by
  cases ha <;> first | (simp [isFn] at h; done) | exact .inl ⟨rfl, rfl⟩ | exact .inr ⟨_, _, _, rfl, rfl⟩
theorem run_eq_ptr {t e : TypeId} (hu : P.underlying t = some (.pointer e)) (n : Nat) : ∀ A B : Option Addr, A = none ∨ B = none → (Op.equalIn (n + 1) t (.pointer A) (.pointer B)).run P w = .ok (A.isNone && B.isNone) w
  | none, none, _ => by simp [Op.equalIn, run_underlying hu]
  | none, some b, _ => by simp [Op.equalIn, run_underlying hu]
  | some a, none, _ => by simp [Op.equalIn, run_underlying hu]
  | some a, some b, h => by simp at h
theorem run_eq_sl {t e : TypeId} (hu : P.underlying t = some (.slice e)) (n l l' c c' : Nat) : ∀ A B : Option Addr, A = none ∨ B = none → (Op.equalIn (n + 1) t (.slice A l c) (.slice B l' c')).run P w = .ok (A.isNone && B.isNone) w
  | none, none, _ => by simp [Op.equalIn, run_underlying hu]
  | none, some b, _ => by simp [Op.equalIn, run_underlying hu]
  | some a, none, _ => by simp [Op.equalIn, run_underlying hu]
  | some a, some b, h => by simp at h
theorem run_eq_map {t k e : TypeId} (hu : P.underlying t = some (.map k e)) (n : Nat) : ∀ A B : Option Nat, A = none ∨ B = none → (Op.equalIn (n + 1) t (.map A) (.map B)).run P w = .ok (A.isNone && B.isNone) w
  | none, none, _ => by simp [Op.equalIn, run_underlying hu]
  | none, some b, _ => by simp [Op.equalIn, run_underlying hu]
  | some a, none, _ => by simp [Op.equalIn, run_underlying hu]
  | some a, some b, h => by simp at h
theorem run_eq_fn1 {t : TypeId} {a b : Array TypeId} {v : Bool} (hu : P.underlying t = some (.func a b v)) (n : Nat) : (Op.equalIn (n + 1) t .nilFunc .nilFunc).run P w = .ok true w := by simp [Op.equalIn, run_underlying hu]
theorem run_eq_fn2 {t : TypeId} {a b : Array TypeId} {v : Bool} (hu : P.underlying t = some (.func a b v)) (n : Nat) (f : Fn) (c d : Array Value) : (Op.equalIn (n + 1) t .nilFunc (.func f c d)).run P w = .ok false w := by simp [Op.equalIn, run_underlying hu]
theorem run_eq_fn3 {t : TypeId} {a b : Array TypeId} {v : Bool} (hu : P.underlying t = some (.func a b v)) (n : Nat) (f : Fn) (c d : Array Value) : (Op.equalIn (n + 1) t (.func f c d) .nilFunc).run P w = .ok false w := by simp [Op.equalIn, run_underlying hu]
theorem none_of {α : Type} {A : Option α} (h : A.isNone = true) : A = none := by cases A <;> simp_all
theorem eqNil_key {a b : AV} {r : Bool} (h : (match nilA a, nilA b with
  | some true, some r => some r
  | some r, some true => some r
  | _, _ => none) = some r) : ∃ u v, nilA a = some u ∧ nilA b = some v ∧ (u = true ∨ v = true) ∧ r = (u && v) := by
  generalize nilA a = A at *
  generalize nilA b = B at *
  cases A with
  | none => simp at h
  | some u =>
    cases B with
    | none => cases u <;> simp at h
    | some v => cases u <;> cases v <;> simp at h <;> subst h <;> exact ⟨_, _, rfl, rfl, by simp, rfl⟩
theorem eqNil_sim {t : TypeId} {d : TypeDesc} {a b : AV} {p q : Value} {r : Bool} (hu : P.underlying t = some d) (h : eqNil d a b = some r) (ha : VRel x w a p) (hb : VRel x w b q) (n : Nat) : (Op.equalIn (n + 1) t p q).run P w = .ok r w := by
  unfold eqNil at h
  split at h
  · rename_i hf
    simp only [Bool.and_eq_true] at hf
    obtain ⟨u, v, hu1, hv1, hr, rfl⟩ := eqNil_key h
    clear h
    obtain ⟨hf1, hf2⟩ := hf
    cases d <;> simp only [fitA, Bool.false_eq_true] at hf1 hf2
    · obtain ⟨A, rfl, h1⟩ := ptr_form ha hf1
      obtain ⟨B, rfl, h2⟩ := ptr_form hb hf2
      rw [← h1 _ hu1, ← h2 _ hv1] at hr ⊢
      exact run_eq_ptr hu n A B (hr.imp none_of none_of)
    · obtain ⟨A, _, _, rfl, h1⟩ := sl_form ha hf1
      obtain ⟨B, _, _, rfl, h2⟩ := sl_form hb hf2
      rw [← h1 _ hu1, ← h2 _ hv1] at hr ⊢
      exact run_eq_sl hu n _ _ _ _ A B (hr.imp none_of none_of)
    · obtain ⟨A, rfl, h1⟩ := map_form ha hf1
      obtain ⟨B, rfl, h2⟩ := map_form hb hf2
      rw [← h1 _ hu1, ← h2 _ hv1] at hr ⊢
      exact run_eq_map hu n A B (hr.imp none_of none_of)
    · rcases fn_form ha hf1 with ⟨rfl, h1⟩ | ⟨_, _, _, rfl, h1⟩ <;> rcases fn_form hb hf2 with ⟨rfl, h2⟩ | ⟨_, _, _, rfl, h2⟩ <;> rw [h1] at hu1 <;> rw [h2] at hv1 <;> injection hu1 with hu1 <;> injection hv1 with hv1 <;> subst hu1 <;> subst hv1
      · exact run_eq_fn1 hu n
      · exact run_eq_fn2 hu n _ _ _
      · exact run_eq_fn3 hu n _ _ _
      · simp at hr
  · cases h
theorem eqT_sim : ∀ (n : Nat) {t : TypeId} {a b : AV} {p q : Value} {r : Bool} (d : Nat), n ≤ d → eqT P n t a b = some r → VRel x w a p → VRel x w b q → (Op.equalIn d t p q).run P w = .ok r w
  | 0, _, _, _, _, _, _, _, _, h, _, _ => by simp [eqT] at h
  | n + 1, t, a, b, p, q, r, d, hd, h, ha, hb => by
    obtain ⟨d, rfl⟩ : ∃ k, d = k + 1 := ⟨d - 1, by omega⟩
    unfold eqT at h
    split at h
    · rename_i hu
      injection h with h; subst h
      cases ha; cases hb
      exact run_equalIn_bool' w d t _ _ hu
    · rename_i hu
      split at h
      · rename_i hk
        injection h with h; subst h; subst hk
        cases ha; cases hb
        exact run_equalIn_int w d t _ _ _ _ hu
      · cases h
    · rename_i hu
      injection h with h; subst h
      cases ha with | str s l h1 => cases hb with | str s' l' h2 =>
      rw [run_equalIn_string w d t _ _ hu, str_eq, h1, h2]
    · rename_i fs xs ys hu
      split at h
      · cases h
      · rename_i hst
        cases ha with | agg _ xs' h1 => cases hb with | agg _ ys' h2 =>
        have hfo : P.fieldsOf t = fs := by simp [Program.fieldsOf, hu]
        rw [run_equalIn_struct w d t xs' ys' (by rw [hfo]; exact hu) (by simpa using hst), hfo]
        clear hu hst hfo
        revert h
        generalize fs.toList = l
        intro h
        induction l with
        | nil => simp [eqFs] at h; subst h; rfl
        | cons f l ih =>
          unfold eqFs at h
          split at h
          · cases h
          · rename_i hn
            split at h
            · rename_i s hs
              split at h
              · rename_i cx cy hx hy
                split at h
                · rename_i va vb hva hvb
                  obtain ⟨ra, r1, r2⟩ := part_sim hs hx hva h1
                  obtain ⟨rb, r3, r4⟩ := part_sim hs hy hvb h2
                  split at h
                  · rename_i hrc
                    have := eqT_sim n d (by omega) hrc r2 r4
                    simp [Op.eqFields, hn, r1, r3, this, ih h]
                  · rename_i hrc
                    injection h with h; subst h
                    have := eqT_sim n d (by omega) hrc r2 r4
                    simp [Op.eqFields, hn, r1, r3, this]
                  · cases h
                · cases h
              · cases h
            · cases h
    · rename_i te n1 o1 n2 o2 hu
      split at h
      · rename_i hn
        subst hn
        split at h
        · rename_i i hi
          split at h
          · rename_i hsz
            injection h with h; subst h
            cases ha with | ptr _ c _ hm => cases hb with | ptr _ c2 _ hm2 =>
            rw [hm] at hm2; cases hm2
            simp [Op.equalIn, run_underlying hu, sizeOf, typeInfo, hi, sameAddr, hsz]
            by_cases ho : o1 = o2
            · subst ho; simp
            · have : ((⟨c, o1, none⟩ : Addr) == ⟨c, o2, none⟩) = false := by simp [ho]
              simp [this, ho]
          · cases h
        · cases h
      · cases h
    · exact eqNil_sim (by assumption) h ha hb d
    · cases h
theorem bits_sim {op : BinOp} {k : IntKind} {a b : Int} {v : AV} (h : bitsA op k a b = some v) : ∃ r, (Op.intBits op k a b).run P w = .ok r w ∧ VRel x w v r := by
  unfold bitsA at h
  cases op <;> (first | (injection h with h; subst h; exact ⟨_, rfl, .int _ _⟩) | cases h)
theorem int_sim {op : BinOp} {t : TypeId} {k : IntKind} {a b : Int} {v : AV} (h : intA op k a b = some v) : ∃ r, (binOp op t (.int k a) (.int k b)).run P w = .ok r w ∧ VRel x w v r := by
  unfold intA at h
  cases op <;> simp only [] at h
  case quo =>
    split at h
    · cases h
    · rename_i hb
      injection h with h; subst h
      exact ⟨_, by simp [binOp, Op.intDiv, hb], .int _ _⟩
  case rem =>
    split at h
    · cases h
    · rename_i hb
      injection h with h; subst h
      exact ⟨_, by simp [binOp, Op.intDiv, hb], .int _ _⟩
  all_goals first
    | cases h; done
    | (injection h with h; subst h; exact ⟨_, by simp [binOp, Op.intArith, Op.intCmp]; rfl, by constructor⟩)
    | (injection h with h; subst h; exact ⟨_, by simp [binOp, Op.intArith, Op.intCmp], by constructor⟩)
    | (obtain ⟨r, h1, h2⟩ := bits_sim (P := P) (x := x) (w := w) h; exact ⟨r, by simpa [binOp] using h1, h2⟩)
theorem sh_sim {op : BinOp} {t : TypeId} {k k' : IntKind} {a b : Int} {v : AV} (h : shA op k a b = some v) : ∃ r, (binOp op t (.int k a) (.int k' b)).run P w = .ok r w ∧ VRel x w v r := by
  unfold shA at h
  split at h
  · cases h
  · rename_i hb
    cases op <;> simp only [] at h <;> first | (cases h; done) | (injection h with h; subst h; exact ⟨_, by simp [binOp, Op.shift, hb], .int _ _⟩)
theorem str_sim {op : BinOp} {t : TypeId} {a b : ByteArray} {v : AV} (h : strA op a.data.toList b.data.toList = some v) : ∃ r, (binOp op t (.string a) (.string b)).run P w = .ok r w ∧ VRel x w v r := by
  unfold strA at h
  cases op <;> simp only [] at h
  case add =>
    split at h
    · rename_i hl
      injection h with h; subst h
      refine ⟨.string (a ++ b), ?_, .str _ _ (by simp)⟩
      have : ¬ (9223372036854775807 < ((a.size : Int) + (b.size : Int))) := by
        simp only [Array.length_toList] at hl
        have e1 : a.data.size = a.size := rfl
        have e2 : b.data.size = b.size := rfl
        omega
      simp [binOp, Op.stringOp, this]
    · cases h
  all_goals first
    | cases h; done
    | (injection h with h; subst h; exact ⟨_, by simp [binOp, Op.stringOp, bytesLess_eq, ByteArray.toList_eq], .bool _⟩)
theorem eqGuard_not {t : TypeId} {xo yo : Operand} {op : BinOp} {p q : Value} (h1 : p ≠ .nilIface) (h2 : (∃ a, p = .agg a) → ∀ b, q ≠ .agg b) : (eqGuard op t xo yo p q).run P w = .ok () w := by
  cases op <;> simp only [eqGuard] <;> first | rfl | skip
  all_goals (cases p <;> first | (exact absurd rfl h1) | (simp; done) | (cases q <;> first | (exact absurd rfl (h2 ⟨_, rfl⟩ _)) | simp))
theorem plain_form {a : AV} {p : Value} (ha : VRel x w a p) (h : plainE a = true) : p ≠ .nilIface ∧ ∀ b, p ≠ .agg b := by
  cases ha <;> first | (simp [plainE] at h; done) | exact ⟨by simp, by simp⟩
theorem eqA_sim {t : TypeId} {xo yo : Operand} {op : BinOp} {a b : AV} {p q : Value} {r : Bool} (h : eqA P t a b = some r) (ha : VRel x w a p) (hb : VRel x w b q) :
    (eqGuard op t xo yo p q).run P w = .ok () w ∧ (Op.equal t p q).run P w = .ok r w := by
  unfold eqA at h
  split at h
  · split at h
    · cases h
    · rename_i hg
      refine ⟨?_, eqT_sim 20 _ (by simp [Op.maxDepth]) h ha hb⟩
      cases ha; cases hb
      exact run_eqGuard_agg w op t xo yo _ _ (by simpa using hg)
  · split at h
    · rename_i hp
      simp only [Bool.and_eq_true] at hp
      obtain ⟨k1, k2⟩ := plain_form ha hp.1
      obtain ⟨k3, k4⟩ := plain_form hb hp.2
      exact ⟨eqGuard_not k1 (fun _ b hb => k4 b hb), eqT_sim 20 _ (by simp [Op.maxDepth]) h ha hb⟩
    · cases h
theorem run_bin_eql {t : TypeId} {p q : Value} {r : Bool} (hb : ∀ op, op = .eql ∨ op = .neq → binOp op t p q = if op = .eql then (do pure (.bool (← Op.equal t p q))) else (do pure (.bool (!(← Op.equal t p q))))) (h : (Op.equal t p q).run P w = .ok r w) :
    (binOp .eql t p q).run P w = .ok (.bool r) w ∧ (binOp .neq t p q).run P w = .ok (.bool !r) w := by
  rw [hb _ (.inl rfl), hb _ (.inr rfl), if_pos rfl, if_neg (by simp)]
  simp [h]
theorem eq_forms {t : TypeId} {a b : AV} {p q : Value} {r : Bool} (h : eqA P t a b = some r) (n1 : ∀ k i k' j, a = .int k i → b = .int k' j → False) (n2 : ∀ s s', a = .str s → b = .str s' → False) (ha : VRel x w a p) (hb : VRel x w b q) :
    ∀ op, op = .eql ∨ op = .neq → binOp op t p q = if op = .eql then (do pure (.bool (← Op.equal t p q))) else (do pure (.bool (!(← Op.equal t p q)))) := by
  have key : (∃ u v, p = .bool u ∧ q = .bool v) ∨ (∃ u v, p = .agg u ∧ q = .agg v) ∨ (∃ u v, p = .pointer u ∧ q = .pointer v) ∨ (∃ u l c v l' c', p = .slice u l c ∧ q = .slice v l' c') ∨ (∃ u v, p = .map u ∧ q = .map v) ∨ ((p = .nilFunc ∨ ∃ f c d, p = .func f c d) ∧ (q = .nilFunc ∨ ∃ f c d, q = .func f c d)) := by
    unfold eqA at h
    split at h
    · cases ha; cases hb; exact .inr (.inl ⟨_, _, rfl, rfl⟩)
    · split at h
      · unfold eqT at h
        split at h
        · cases ha; cases hb; exact .inl ⟨_, _, rfl, rfl⟩
        · exact (n1 _ _ _ _ rfl rfl).elim
        · exact (n2 _ _ rfl rfl).elim
        · cases ha; cases hb; exact .inr (.inl ⟨_, _, rfl, rfl⟩)
        · cases ha; cases hb; exact .inr (.inr (.inl ⟨_, _, rfl, rfl⟩))
        · unfold eqNil at h
          split at h
          · rename_i hf
            simp only [Bool.and_eq_true] at hf
            obtain ⟨hf1, hf2⟩ := hf
            rename_i d _ _ _ _ _ _ _
            clear h
            unfold fitA at hf1 hf2
            split at hf1 <;> simp only [] at hf2
            · obtain ⟨_, e1, _⟩ := ptr_form ha hf1; obtain ⟨_, e2, _⟩ := ptr_form hb hf2; exact .inr (.inr (.inl ⟨_, _, e1, e2⟩))
            · obtain ⟨_, _, _, e1, _⟩ := sl_form ha hf1; obtain ⟨_, _, _, e2, _⟩ := sl_form hb hf2; exact .inr (.inr (.inr (.inl ⟨_, _, _, _, _, _, e1, e2⟩)))
            · obtain ⟨_, e1, _⟩ := map_form ha hf1; obtain ⟨_, e2, _⟩ := map_form hb hf2; exact .inr (.inr (.inr (.inr (.inl ⟨_, _, e1, e2⟩))))
            · refine .inr (.inr (.inr (.inr (.inr ⟨?_, ?_⟩))))
              · rcases fn_form ha hf1 with ⟨e, _⟩ | ⟨_, _, _, e, _⟩
                · exact .inl e
                · exact .inr ⟨_, _, _, e⟩
              · rcases fn_form hb hf2 with ⟨e, _⟩ | ⟨_, _, _, e, _⟩
                · exact .inl e
                · exact .inr ⟨_, _, _, e⟩
            · cases hf1
          · cases h
        · cases h
      · cases h
  rcases key with ⟨u, v, rfl, rfl⟩ | ⟨u, v, rfl, rfl⟩ | ⟨u, v, rfl, rfl⟩ | ⟨u, l, c, v, l', c', rfl, rfl⟩ | ⟨u, v, rfl, rfl⟩ | ⟨rfl | ⟨_, _, _, rfl⟩, rfl | ⟨_, _, _, rfl⟩⟩ <;> rintro op (rfl | rfl) <;> rfl
theorem cmpU_int {op : BinOp} {k : IntKind} {lo hi c z : Int} {v : AV} (h : cmpU op lo hi c = some v) (hz : lo ≤ z ∧ z ≤ hi) : intA op k z c = some v := by
  unfold cmpU at h
  split at h <;> (repeat' split at h) <;> first
    | (cases h; done)
    | (injection h with h; subst h; simp only [intA]; congr 2; first | (rw [beq_eq_false_iff_ne]; omega) | (rw [bne_iff_ne]; omega) | (rw [decide_eq_true_iff]; omega) | (rw [decide_eq_false_iff_not]; omega))
theorem bin_sim {op : BinOp} {t : TypeId} {xo yo : Operand} {a b v : AV} {p q : Value} (h : binA P op t a b = some v) (ha : VRel x w a p) (hb : VRel x w b q) :
    ∃ r, (do eqGuard op t xo yo p q; binOp op t p q : Sem Value).run P w = .ok r w ∧ VRel x w v r := by
  unfold binA at h
  split at h
  · rename_i k a k' b
    cases ha; cases hb
    have hg : (eqGuard op t xo yo (.int k a) (.int k' b)).run P w = .ok () w := eqGuard_not (by simp) (by rintro ⟨_, h⟩; cases h)
    simp only [Sem.run_bind, hg, Result.andThen_ok]
    split at h
    · exact sh_sim h
    · split at h
      · rename_i hk; subst hk; exact int_sim h
      · cases h
  · rename_i a b
    cases ha with | str s _ h1 => cases hb with | str s' _ h2 =>
    subst h1; subst h2
    have hg : (eqGuard op t xo yo (.string s) (.string s')).run P w = .ok () w := eqGuard_not (by simp) (by rintro ⟨_, h⟩; cases h)
    simp only [Sem.run_bind, hg, Result.andThen_ok]
    exact str_sim h
  · rename_i k lo hi k' c
    cases ha with | una _ _ _ z hz =>
    cases hb
    have hg : (eqGuard op t xo yo (.int k z) (.int k' c)).run P w = .ok () w := eqGuard_not (by simp) (by rintro ⟨_, h⟩; cases h)
    simp only [Sem.run_bind, hg, Result.andThen_ok]
    split at h
    · rename_i hk
      subst hk
      split at h
      · injection h with h; subst h
        obtain ⟨r, r1, r2⟩ := int_sim (op := .add) (t := t) (k := k) (a := z) (b := c) (w := w) (x := x) (P := P) (v := .int k (k.wrap (z + c))) rfl
        exact ⟨r, r1, .any _ (r2.sc rfl)⟩
      · injection h with h; subst h
        obtain ⟨r, r1, r2⟩ := int_sim (op := .sub) (t := t) (k := k) (a := z) (b := c) (w := w) (x := x) (P := P) (v := .int k (k.wrap (z - c))) rfl
        exact ⟨r, r1, .any _ (r2.sc rfl)⟩
      · injection h with h; subst h
        obtain ⟨r, r1, r2⟩ := int_sim (op := .mul) (t := t) (k := k) (a := z) (b := c) (w := w) (x := x) (P := P) (v := .int k (k.wrap (z * c))) rfl
        exact ⟨r, r1, .any _ (r2.sc rfl)⟩
      · exact int_sim (cmpU_int h hz)
    · cases h
  · rename_i n1 n2 _
    split at h
    · obtain ⟨r, h1, h2⟩ := Option.map_eq_some_iff.1 h
      obtain ⟨k1, k2⟩ := eqA_sim (xo := xo) (yo := yo) (op := .eql) h1 ha hb
      subst h2
      refine ⟨_, ?_, .bool _⟩
      simp only [Sem.run_bind, k1, Result.andThen_ok, (run_bin_eql (eq_forms h1 n1 n2 ha hb) k2).1]
    · obtain ⟨r, h1, h2⟩ := Option.map_eq_some_iff.1 h
      obtain ⟨k1, k2⟩ := eqA_sim (xo := xo) (yo := yo) (op := .neq) h1 ha hb
      subst h2
      refine ⟨_, ?_, .bool _⟩
      simp only [Sem.run_bind, k1, Result.andThen_ok, (run_bin_eql (eq_forms h1 n1 n2 ha hb) k2).2]
    · cases h
end Go.Abs

namespace Go.Abs
variable [Bnd]
variable {P : Program} {x : Cx} {w : World}
theorem un_sim {op : UnOp} {a v : AV} {p : Value} (h : unA op a = some v) (ha : VRel x w a p) : ∃ r, (Op.unary op p).run P w = .ok r w ∧ VRel x w v r := by
  unfold unA at h
  split at h
  · injection h with h; subst h; cases ha; exact ⟨_, rfl, .int _ _⟩
  · injection h with h; subst h; cases ha; exact ⟨_, rfl, .bool _⟩
  · cases ha; exact bits_sim h
  · cases h
/-! ### bounds -/
abbrev IV := Option (IntKind × Int)
def avs (o : IV) : Option AV := o.map fun p => .int p.1 p.2
def vals (o : IV) : Option Value := o.map fun p => .int p.1 p.2
def bnd (o : IV) (dflt top n : Nat) : Prop := match o with
  | none => n = dflt
  | some (_, i) => 0 ≤ i ∧ i ≤ (top : Int) ∧ n = i.toNat
theorem boundA_form {dflt top n : Nat} {o : Option AV} (h : boundA dflt top o = some n) : ∃ o0 : IV, o = avs o0 ∧ bnd o0 dflt top n := by
  unfold boundA at h
  split at h
  · injection h with h; subst h; exact ⟨none, rfl, rfl⟩
  · split at h
    · rename_i k i hi
      injection h with h; subst h
      exact ⟨some (k, i), rfl, hi.1, hi.2, rfl⟩
    · cases h
  · cases h
theorem bndA_form {len cap a b m : Nat} {lo hi mx : Option AV} (h : bndA len cap lo hi mx = some (a, b, m)) :
    ∃ l0 h0 m0 : IV, lo = avs l0 ∧ hi = avs h0 ∧ mx = avs m0 ∧ (m0.isSome = true → h0.isSome = true) ∧ bnd m0 cap cap m ∧ bnd h0 len m b ∧ bnd l0 0 b a := by
  unfold bndA at h
  split at h
  · cases h
  · rename_i hn
    split at h
    · rename_i m' h1
      split at h
      · rename_i b' h2
        split at h
        · rename_i a' h3
          injection h with h
          simp only [Prod.mk.injEq] at h
          obtain ⟨rfl, rfl, rfl⟩ := h
          obtain ⟨m0, e1, k1⟩ := boundA_form h1
          obtain ⟨h0, e2, k2⟩ := boundA_form h2
          obtain ⟨l0, e3, k3⟩ := boundA_form h3
          refine ⟨l0, h0, m0, e3, e2, e1, fun hs => ?_, k1, k2, k3⟩
          subst e1; subst e2
          cases m0 with
          | none => cases hs
          | some p =>
            cases h0 with
            | none => exact (hn _ rfl rfl).elim
            | some q => rfl
        · cases h
      · cases h
    · cases h
theorem bound_run {v : Value} {k : IntKind} {i : Int} {y : Nat} (hv : v = .int k i) (h0 : 0 ≤ i) (h1 : i ≤ (y : Int)) (code : BoundsCode) : (Instr.sliceBound v y code).run P w = .ok i.toNat w := by
  subst hv
  simp [Instr.sliceBound, asIntOf, h0, h1]
theorem bounds_run (isS : Bool) {len cap a b m : Nat} {l0 h0 m0 : IV} (hs : m0.isSome = true → h0.isSome = true) (hm : bnd m0 cap cap m) (hb : bnd h0 len m b) (ha : bnd l0 0 b a) :
    (Instr.sliceBounds isS len cap (vals l0) (vals h0) (vals m0)).run P w = .ok (a, b, m) w := by
  unfold Instr.sliceBounds
  cases m0 with
  | none =>
    simp only [bnd] at hm
    subst hm
    cases h0 with
    | none =>
      simp only [bnd] at hb
      subst hb
      cases l0 with
      | none => simp only [bnd] at ha; subst ha; simp [vals]
      | some p => obtain ⟨k, i⟩ := p; obtain ⟨k1, k2, k3⟩ := ha; subst k3; simp [vals, bound_run rfl k1 k2]
    | some q =>
      obtain ⟨k, i⟩ := q; obtain ⟨q1, q2, q3⟩ := hb; subst q3
      cases l0 with
      | none => simp only [bnd] at ha; subst ha; simp [vals, bound_run rfl q1 q2]
      | some p => obtain ⟨k', i'⟩ := p; obtain ⟨k1, k2, k3⟩ := ha; subst k3; simp [vals, bound_run rfl q1 q2, bound_run rfl k1 k2]
  | some r =>
    obtain ⟨k0, i0⟩ := r; obtain ⟨r1, r2, r3⟩ := hm; subst r3
    cases h0 with
    | none => simp at hs
    | some q =>
      obtain ⟨k, i⟩ := q; obtain ⟨q1, q2, q3⟩ := hb; subst q3
      cases l0 with
      | none => simp only [bnd] at ha; subst ha; simp [vals, bound_run rfl r1 r2, bound_run rfl q1 q2]
      | some p => obtain ⟨k', i'⟩ := p; obtain ⟨k1, k2, k3⟩ := ha; subst k3; simp [vals, bound_run rfl r1 r2, bound_run rfl q1 q2, bound_run rfl k1 k2]
theorem bnd_le {o : IV} {d top n : Nat} (h : bnd o d top n) (hd : d ≤ top) : n ≤ top := by
  cases o with
  | none => simp only [bnd] at h; omega
  | some p => obtain ⟨_, _⟩ := p; obtain ⟨h1, h2, rfl⟩ := h; omega
theorem bnd_top {o : IV} {d d' top top' n : Nat} (h : bnd o d top n) (ho : o.isSome = true) (ht : top ≤ top') : bnd o d' top' n := by
  cases o with
  | none => cases ho
  | some p => obtain ⟨_, _⟩ := p; obtain ⟨h1, h2, rfl⟩ := h; exact ⟨h1, by omega, rfl⟩
/-- options of values -/
def OR (x : Cx) (w : World) (o : Option AV) (o' : Option Value) : Prop := match o, o' with
  | none, none => True
  | some a, some v => VRel x w a v
  | _, _ => False
theorem OR_vals {o : IV} {o' : Option Value} (h : OR x w (avs o) o') : o' = vals o := by
  cases o with
  | none => cases o' with
    | none => rfl
    | some _ => cases h
  | some p => cases o' with
    | none => cases h
    | some v => simp only [avs, Option.map, OR] at h; cases h; rfl
theorem extract_take (s : ByteArray) (a b : Nat) : (s.extract a b).data.toList = (s.data.toList.take b).drop a := by
  rw [ByteArray.data_extract, Array.toList_extract]
  simp [List.extract, List.drop_take]
theorem lies_drop {a : Addr} {vs : List Value} {k : Nat} (h : Lies x w a vs) : Lies x w (a.add k) (vs.drop k) := by
  refine ⟨by rw [add_block]; exact h.1, fun i v hi => ?_⟩
  rw [List.getElem?_drop] at hi
  have e : (a.add k).add i = a.add (k + i) := by
    unfold Addr.add
    by_cases h0 : k = 0
    · subst h0; simp
    · by_cases h1 : i = 0
      · subst h1; simp [h0]
      · simp [h0, h1, Nat.add_assoc]
  rw [e]
  exact h.2 _ _ hi
theorem lies_take {a : Addr} {vs : List Value} {k : Nat} (h : Lies x w a vs) : Lies x w a (vs.take k) := ⟨h.1, fun i v hi => h.2 i v (by
  rw [List.getElem?_take] at hi
  split at hi
  · exact hi
  · cases hi)⟩
end Go.Abs

namespace Go.Abs
variable [Bnd]
variable {P : Program} {x : Cx} {w : World}
theorem vals_isSome (o : IV) : (vals o).isSome = o.isSome := by cases o <;> rfl
theorem avs_isSome (o : IV) : (avs o).isSome = o.isSome := by cases o <;> rfl
theorem slice_run {t e : TypeId} {s len cap a b m : Nat} {A : Option Addr} {l0 h0 m0 : IV} (hu : P.underlying t = some (.slice e)) (hs : sizeT P e = some s)
    (hsm : m0.isSome = true → h0.isSome = true) (hm : bnd m0 cap cap m) (hb : bnd h0 len m b) (ha : bnd l0 0 b a) :
    (Instr.sliceAt t (.slice A len cap) (vals l0) (vals h0) (vals m0)).run P w = .ok (.slice (if m = a then A else A.map (·.add (a * s))) (b - a) (m - a)) w := by
  simp [Instr.sliceAt, Instr.slice, run_underlying hu, bounds_run true hsm hm hb ha, run_sizeOf' hs]
theorem b_le {len cap b m : Nat} {h0 m0 : IV} (hlc : len ≤ cap) (k1 : m0.isSome = true → h0.isSome = true) (k2 : bnd m0 cap cap m) (k3 : bnd h0 len m b) : b ≤ m := by
  cases h0 with
  | none =>
    cases m0 with
    | none => simp only [bnd] at k2 k3; omega
    | some _ => simp at k1
  | some q => exact bnd_le (d := 0) (bnd_top k3 rfl (Nat.le_refl _)) (Nat.zero_le _)
theorem bnd_conc {len cap cap' b m : Nat} {h0 m0 : IV} (k1 : m0.isSome = true → h0.isSome = true) (k2 : bnd m0 cap cap m) (k3 : bnd h0 len m b) (hc : cap ≤ cap') :
    ∃ m', bnd m0 cap' cap' m' ∧ bnd h0 len m' b ∧ (m0 = none → m' = cap') ∧ (m0.isSome = true → m' = m) := by
  cases m0 with
  | none =>
    simp only [bnd] at k2
    subst k2
    refine ⟨cap', rfl, ?_, (fun _ => rfl), (fun h => by cases h)⟩
    cases h0 with
    | none => exact k3
    | some q => exact bnd_top k3 rfl hc
  | some q => exact ⟨m, bnd_top k2 rfl hc, k3, (fun h => by cases h), (fun _ => rfl)⟩
theorem sliceS_sim {t e : TypeId} {s : Nat} {c v : AV} {p : Value} {lo hi mx : Option AV} {lo' hi' mx' : Option Value} (hu : P.underlying t = some (.slice e)) (hs : sizeT P e = some s) (h : sliceS t lo hi mx s c = some v) (hp : VRel x w c p)
    (h1 : OR x w lo lo') (h2 : OR x w hi hi') (h3 : OR x w mx mx') : ∃ r, (Instr.sliceAt t p lo' hi' mx').run P w = .ok r w ∧ VRel x w v r := by
  cases hp <;> simp only [sliceS] at h <;> (try (cases h; done))
  case nilsl =>
    split at h
    · rename_i q hq
      obtain ⟨a, b, m⟩ := q
      injection h with h; subst h
      obtain ⟨l0, h0, m0, rfl, rfl, rfl, k1, k2, k3, k4⟩ := bndA_form hq
      rw [OR_vals h1, OR_vals h2, OR_vals h3]
      have hm0 := bnd_le k2 (Nat.le_refl _)
      have hb0 := bnd_le k3 (Nat.zero_le _)
      have ha0 := bnd_le k4 (Nat.zero_le _)
      obtain rfl : m = 0 := by omega
      obtain rfl : b = 0 := by omega
      obtain rfl : a = 0 := by omega
      exact ⟨_, slice_run hu hs k1 k2 k3 k4, by simpa using VRel.nilsl⟩
    · cases h
  case zsl a0 =>
    split at h
    · rename_i q hq
      obtain ⟨a, b, m⟩ := q
      injection h with h; subst h
      obtain ⟨l0, h0, m0, rfl, rfl, rfl, k1, k2, k3, k4⟩ := bndA_form hq
      rw [OR_vals h1, OR_vals h2, OR_vals h3]
      have hm0 := bnd_le k2 (Nat.le_refl _)
      have hb0 := bnd_le k3 (Nat.zero_le _)
      have ha0 := bnd_le k4 (Nat.zero_le _)
      obtain rfl : m = 0 := by omega
      obtain rfl : b = 0 := by omega
      obtain rfl : a = 0 := by omega
      exact ⟨_, slice_run hu hs k1 k2 k3 k4, by simpa using VRel.zsl _⟩
    · cases h
  case esl a0 cap =>
    split at h
    · rename_i q hq
      obtain ⟨a, b, m⟩ := q
      obtain ⟨l0, h0, m0, rfl, rfl, rfl, k1, k2, k3, k4⟩ := bndA_form hq
      rw [OR_vals h1, OR_vals h2, OR_vals h3]
      have hm0 := bnd_le k2 (Nat.le_refl _)
      have hb0 := bnd_le k3 (Nat.zero_le _)
      have ha0 := bnd_le k4 (Nat.zero_le _)
      obtain rfl : m = 0 := by omega
      obtain rfl : b = 0 := by omega
      obtain rfl : a = 0 := by omega
      cases m0 with
      | none =>
        injection h with h; subst h
        have k3' : bnd h0 0 cap 0 := by
          cases h0 with
          | none => rfl
          | some q => exact bnd_top k3 rfl (Nat.zero_le _)
        refine ⟨_, slice_run (m := cap) hu hs k1 rfl k3' k4, ?_⟩
        split
        · simpa using VRel.esl _ _
        · simpa using VRel.esl _ _
      | some q =>
        injection h with h; subst h
        refine ⟨_, slice_run (m := 0) hu hs k1 (bnd_top k2 rfl (Nat.zero_le _)) k3 k4, by simpa using VRel.zsl _⟩
    · cases h
  case lst len cells vs A cap hc hA hvs hl =>
    split at h
    · rename_i a b m hq
      obtain ⟨l0, h0, m0, rfl, rfl, rfl, k1, k2, k3, k4⟩ := bndA_form hq
      rw [OR_vals h1, OR_vals h2, OR_vals h3]
      have hbm := b_le (Nat.le_refl _) k1 k2 k3
      have hml := bnd_le k2 (Nat.le_refl _)
      have hab := bnd_le k4 (Nat.zero_le _)
      obtain ⟨m', q1, q2, q3, q4⟩ := bnd_conc k1 k2 k3 hc
      refine ⟨_, slice_run hu hs k1 q1 q2 k4, ?_⟩
      have hm' : m ≤ m' := by
        cases m0 with
        | none => rw [q3 rfl]; omega
        | some _ => rw [q4 rfl]; exact Nat.le_refl _
      have hcap : m' ≤ cap := bnd_le q1 (Nat.le_refl _)
      split at h
      · rename_i hal
        injection h with h; subst h
        obtain ⟨a0, rfl, hl0⟩ := hl (by omega)
        have hv2 : VRels x w ((cells.take (b * s)).drop (a * s)) ((vs.take (b * s)).drop (a * s)) := (hvs.take _).drop _
        split
        · rename_i hma
          have : b - a = 0 := by omega
          refine .lst _ _ _ _ _ (by omega) (by simp) hv2 (fun hp => by omega)
        · exact .lst _ _ _ _ _ (by omega) (by simp) hv2 (fun _ => ⟨_, rfl, lies_drop (lies_take hl0)⟩)
      · rename_i hal
        split at h
        · rename_i hz
          injection h with h; subst h
          obtain ⟨a0, rfl, hl0⟩ := hl hz.2.2
          rw [avs_isSome] at hz
          have e1 := q4 hz.1
          obtain rfl : a = 0 := by omega
          obtain rfl : b = 0 := by omega
          obtain rfl : m' = 0 := by omega
          simpa using VRel.zsl a0
        · rename_i hz
          injection h with h; subst h
          have : b - a = 0 := by
            by_cases h0 : a < len
            · have : m = 0 := by omega
              omega
            · omega
          rw [this]
          refine .lst 0 [] [] _ _ (Nat.zero_le _) (fun hA' => ?_) .nil (fun hp => by omega)
          have hAn : A = none := by
            split at hA'
            · exact hA'
            · simpa using hA'
          have := hA hAn
          omega
    · cases h
  case sl n off len cap ex es c cap' hm hc he hl hk =>
    split at h
    case isFalse => cases h
    rename_i hes
    subst hes
    split at h
    · rename_i a b m hq
      obtain ⟨l0, h0, m0, rfl, rfl, rfl, k1, k2, k3, k4⟩ := bndA_form hq
      rw [OR_vals h1, OR_vals h2, OR_vals h3]
      have hbm := b_le hl k1 k2 k3
      have hml := bnd_le k2 (Nat.le_refl _)
      have hab := bnd_le k4 (Nat.zero_le _)
      obtain ⟨m', q1, q2, q3, q4⟩ := bnd_conc k1 k2 k3 hc
      refine ⟨_, slice_run hu hs k1 q1 q2 k4, ?_⟩
      have hm' : m ≤ m' ∧ ((ex || m0.isSome) = true → m' = m) := by
        cases m0 with
        | none =>
          rw [q3 rfl]
          simp only [bnd] at k2
          subst k2
          exact ⟨hc, fun h => he (by simpa using h)⟩
        | some _ => rw [q4 rfl]; exact ⟨Nat.le_refl _, fun _ => rfl⟩
      rw [avs_isSome] at h
      split at h
      · rename_i ham
        injection h with h; subst h
        rw [if_neg (by omega)]
        simp only [Option.map, add_lit']
        have hcc : m' ≤ cap' := bnd_le q1 (Nat.le_refl _)
        refine .sl _ _ _ _ _ _ _ _ hm (by omega) (fun h => by have := hm'.2 h; omega) (by omega) ?_
        have e1 : a * es + (m' - a) * es = m' * es := by rw [← Nat.add_mul]; congr 1; omega
        have e2 := Nat.mul_le_mul_right es hcc
        omega
      · rename_i ham
        have hba : b - a = 0 := by omega
        have hma : m - a = 0 := by omega
        split at h
        · rename_i hex
          injection h with h; subst h
          have e1 := hm'.2 hex
          have e2 : m' = a := by omega
          rw [if_pos e2, hba, show m' - a = 0 by omega]
          exact .sl _ _ _ _ _ _ _ _ hm (Nat.le_refl _) (fun _ => rfl) (Nat.le_refl _) (by omega)
        · injection h with h; subst h
          rw [hba]
          split
          · exact .esl _ _
          · exact .esl _ _
    · cases h
theorem slice_sim {t : TypeId} {c v : AV} {p : Value} {lo hi mx : Option AV} {lo' hi' mx' : Option Value} (h : sliceA P t c lo hi mx = some v) (hp : VRel x w c p)
    (h1 : OR x w lo lo') (h2 : OR x w hi hi') (h3 : OR x w mx mx') : ∃ r, (Instr.sliceAt t p lo' hi' mx').run P w = .ok r w ∧ VRel x w v r := by
  unfold sliceA at h
  split at h
  · rename_i hu
    split at h
    · split at h
      · rename_i s _ a b m hq
        injection h with h; subst h
        cases hp with | str s' _ hs =>
        subst hs
        cases mx' with
        | some _ => cases h3
        | none =>
        obtain ⟨l0, h0, m0, rfl, rfl, e3, k1, k2, k3, k4⟩ := bndA_form hq
        have : m0 = none := by cases m0 with
          | none => rfl
          | some _ => cases e3
        subst this
        rw [OR_vals h1, OR_vals h2]
        have hsz : s'.data.toList.length = s'.size := by rw [Array.length_toList]; rfl
        rw [hsz] at k2 k3
        have hr := bounds_run (P := P) (w := w) (m0 := none) false k1 k2 k3 k4
        refine ⟨.string (s'.extract a b), ?_, .str _ _ (extract_take s' a b)⟩
        have hr' : (Instr.sliceBounds false s'.size s'.size (vals l0) (vals h0) none).run P w = .ok (a, b, m) w := hr
        simp [Instr.sliceAt, Instr.slice, run_underlying hu, hr']
      · cases h
    · cases h
  · rename_i hu
    split at h
    · rename_i s hs
      exact sliceS_sim hu hs h hp h1 h2 h3
    · cases h
  · cases h
end Go.Abs
