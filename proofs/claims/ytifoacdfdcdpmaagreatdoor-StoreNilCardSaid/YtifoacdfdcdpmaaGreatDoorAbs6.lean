/- What is proved: a part of the proof of the tied card of StoreNil (text Abs6 of it). Conditions: those that its theorems name. -/
import Derived.Test.YtifoacdfdcdpmaaGreatDoorAbs5
import Derived.Laws.StructEq
set_option linter.unusedVariables false
set_option linter.unusedSimpArgs false
namespace Go.Abs
variable {P : Program} {x : Cx} {w : World}
theorem str_eq {a b : ByteArray} : (a.toList == b.toList) = (a.data.toList == b.data.toList) := by rw [ByteArray.toList_eq, ByteArray.toList_eq]
theorem bytesLess_eq : ∀ (a b : List UInt8), Op.bytesLess a b = bytesLess a b
  | _, [] => by simp [Op.bytesLess, bytesLess]
  | [], _ :: _ => by simp [Op.bytesLess, bytesLess]
  | a :: x, b :: y => by simp [Op.bytesLess, bytesLess, bytesLess_eq x y]
theorem part_sim {t : TypeId} {cs l : List AV} {v : AV} {arr : Array Value} {off s : Nat} (hs : sizeT P t = some s) (hc : cut cs off s = some l) (h : asVal P t l = some v) (hr : VRels x w cs arr.toList) :
    ∃ r, (part t arr off).run P w = .ok r w ∧ VRel x w v r := by
  have hr2 := cut_rel hc hr
  rcases asVal_rel h hr2 with ⟨h1, h2⟩ | ⟨h1, u, h3, h4, h2⟩
  · refine ⟨_, ?_, h2⟩
    have e : (List.take s (List.drop off arr.toList)).toArray = arr.extract off (off + s) := by
      apply Array.ext'
      simp [List.take_drop]
    simp [part, isAggT_true h1, run_sizeOf' hs, e]
  · refine ⟨u, ?_, h2⟩
    have h5 : arr[off]? = some u := by
      have : (List.take s (List.drop off arr.toList))[0]? = some u := by rw [h3]; rfl
      rw [List.getElem?_take] at this
      split at this
      · simpa using this
      · cases this
    simp [part, isAggT_false h1, h5]
theorem ptr_form {a : AV} {p : Value} (ha : VRel x w a p) (h : isPtr a = true) : ∃ A, p = .pointer A ∧ ∀ b, nilA a = some b → A.isNone = b := by
  cases ha <;> first | (simp [isPtr] at h; done) | exact ⟨_, rfl, fun b hb => by simpa [nilA] using hb⟩
theorem sl_form {a : AV} {p : Value} (ha : VRel x w a p) (h : isSl a = true) : ∃ A l c, p = .slice A l c ∧ ∀ b, nilA a = some b → A.isNone = b := by
  cases ha with
  | lst len cells vs A cap hc h0 hr hl =>
    refine ⟨A, len, cap, rfl, fun b hb => ?_⟩
    cases len with
    | zero => simp [nilA] at hb
    | succ n => obtain ⟨a, rfl, _⟩ := hl (by omega); simpa [nilA] using hb
  | _ => first | (simp [isSl] at h; done) | exact ⟨_, _, _, rfl, fun b hb => by simpa [nilA] using hb⟩
theorem map_form {a : AV} {p : Value} (ha : VRel x w a p) (h : isMap a = true) : ∃ A, p = .map A ∧ ∀ b, nilA a = some b → A.isNone = b := by
  cases ha <;> first | (simp [isMap] at h; done) | exact ⟨_, rfl, fun b hb => by simpa [nilA] using hb⟩
theorem fn_form {a : AV} {p : Value} (ha : VRel x w a p) (h : isFn a = true) : (p = .nilFunc ∧ nilA a = some true) ∨ (∃ f b c, p = .func f b c ∧ nilA a = some false) := by
  cases ha <;> first | (simp [isFn] at h; done) | exact .inl ⟨rfl, rfl⟩ | exact .inr ⟨_, _, _, rfl, rfl⟩
theorem run_eq_ptr {t e : TypeId} (hu : P.underlying t = some (.pointer e)) (n : Nat) : ∀ A B : Option Addr, A = none ∨ B = none → (Op.equalIn (n + 1) t (.pointer A) (.pointer B)).run P w = .ok (A.isNone && B.isNone) w
  | none, none, _ => by simp [Op.equalIn, run_underlying hu]
  | none, some b, _ => by simp [Op.equalIn, run_underlying hu]
  | some a, none, _ => by simp [Op.equalIn, run_underlying hu]
  | some a, some b, h => by simp at h
theorem run_eq_sl {t e : TypeId} (hu : P.underlying t = some (.slice e)) (n l l' c c' : Nat) : ∀ A B : Option Addr, A = none ∨ B = none → (Op.equalIn (n + 1) t (.slice A l c) (.slice B l' c')).run P w = .ok (A.isNone && B.isNone) w
  | none, none, _ => by simp [Op.equalIn, run_underlying hu]
  | none, some b, _ => by simp [Op.equalIn, run_underlying hu]
  | some a, none, _ => by simp [Op.equalIn, run_underlying hu]
  | some a, some b, h => by simp at h
theorem run_eq_map {t k e : TypeId} (hu : P.underlying t = some (.map k e)) (n : Nat) : ∀ A B : Option Nat, A = none ∨ B = none → (Op.equalIn (n + 1) t (.map A) (.map B)).run P w = .ok (A.isNone && B.isNone) w
  | none, none, _ => by simp [Op.equalIn, run_underlying hu]
  | none, some b, _ => by simp [Op.equalIn, run_underlying hu]
  | some a, none, _ => by simp [Op.equalIn, run_underlying hu]
  | some a, some b, h => by simp at h
theorem run_eq_fn1 {t : TypeId} {a b : Array TypeId} {v : Bool} (hu : P.underlying t = some (.func a b v)) (n : Nat) : (Op.equalIn (n + 1) t .nilFunc .nilFunc).run P w = .ok true w := by simp [Op.equalIn, run_underlying hu]
theorem run_eq_fn2 {t : TypeId} {a b : Array TypeId} {v : Bool} (hu : P.underlying t = some (.func a b v)) (n : Nat) (f : Fn) (c d : Array Value) : (Op.equalIn (n + 1) t .nilFunc (.func f c d)).run P w = .ok false w := by simp [Op.equalIn, run_underlying hu]
theorem run_eq_fn3 {t : TypeId} {a b : Array TypeId} {v : Bool} (hu : P.underlying t = some (.func a b v)) (n : Nat) (f : Fn) (c d : Array Value) : (Op.equalIn (n + 1) t (.func f c d) .nilFunc).run P w = .ok false w := by simp [Op.equalIn, run_underlying hu]
theorem none_of {α : Type} {A : Option α} (h : A.isNone = true) : A = none := by cases A <;> simp_all
theorem eqNil_key {a b : AV} {r : Bool} (h : (match nilA a, nilA b with
  | some true, some r => some r
  | some r, some true => some r
  | _, _ => none) = some r) : ∃ u v, nilA a = some u ∧ nilA b = some v ∧ (u = true ∨ v = true) ∧ r = (u && v) := by
  generalize nilA a = A at *
  generalize nilA b = B at *
  cases A with
  | none => simp at h
  | some u =>
    cases B with
    | none => cases u <;> simp at h
    | some v => cases u <;> cases v <;> simp at h <;> subst h <;> exact ⟨_, _, rfl, rfl, by simp, rfl⟩
theorem eqNil_sim {t : TypeId} {d : TypeDesc} {a b : AV} {p q : Value} {r : Bool} (hu : P.underlying t = some d) (h : eqNil d a b = some r) (ha : VRel x w a p) (hb : VRel x w b q) (n : Nat) : (Op.equalIn (n + 1) t p q).run P w = .ok r w := by
  unfold eqNil at h
  split at h
  · rename_i hf
    simp only [Bool.and_eq_true] at hf
    obtain ⟨u, v, hu1, hv1, hr, rfl⟩ := eqNil_key h
    clear h
    obtain ⟨hf1, hf2⟩ := hf
    cases d <;> simp only [fitA, Bool.false_eq_true] at hf1 hf2
    · obtain ⟨A, rfl, h1⟩ := ptr_form ha hf1
      obtain ⟨B, rfl, h2⟩ := ptr_form hb hf2
      rw [← h1 _ hu1, ← h2 _ hv1] at hr ⊢
      exact run_eq_ptr hu n A B (hr.imp none_of none_of)
    · obtain ⟨A, _, _, rfl, h1⟩ := sl_form ha hf1
      obtain ⟨B, _, _, rfl, h2⟩ := sl_form hb hf2
      rw [← h1 _ hu1, ← h2 _ hv1] at hr ⊢
      exact run_eq_sl hu n _ _ _ _ A B (hr.imp none_of none_of)
    · obtain ⟨A, rfl, h1⟩ := map_form ha hf1
      obtain ⟨B, rfl, h2⟩ := map_form hb hf2
      rw [← h1 _ hu1, ← h2 _ hv1] at hr ⊢
      exact run_eq_map hu n A B (hr.imp none_of none_of)
    · rcases fn_form ha hf1 with ⟨rfl, h1⟩ | ⟨_, _, _, rfl, h1⟩ <;> rcases fn_form hb hf2 with ⟨rfl, h2⟩ | ⟨_, _, _, rfl, h2⟩ <;> rw [h1] at hu1 <;> rw [h2] at hv1 <;> injection hu1 with hu1 <;> injection hv1 with hv1 <;> subst hu1 <;> subst hv1
      · exact run_eq_fn1 hu n
      · exact run_eq_fn2 hu n _ _ _
      · exact run_eq_fn3 hu n _ _ _
      · simp at hr
  · cases h
theorem eqT_sim : ∀ (n : Nat) {t : TypeId} {a b : AV} {p q : Value} {r : Bool} (d : Nat), n ≤ d → eqT P n t a b = some r → VRel x w a p → VRel x w b q → (Op.equalIn d t p q).run P w = .ok r w
  | 0, _, _, _, _, _, _, _, _, h, _, _ => by simp [eqT] at h
  | n + 1, t, a, b, p, q, r, d, hd, h, ha, hb => by
    obtain ⟨d, rfl⟩ : ∃ k, d = k + 1 := ⟨d - 1, by omega⟩
    unfold eqT at h
    split at h
    · rename_i hu
      injection h with h; subst h
      cases ha; cases hb
      exact run_equalIn_bool' w d t _ _ hu
    · rename_i hu
      split at h
      · rename_i hk
        injection h with h; subst h; subst hk
        cases ha; cases hb
        exact run_equalIn_int w d t _ _ _ _ hu
      · cases h
    · rename_i hu
      injection h with h; subst h
      cases ha with | str s l h1 => cases hb with | str s' l' h2 =>
      rw [run_equalIn_string w d t _ _ hu, str_eq, h1, h2]
    · rename_i fs xs ys hu
      split at h
      · cases h
      · rename_i hst
        cases ha with | agg _ xs' h1 => cases hb with | agg _ ys' h2 =>
        have hfo : P.fieldsOf t = fs := by simp [Program.fieldsOf, hu]
        rw [run_equalIn_struct w d t xs' ys' (by rw [hfo]; exact hu) (by simpa using hst), hfo]
        clear hu hst hfo
        revert h
        generalize fs.toList = l
        intro h
        induction l with
        | nil => simp [eqFs] at h; subst h; rfl
        | cons f l ih =>
          unfold eqFs at h
          split at h
          · cases h
          · rename_i hn
            split at h
            · rename_i s hs
              split at h
              · rename_i cx cy hx hy
                split at h
                · rename_i va vb hva hvb
                  obtain ⟨ra, r1, r2⟩ := part_sim hs hx hva h1
                  obtain ⟨rb, r3, r4⟩ := part_sim hs hy hvb h2
                  split at h
                  · rename_i hrc
                    have := eqT_sim n d (by omega) hrc r2 r4
                    simp [Op.eqFields, hn, r1, r3, this, ih h]
                  · rename_i hrc
                    injection h with h; subst h
                    have := eqT_sim n d (by omega) hrc r2 r4
                    simp [Op.eqFields, hn, r1, r3, this]
                  · cases h
                · cases h
              · cases h
            · cases h
    · rename_i te n1 o1 n2 o2 hu
      split at h
      · rename_i hn
        subst hn
        split at h
        · rename_i i hi
          split at h
          · rename_i hsz
            injection h with h; subst h
            cases ha with | ptr _ c _ hm => cases hb with | ptr _ c2 _ hm2 =>
            rw [hm] at hm2; cases hm2
            simp [Op.equalIn, run_underlying hu, sizeOf, typeInfo, hi, sameAddr, hsz]
            by_cases ho : o1 = o2
            · subst ho; simp
            · have : ((⟨c, o1, none⟩ : Addr) == ⟨c, o2, none⟩) = false := by simp [ho]
              simp [this, ho]
          · cases h
        · cases h
      · cases h
    · exact eqNil_sim (by assumption) h ha hb d
    · cases h
theorem bits_sim {op : BinOp} {k : IntKind} {a b : Int} {v : AV} (h : bitsA op k a b = some v) : ∃ r, (Op.intBits op k a b).run P w = .ok r w ∧ VRel x w v r := by
  unfold bitsA at h
  cases op <;> (first | (injection h with h; subst h; exact ⟨_, rfl, .int _ _⟩) | cases h)
theorem int_sim {op : BinOp} {t : TypeId} {k : IntKind} {a b : Int} {v : AV} (h : intA op k a b = some v) : ∃ r, (binOp op t (.int k a) (.int k b)).run P w = .ok r w ∧ VRel x w v r := by
  unfold intA at h
  cases op <;> simp only [] at h
  case quo =>
    split at h
    · cases h
    · rename_i hb
      injection h with h; subst h
      exact ⟨_, by simp [binOp, Op.intDiv, hb], .int _ _⟩
  case rem =>
    split at h
    · cases h
    · rename_i hb
      injection h with h; subst h
      exact ⟨_, by simp [binOp, Op.intDiv, hb], .int _ _⟩
  all_goals first
    | cases h; done
    | (injection h with h; subst h; exact ⟨_, by simp [binOp, Op.intArith, Op.intCmp]; rfl, by constructor⟩)
    | (injection h with h; subst h; exact ⟨_, by simp [binOp, Op.intArith, Op.intCmp], by constructor⟩)
    | (obtain ⟨r, h1, h2⟩ := bits_sim (P := P) (x := x) (w := w) h; exact ⟨r, by simpa [binOp] using h1, h2⟩)
theorem sh_sim {op : BinOp} {t : TypeId} {k k' : IntKind} {a b : Int} {v : AV} (h : shA op k a b = some v) : ∃ r, (binOp op t (.int k a) (.int k' b)).run P w = .ok r w ∧ VRel x w v r := by
  unfold shA at h
  split at h
  · cases h
  · rename_i hb
    cases op <;> simp only [] at h <;> first | (cases h; done) | (injection h with h; subst h; exact ⟨_, by simp [binOp, Op.shift, hb], .int _ _⟩)
theorem str_sim {op : BinOp} {t : TypeId} {a b : ByteArray} {v : AV} (h : strA op a.data.toList b.data.toList = some v) : ∃ r, (binOp op t (.string a) (.string b)).run P w = .ok r w ∧ VRel x w v r := by
  unfold strA at h
  cases op <;> simp only [] at h
  case add =>
    split at h
    · rename_i hl
      injection h with h; subst h
      refine ⟨.string (a ++ b), ?_, .str _ _ (by simp)⟩
      have : ¬ (9223372036854775807 < ((a.size : Int) + (b.size : Int))) := by
        simp only [Array.length_toList] at hl
        have e1 : a.data.size = a.size := rfl
        have e2 : b.data.size = b.size := rfl
        omega
      simp [binOp, Op.stringOp, this]
    · cases h
  all_goals first
    | cases h; done
    | (injection h with h; subst h; exact ⟨_, by simp [binOp, Op.stringOp, bytesLess_eq, ByteArray.toList_eq], .bool _⟩)
theorem eqGuard_not {t : TypeId} {xo yo : Operand} {op : BinOp} {p q : Value} (h1 : p ≠ .nilIface) (h2 : (∃ a, p = .agg a) → ∀ b, q ≠ .agg b) : (eqGuard op t xo yo p q).run P w = .ok () w := by
  cases op <;> simp only [eqGuard] <;> first | rfl | skip
  all_goals (cases p <;> first | (exact absurd rfl h1) | (simp; done) | (cases q <;> first | (exact absurd rfl (h2 ⟨_, rfl⟩ _)) | simp))
theorem plain_form {a : AV} {p : Value} (ha : VRel x w a p) (h : plainE a = true) : p ≠ .nilIface ∧ ∀ b, p ≠ .agg b := by
  cases ha <;> first | (simp [plainE] at h; done) | exact ⟨by simp, by simp⟩
theorem eqA_sim {t : TypeId} {xo yo : Operand} {op : BinOp} {a b : AV} {p q : Value} {r : Bool} (h : eqA P t a b = some r) (ha : VRel x w a p) (hb : VRel x w b q) :
    (eqGuard op t xo yo p q).run P w = .ok () w ∧ (Op.equal t p q).run P w = .ok r w := by
  unfold eqA at h
  split at h
  · split at h
    · cases h
    · rename_i hg
      refine ⟨?_, eqT_sim 20 _ (by simp [Op.maxDepth]) h ha hb⟩
      cases ha; cases hb
      exact run_eqGuard_agg w op t xo yo _ _ (by simpa using hg)
  · split at h
    · rename_i hp
      simp only [Bool.and_eq_true] at hp
      obtain ⟨k1, k2⟩ := plain_form ha hp.1
      obtain ⟨k3, k4⟩ := plain_form hb hp.2
      exact ⟨eqGuard_not k1 (fun _ b hb => k4 b hb), eqT_sim 20 _ (by simp [Op.maxDepth]) h ha hb⟩
    · cases h
theorem run_bin_eql {t : TypeId} {p q : Value} {r : Bool} (hb : ∀ op, op = .eql ∨ op = .neq → binOp op t p q = if op = .eql then (do pure (.bool (← Op.equal t p q))) else (do pure (.bool (!(← Op.equal t p q))))) (h : (Op.equal t p q).run P w = .ok r w) :
    (binOp .eql t p q).run P w = .ok (.bool r) w ∧ (binOp .neq t p q).run P w = .ok (.bool !r) w := by
  rw [hb _ (.inl rfl), hb _ (.inr rfl), if_pos rfl, if_neg (by simp)]
  simp [h]
theorem eq_forms {t : TypeId} {a b : AV} {p q : Value} {r : Bool} (h : eqA P t a b = some r) (n1 : ∀ k i k' j, a = .int k i → b = .int k' j → False) (n2 : ∀ s s', a = .str s → b = .str s' → False) (ha : VRel x w a p) (hb : VRel x w b q) :
    ∀ op, op = .eql ∨ op = .neq → binOp op t p q = if op = .eql then (do pure (.bool (← Op.equal t p q))) else (do pure (.bool (!(← Op.equal t p q)))) := by
  have key : (∃ u v, p = .bool u ∧ q = .bool v) ∨ (∃ u v, p = .agg u ∧ q = .agg v) ∨ (∃ u v, p = .pointer u ∧ q = .pointer v) ∨ (∃ u l c v l' c', p = .slice u l c ∧ q = .slice v l' c') ∨ (∃ u v, p = .map u ∧ q = .map v) ∨ ((p = .nilFunc ∨ ∃ f c d, p = .func f c d) ∧ (q = .nilFunc ∨ ∃ f c d, q = .func f c d)) := by
    unfold eqA at h
    split at h
    · cases ha; cases hb; exact .inr (.inl ⟨_, _, rfl, rfl⟩)
    · split at h
      · unfold eqT at h
        split at h
        · cases ha; cases hb; exact .inl ⟨_, _, rfl, rfl⟩
        · exact (n1 _ _ _ _ rfl rfl).elim
        · exact (n2 _ _ rfl rfl).elim
        · cases ha; cases hb; exact .inr (.inl ⟨_, _, rfl, rfl⟩)
        · cases ha; cases hb; exact .inr (.inr (.inl ⟨_, _, rfl, rfl⟩))
        · unfold eqNil at h
          split at h
          · rename_i hf
            simp only [Bool.and_eq_true] at hf
            obtain ⟨hf1, hf2⟩ := hf
            rename_i d _ _ _ _ _ _ _
            clear h
            unfold fitA at hf1 hf2
            split at hf1 <;> simp only [] at hf2
            · obtain ⟨_, e1, _⟩ := ptr_form ha hf1; obtain ⟨_, e2, _⟩ := ptr_form hb hf2; exact .inr (.inr (.inl ⟨_, _, e1, e2⟩))
            · obtain ⟨_, _, _, e1, _⟩ := sl_form ha hf1; obtain ⟨_, _, _, e2, _⟩ := sl_form hb hf2; exact .inr (.inr (.inr (.inl ⟨_, _, _, _, _, _, e1, e2⟩)))
            · obtain ⟨_, e1, _⟩ := map_form ha hf1; obtain ⟨_, e2, _⟩ := map_form hb hf2; exact .inr (.inr (.inr (.inr (.inl ⟨_, _, e1, e2⟩))))
            · refine .inr (.inr (.inr (.inr (.inr ⟨?_, ?_⟩))))
              · rcases fn_form ha hf1 with ⟨e, _⟩ | ⟨_, _, _, e, _⟩
                · exact .inl e
                · exact .inr ⟨_, _, _, e⟩
              · rcases fn_form hb hf2 with ⟨e, _⟩ | ⟨_, _, _, e, _⟩
                · exact .inl e
                · exact .inr ⟨_, _, _, e⟩
            · cases hf1
          · cases h
        · cases h
      · cases h
  rcases key with ⟨u, v, rfl, rfl⟩ | ⟨u, v, rfl, rfl⟩ | ⟨u, v, rfl, rfl⟩ | ⟨u, l, c, v, l', c', rfl, rfl⟩ | ⟨u, v, rfl, rfl⟩ | ⟨rfl | ⟨_, _, _, rfl⟩, rfl | ⟨_, _, _, rfl⟩⟩ <;> rintro op (rfl | rfl) <;> rfl
theorem bin_sim {op : BinOp} {t : TypeId} {xo yo : Operand} {a b v : AV} {p q : Value} (h : binA P op t a b = some v) (ha : VRel x w a p) (hb : VRel x w b q) :
    ∃ r, (do eqGuard op t xo yo p q; binOp op t p q : Sem Value).run P w = .ok r w ∧ VRel x w v r := by
  unfold binA at h
  split at h
  · rename_i k a k' b
    cases ha; cases hb
    have hg : (eqGuard op t xo yo (.int k a) (.int k' b)).run P w = .ok () w := eqGuard_not (by simp) (by rintro ⟨_, h⟩; cases h)
    simp only [Sem.run_bind, hg, Result.andThen_ok]
    split at h
    · exact sh_sim h
    · split at h
      · rename_i hk; subst hk; exact int_sim h
      · cases h
  · rename_i a b
    cases ha with | str s _ h1 => cases hb with | str s' _ h2 =>
    subst h1; subst h2
    have hg : (eqGuard op t xo yo (.string s) (.string s')).run P w = .ok () w := eqGuard_not (by simp) (by rintro ⟨_, h⟩; cases h)
    simp only [Sem.run_bind, hg, Result.andThen_ok]
    exact str_sim h
  · rename_i n1 n2
    split at h
    · obtain ⟨r, h1, h2⟩ := Option.map_eq_some_iff.1 h
      obtain ⟨k1, k2⟩ := eqA_sim (xo := xo) (yo := yo) (op := .eql) h1 ha hb
      subst h2
      refine ⟨_, ?_, .bool _⟩
      simp only [Sem.run_bind, k1, Result.andThen_ok, (run_bin_eql (eq_forms h1 n1 n2 ha hb) k2).1]
    · obtain ⟨r, h1, h2⟩ := Option.map_eq_some_iff.1 h
      obtain ⟨k1, k2⟩ := eqA_sim (xo := xo) (yo := yo) (op := .neq) h1 ha hb
      subst h2
      refine ⟨_, ?_, .bool _⟩
      simp only [Sem.run_bind, k1, Result.andThen_ok, (run_bin_eql (eq_forms h1 n1 n2 ha hb) k2).2]
    · cases h
end Go.Abs
