/- What is proved: a part of the proof of the tied card of StoreNil (text Abs9 of it). Conditions: those that its theorems name. -/
import Derived.Test.YtifoacdfdcdpmaaGreatDoorAbs8
set_option linter.unusedVariables false
set_option linter.unusedSimpArgs false
namespace Go.Abs
variable {P : Program} {x : Cx} {w : World}
theorem fieldT_form {t : TypeId} {f : Nat} {fl : Field} (h : fieldT P t f = some fl) : ∃ fs, P.underlying t = some (.struct fs) ∧ fs[f]? = some fl := by
  unfold fieldT at h
  split at h
  · exact ⟨_, by assumption, h⟩
  · cases h
theorem fieldAddr_sim {t : TypeId} {f : Nat} {a v : AV} {p : Value} (h : fieldAddrA P t a f = some v) (ha : VRel x w a p) : ∃ r, (Instr.fieldAt t p f).run P w = .ok r w ∧ VRel x w v r := by
  unfold fieldAddrA at h
  split at h
  · rename_i fl hfl
    obtain ⟨fs, h1, h2⟩ := fieldT_form hfl
    split at h
    · rename_i k hs
      split at h
      · injection h with h; subst h
        cases ha with | ptr n c off hm =>
        refine ⟨_, ?_, .ptr _ _ _ hm⟩
        simp [Instr.fieldAt, run_underlying h1, h2, Instr.sureAddr, fieldPlace, run_sizeOf' hs, add_lit']
      · injection h with h; subst h
        cases ha with | lptr cells vs a hv hl =>
        refine ⟨_, ?_, .lptr _ _ _ (hv.drop _) (lies_drop hl)⟩
        simp [Instr.fieldAt, run_underlying h1, h2, Instr.sureAddr, fieldPlace, run_sizeOf' hs]
      · cases h
    · cases h
  · cases h
theorem field_sim {t : TypeId} {f : Nat} {a v : AV} {p : Value} (h : fieldA P t a f = some v) (ha : VRel x w a p) : ∃ r, (Instr.field t p f).run P w = .ok r w ∧ VRel x w v r := by
  unfold fieldA at h
  split at h
  · rename_i fl cs hfl
    obtain ⟨fs, h1, h2⟩ := fieldT_form hfl
    split at h
    · rename_i s hs
      split at h
      · rename_i l hl
        cases ha with | agg _ arr hr =>
        obtain ⟨r, r1, r2⟩ := part_sim hs hl h hr
        exact ⟨r, by simp [Instr.field, run_underlying h1, h2, asAgg, r1], r2⟩
      · cases h
    · cases h
  · cases h
theorem indexAddr_sim {t : TypeId} {a i v : AV} {p q : Value} (h : indexAddrA P t a i = some v) (ha : VRel x w a p) (hi : VRel x w i q) : ∃ r, (Instr.indexAt t p q).run P w = .ok r w ∧ VRel x w v r := by
  unfold indexAddrA at h
  split at h
  · rename_i k i
    cases hi
    split at h
    · rename_i h0
      split at h
      · rename_i e n off len cap ex es hu
        split at h
        · rename_i hlt
          obtain ⟨s, hs, rfl⟩ := Option.map_eq_some_iff.1 h
          cases ha with | sl _ _ _ _ _ _ c cap' hm hc he hl hk =>
          refine ⟨_, ?_, .ptr _ _ _ hm⟩
          simp [Instr.indexAt, asIntOf, run_underlying hu, h0, hlt, run_sizeOf' hs, add_lit']
        · cases h
      · rename_i e len cells hu
        split at h
        · rename_i hlt
          obtain ⟨s, hs, rfl⟩ := Option.map_eq_some_iff.1 h
          cases ha with | lst _ _ vs A cap hc hA hv hl =>
          obtain ⟨a, rfl, hl2⟩ := hl (by omega)
          refine ⟨_, ?_, .lptr _ _ _ (hv.drop _) (lies_drop hl2)⟩
          simp [Instr.indexAt, asIntOf, run_underlying hu, h0, hlt, run_sizeOf' hs]
        · cases h
      · rename_i n e m off hu
        split at h
        · rename_i hlt
          obtain ⟨s, hs, rfl⟩ := Option.map_eq_some_iff.1 h
          cases ha with | ptr _ c _ hm =>
          refine ⟨_, ?_, .ptr _ _ _ hm⟩
          simp [Instr.indexAt, asIntOf, run_underlying hu, Instr.sureAddr, h0, hlt, run_sizeOf' hs, add_lit']
        · cases h
      · cases h
    · cases h
  · cases h
theorem bytes_get {s : ByteArray} {i : Nat} {b : UInt8} (h : s.data.toList[i]? = some b) : s[i]? = some b := by
  have h' : s.data[i]? = some b := by simpa using h
  obtain ⟨h1, h2⟩ := Array.getElem?_eq_some_iff.1 h'
  have hs : i < s.size := h1
  rw [getElem?_pos s i hs]
  exact congrArg some h2
theorem index_sim {t : TypeId} {a i v : AV} {p q : Value} (h : indexA P t a i = some v) (ha : VRel x w a p) (hi : VRel x w i q) : ∃ r, (Instr.index t p q).run P w = .ok r w ∧ VRel x w v r := by
  unfold indexA at h
  split at h
  · rename_i k i
    cases hi
    split at h
    · rename_i h0
      split at h
      · rename_i s hu
        split at h
        · rename_i b hb
          injection h with h; subst h
          cases ha with | str s' _ hs =>
          subst hs
          refine ⟨_, ?_, .int _ _⟩
          simp [Instr.index, asIntOf, run_underlying hu, h0, bytes_get hb]
        · cases h
      · rename_i n e cs hu
        split at h
        · rename_i hlt
          split at h
          · rename_i s hs
            split at h
            · rename_i l hl
              cases ha with | agg _ arr hr =>
              obtain ⟨r, r1, r2⟩ := part_sim hs hl h hr
              exact ⟨r, by simp [Instr.index, asIntOf, run_underlying hu, h0, hlt, run_sizeOf' hs, r1], r2⟩
            · cases h
          · cases h
        · cases h
      · cases h
    · cases h
  · cases h
theorem extract_sim {vs : List AV} {p : Value} {i : Nat} {v : AV} (h : vs[i]? = some v) (ha : VRel x w (.tup vs) p) : ∃ r, (Instr.extract p i).run P w = .ok r w ∧ VRel x w v r := by
  cases ha with | tup _ arr hr =>
  obtain ⟨r, r1, r2⟩ := hr.get h
  have : arr[i]? = some r := by simpa using r1
  exact ⟨r, by simp [Instr.extract, this], r2⟩
theorem elemT_form {t e : TypeId} (h : elemT P t = some e) : P.underlying t = some (.slice e) := by
  unfold elemT at h
  split at h
  · injection h with h; subst h; assumption
  · cases h
theorem zeros_run {e : TypeId} {z : List AV} (hz : zeroT P e = some z) (len : Nat) (x : Cx) (w : World) :
    (len * z.length = 0 ∧ reps z len = []) ∨ (¬ len * z.length = 0 ∧ ∃ zv : Value, (zeroValue e).run P w = .ok zv w ∧ VRels x w (reps z len) ((Array.range (len * z.length)).map (zv.cells[· % zv.cells.size]!)).toList) := by
  obtain ⟨zv, k1, k2⟩ := run_zeroValue' hz w
  have hzl : zv.cells.size = z.length := by rw [← Array.length_toList, (k2 x w).length]
  by_cases h0 : len * z.length = 0
  · exact .inl ⟨h0, List.eq_nil_of_length_eq_zero (by rw [reps_len, h0])⟩
  · refine .inr ⟨h0, zv, k1, ?_⟩
    have := zeros_rel (k2 x w) len
    rwa [hzl] at this ⊢
theorem range0 (f : Nat → Value) : Array.map f (Array.range 0) = #[] := by apply Array.ext'; simp
theorem fillA_len {place : Nat → Option (Nat × Nat)} : ∀ {ps : List (Nat × AV)} {cells out : List AV}, fillA place cells ps = some out → out.length = cells.length
  | [], cells, out, h => by simp [fillA] at h; subst h; rfl
  | (i, v) :: ps, cells, out, h => by
    simp only [fillA] at h
    split at h
    · cases h
    · split at h
      · rename_i off size _ hc
        rw [fillA_len h]
        simp [splice]
        omega
      · cases h
theorem buildSlice_sim {h : Hp} {t e : TypeId} {len s : Nat} {z cs : List AV} {ps : List (Nat × AV)} {ps' : Array (Nat × Value)} (he : elemT P t = some e) (hs : sizeT P e = some s) (hz : zeroT P e = some z) (hl : z.length = s ∧ len * s ≤ 2 ^ 24)
    (hf : fillA (fun i => some (i * s, s)) (reps z len) ps = some cs) (h1 : ps.map (·.1) = ps'.toList.map (·.1)) (h2 : VRels x w (ps.map (·.2)) (ps'.toList.map (·.2))) (hr : HRel x h.blks.get w) (hfr : x.m h.next = none) :
    ∃ r w', (Instr.buildSlice t len ps').run P w = .ok r w' ∧ Did x h w (.sl (h.new (.cells cs e)).2 0 len len true s) (h.new (.cells cs e)).1 r w' := by
  obtain ⟨hl1, hl2⟩ := hl
  subst hl1
  have hbig : ¬ (16777216 < len * z.length) := by omega
  have fin : ∀ arr' : Array Value, VRels x w cs arr'.toList → Did x h w (.sl (h.new (.cells cs e)).2 0 len len true z.length) (h.new (.cells cs e)).1 (.slice (some ⟨w.heap.size, 0, none⟩) len len) (w.alloc (.cells arr' e)) := by
    intro arr' r2
    obtain ⟨y, e1, e2, e3, e4⟩ := new_sim (b := .cells cs e) (o := .cells arr' e) _ hr hfr (fun y u hm hu => ⟨_, _, hu, r2.mono hm, List.prefix_refl _, rfl⟩)
    have hcl := fillA_len hf
    rw [reps_len] at hcl
    exact ⟨y, e1, e2, .sl _ 0 _ _ _ _ _ _ e3 (Nat.le_refl _) (fun _ => rfl) (Nat.le_refl _) (by rw [e4, ← Array.length_toList, r2.length, hcl]; omega)⟩
  rcases zeros_run hz len x w with ⟨h0, hz0⟩ | ⟨h0, zv, k1, k2⟩
  · rw [hz0] at hf
    obtain ⟨arr', r1, r2⟩ := fill_sim (arr := #[]) hf h1 h2 .nil
    refine ⟨_, _, ?_, fin arr' r2⟩
    simp [Instr.buildSlice, run_underlying (elemT_form he), run_sizeOf' hs, h0, range0, r1, newRow]
  · obtain ⟨arr', r1, r2⟩ := fill_sim hf h1 h2 k2
    refine ⟨_, _, ?_, fin arr' r2⟩
    simp only [Instr.buildSlice, Sem.run_bind, run_underlying (elemT_form he), Result.andThen_ok, run_sizeOf' hs, Sem.run_ite, h0, if_false, k1, Sem.run_pure, r1]
    rw [if_neg (by omega)]
    simp [newRow]
theorem makeSlice_sim {h : Hp} {t e : TypeId} {i : TypeInfo} {z : List AV} {l c : Int} (he : elemT P t = some e) (hi : P.info? e = some i) (hz : zeroT P e = some z) (hl : 0 ≤ l ∧ l ≤ c ∧ i.bytes * c ≤ 2 ^ 45 ∧ c ≤ 2 ^ 45 ∧ z.length = i.size)
    (hr : HRel x h.blks.get w) (hfr : x.m h.next = none) :
    ∃ r w', (Instr.makeSlice t (.int .i64 l) (.int .i64 c)).run P w = .ok r w' ∧ Did x h w (.sl (h.new (.cells (reps z c.toNat) e)).2 0 l.toNat c.toNat true i.size) (h.new (.cells (reps z c.toNat) e)).1 r w' := by
  obtain ⟨h0, h1, h2, h3, h4⟩ := hl
  have fin : ∀ arr' : Array Value, VRels x w (reps z c.toNat) arr'.toList → Did x h w (.sl (h.new (.cells (reps z c.toNat) e)).2 0 l.toNat c.toNat true i.size) (h.new (.cells (reps z c.toNat) e)).1 (.slice (some ⟨w.heap.size, 0, none⟩) l.toNat c.toNat) (w.alloc (.cells arr' e)) := by
    intro arr' r2
    obtain ⟨y, e1, e2, e3, e4⟩ := new_sim (b := .cells (reps z c.toNat) e) (o := .cells arr' e) _ hr hfr (fun y u hm hu => ⟨_, _, hu, r2.mono hm, List.prefix_refl _, rfl⟩)
    exact ⟨y, e1, e2, .sl _ 0 _ _ _ _ _ _ e3 (Nat.le_refl _) (fun _ => rfl) (by omega) (by rw [e4, ← Array.length_toList, r2.length, reps_len, h4]; omega)⟩
  have hc : IntKind.i64.wrap c = c := by rw [IntKind.wrap_i64]; omega
  have hl : IntKind.i64.wrap l = l := by rw [IntKind.wrap_i64]; omega
  have b1 : ¬ (c < 0) := by omega
  have b2 : ¬ (281474976710656 < (i.bytes : Int) * c) := by omega
  have b3 : ¬ (l < 0) := by omega
  have b4 : ¬ (c < l) := by omega
  have hs : (sizeOf e).run P w = .ok z.length w := by rw [run_sizeOf' (s := i.size) (by simp [sizeT, hi]), h4]
  rcases zeros_run hz c.toNat x w with ⟨h0, hz0⟩ | ⟨h0, zv, k1, k2⟩
  · refine ⟨_, _, ?_, fin #[] (by rw [hz0]; exact .nil)⟩
    simp [Instr.makeSlice, run_underlying (elemT_form he), asInt, asIntOf, run_typeInfo' hi, hc, hl, hs, b1, b2, b3, b4, h0, range0, newRow]
  · refine ⟨_, _, ?_, fin _ k2⟩
    have h0' : ¬ (c.toNat = 0 ∨ z = []) := fun h => h0 (by rcases h with h | h <;> simp [h])
    simp [Instr.makeSlice, run_underlying (elemT_form he), asInt, asIntOf, run_typeInfo' hi, hc, hl, hs, b1, b2, b3, b4, h0, h0', k1, newRow]
end Go.Abs
