/- What is proved: a part of the proof of the tied card of StoreNil (text Abs12 of it). Conditions: those that its theorems name. -/
import Derived.Test.YtifoacdfdcdpmaaGreatDoorAbs11
set_option linter.unusedVariables false
set_option linter.unusedSimpArgs false
namespace Go.Abs
variable {P : Program} {x : Cx} {w : World}
def World.setO (w : World) (c : Nat) (o : Obj) : World := { w with heap := w.heap.setIfInBounds c o }
theorem setO_other (w : World) (c k : Nat) (o : Obj) (h : k ≠ c) : (World.setO w c o).heap[k]? = w.heap[k]? := by
  simp [World.setO, Array.getElem?_setIfInBounds_ne (Ne.symm h)]
theorem setO_self (w : World) (c : Nat) (o : Obj) (h : c < w.heap.size) : (World.setO w c o).heap[c]? = some o := by
  simp [World.setO, Array.getElem?_setIfInBounds, h]
theorem setObj_sim {h : Hp} {n c : Nat} {b b' : Blk} {o : Obj} (hl : h.blks.get n = some b) (hr : HRel x h.blks.get w) (hm : x.m n = some c) (hnew : ∀ u, Mono x w x u → u.heap[c]? = some o → BRel x u (x.κ n) c b') :
    Ext x h.blks.get h.next w x (h.blks.put n b').get h.next (World.setO w c o) ∧ HRel x (h.blks.put n b').get (World.setO w c o) := by
  obtain ⟨c', h1, h2, h3⟩ := hr.blk _ _ hl
  rw [hm] at h1
  cases h1
  have hmono : Mono x w x (World.setO w c o) := ⟨fun _ _ h => h, fun _ _ _ => rfl, fun _ h => h, rfl, fun k hk => setO_other w c k o (fun e => h3 (e ▸ hk))⟩
  have hsz : (World.setO w c o).heap.size = w.heap.size := by simp [World.setO]
  refine ⟨⟨fun _ _ h => h, fun _ _ _ => rfl, fun _ _ => rfl, fun _ h => h, fun _ h => .inl h, rfl, rfl, rfl, rfl, by rw [hsz]; exact Nat.le_refl _, fun k hk hn => setO_other w c k o (fun e => hn n _ hl (e ▸ hm)), fun k b0 k' e hx => ?_⟩, ⟨fun k b0 e => ?_, fun k k' b1 b2 c' e e' hx hx' => ?_, fun k hk => by rw [hsz]; exact hr.fb k hk, fun k k' hk => by rw [hsz]; exact hr.mb k k' hk⟩⟩
  · simp only [Tr.get_put] at e
    by_cases hk : k = n
    · subst hk; exact .inl ⟨k, _, hl, hx⟩
    · rw [if_neg hk] at e; exact .inl ⟨k, b0, e, hx⟩
  · simp only [Tr.get_put] at e
    by_cases hk : k = n
    · subst hk
      rw [if_pos rfl] at e
      injection e with e
      subst e
      exact ⟨c, hm, hnew _ hmono (setO_self w c o h2.lt), h3⟩
    · rw [if_neg hk] at e
      obtain ⟨c', e1, e2, e3⟩ := hr.blk k b0 e
      exact ⟨c', e1, e2.mono hmono (setO_other w c c' o (fun ec => hk (hr.inj k n b0 _ c e hl (ec ▸ e1) hm))), e3⟩
  · simp only [Tr.get_put] at e e'
    have g : ∀ {j : Nat} {bj : Blk}, (if j = n then some b' else h.blks.get j) = some bj → ∃ b0, h.blks.get j = some b0 := by
      intro j bj ej
      by_cases hj : j = n
      · subst hj; exact ⟨_, hl⟩
      · rw [if_neg hj] at ej; exact ⟨_, ej⟩
    obtain ⟨b3, g1⟩ := g e
    obtain ⟨b4, g2⟩ := g e'
    exact hr.inj k k' b3 b4 c' g1 g2 hx hx'
theorem run_getObj' {c : Nat} {o : Obj} (h : w.heap[c]? = some o) (hn : ∀ a e f, o ≠ .cells a e f) : (getObj c).run P w = .ok o w := by
  cases o <;> first
    | (exact absurd rfl (hn _ _ _); done)
    | (simp only [getObj, Sem.run, h])
theorem run_setObj' {c : Nat} {o o' : Obj} (h : w.heap[c]? = some o) (hn : ∀ a e f, o ≠ .cells a e f) : (setObj c o').run P w = .ok () (World.setO w c o') := by
  cases o <;> first
    | (exact absurd rfl (hn _ _ _); done)
    | (simp only [setObj, Sem.run, h]; rfl)
/-! ### keys -/
theorem keyOK_form {kt : TypeId} {k : AV} {q : Value} (h : keyOK P kt k = true) (hq : VRel x w k q) :
    ∃ d, P.underlying kt = some d ∧ ((∃ k0 k1 n, d = .int k0 ∧ k = .int k1 n ∧ q = .int k1 n) ∨ (d = .string ∧ ∃ s : ByteArray, k = .str s.data.toList ∧ q = .string s) ∨ (d = .bool ∧ ∃ b, k = .bool b ∧ q = .bool b)) := by
  unfold keyOK at h
  split at h
  · cases hq; exact ⟨_, by assumption, .inl ⟨_, _, _, rfl, rfl, rfl⟩⟩
  · cases hq with | str s l hs => subst hs; exact ⟨_, by assumption, .inr (.inl ⟨rfl, s, rfl, rfl⟩)⟩
  · cases hq; exact ⟨_, by assumption, .inr (.inr ⟨rfl, _, rfl, rfl⟩)⟩
  · cases h
theorem checkKey_run {kt : TypeId} {k : AV} {q : Value} (e : Bool) (n : Nat) (h : keyOK P kt k = true) (hq : VRel x w k q) (u : World) : (Instr.checkKey e (n + 1) kt q).run P u = .ok () u := by
  obtain ⟨d, hd, h⟩ := keyOK_form h hq
  rcases h with ⟨k0, k1, n, rfl, rfl, rfl⟩ | ⟨rfl, s, rfl, rfl⟩ | ⟨rfl, b, rfl, rfl⟩ <;> simp [Instr.checkKey, run_underlying hd]
theorem sameNow_sim {d : TypeDesc} {k k2 : AV} {q q2 : Value} {r : Bool} (hk : (∃ k0 k1 n, d = .int k0 ∧ k = .int k1 n ∧ q = .int k1 n) ∨ (d = .string ∧ ∃ s : ByteArray, k = .str s.data.toList ∧ q = .string s) ∨ (d = .bool ∧ ∃ b, k = .bool b ∧ q = .bool b))
    (h2 : VRel x w k2 q2) (h : eqScalar k k2 = some r) : Instr.sameNow d q q2 = some r := by
  rcases hk with ⟨k0, k1, n, rfl, rfl, rfl⟩ | ⟨rfl, s, rfl, rfl⟩ | ⟨rfl, b, rfl, rfl⟩
  · cases h2 <;> simp [eqScalar] at h
    obtain ⟨rfl, rfl⟩ := h
    simp [Instr.sameNow]
  · cases h2 <;> simp [eqScalar] at h
    rename_i s' l' hs
    subst hs; subst h
    simp only [Instr.sameNow, beq_toListBytes, ByteArray.toList_eq]
  · cases h2 <;> simp [eqScalar] at h
    subst h
    simp [Instr.sameNow]
/-- a key looked for: where it is, what else stands where it stood -/
theorem findE_sim {d : TypeDesc} {k : AV} {q : Value} (hk : (∃ k0 k1 n, d = .int k0 ∧ k = .int k1 n ∧ q = .int k1 n) ∨ (d = .string ∧ ∃ s : ByteArray, k = .str s.data.toList ∧ q = .string s) ∨ (d = .bool ∧ ∃ b, k = .bool b ∧ q = .bool b)) :
    ∀ {es : List (AV × AV × Nat)} {es' : List MapEntry} {r : Option AV} (i : Nat), findE k es = some r → ERel x w es es' →
      (r = none ∧ Instr.findNow d q es' i = some none) ∨ (∃ v j e, r = some v ∧ Instr.findNow d q es' i = some (some (i + j, e.val)) ∧ es'[j]? = some e ∧ VRel x w v e.val ∧ VRel x w k e.key ∧
        ∀ v2 (v2' : Value), VRel x w v2 v2' → ∃ es2, setE k v2 es = some es2 ∧ ERel x w es2 (es'.modify j fun e => { e with key := q, val := v2' }))
  | [], [], r, i, h, _ => by simp [findE] at h; subst h; exact .inl ⟨rfl, rfl⟩
  | (k2, v, b) :: es, ⟨ek, ev, eb⟩ :: es', r, i, h, ⟨h1, h2, h3, h4⟩ => by
    simp only [findE] at h
    simp only at h1 h2 h3
    split at h
    · rename_i hs
      injection h with h; subst h
      have hsn := sameNow_sim hk h1 hs
      refine .inr ⟨v, 0, ⟨ek, ev, eb⟩, rfl, by simp [Instr.findNow, hsn], rfl, h2, ?_, fun v2 v2' hv2 => ⟨(k, v2, b) :: es, by simp [setE, hs], ?_⟩⟩
      · rcases hk with ⟨k0, k1, n, rfl, rfl, rfl⟩ | ⟨rfl, s, rfl, rfl⟩ | ⟨rfl, b, rfl, rfl⟩
        · cases h1 <;> simp [eqScalar] at hs
          obtain ⟨rfl, rfl⟩ := hs
          exact .int _ _
        · cases h1 <;> simp [eqScalar] at hs
          rename_i s' l' hs'
          subst hs'
          exact .str _ _ hs.symm
        · cases h1 <;> simp [eqScalar] at hs
          subst hs
          exact .bool _
      · refine ⟨?_, hv2, h3, h4⟩
        rcases hk with ⟨k0, k1, n, rfl, rfl, rfl⟩ | ⟨rfl, s, rfl, rfl⟩ | ⟨rfl, b, rfl, rfl⟩
        · exact .int _ _
        · exact .str _ _ rfl
        · exact .bool _
    · rename_i hs
      have hsn := sameNow_sim hk h1 hs
      rcases findE_sim hk (i + 1) h h4 with ⟨q1, q2⟩ | ⟨v', j, e', q1, q2, q3, q4, q5, q6⟩
      · exact .inl ⟨q1, by simp [Instr.findNow, hsn, q2]⟩
      · refine .inr ⟨v', j + 1, e', q1, by simp [Instr.findNow, hsn, q2]; omega, by simpa using q3, q4, q5, fun v2 v2' hv2 => ?_⟩
        obtain ⟨es2, r1, r2⟩ := q6 v2 v2' hv2
        exact ⟨(k2, v, b) :: es2, by simp [setE, hs, r1], h1, h2, h3, r2⟩
    · cases h
theorem ERel.length {x : Cx} {w : World} : ∀ {es : List (AV × AV × Nat)} {es' : List MapEntry}, ERel x w es es' → es'.length = es.length
  | [], [], _ => rfl
  | (_, _, _) :: _, _ :: _, ⟨_, _, _, h⟩ => by simp [ERel.length h]
theorem ERel.snoc {x : Cx} {w : World} {k v : AV} {b : Nat} {e : MapEntry} (h1 : VRel x w k e.key) (h2 : VRel x w v e.val) (h3 : e.born = b) : ∀ {es : List (AV × AV × Nat)} {es' : List MapEntry}, ERel x w es es' → ERel x w (es ++ [(k, v, b)]) (es' ++ [e])
  | [], [], _ => ⟨h1, h2, h3, trivial⟩
  | (_, _, _) :: _, _ :: _, ⟨a, b, c, h⟩ => ⟨a, b, c, ERel.snoc h1 h2 h3 h⟩
theorem findKey_run {kt : TypeId} {d : TypeDesc} {q : Value} {es : List MapEntry} {r : Option (Nat × Value)} (hd : P.underlying kt = some d) (h : Instr.findNow d q es 0 = some r) (u : World) : (Instr.findKey kt q es).run P u = .ok r u := by
  simp [Instr.findKey, run_underlying hd, h]
theorem zeroV_run {t : TypeId} {v : AV} (h : zeroV P t = some v) (x : Cx) (w : World) : ∃ z, (zeroValue t).run P w = .ok z w ∧ VRel x w v z := by
  unfold zeroV at h
  split at h
  · rename_i i hi
    split at h
    · rename_i z hz
      exact ⟨z, by simp [zeroValue, run_typeInfo' hi, hz], ofValue_rel h⟩
    · cases h
  · cases h
theorem lookup_end {kt el : TypeId} {k v : AV} {q : Value} {ok : Bool} {es : List (AV × AV × Nat)} {es' : Array MapEntry} (hkey : keyOK P kt k = true) (hk : VRel x w k q) (he : ERel x w es es'.toList)
    (e : lookA P el ok (findE k es) = some v) :
    (∃ i u, (Instr.findKey kt q es'.toList).run P w = .ok (some (i, u)) w ∧ VRel x w v (if ok then .tuple #[u, .bool true] else u)) ∨
    ((Instr.findKey kt q es'.toList).run P w = .ok none w ∧ ∃ z, (zeroValue el).run P w = .ok z w ∧ VRel x w v (if ok then .tuple #[z, .bool false] else z)) := by
  obtain ⟨d, hd, hform⟩ := keyOK_form hkey hk
  unfold lookA at e
  split at e
  · rename_i v0 hf
    injection e with e; subst e
    rcases findE_sim hform 0 hf he with ⟨h1, _⟩ | ⟨v', j, en, h1, h2, h3, h4, _⟩
    · cases h1
    · injection h1 with h1; subst h1
      refine .inl ⟨_, _, findKey_run hd h2 w, ?_⟩
      cases ok
      · exact h4
      · exact .tup _ _ (.cons _ _ _ _ h4 (.one (.bool _)))
  · rename_i hf
    split at e
    · rename_i v0 hv0
      injection e with e; subst e
      obtain ⟨zv, k1, k2⟩ := zeroV_run hv0 x w
      rcases findE_sim hform 0 hf he with ⟨_, h2⟩ | ⟨v', j, en, h1, _⟩
      · refine .inr ⟨findKey_run hd h2 w, zv, k1, ?_⟩
        cases ok
        · exact k2
        · exact .tup _ _ (.cons _ _ _ _ k2 (.one (.bool _)))
      · cases h1
    · cases e
  · cases e
theorem lookup_sim {h : Hp} {t : TypeId} {a k v : AV} {p q : Value} {ok : Bool} (e : lookupA P h t a k ok = some v) (hr : HRel x h.blks.get w) (ha : VRel x w a p) (hk : VRel x w k q) : ∃ r, (Instr.lookup t p q ok).run P w = .ok r w ∧ VRel x w v r := by
  unfold lookupA at e
  split at e
  · rename_i kt el hu
    split at e
    · rename_i hkey
      cases ha <;> simp only [] at e <;> (try (cases e; done))
      case map n c hm =>
        cases hb : h.blks.get n with
        | none => rw [hb] at e; cases e
        | some b =>
          rw [hb] at e
          cases b <;> simp only [] at e <;> (try (cases e; done))
          rename_i es clock
          obtain ⟨c', h1, ⟨es', h2, h3⟩, _⟩ := hr.blk _ _ hb
          rw [hm] at h1; cases h1
          rcases lookup_end (es := es) hkey hk h3 e with ⟨i, u, r1, r2⟩ | ⟨r1, z, r3, r2⟩
          · refine ⟨_, ?_, r2⟩
            simp [Instr.lookup, run_underlying hu, run_getObj' h2, checkKey_run _ 9999 hkey hk, r1]
          · refine ⟨_, ?_, r2⟩
            simp [Instr.lookup, run_underlying hu, run_getObj' h2, checkKey_run _ 9999 hkey hk, r1, r3]
      case nilmap =>
        rcases lookup_end (es := []) (es' := #[]) hkey hk trivial e with ⟨i, u, r1, r2⟩ | ⟨r1, z, r3, r2⟩
        · refine ⟨_, ?_, r2⟩
          simp at r1
          simp [Instr.lookup, run_underlying hu, checkKey_run _ 9999 hkey hk, r1]
        · refine ⟨_, ?_, r2⟩
          simp at r1
          simp [Instr.lookup, run_underlying hu, checkKey_run _ 9999 hkey hk, r1, r3]
    · cases e
  · cases e
theorem update_sim {h h' : Hp} {t : TypeId} {a k v : AV} {p q r : Value} (e : updateA P h t a k v = some h') (hr : HRel x h.blks.get w) (ha : VRel x w a p) (hk : VRel x w k q) (hv : VRel x w v r) :
    ∃ w', (Instr.mapUpdate t p q r).run P w = .ok () w' ∧ Did x h w (.tup []) h' undef w' := by
  unfold updateA at e
  split at e
  · rename_i kt el n hu
    split at e
    · rename_i hkey
      cases ha with | map _ c hm =>
      obtain ⟨d, hd, hform⟩ := keyOK_form hkey hk
      split at e
      · rename_i es clock hb
        obtain ⟨c', h1, ⟨es', h2, h3⟩, _⟩ := hr.blk _ _ hb
        rw [hm] at h1; cases h1
        split at e
        · rename_i v0 hf
          obtain ⟨es2, he2, rfl⟩ := Option.map_eq_some_iff.1 e
          rcases findE_sim hform 0 hf h3 with ⟨h1, _⟩ | ⟨v', j, en, _, q2, q3, q4, q5, q6⟩
          · cases h1
          · obtain ⟨es3, s1, s2⟩ := q6 v r hv
            rw [he2] at s1; injection s1 with s1; subst s1
            have hkeep : ∀ u : World, (Instr.keyThatStays en.key q).run P u = .ok q u := by
              intro u
              rcases hform with ⟨k0, k1, m, rfl, rfl, rfl⟩ | ⟨rfl, s, rfl, rfl⟩ | ⟨rfl, b, rfl, rfl⟩
              · generalize en.key = ek at q5
                cases q5; simp [Instr.keyThatStays, Instr.sameBits]
              · generalize en.key = ek at q5
                cases q5 with | str s' _ hs =>
                have : (s' == s) = true := by rw [beq_toListBytes, ByteArray.toList_eq, ByteArray.toList_eq, hs]; simp
                simp [Instr.keyThatStays, Instr.sameBits, this]
              · generalize en.key = ek at q5
                cases q5; simp [Instr.keyThatStays, Instr.sameBits]
            have hget : es'[j]? = some en := by simpa using q3
            have hnew : ∀ u, Mono x w x u → u.heap[c]? = some (.map (es'.modify j fun e => { e with key := q, val := r }) clock) → BRel x u (x.κ n) c (.map es2 clock) :=
              fun u hmo hu => ⟨_, hu, by simpa using s2.mono hmo⟩
            refine ⟨World.setO w c (.map (es'.modify j fun e => { e with key := q, val := r }) clock), ?_, x, ?_, ?_, undef_rel⟩
            · simp only [Instr.mapUpdate, Sem.run_bind, run_underlying hu, Result.andThen_ok, run_getObj' h2 (by simp), checkKey_run _ 9999 hkey hk, findKey_run hd q2]
              simp only [Nat.zero_add, hget, Option.map_some, Option.getD_some, Sem.run_bind, hkeep, Result.andThen_ok, run_setObj' h2 (by simp)]
            · exact (setObj_sim hb hr hm hnew).1
            · exact (setObj_sim hb hr hm hnew).2
        · rename_i hf
          injection e with e; subst e
          rcases findE_sim hform 0 hf h3 with ⟨_, q2⟩ | ⟨v', j, en, q1, _⟩
          · have hnew : ∀ u, Mono x w x u → u.heap[c]? = some (.map (es'.push { key := q, val := r, born := clock }) (clock + 1)) → BRel x u (x.κ n) c (.map (es ++ [(k, v, clock)]) (clock + 1)) :=
              fun u hmo hu => ⟨_, hu, by simpa using ERel.snoc (e := { key := q, val := r, born := clock }) (hk.mono hmo) (hv.mono hmo) rfl (h3.mono hmo)⟩
            refine ⟨World.setO w c (.map (es'.push { key := q, val := r, born := clock }) (clock + 1)), ?_, x, (setObj_sim hb hr hm hnew).1, (setObj_sim hb hr hm hnew).2, undef_rel⟩
            simp only [Instr.mapUpdate, Sem.run_bind, run_underlying hu, Result.andThen_ok, run_getObj' h2 (by simp), checkKey_run _ 9999 hkey hk, findKey_run hd q2, run_setObj' h2 (by simp)]
          · cases q1
        · cases e
      · cases e
    · cases e
  · cases e
theorem makeMap_sim {h : Hp} {t : TypeId} (hr : HRel x h.blks.get w) (hf : x.m h.next = none) : ∃ r w', (Instr.makeMap t none).run P w = .ok r w' ∧ Did x h w (.map (h.new (.map [] 0)).2) (h.new (.map [] 0)).1 r w' := by
  obtain ⟨y, k1, k2, k3, _⟩ := new_sim (b := .map [] 0) (o := .map #[] 0) 0 hr hf (fun y u hm hu => ⟨#[], hu, trivial⟩)
  refine ⟨_, _, ?_, y, k1, k2, .map _ _ k3⟩
  simp [Instr.makeMap]
end Go.Abs
