/- What is proved: a part of the proof of the tied card of StoreNil (text Abs3 of it). Conditions: those that its theorems name. -/
import Derived.Test.YtifoacdfdcdpmaaGreatDoorAbs2
set_option linter.unusedVariables false
set_option linter.unusedSimpArgs false
namespace Go.Abs
namespace Tr
theorem get_set {α : Type} : ∀ (d : Nat) (t : Tr α) (n : Nat) (x : α) (k : Nat), n < d → (set d t n x).get k = if k = n then some x else t.get k
  | 0, _, _, _, _, h => by omega
  | d + 1, .lf, 0, x, k, h => by cases k <;> simp [set, get]
  | d + 1, .nd v l r, 0, x, k, h => by cases k <;> simp [set, get]
  | d + 1, .lf, n + 1, x, k, h => by
    have ih := get_set d (.lf : Tr α) (n / 2) x
    unfold set
    by_cases hp : n % 2 = 0
    · rw [if_pos hp]
      cases k with
      | zero => simp [get]
      | succ k =>
        simp only [get]
        by_cases hk : k % 2 = 0
        · rw [if_pos hk, ih _ (by omega)]
          by_cases e : k = n
          · subst e; simp
          · rw [if_neg (by omega), if_neg (by omega)]; simp [get]
        · rw [if_neg hk, if_neg (by intro e; omega)]
    · rw [if_neg hp]
      cases k with
      | zero => simp [get]
      | succ k =>
        simp only [get]
        by_cases hk : k % 2 = 0
        · rw [if_pos hk, if_neg (by intro e; omega)]
        · rw [if_neg hk, ih _ (by omega)]
          by_cases e : k = n
          · subst e; simp
          · rw [if_neg (by omega), if_neg (by omega)]; simp [get]
  | d + 1, .nd v l r, n + 1, x, k, h => by
    unfold set
    by_cases hp : n % 2 = 0
    · rw [if_pos hp]
      cases k with
      | zero => simp [get]
      | succ k =>
        simp only [get]
        by_cases hk : k % 2 = 0
        · rw [if_pos hk, get_set d l (n / 2) x _ (by omega), if_pos hk]
          by_cases e : k = n
          · subst e; simp
          · rw [if_neg (by omega), if_neg (by omega)]
        · rw [if_neg hk, if_neg hk, if_neg (by intro e; omega)]
    · rw [if_neg hp]
      cases k with
      | zero => simp [get]
      | succ k =>
        simp only [get]
        by_cases hk : k % 2 = 0
        · rw [if_pos hk, if_pos hk, if_neg (by intro e; omega)]
        · rw [if_neg hk, if_neg hk, get_set d r (n / 2) x _ (by omega)]
          by_cases e : k = n
          · subst e; simp
          · rw [if_neg (by omega), if_neg (by omega)]
theorem get_put {α : Type} (t : Tr α) (n : Nat) (x : α) (k : Nat) : (t.put n x).get k = if k = n then some x else t.get k := get_set _ _ _ _ _ (Nat.lt_succ_self n)
theorem get_del {α : Type} : ∀ (t : Tr α) (n k : Nat), (t.del n).get k = if k = n then none else t.get k
  | .lf, n, k => by simp [del, get]
  | .nd v l r, 0, k => by cases k <;> simp [del, get]
  | .nd v l r, n + 1, k => by
    unfold del
    by_cases hp : n % 2 = 0
    · rw [if_pos hp]
      cases k with
      | zero => simp [get]
      | succ k =>
        simp only [get]
        by_cases hk : k % 2 = 0
        · rw [if_pos hk, if_pos hk, get_del l]
          by_cases e : k = n
          · subst e; simp
          · rw [if_neg (by omega), if_neg (by omega)]
        · rw [if_neg hk, if_neg hk, if_neg (by intro e; omega)]
    · rw [if_neg hp]
      cases k with
      | zero => simp [get]
      | succ k =>
        simp only [get]
        by_cases hk : k % 2 = 0
        · rw [if_pos hk, if_pos hk, if_neg (by intro e; omega)]
        · rw [if_neg hk, if_neg hk, get_del r]
          by_cases e : k = n
          · subst e; simp
          · rw [if_neg (by omega), if_neg (by omega)]
end Tr

variable {P : Program} {x : Cx} {w : World}

/-! ### constants -/
theorem ofScalar_rel {v : Value} {a : AV} (h : ofScalar v = some a) : VRel x w a v := by
  unfold ofScalar at h
  split at h <;> first | (injection h with h; subst h; first | exact .bool _ | exact .int _ _ | exact .str _ _ rfl | exact .nilptr | exact .nilsl | exact .nilmap | exact .nilfunc | exact .nilif) | cases h
theorem ofScalars_rel : ∀ {vs : List Value} {l : List AV}, ofScalars vs = some l → VRels x w l vs
  | [], l, h => by simp [ofScalars] at h; subst h; exact .nil
  | v :: vs, l, h => by
    unfold ofScalars at h
    split at h
    · rename_i a l' h1 h2
      injection h with h
      subst h
      exact .cons _ _ _ _ (ofScalar_rel h1) (ofScalars_rel h2)
    · cases h
theorem ofValue_rel {v : Value} {a : AV} (h : ofValue v = some a) : VRel x w a v := by
  unfold ofValue at h
  split at h
  · obtain ⟨l, h1, h2⟩ := Option.map_eq_some_iff.1 h
    subst h2
    exact .agg _ _ (ofScalars_rel h1)
  · obtain ⟨l, h1, h2⟩ := Option.map_eq_some_iff.1 h
    subst h2
    exact .tup _ _ (ofScalars_rel h1)
  · exact ofScalar_rel h
/-- what is told of some operands -/
def ER (x : Cx) (w : World) (tm : Tr AV) (ρ : Operand → Value) (ys : List Operand) : Prop := ∀ y, y ∈ ys → ∀ v, evalO tm y = some v → VRel x w v (ρ y)
theorem evalL_rel {tm : Tr AV} {ρ : Operand → Value} : ∀ {ys : List Operand} {l : List AV}, ER x w tm ρ ys → evalL tm ys = some l → VRels x w l (ys.map ρ)
  | [], l, _, h => by simp [evalL] at h; subst h; exact .nil
  | y :: ys, l, he, h => by
    unfold evalL at h
    split at h
    · rename_i a l' h1 h2
      injection h with h
      subst h
      exact .cons _ _ _ _ (he y (by simp) _ h1) (evalL_rel (fun z hz => he z (by simp [hz])) h2)
    · cases h

/-! ### new blocks, reads, writes -/
def Cx.with (x : Cx) (n c k : Nat) : Cx := { x with m := fun j => if j = n then some c else x.m j, κ := fun j => if j = n then k else x.κ j }
theorem new_sim {h : Hp} {b : Blk} {o : Obj} (k : Nat) (hr : HRel x h.blks.get w) (hf : x.m h.next = none) (hb : ∀ y u, Mono x w y u → u.heap[w.heap.size]? = some o → BRel y u k w.heap.size b) :
    ∃ y, Ext x h.blks.get h.next w y (h.new b).1.blks.get (h.new b).1.next (w.alloc o) ∧ HRel y (h.new b).1.blks.get (w.alloc o) ∧ y.m (h.new b).2 = some w.heap.size ∧ y.κ (h.new b).2 = k := by
  have hlt : ∀ n c, x.m n = some c → c < w.heap.size := hr.mb
  have hmono : Mono x w (x.with h.next w.heap.size k) (w.alloc o) := ⟨fun n c e => by
      simp only [Cx.with]; rw [if_neg (by intro e'; subst e'; rw [hf] at e; cases e)]; exact e,
    fun n c e => by simp only [Cx.with]; rw [if_neg (by intro e'; subst e'; rw [hf] at e; cases e)],
    fun _ h => h, rfl, fun c hc => heap_alloc_old _ _ _ (hr.fb c hc)⟩
  refine ⟨x.with h.next w.heap.size k, ⟨hmono.m, hmono.κ, fun n hn => ?_, fun _ h => h, fun _ h => .inl h, rfl, rfl, rfl, rfl, by show _ ≤ (w.heap.push o).size; simp, fun c hc _ => heap_alloc_old _ _ _ hc, fun n b' c e hx => ?_⟩, ⟨fun n b' e => ?_, fun n n' b1 b2 c e e' hx hx' => ?_, fun c hc => ?_, fun n c hx => ?_⟩, by simp [Cx.with, Hp.new], by simp [Cx.with, Hp.new]⟩
  · simp only [Cx.with, Hp.new] at hn ⊢
    rw [if_neg (by omega)]
  · simp only [Hp.new, Tr.get_put] at e
    simp only [Cx.with] at hx
    by_cases hn : n = h.next
    · rw [if_pos hn] at hx; injection hx with hx; right; omega
    · rw [if_neg hn] at e hx; exact .inl ⟨n, b', e, hx⟩
  · simp only [Hp.new, Tr.get_put] at e
    by_cases hn : n = h.next
    · rw [if_pos hn] at e
      injection e with e
      subst e
      exact ⟨w.heap.size, by simp [Cx.with, hn], by have := hb _ _ hmono (heap_alloc_new _ _); simpa [Cx.with, hn] using this, fun hF => by have := hr.fb _ hF; omega⟩
    · rw [if_neg hn] at e
      obtain ⟨c, e1, e2, e3⟩ := hr.blk n b' e
      exact ⟨c, hmono.m _ _ e1, by rw [hmono.κ _ _ e1]; exact e2.mono hmono (heap_alloc_old _ _ _ e2.lt), e3⟩
  · simp only [Hp.new, Tr.get_put] at e e'
    simp only [Cx.with] at hx hx'
    by_cases hn : n = h.next <;> by_cases hn' : n' = h.next
    · omega
    · rw [if_pos hn] at hx; rw [if_neg hn'] at hx'; injection hx with hx; have := hlt _ _ hx'; omega
    · rw [if_neg hn] at hx; rw [if_pos hn'] at hx'; injection hx' with hx'; have := hlt _ _ hx; omega
    · rw [if_neg hn] at e hx; rw [if_neg hn'] at e' hx'; exact hr.inj n n' b1 b2 c e e' hx hx'
  · show _ < (w.heap.push o).size
    rw [Array.size_push]; have := hr.fb c hc; omega
  · show _ < (w.heap.push o).size
    rw [Array.size_push]
    simp only [Cx.with] at hx
    by_cases hn : n = h.next
    · rw [if_pos hn] at hx; injection hx; omega
    · rw [if_neg hn] at hx; have := hlt _ _ hx; omega
theorem add_lit' (b o i : Nat) : (⟨b, o, none⟩ : Addr).add i = ⟨b, o + i, none⟩ := by unfold Addr.add; split <;> simp_all
theorem cut_len {l cs : List AV} {off n : Nat} (h : cut l off n = some cs) : cs = (l.drop off).take n ∧ off + n ≤ l.length ∧ cs.length = n := by
  unfold cut at h
  split at h
  · rename_i hl
    injection h with h
    subst h
    exact ⟨rfl, hl, by rw [List.length_take, List.length_drop]; omega⟩
  · cases h
theorem cut_rel {l cs : List AV} {vs : List Value} {off n : Nat} (h : cut l off n = some cs) (hr : VRels x w l vs) : VRels x w cs ((vs.drop off).take n) := by
  rw [(cut_len h).1]; exact (hr.drop off).take n
theorem read_sim {h : Hp} {n off len : Nat} {cs : List AV} (e : readAt h n off len = some cs) (hr : HRel x h.blks.get w) :
    ∃ c vs, x.m n = some c ∧ VRels x w cs vs ∧ cs.length = len ∧ (∀ i v, vs[i]? = some v → w.cell? ⟨c, off + i, none⟩ = some v) ∧ ∃ arr t, w.heap[c]? = some (.cells arr t (0, 0)) ∧ arr.size = x.κ n ∧ (off = 0 → vs <+: arr.toList) := by
  unfold readAt at e
  split at e
  · rename_i l t hl
    obtain ⟨c, h1, ⟨arr, vs, h2, h3, h4, h5⟩, _⟩ := hr.blk _ _ hl
    refine ⟨c, _, h1, cut_rel e h3, (cut_len e).2.2, fun i v hi => ?_, arr, t, h2, h5, fun h0 => ?_⟩
    case refine_2 => subst h0; simpa using (List.take_prefix len vs).trans h4
    have hi2 : vs[off + i]? = some v := by
      rw [List.getElem?_take] at hi
      split at hi
      · rwa [List.getElem?_drop] at hi
      · cases hi
    obtain ⟨r, hr⟩ := h4
    have : arr.toList[off + i]? = some v := by
      rw [← hr, List.getElem?_append_left (List.getElem?_eq_some_iff.1 hi2).1]; exact hi2
    simp only [World.cell?, h2]
    simpa using this
  · cases e
theorem splice_rel {l cs : List AV} {vs us : List Value} (off : Nat) (h : VRels x w l vs) (k : VRels x w cs us) : VRels x w (splice l off cs) (vs.take off ++ us ++ vs.drop (off + us.length)) := by
  unfold splice
  rw [k.length]
  exact ((h.take off).app k).app (h.drop _)
theorem write_sim {h h' : Hp} {n off : Nat} {cs : List AV} {us : List Value} (e : writeAt h n off cs = some h') (hr : HRel x h.blks.get w) (hu : VRels x w cs us) :
    ∃ c arr t, x.m n = some c ∧ w.heap[c]? = some (.cells arr t (0, 0)) ∧ off + us.length ≤ arr.size ∧ (∀ u ∈ us, u.oneCell' = true) ∧ h'.next = h.next ∧
      ∀ u : World, u = w.setRow c (arr.toList.take off ++ us ++ arr.toList.drop (off + us.length)).toArray →
        Ext x h.blks.get h.next w x h'.blks.get h'.next u ∧ HRel x h'.blks.get u := by
  unfold writeAt at e
  split at e
  · rename_i l t hl
    split at e
    · rename_i hle
      injection e with e
      subst e
      obtain ⟨c, h1, ⟨arr, vs, h2, h3, h4, h5⟩, hnF⟩ := hr.blk _ _ hl
      have hlen : vs.length ≤ arr.size := by have := h4.length_le; rwa [Array.length_toList] at this
      have hul := hu.length
      have hvl := h3.length
      refine ⟨c, arr, t, h1, h2, ?_, hu.sc hle.2, rfl, ?_⟩
      · omega
      intro u hu0
      subst hu0
      have hcs := (Array.getElem?_eq_some_iff.1 h2).1
      have hoth : ∀ k, k ≠ c → (w.setRow c (arr.toList.take off ++ us ++ arr.toList.drop (off + us.length)).toArray).heap[k]? = w.heap[k]? := fun k hk => setRow_other w c k _ hk
      have hself := setRow_heap w c arr (arr.toList.take off ++ us ++ arr.toList.drop (off + us.length)).toArray t (0, 0) h2
      have hmono : Mono x w x (w.setRow c (arr.toList.take off ++ us ++ arr.toList.drop (off + us.length)).toArray) := ⟨fun _ _ h => h, fun _ _ _ => rfl, fun _ h => h, rfl, fun k hk => hoth k (fun e => hnF (e ▸ hk))⟩
      have hsz : (w.setRow c (arr.toList.take off ++ us ++ arr.toList.drop (off + us.length)).toArray).heap.size = w.heap.size := by simp [World.setRow]
      refine ⟨⟨fun _ _ h => h, fun _ _ _ => rfl, fun _ _ => rfl, fun _ h => h, fun _ h => .inl h, rfl, rfl, rfl, rfl, by rw [hsz]; exact Nat.le_refl _, fun k hk hn => hoth k (fun e => hn n _ hl (e ▸ h1)), fun k b k' e hx => ?_⟩, ⟨fun k b e => ?_, fun k k' b b' c' e e' hx hx' => ?_, fun k hk => by rw [hsz]; exact hr.fb k hk, fun k k' hk => by rw [hsz]; exact hr.mb k k' hk⟩⟩
      · simp only [Tr.get_put] at e
        by_cases hk : k = n
        · subst hk; exact .inl ⟨k, _, hl, hx⟩
        · rw [if_neg hk] at e; exact .inl ⟨k, b, e, hx⟩
      · simp only [Tr.get_put] at e
        by_cases hk : k = n
        · subst hk
          rw [if_pos rfl] at e
          injection e with e
          subst e
          refine ⟨c, h1, ⟨_, _, hself, splice_rel off (h3.mono hmono) (hu.mono hmono), ?_, by simp; omega⟩, hnF⟩
          obtain ⟨r, hr4⟩ := h4
          refine ⟨r, ?_⟩
          rw [← hr4]
          simp only [List.take_append_of_le_length (show off ≤ vs.length by omega), List.drop_append_of_le_length (show off + us.length ≤ vs.length by omega), List.append_assoc]
        · rw [if_neg hk] at e
          obtain ⟨c', e1, e2, e3⟩ := hr.blk k b e
          refine ⟨c', e1, e2.mono hmono (hoth c' (fun ec => hk (hr.inj k n b _ c e hl (ec ▸ e1) h1))), e3⟩
      · simp only [Tr.get_put] at e e'
        have g : ∀ {j : Nat} {bj : Blk}, (if j = n then some (Blk.cells (splice l off cs) t) else h.blks.get j) = some bj → ∃ b0, h.blks.get j = some b0 := by
          intro j bj ej
          by_cases hj : j = n
          · subst hj; exact ⟨_, hl⟩
          · rw [if_neg hj] at ej; exact ⟨_, ej⟩
        obtain ⟨b1, g1⟩ := g e
        obtain ⟨b2, g2⟩ := g e'
        exact hr.inj k k' b1 b2 c' g1 g2 hx hx'
    · cases e
  · cases e
end Go.Abs
