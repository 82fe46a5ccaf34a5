/- What is proved: a part of the proof of the tied card of StoreNil (text Abs13b of it). Conditions: those that its theorems name. -/
import Derived.Test.YtifoacdfdcdpmaaGreatDoorAbs13
import Derived.Lib.UnsafeStr
import Derived.Lib.Builder
set_option linter.unusedVariables false
set_option linter.unusedSimpArgs false
namespace Go.Abs
variable {P : Program} {x : Cx} {w : World}
theorem shape_of {c : Nat} {arr : Array Value} {e : TypeId} {fr : Nat × Nat} (h : w.heap[c]? = some (.cells arr e fr)) : w.shape? c = some (e, arr.size) := by simp [World.shape?, h]
theorem lies_self {e : TypeId} (hc : P.cellsOf e ≠ 0) (count n : Nat) (hn : n ≤ count) : liesAt P P.depth e count 0 e n = true := by
  have hd : P.depth = (2 * (P.types.size + Made.depth) + 1) + 1 := rfl
  rw [hd]
  simp only [liesAt, Bool.or_eq_true]
  left
  rw [hd]
  simp [rowAt, hc, hn, sameLayout]
theorem convU_sim {h : Hp} {s d : TypeId} {a v : AV} {p : Value} (e : convU P h s d a = some v) (hr : HRel x h.blks.get w) (ha : VRel x w a p) : ∃ r, (convert s d p).run P w = .ok r w ∧ VRel x w v r := by
  unfold convU at e
  split at e
  · rename_i t n off hs hd
    split at e
    · rename_i cs et i hb hi
      split at e
      · rename_i hc
        injection e with e; subst e
        have ha' := ha
        cases ha with | ptr _ c _ hm =>
        obtain ⟨c', h1, ⟨arr, vs, h2, h3, h4, h5⟩, _⟩ := hr.blk _ _ hb
        rw [hm] at h1; cases h1
        have hl := h3.length
        have hp : vs.length ≤ arr.size := by simpa using h4.length_le
        exact ⟨_, Lib.run_to_unsafe w _ hs hd hi hc.2 (shape_of h2) (by show off < arr.size; omega), ha'⟩
      · cases e
    · cases e
  · rename_i u n hs hd
    split at e
    · rename_i cs et i hb hi
      split at e
      · rename_i hc
        injection e with e; subst e
        obtain ⟨rfl, hc1, hc2⟩ := hc
        have ha' := ha
        cases ha with | ptr _ c _ hm =>
        obtain ⟨c', h1, ⟨arr, vs, h2, h3, h4, h5⟩, _⟩ := hr.blk _ _ hb
        rw [hm] at h1; cases h1
        have hl := h3.length
        have hp : vs.length ≤ arr.size := by simpa using h4.length_le
        have hcell : P.cellsOf et = i.size := by simp [Program.cellsOf, hi]
        refine ⟨_, Lib.run_from_unsafe w _ hs hd hi (shape_of h2) (lies_self (by rw [hcell]; exact hc1) _ _ ?_), ha'⟩
        rw [hcell]
        exact (Nat.le_div_iff_mul_le (by omega)).2 (by omega)
      · cases e
    · cases e
  · cases e
theorem bytesA_rel : ∀ {cs : List AV} {l : List UInt8} {vs : List Value}, bytesA cs = some l → VRels x w cs vs → vs = l.map fun b => Value.int .u8 b.toNat
  | [], l, _, h, .nil => by simp [bytesA] at h; subst h; rfl
  | a :: cs, l, _, h, .cons _ v _ vs hv hs => by
    unfold bytesA at h
    split at h
    · rename_i heq; cases heq
    · rename_i b r heq
      injection heq with e1 e2
      subst e1; subst e2
      split at h
      · rename_i hb
        obtain ⟨l', h1, rfl⟩ := Option.map_eq_some_iff.1 h
        cases hv
        rw [bytesA_rel h1 hs]
        have : ((UInt8.ofNat b.toNat).toNat : Int) = b := by
          rw [UInt8.toNat_ofNat', Nat.mod_eq_of_lt (by omega)]
          omega
        simp only [List.map_cons, this]
      · cases h
    · cases h
/-- a block that is given up may turn -/
theorem kill_sim {h : Hp} {n c : Nat} {b0 : Blk} (hr : HRel x h.blks.get w) (hb : h.blks.get n = some b0) (hm : x.m n = some c) {u : World} (hoth : ∀ k, k ≠ c → u.heap[k]? = w.heap[k]?) (hsz : u.heap.size = w.heap.size) (hos : u.os = w.os) (htp : u.tape = w.tape) (hout : u.output = w.output) :
    Ext x h.blks.get h.next w x (h.kill n).blks.get h.next u ∧ HRel x (h.kill n).blks.get u := by
  have hkill : ∀ n' b, (h.kill n).blks.get n' = some b → h.blks.get n' = some b ∧ n' ≠ n := by
    intro n' b e
    simp only [Hp.kill, Tr.get_del] at e
    split at e
    · cases e
    · rename_i hn; exact ⟨e, hn⟩
  obtain ⟨c2, e1, e2, e3⟩ := hr.blk _ _ hb
  rw [hm] at e1; cases e1
  have hmono : Mono x w x u := ⟨fun _ _ h => h, fun _ _ _ => rfl, fun _ h => h, rfl, fun k hk => hoth k (fun e => e3 (e ▸ hk))⟩
  refine ⟨⟨fun _ _ h => h, fun _ _ _ => rfl, fun _ _ => rfl, fun _ h => h, fun _ h => .inl h, rfl, hos, htp, hout, by rw [hsz]; exact Nat.le_refl _, fun k hk hn => hoth k (fun e => hn n _ hb (e ▸ hm)), fun k b k' e hx => .inl ⟨k, b, (hkill _ _ e).1, hx⟩⟩, ⟨fun k b e => ?_, fun k k' b b' c' e e' hx hx' => hr.inj k k' b b' c' (hkill _ _ e).1 (hkill _ _ e').1 hx hx', fun k hk => by rw [hsz]; exact hr.fb k hk, fun k k' hk => by rw [hsz]; exact hr.mb k k' hk⟩⟩
  obtain ⟨h1, h2⟩ := hkill _ _ e
  obtain ⟨c', q1, q2, q3⟩ := hr.blk k b h1
  exact ⟨c', q1, q2.mono hmono (hoth c' (fun ec => h2 (hr.inj k n b b0 c h1 hb (ec ▸ q1) hm))), q3⟩
theorem freeze_other (w : World) (a : Addr) (n k : Nat) (h : k ≠ a.block) : (w.freeze a n).heap[k]? = w.heap[k]? := by
  unfold World.freeze
  split
  · rfl
  · simp [Array.getElem?_modify, Ne.symm h]
theorem str_sim0 {h : Hp} {n : Nat} {k : Int} {pt it ty e e' : TypeId} {i : TypeInfo} {cs : List AV} {l : List UInt8} {p : Value} (hb : h.blks.get n = some (.cells cs e)) (hpt : P.underlying pt = some (.pointer e')) (hi : P.info? e = some i) (hc : e = e' ∧ i.size = 1 ∧ 0 < k ∧ k.toNat ≤ cs.length ∧ k ≤ 2 ^ 45)
    (hl : bytesA (cs.take k.toNat) = some l) (hr : HRel x h.blks.get w) (ha : VRel x w (.ptr n 0) p) :
    ∃ w', (Builtin.unsafeString_ #[pt, it] ty #[p, .int .i64 k]).run P w = .ok (.string ⟨l.toArray⟩) w' ∧ Did x h w (.str l) (h.kill n) (.string ⟨l.toArray⟩) w' := by
  obtain ⟨rfl, hc1, hc2, hc3, hc4⟩ := hc
  cases ha with | ptr _ c _ hm =>
  obtain ⟨c', h1, ⟨arr, vs, h2, h3, h4, h5⟩, _⟩ := hr.blk _ _ hb
  rw [hm] at h1; cases h1
  have hvs := bytesA_rel hl (h3.take k.toNat)
  have hlen : l.length = k.toNat := by
    have := congrArg List.length hvs
    rw [List.length_take, h3.length, List.length_map] at this
    omega
  have hk : k = (l.length : Int) := by omega
  have hp : vs.length ≤ arr.size := by simpa using h4.length_le
  have h3l := h3.length
  have hrun := Lib.run_unsafeString_row (P := P) w pt it ty e hpt (by simp [Program.cellsOf, hi, hc1]) c arr.size (shape_of h2) l (fun h0 => by rw [h0] at hlen; simp at hlen; omega) (by omega) (by omega) (fun j y hj => by
    have hj2 : (vs.take k.toNat)[j]? = some (.int .u8 y.toNat) := by rw [hvs, List.getElem?_map, hj]; rfl
    have hj3 : vs[j]? = some (.int .u8 y.toNat) := by
      rw [List.getElem?_take] at hj2
      split at hj2
      · exact hj2
      · cases hj2
    obtain ⟨r, hr4⟩ := h4
    have : arr.toList[j]? = some (.int .u8 y.toNat) := by
      rw [← hr4, List.getElem?_append_left (List.getElem?_eq_some_iff.1 hj3).1]; exact hj3
    rw [add_lit']
    simp only [World.cell?, h2]
    simpa using this)
  rw [← hk] at hrun
  have hf : (w.freeze ⟨c, 0, none⟩ l.length).os = w.os ∧ (w.freeze ⟨c, 0, none⟩ l.length).tape = w.tape ∧ (w.freeze ⟨c, 0, none⟩ l.length).output = w.output ∧ (w.freeze ⟨c, 0, none⟩ l.length).heap.size = w.heap.size := by
    unfold World.freeze
    split
    · exact ⟨rfl, rfl, rfl, rfl⟩
    · exact ⟨rfl, rfl, rfl, by simp⟩
  obtain ⟨k1, k2⟩ := kill_sim hr hb hm (u := w.freeze ⟨c, 0, none⟩ l.length) (fun k hk => freeze_other w _ _ k hk) hf.2.2.2 hf.1 hf.2.1 hf.2.2.1
  exact ⟨_, hrun, x, k1, k2, .str _ _ rfl⟩
end Go.Abs
