/- What is proved: a part of the proof of the tied card of TxnEnds (text G5 of it). Conditions: those that its theorems name. -/
import Derived.Test.YtmdlgcmjemdfnaaGreatDoorG4
import Derived.Lib.UnsafeStr
import Derived.Lib.Builder
set_option linter.unusedVariables false
set_option linter.unusedSimpArgs false
set_option linter.unusedSectionVars false
namespace Go.Abs
variable [Bnd]
variable {P : Program} {x : Cx} {w : World}
theorem range_sim {h h' : Hp} {t : TypeId} {a v : AV} {p : Value} (e : rangeA P h t a = some (v, h')) (hr : HRel x h.blks.get w) (ha : VRel x w a p) (hf : x.m h.next = none) :
    ∃ r w', (Instr.range t p).run P w = .ok r w' ∧ Did x h w v h' r w' := by
  unfold rangeA at e
  split at e
  · rename_i l hu
    injection e with e
    injection e with e1 e2
    subst e1; subst e2
    cases ha with | str s _ hs =>
    obtain ⟨y, k1, k2, k3, _⟩ := new_sim (b := .siter l 0) (o := .stringIter s 0) 0 hr hf (fun y u hm hu => ⟨s, hu, hs⟩)
    refine ⟨_, _, ?_, y, k1, k2, .ptr _ _ 0 k3⟩
    simp [Instr.range, run_underlying hu]
  · rename_i hu
    injection e with e
    injection e with e1 e2
    subst e1; subst e2
    cases ha
    obtain ⟨y, k1, k2, k3, _⟩ := new_sim (b := .miter none 0 [] 0) (o := .mapIter none 0 #[] 0) 0 hr hf (fun y u hm hu => ⟨none, hu, .inl ⟨rfl, rfl⟩⟩)
    refine ⟨_, _, ?_, y, k1, k2, .ptr _ _ 0 k3⟩
    simp [Instr.range, run_underlying hu]
  · rename_i m hu
    split at e
    · rename_i es clock hb
      injection e with e
      injection e with e1 e2
      subst e1; subst e2
      cases ha with | map _ c hm =>
      obtain ⟨c', h1, ⟨es', h2, h3⟩, _⟩ := hr.blk _ _ hb
      rw [hm] at h1; cases h1
      obtain ⟨y, k1, k2, k3, _⟩ := new_sim (b := .miter (some m) clock [] clock) (o := .mapIter (some c) clock #[] clock) 0 hr hf (fun y u hmo hu => ⟨some c, hu, .inr ⟨m, c, rfl, rfl, hmo.m _ _ hm⟩⟩)
      refine ⟨_, _, ?_, y, k1, k2, .ptr _ _ 0 k3⟩
      simp [Instr.range, run_underlying hu, run_getObj' h2]
    · cases e
  · cases e
theorem next_sim {h h' : Hp} {a v : AV} {p : Value} {str : Bool} {ty : TypeId} (e : nextA h a str = some (v, h')) (hr : HRel x h.blks.get w) (ha : VRel x w a p) :
    ∃ r w', (Instr.next p str ty).run P w = .ok r w' ∧ Did x h w v h' r w' := by
  unfold nextA at e
  split at e
  · rename_i n
    cases ha with | ptr _ c _ hm =>
    split at e
    · -- string
      rename_i l pos hb
      obtain ⟨c', h1, ⟨s, h2, h3⟩, _⟩ := hr.blk _ _ hb
      rw [hm] at h1; cases h1
      have hsz : l.length = s.size := by rw [← h3]; simp
      have hs : (⟨l.toArray⟩ : ByteArray) = s := by rw [← h3]
      split at e
      · rename_i hp
        injection e with e
        injection e with e1 e2
        subst e1; subst e2
        have hnew : ∀ u, Mono x w x u → u.heap[c]? = some (.stringIter s (pos + (Utf8.decode s pos).2)) → BRel x u (x.κ n) c (.siter l (pos + (Utf8.decode s pos).2)) :=
          fun u hmo hu => ⟨s, hu, h3⟩
        rw [hs]
        refine ⟨_, World.setO w c (.stringIter s (pos + (Utf8.decode s pos).2)), ?_, x, (setObj_sim hb hr hm hnew).1, (setObj_sim hb hr hm hnew).2, .tup _ #[_, _, _] (.cons _ _ _ _ (.bool _) (.cons _ _ _ _ (.int _ _) (.one (.int _ _))))⟩
        rw [hsz] at hp
        simp [Instr.next, run_getObj' h2, hp, goInt]
        rw [run_setObj' h2 (by simp)]; rfl
      · rename_i hp
        injection e with e
        injection e with e1 e2
        subst e1; subst e2
        rw [hsz] at hp
        refine ⟨.tuple #[.bool false], w, ?_, Did.same hr (.tup _ #[_] (.one (.bool _)))⟩
        simp [Instr.next, run_getObj' h2, hp]
    · rename_i since seen st hb
      injection e with e
      injection e with e1 e2
      subst e1; subst e2
      obtain ⟨c', h1, ⟨m', h2, h3⟩, _⟩ := hr.blk _ _ hb
      rw [hm] at h1; cases h1
      rcases h3 with ⟨_, rfl⟩ | ⟨_, _, h3, _⟩
      · refine ⟨.tuple #[.bool false], w, ?_, Did.same hr (.tup _ #[_] (.one (.bool _)))⟩
        simp [Instr.next, run_getObj' h2]
      · cases h3
    · rename_i m since seen st hb
      obtain ⟨c', h1, ⟨m', h2, h3⟩, _⟩ := hr.blk _ _ hb
      rw [hm] at h1; cases h1
      rcases h3 with ⟨h3, _⟩ | ⟨m1, cm, h3, rfl, hmm⟩
      · cases h3
      cases h3
      split at e
      · rename_i clock hbm
        injection e with e
        injection e with e1 e2
        subst e1; subst e2
        obtain ⟨c', h1, ⟨es', h4, h5⟩, _⟩ := hr.blk _ _ hbm
        rw [hmm] at h1; cases h1
        have : es' = #[] := by
          rcases es' with ⟨l⟩
          cases l with
          | nil => rfl
          | cons a b => cases h5
        subst this
        refine ⟨.tuple #[.bool false], w, ?_, Did.same hr (.tup _ #[_] (.one (.bool _)))⟩
        simp [Instr.next, run_getObj' h2, run_getObj' h4, Question.forced]
      · rename_i k0 v0 b clock hbm
        obtain ⟨c', h1, ⟨es', h4, h5⟩, _⟩ := hr.blk _ _ hbm
        rw [hmm] at h1; cases h1
        obtain ⟨en, rfl, g1, g2, g3⟩ : ∃ en : MapEntry, es' = #[en] ∧ VRel x w k0 en.key ∧ VRel x w v0 en.val ∧ en.born = b := by
          rcases es' with ⟨l⟩
          match l, h5 with
          | [en], h5 => exact ⟨en, rfl, h5.1, h5.2.1, h5.2.2.1⟩
        split at e
        · rename_i hlt
          obtain ⟨hlt, hse⟩ := hlt
          have hne : (!seen.isEmpty && (decide (st ≤ b))) = false := by
            cases hsn : seen.isEmpty with
            | true => rfl
            | false =>
              rw [hsn] at hse
              simp only [Bool.false_or, decide_eq_true_eq] at hse
              simpa using hse
          split at e
          · rename_i hc
            injection e with e
            injection e with e1 e2
            subst e1; subst e2
            refine ⟨.tuple #[.bool false], w, ?_, Did.same hr (.tup _ #[_] (.one (.bool _)))⟩
            simp only [List.contains_iff_mem] at hc
            simp [Instr.next, run_getObj' h2, run_getObj' h4, Question.forced, g3, hc]
            simpa using hne
          · rename_i hc
            injection e with e
            injection e with e1 e2
            subst e1; subst e2
            have hnew : ∀ u, Mono x w x u → u.heap[c]? = some (.mapIter (some cm) since (seen.toArray.push b) clock) → BRel x u (x.κ n) c (.miter (some m) since (seen ++ [b]) clock) :=
              fun u hmo hu => ⟨some cm, by simpa using hu, .inr ⟨m, cm, rfl, rfl, hmo.m _ _ hmm⟩⟩
            refine ⟨.tuple #[.bool true, en.key, en.val], World.setO w c (.mapIter (some cm) since (seen.toArray.push b) clock), ?_, x, (setObj_sim hb hr hm hnew).1, (setObj_sim hb hr hm hnew).2, ?_⟩
            · simp only [List.contains_iff_mem] at hc
              simp [Instr.next, run_getObj' h2, run_getObj' h4, Question.forced, g3, hc, hlt, run_setObj' h2]
              simpa using hne
            · have hmo := (setObj_sim hb hr hm hnew).1.mono hr
              exact .tup _ #[_, _, _] (.cons _ _ _ _ (.bool _) (.cons _ _ _ _ (g1.mono hmo) (.one (g2.mono hmo))))
        · cases e
      · cases e
    · cases e
  · cases e
theorem min_sim (mx : Bool) : ∀ {l : List AV} {l' : List Value} {a v : AV} {p : Value}, minmaxA mx a l = some v → VRel x w a p → VRels x w l l' →
    ∃ r, (l'.foldlM (if mx then Builtin.max2 else Builtin.min2) p).run P w = .ok r w ∧ VRel x w v r
  | [], _, a, v, p, e, ha, .nil => by
    simp only [minmaxA] at e
    injection e with e
    subst e
    exact ⟨p, by simp, ha⟩
  | b :: l, _, a, v, p, e, ha, .cons _ q _ l' hb hs => by
    cases a with
    | int k n => cases b with
      | int k' n' =>
        simp only [minmaxA] at e
        split at e
        · rename_i hk
          subst hk
          cases ha; cases hb
          cases mx with
          | true =>
            simp only [if_true] at e
            obtain ⟨r, r1, r2⟩ := min_sim true e (.int k (if n' > n then n' else n)) hs
            refine ⟨r, ?_, r2⟩
            simp only [if_true] at r1
            simpa [Builtin.max2] using r1
          | false =>
            simp only [Bool.false_eq_true, if_false] at e
            obtain ⟨r, r1, r2⟩ := min_sim false e (.int k (if n' < n then n' else n)) hs
            refine ⟨r, ?_, r2⟩
            simp only [Bool.false_eq_true, if_false] at r1
            simpa [Builtin.min2] using r1
        · cases e
      | _ => simp [minmaxA] at e
    | _ => simp [minmaxA] at e
theorem lenA_slice {a : AV} {k : Nat} {p : Value} (h : lenA a = some k) (hs : ∀ s, a ≠ .str s) (ha : VRel x w a p) : ∃ A cap, p = .slice A k cap := by
  cases ha <;> simp [lenA] at h <;> first | (subst h; exact ⟨_, _, rfl⟩) | exact absurd rfl (hs _)
end Go.Abs

namespace Go.Abs
variable [Bnd]
variable {P : Program} {x : Cx} {w : World}
theorem shape_of {c : Nat} {arr : Array Value} {e : TypeId} {fr : Nat × Nat} (h : w.heap[c]? = some (.cells arr e fr)) : w.shape? c = some (e, arr.size) := by simp [World.shape?, h]
theorem lies_self {e : TypeId} (hc : P.cellsOf e ≠ 0) (count n : Nat) (hn : n ≤ count) : liesAt P P.depth e count 0 e n = true := by
  have hd : P.depth = (2 * (P.types.size + Made.depth) + 1) + 1 := rfl
  rw [hd]
  simp only [liesAt, Bool.or_eq_true]
  left
  rw [hd]
  simp [rowAt, hc, hn, sameLayout]
theorem convU_sim {h : Hp} {s d : TypeId} {a v : AV} {p : Value} (e : convU P h s d a = some v) (hr : HRel x h.blks.get w) (ha : VRel x w a p) : ∃ r, (convert s d p).run P w = .ok r w ∧ VRel x w v r := by
  unfold convU at e
  split at e
  · rename_i t n off hs hd
    split at e
    · rename_i cs et i hb hi
      split at e
      · rename_i hc
        injection e with e; subst e
        have ha' := ha
        cases ha with | ptr _ c _ hm =>
        obtain ⟨c', h1, ⟨arr, vs, h2, h3, h4, h5⟩, _⟩ := hr.blk _ _ hb
        rw [hm] at h1; cases h1
        have hl := h3.length
        have hp : vs.length ≤ arr.size := by simpa using h4.length_le
        exact ⟨_, Lib.run_to_unsafe w _ hs hd hi hc.2 (shape_of h2) (by show off < arr.size; omega), ha'⟩
      · cases e
    · cases e
  · rename_i u n hs hd
    split at e
    · rename_i cs et i hb hi
      split at e
      · rename_i hc
        injection e with e; subst e
        obtain ⟨rfl, hc1, hc2⟩ := hc
        have ha' := ha
        cases ha with | ptr _ c _ hm =>
        obtain ⟨c', h1, ⟨arr, vs, h2, h3, h4, h5⟩, _⟩ := hr.blk _ _ hb
        rw [hm] at h1; cases h1
        have hl := h3.length
        have hp : vs.length ≤ arr.size := by simpa using h4.length_le
        have hcell : P.cellsOf et = i.size := by simp [Program.cellsOf, hi]
        refine ⟨_, Lib.run_from_unsafe w _ hs hd hi (shape_of h2) (lies_self (by rw [hcell]; exact hc1) _ _ ?_), ha'⟩
        rw [hcell]
        exact (Nat.le_div_iff_mul_le (by omega)).2 (by omega)
      · cases e
    · cases e
  · cases e
theorem bytesA_rel : ∀ {cs : List AV} {l : List UInt8} {vs : List Value}, bytesA cs = some l → VRels x w cs vs → vs = l.map fun b => Value.int .u8 b.toNat
  | [], l, _, h, .nil => by simp [bytesA] at h; subst h; rfl
  | a :: cs, l, _, h, .cons _ v _ vs hv hs => by
    unfold bytesA at h
    split at h
    · rename_i heq; cases heq
    · rename_i b r heq
      injection heq with e1 e2
      subst e1; subst e2
      split at h
      · rename_i hb
        obtain ⟨l', h1, rfl⟩ := Option.map_eq_some_iff.1 h
        cases hv
        rw [bytesA_rel h1 hs]
        have : ((UInt8.ofNat b.toNat).toNat : Int) = b := by
          rw [UInt8.toNat_ofNat', Nat.mod_eq_of_lt (by omega)]
          omega
        simp only [List.map_cons, this]
      · cases h
    · cases h
/-- a block that is given up may turn -/
theorem kill_sim {h : Hp} {n c : Nat} {b0 : Blk} (hr : HRel x h.blks.get w) (hb : h.blks.get n = some b0) (hm : x.m n = some c) {u : World} (hoth : ∀ k, k ≠ c → u.heap[k]? = w.heap[k]?) (hsz : u.heap.size = w.heap.size) (hos : u.os = w.os) (htp : u.tape = w.tape) (hout : u.output = w.output) :
    Ext x h.blks.get h.next w x (h.kill n).blks.get h.next u ∧ HRel x (h.kill n).blks.get u := by
  have hkill : ∀ n' b, (h.kill n).blks.get n' = some b → h.blks.get n' = some b ∧ n' ≠ n := by
    intro n' b e
    simp only [Hp.kill, Tr.get_del] at e
    split at e
    · cases e
    · rename_i hn; exact ⟨e, hn⟩
  obtain ⟨c2, e1, e2, e3⟩ := hr.blk _ _ hb
  rw [hm] at e1; cases e1
  have hmono : Mono x w x u := ⟨fun _ _ h => h, fun _ _ _ => rfl, fun _ h => h, rfl, fun k hk => hoth k (fun e => e3 (e ▸ hk))⟩
  refine ⟨⟨fun _ _ h => h, fun _ _ _ => rfl, fun _ _ => rfl, fun _ h => h, fun _ h => .inl h, rfl, hos, htp, hout, by rw [hsz]; exact Nat.le_refl _, fun k hk hn => hoth k (fun e => hn n _ hb (e ▸ hm)), fun k b k' e hx => .inl ⟨k, b, (hkill _ _ e).1, hx⟩⟩, ⟨fun k b e => ?_, fun k k' b b' c' e e' hx hx' => hr.inj k k' b b' c' (hkill _ _ e).1 (hkill _ _ e').1 hx hx', fun k hk => by rw [hsz]; exact hr.fb k hk, fun k k' hk => by rw [hsz]; exact hr.mb k k' hk⟩⟩
  obtain ⟨h1, h2⟩ := hkill _ _ e
  obtain ⟨c', q1, q2, q3⟩ := hr.blk k b h1
  exact ⟨c', q1, q2.mono hmono (hoth c' (fun ec => h2 (hr.inj k n b b0 c h1 hb (ec ▸ q1) hm))), q3⟩
theorem freeze_other (w : World) (a : Addr) (n k : Nat) (h : k ≠ a.block) : (w.freeze a n).heap[k]? = w.heap[k]? := by
  unfold World.freeze
  split
  · rfl
  · simp [Array.getElem?_modify, Ne.symm h]
theorem str_sim0 {h : Hp} {n : Nat} {k : Int} {pt it ty e e' : TypeId} {i : TypeInfo} {cs : List AV} {l : List UInt8} {p : Value} (hb : h.blks.get n = some (.cells cs e)) (hpt : P.underlying pt = some (.pointer e')) (hi : P.info? e = some i) (hc : e = e' ∧ i.size = 1 ∧ 0 < k ∧ k.toNat ≤ cs.length ∧ k ≤ 2 ^ 45)
    (hl : bytesA (cs.take k.toNat) = some l) (hr : HRel x h.blks.get w) (ha : VRel x w (.ptr n 0) p) :
    ∃ w', (Builtin.unsafeString_ #[pt, it] ty #[p, .int .i64 k]).run P w = .ok (.string ⟨l.toArray⟩) w' ∧ Did x h w (.str l) (h.kill n) (.string ⟨l.toArray⟩) w' := by
  obtain ⟨rfl, hc1, hc2, hc3, hc4⟩ := hc
  cases ha with | ptr _ c _ hm =>
  obtain ⟨c', h1, ⟨arr, vs, h2, h3, h4, h5⟩, _⟩ := hr.blk _ _ hb
  rw [hm] at h1; cases h1
  have hvs := bytesA_rel hl (h3.take k.toNat)
  have hlen : l.length = k.toNat := by
    have := congrArg List.length hvs
    rw [List.length_take, h3.length, List.length_map] at this
    omega
  have hk : k = (l.length : Int) := by omega
  have hp : vs.length ≤ arr.size := by simpa using h4.length_le
  have h3l := h3.length
  have hrun := Lib.run_unsafeString_row (P := P) w pt it ty e hpt (by simp [Program.cellsOf, hi, hc1]) c arr.size (shape_of h2) l (fun h0 => by rw [h0] at hlen; simp at hlen; omega) (by omega) (by omega) (fun j y hj => by
    have hj2 : (vs.take k.toNat)[j]? = some (.int .u8 y.toNat) := by rw [hvs, List.getElem?_map, hj]; rfl
    have hj3 : vs[j]? = some (.int .u8 y.toNat) := by
      rw [List.getElem?_take] at hj2
      split at hj2
      · exact hj2
      · cases hj2
    obtain ⟨r, hr4⟩ := h4
    have : arr.toList[j]? = some (.int .u8 y.toNat) := by
      rw [← hr4, List.getElem?_append_left (List.getElem?_eq_some_iff.1 hj3).1]; exact hj3
    rw [add_lit']
    simp only [World.cell?, h2]
    simpa using this)
  rw [← hk] at hrun
  have hf : (w.freeze ⟨c, 0, none⟩ l.length).os = w.os ∧ (w.freeze ⟨c, 0, none⟩ l.length).tape = w.tape ∧ (w.freeze ⟨c, 0, none⟩ l.length).output = w.output ∧ (w.freeze ⟨c, 0, none⟩ l.length).heap.size = w.heap.size := by
    unfold World.freeze
    split
    · exact ⟨rfl, rfl, rfl, rfl⟩
    · exact ⟨rfl, rfl, rfl, by simp⟩
  obtain ⟨k1, k2⟩ := kill_sim hr hb hm (u := w.freeze ⟨c, 0, none⟩ l.length) (fun k hk => freeze_other w _ _ k hk) hf.2.2.2 hf.1 hf.2.1 hf.2.2.1
  exact ⟨_, hrun, x, k1, k2, .str _ _ rfl⟩
end Go.Abs

namespace Go.Abs
variable [Bnd]
variable {P : Program} {x : Cx} {w : World}
def Nx.hp : Nx → Hp
  | .val _ h => h
  | .skip h => h
  | .enter _ _ h => h
  | .round _ _ h => h
def NDid (x : Cx) (h : Hp) (w : World) (r : Next) (w' : World) : Nx → Prop
  | .val v h' => ∃ u, r = .value u ∧ Did x h w v h' u w'
  | .skip h' => r = .skip ∧ Did x h w (.tup []) h' undef w'
  | .enter f as h' => ∃ as', r = .enter f as' ∧ h' = h ∧ w' = w ∧ VRels x w as as'.toList
  | .round n as h' => ∃ (c : Nat) (rc : Loop) (as' : Array Value), r = .round c rc.fn ((rc.params.zip as').foldl (fun tmps (t, a) => tmps.setIfInBounds t a) rc.tmps) rc.assign rc.body ∧ h' = h ∧ w' = w ∧ x.m n = some c ∧ w.heap[c]? = some (.loop rc) ∧ VRels x w as as'.toList ∧ as'.size = rc.params.size
theorem ERel.find {b : Nat} : ∀ {es : List (AV × AV × Nat)} {es' : List MapEntry} {e : AV × AV × Nat}, ERel x w es es' → es.find? (fun e => e.2.2 == b) = some e →
    ∃ e', es'.find? (fun e => e.born == b) = some e' ∧ VRel x w e.1 e'.key ∧ VRel x w e.2.1 e'.val
  | [], _, _, _, h => by simp at h
  | (k, v, n) :: es, [], _, h, _ => by cases h
  | (k, v, n) :: es, m :: es', e, ⟨h1, h2, h3, h4⟩, h => by
    subst h3
    simp only [List.find?_cons] at h ⊢
    by_cases hb : (m.born == b) = true
    · rw [hb] at h ⊢
      injection h with h
      subst h
      exact ⟨m, rfl, h1, h2⟩
    · have hb' : (m.born == b) = false := by simpa using hb
      rw [hb'] at h ⊢
      exact ERel.find h4 h
theorem entry_sim {h : Hp} {a v : AV} {p : Value} (e : entryA h a = some v) (hr : HRel x h.blks.get w) (ha : VRel x w a p) :
    ∃ r, (Instr.entry p).run P w = .ok r w ∧ VRel x w v r := by
  unfold entryA at e
  split at e
  · rename_i n
    cases ha with | ptr _ c _ hm =>
    split at e
    · rename_i m since seen st hb
      obtain ⟨c', h1, ⟨m', h2, h3⟩, _⟩ := hr.blk _ _ hb
      rw [hm] at h1; cases h1
      rcases h3 with ⟨h3, _⟩ | ⟨m1, cm, h3, rfl, hmm⟩
      · cases h3
      cases h3
      split at e
      · rename_i b es clock hl hbm
        obtain ⟨c', h1, ⟨es', h4, h5⟩, _⟩ := hr.blk _ _ hbm
        rw [hmm] at h1; cases h1
        split at e
        · rename_i hst
          subst hst
          split at e
          · rename_i e0 hf
            injection e with e
            subst e
            obtain ⟨e', k1, k2, k3⟩ := h5.find hf
            refine ⟨.tuple #[e'.key, e'.val], ?_, .tup _ _ (.cons _ _ _ _ k2 (.one k3))⟩
            have hbk : seen.toArray.back? = some b := by simpa using hl
            have k1' : Array.find? (fun e => e.born == b) es' = some e' := by rw [← Array.find?_toList]; exact k1
            simp [Instr.entry, run_getObj' h2, run_getObj' h4, hbk, k1']
          · cases e
        · cases e
      · cases e
    · cases e
  · cases e
/-- a function of the program that is entered when it is called -/
def Enters (P : Program) (f : FuncId) : Prop := ∃ fn, P.funcs[f]? = some fn ∧ fn.body.isNone = false ∧ (fn.name == "runtime.NumGoroutine") = false
theorem nx_val {h h' : Hp} {v : AV} {s : Sem Value} {nx : Nx} (hn : some nx = some (.val v h')) (hs : ∃ r w', s.run P w = .ok r w' ∧ Did x h w v h' r w') :
    ∃ r w', (do pure (.value (← s)) : Sem Next).run P w = .ok r w' ∧ NDid x h w r w' nx := by
  injection hn with hn
  subst hn
  obtain ⟨r, w', h1, h2⟩ := hs
  exact ⟨.value r, w', by simp [h1], r, rfl, h2⟩
theorem nx_vl {h : Hp} {o : Option AV} {s : Sem Value} {nx : Nx} (hr : HRel x h.blks.get w) (hn : vl h o = some nx) (hs : ∀ v, o = some v → ∃ r, s.run P w = .ok r w ∧ VRel x w v r) :
    ∃ r w', (do pure (.value (← s)) : Sem Next).run P w = .ok r w' ∧ NDid x h w r w' nx := by
  unfold vl at hn
  obtain ⟨v, h1, rfl⟩ := Option.map_eq_some_iff.1 hn
  obtain ⟨r, k1, k2⟩ := hs v h1
  exact nx_val rfl ⟨r, w, k1, Did.same hr k2⟩
theorem nx_skip {h : Hp} {o : Option Hp} {s : Sem Unit} {nx : Nx} (hn : o.map .skip = some nx) (hs : ∀ h', o = some h' → ∃ w', s.run P w = .ok () w' ∧ Did x h w (.tup []) h' undef w') :
    ∃ r w', (do s; pure .skip : Sem Next).run P w = .ok r w' ∧ NDid x h w r w' nx := by
  obtain ⟨h', h1, rfl⟩ := Option.map_eq_some_iff.1 hn
  obtain ⟨w', k1, k2⟩ := hs h' h1
  exact ⟨.skip, w', by simp [k1], rfl, k2⟩
theorem nx_map {h : Hp} {o : Option (AV × Hp)} {s : Sem Value} {nx : Nx} (hn : (o.map fun r => Nx.val r.1 r.2) = some nx) (hs : ∀ v h', o = some (v, h') → ∃ r w', s.run P w = .ok r w' ∧ Did x h w v h' r w') :
    ∃ r w', (do pure (.value (← s)) : Sem Next).run P w = .ok r w' ∧ NDid x h w r w' nx := by
  obtain ⟨⟨v, h'⟩, h1, rfl⟩ := Option.map_eq_some_iff.1 hn
  exact nx_val rfl (hs v h' h1)
theorem optO_rel {tm : Tr AV} {ρ : Operand → Value} {o : Option Operand} {v : Option AV} (h : optO tm o = some v) (he : ∀ y, o = some y → ∀ v, evalO tm y = some v → VRel x w v (ρ y)) : OR x w v (o.map ρ) := by
  cases o with
  | none => simp [optO] at h; subst h; trivial
  | some y =>
    obtain ⟨a, h1, rfl⟩ := Option.map_eq_some_iff.1 h
    exact he y rfl a h1
/-- a block that nobody names -/
theorem unnamed_sim {hm : HM} {n : Nat} (hr : HRel x hm w) (o : Obj) : Ext x hm n w x hm n (w.drew.alloc o) ∧ HRel x hm (w.drew.alloc o) := by
  have hold : ∀ c, c < w.heap.size → (w.drew.alloc o).heap[c]? = w.heap[c]? := fun c hc => heap_alloc_old w.drew o c hc
  have hsz : w.heap.size ≤ (w.drew.alloc o).heap.size := by show _ ≤ (w.heap.push o).size; simp
  have hmo : Mono x w x (w.drew.alloc o) := ⟨fun _ _ h => h, fun _ _ _ => rfl, fun _ h => h, rfl, fun c hc => hold c (hr.fb c hc)⟩
  refine ⟨⟨fun _ _ h => h, fun _ _ _ => rfl, fun _ _ => rfl, fun _ h => h, fun _ h => .inl h, rfl, rfl, rfl, rfl, hsz, fun c hc _ => hold c hc, fun n b c e hx => .inl ⟨n, b, e, hx⟩⟩, ⟨fun n b e => ?_, hr.inj, fun c hc => Nat.lt_of_lt_of_le (hr.fb c hc) hsz, fun n c hx => Nat.lt_of_lt_of_le (hr.mb n c hx) hsz⟩⟩
  obtain ⟨c, k1, k2, k3⟩ := hr.blk n b e
  exact ⟨c, k1, k2.mono hmo (hold c k2.lt), k3⟩
theorem RdL.both {F : Nat → Prop} {d : Nat} {s : List Ck} : ∀ {l : List Ck} {vs : List Value}, RdL F w d s l vs → vs.length = l.length ∧ ∀ u ∈ vs, u.oneCell' = true
  | _, _, .nil _ _ => ⟨rfl, fun _ h => by cases h⟩
  | _, _, .any _ _ v l l' h hs => ⟨by simp [(RdL.both hs).1], fun u hu => by rcases List.mem_cons.1 hu with rfl | hu; exact h; exact (RdL.both hs).2 u hu⟩
  | _, _, .num _ _ z l l' h hs => ⟨by simp [(RdL.both hs).1], fun u hu => by rcases List.mem_cons.1 hu with rfl | hu; rfl; exact (RdL.both hs).2 u hu⟩
  | _, _, .self _ _ v l l' h hs => ⟨by simp [(RdL.both hs).1], fun u hu => by rcases List.mem_cons.1 hu with rfl | hu; exact h.one; exact (RdL.both hs).2 u hu⟩
  | _, _, .sl _ _ s' v l l' h hs => ⟨by simp [(RdL.both hs).1], fun u hu => by rcases List.mem_cons.1 hu with rfl | hu; exact h.one; exact (RdL.both hs).2 u hu⟩
theorem add_twice (a : Addr) (i j : Nat) : (a.add i).add j = a.add (i + j) := by
  unfold Addr.add
  split <;> split <;> simp_all [Nat.add_assoc]
theorem rd_cells {F : Nat → Prop} {d n : Nat} {s : List Ck} {a : Addr} (h : ∀ k, k < n → RdE F w d s (a.add (k * s.length))) : ∀ m, m ≤ n → ∃ news : List Value, news.length = m * s.length ∧ (∀ j u, news[j]? = some u → w.cell? (a.add j) = some u) ∧ ∀ u ∈ news, u.oneCell' = true
  | 0, _ => ⟨[], by simp, fun j u h => by simp at h, fun _ h => by cases h⟩
  | m + 1, hm => by
    obtain ⟨l, h1, h2, h3⟩ := rd_cells h m (by omega)
    obtain ⟨_, _, _, l2, k1, k2⟩ := h m (by omega)
    obtain ⟨k3, k4⟩ := k2.both
    refine ⟨l ++ l2, by rw [List.length_append, h1, k3, Nat.succ_mul], fun j u hj => ?_, fun u hu => ?_⟩
    · rw [List.getElem?_append] at hj
      split at hj
      · exact h2 j u hj
      · rename_i hge
        have := k1 _ _ hj
        rw [add_twice] at this
        rw [show m * s.length + (j - l.length) = j by omega] at this
        exact this
    · rcases List.mem_append.1 hu with hu | hu
      · exact h3 u hu
      · exact k4 u hu
theorem clone_sim {h : Hp} {e : TypeId} {t t' ty : TypeId} {i : TypeInfo} {z : Value} {s y : AV} {p q : Value} (hc : cloneA P e i.size i.bytes s y = true) (ht : P.underlying t = some (.slice e)) (hi : P.info? e = some i) (hz : i.zero = some z) (hzs : z.cells.size = i.size) (hst : srcT P t' y = true)
    (hp : VRel x w s p) (hq : VRel x w y q) (hr : HRel x h.blks.get w) : ∃ r w', (Builtin.append_ #[t, t'] ty #[p, q]).run P w = .ok r w' ∧ Did x h w .any h r w' := by
  unfold cloneA at hc
  split at hc
  · rename_i n off es sh b
    simp only [Bool.and_eq_true, decide_eq_true_eq] at hc
    obtain ⟨⟨rfl, hsl⟩, hlim0⟩ := hc
    cases hp with | sl _ _ _ _ _ _ c cap' hm hcc he hl hk =>
    have hcap : cap' = 0 := he rfl
    subst hcap
    cases hq with | eltN _ _ a n2 cap2 d hd hrd =>
    cases hrd with | mk d _ _ _ _ hn hcp hF hall =>
    obtain ⟨news, g1, g2, g3⟩ := rd_cells hall n2 (Nat.le_refl _)
    have hkind : ∃ e', P.underlying t' = some (.slice e') := by
      unfold srcT at hst
      split at hst <;> first | (cases hst; done) | exact ⟨_, by assumption⟩ | (simp_all; done)
    obtain ⟨e', hk'⟩ := hkind
    have hs : Src P i.size t' (.slice (some a) n2 cap2) n2 news w := by
      refine ⟨.inl ⟨e', hk'⟩, fun w' => by simp [Builtin.lenOf], ?_, ?_, by rw [g1, hsl], g3⟩
      · exact run_firstCells_some w i.size n2 a n2 cap2 news (by rw [g1, hsl]) g2
      · exact run_firstCells_some w.drew i.size n2 a n2 cap2 news (by rw [g1, hsl]) g2
    by_cases h0 : n2 = 0
    · subst h0
      have : news = [] := List.eq_nil_of_length_eq_zero (by rw [g1, Nat.zero_mul])
      subst this
      exact ⟨_, _, run_append_nothing w t t' ty e i ht hi (some ⟨c, off, none⟩) 0 0 (Nat.le_refl _) _ hs, Did.same hr (.any _ rfl)⟩
    · obtain ⟨l1, l2⟩ := limU_fit (ck := n2) (n := 0 + n2) (c := 0) hlim0 hn (by omega) (by omega)
      have hrun := run_append_grow_src w t t' ty e i z ht hi hz (some ⟨c, off, none⟩) 0 0 [] (run_firstCells_some w.drew i.size 0 _ 0 0 [] (by simp) (by simp)) _ n2 news hs (by omega) l2 l1
      obtain ⟨u1, u2⟩ := unnamed_sim (n := h.next) hr (.cells (([] ++ news).toArray ++ Builtin.zeroCells z.cells (grownCap w (0 + n2) 0 e - (0 + n2))) e)
      exact ⟨_, _, hrun, x, u1, u2, .any _ rfl⟩
  · cases hc
theorem builtin_sim {h h' : Hp} {b : Builtin} {ts : Array TypeId} {ty : TypeId} {consts : Array Bool} {as : List AV} {vs : Array Value} {v : AV} (e : builtinA P h b ts.toList as = some (v, h')) (hr : HRel x h.blks.get w) (ha : VRels x w as vs.toList)
    (hf : ∀ n, h.next ≤ n → n < h'.next → x.m n = none) : ∃ r w', (builtin b ts ty consts vs).run P w = .ok (.value r) w' ∧ Did x h w v h' r w' := by
  obtain ⟨vs⟩ := vs
  obtain ⟨ts⟩ := ts
  unfold builtinA at e
  split at e
  · -- len
    rename_i a
    match vs, ha with
    | [p], .cons _ _ _ _ hp _ =>
    have key : ∀ n : Int, (Builtin.len_ ⟨ts⟩ ty ⟨[p]⟩).run P w = .ok (goInt n) w → v = .int .i64 n → h' = h → ∃ r w', (builtin .len ⟨ts⟩ ty consts ⟨[p]⟩).run P w = .ok (.value r) w' ∧ Did x h w v h' r w' := by
      rintro n k1 rfl rfl
      exact ⟨goInt n, w, by simp [builtin, k1], Did.same hr (.int _ _)⟩
    split at e
    · rename_i t heq
      simp only [] at heq
      subst heq
      split at e
      · rename_i s hu
        injection e with e
        injection e with e1 e2
        cases hp with | str s' _ hs =>
        refine key s.length ?_ e1.symm e2.symm
        have : s.length = s'.size := by rw [← hs]; simp
        simp [Builtin.len_, run_underlying hu, this]
      · rename_i lo hi hu
        injection e with e
        injection e with e1 e2
        cases hp with | lsl _ _ A n cap hz =>
        subst e1; subst e2
        exact ⟨goInt n, w, by simp [builtin, Builtin.len_, run_underlying hu], Did.same hr (.una _ _ _ _ hz)⟩
      · rename_i j sh b hu
        injection e with e
        injection e with e1 e2
        subst e1; subst e2
        have key2 : ∀ u, VRel x w (.inp j sh b) u → ∃ A n cap, u = .slice A n cap ∧ x.τ.v j = .slice A n cap ∧ n * wt sh ≤ 2 ^ 47 := by
          intro u hu
          cases hu with
          | inp _ _ _ d hd hrd =>
            generalize x.τ.v j = z at hrd
            cases hrd with
            | nil => exact ⟨_, _, _, rfl, rfl, by omega⟩
            | mk _ _ _ _ _ hn => exact ⟨_, _, _, rfl, rfl, hn⟩
        obtain ⟨A, n, cap, rfl, hv, hn⟩ := key2 p hp
        exact ⟨goInt n, w, by simp [builtin, Builtin.len_, run_underlying hu], Did.same hr (.ilen j _ A n cap hv hn)⟩
      · rename_i n0 es0 b0 z0 hu
        injection e with e
        injection e with e1 e2
        subst e1; subst e2
        cases hp with | usl _ _ _ _ c off len cap hm hl hk hb hck =>
        exact ⟨goInt len, w, by simp [builtin, Builtin.len_, run_underlying hu], Did.same hr (by subst hb; exact .ixn b0)⟩
      · cases e
      · rename_i hu _ _ _ hns
        split at e
        · rename_i n hl
          injection e with e
          injection e with e1 e2
          obtain ⟨A, cap, rfl⟩ := lenA_slice hl (fun s hs => hns s hs) hp
          refine key n ?_ e1.symm e2.symm
          simp [Builtin.len_, run_underlying hu]
        · cases e
      · rename_i hu
        injection e with e
        injection e with e1 e2
        cases hp
        refine key 0 ?_ e1.symm e2.symm
        simp [Builtin.len_, run_underlying hu]
      · rename_i n hu
        split at e
        · rename_i es clock hb
          injection e with e
          injection e with e1 e2
          cases hp with | map _ c hm =>
          obtain ⟨c', h1, ⟨es', h2, h3⟩, _⟩ := hr.blk _ _ hb
          rw [hm] at h1; cases h1
          refine key es.length ?_ e1.symm e2.symm
          have := h3.length
          rw [Array.length_toList] at this
          simp [Builtin.len_, run_underlying hu, run_getObj' h2, this]
        · cases e
      · cases e
    · cases e
  · -- cap
    rename_i a
    match vs, ha with
    | [p], .cons _ _ _ _ hp _ =>
    have key : ∀ n : Int, (Builtin.cap_ ⟨ts⟩ ty ⟨[p]⟩).run P w = .ok (goInt n) w → v = .int .i64 n → h' = h → ∃ r w', (builtin .cap ⟨ts⟩ ty consts ⟨[p]⟩).run P w = .ok (.value r) w' ∧ Did x h w v h' r w' := by
      rintro n k1 rfl rfl
      exact ⟨goInt n, w, by simp [builtin, k1], Did.same hr (.int _ _)⟩
    split at e
    · rename_i t heq
      simp only [] at heq
      subst heq
      split at e
      · rename_i hu
        injection e with e
        injection e with e1 e2
        cases hp
        refine key 0 ?_ e1.symm e2.symm
        simp [Builtin.cap_, run_underlying hu]
      · rename_i hu
        injection e with e
        injection e with e1 e2
        cases hp
        refine key 0 ?_ e1.symm e2.symm
        simp [Builtin.cap_, run_underlying hu]
      · rename_i cap _ hu
        injection e with e
        injection e with e1 e2
        cases hp with | sl _ _ _ _ _ _ c cap' hm hc he hl hk =>
        refine key cap ?_ e1.symm e2.symm
        simp [Builtin.cap_, run_underlying hu, he rfl]
      · cases e
    · cases e
  · -- append
    rename_i s a
    match vs, ha with
    | [p, q], .cons _ _ _ _ hp (.cons _ _ _ _ hq _) =>
    split at e
    · rename_i t t' heq
      simp only [] at heq
      subst heq
      split at e
      · rename_i el he hst
        split at e
        · rename_i i hi
          split at e
          · rename_i hcl
            injection e with e
            injection e with e1 e2
            subst e1; subst e2
            simp only [Bool.and_eq_true, beq_iff_eq] at hcl
            obtain ⟨hcl, hz0⟩ := hcl
            obtain ⟨z, hz, hz1⟩ := Option.map_eq_some_iff.1 hz0
            obtain ⟨r, w', r1, r2⟩ := clone_sim (ty := ty) hcl (elemT_form he) hi hz hz1 hst hp hq hr
            exact ⟨r, w', by simp [builtin, r1], r2⟩
          split at e
          · rename_i z cs k hz hsrc hlen
            split at e
            · rename_i hcs
              obtain ⟨news, s1, s2, s3⟩ := src_sim hsrc hlen hst hq hr hcs.1
              obtain ⟨r, w', r1, r2⟩ := append_sim e (elemT_form he) hi hz hcs.2 hp s1 s2 hr hf (ty := ty)
              exact ⟨r, w', by simp [builtin, r1], r2⟩
            · cases e
          · cases e
        · cases e
      · cases e
    · cases e
  · -- unsafe.SliceData
    rename_i a
    match vs, ha with
    | [p], .cons _ _ _ _ hp _ =>
    split at e
    · injection e with e
      injection e with e1 e2
      subst e1; subst e2
      cases hp
      exact ⟨.pointer none, w, by simp [builtin, Lib.run_unsafeSliceData_nil], Did.same hr .nilptr⟩
    · rename_i n off len cap ex es
      split at e
      · rename_i hcap
        injection e with e
        injection e with e1 e2
        subst e1; subst e2
        cases hp with | sl _ _ _ _ _ _ c cap' hm hc he hl hk =>
        have hrun := Lib.run_unsafeSliceData_row (P := P) w ⟨ts⟩ ty ⟨c, off, none⟩ len cap' (by omega)
        exact ⟨.pointer (some ⟨c, off, none⟩), w, by simp [builtin, hrun], Did.same hr (.ptr _ _ _ hm)⟩
      · cases e
    · cases e
  · -- unsafe.String
    rename_i a k
    match vs, ha with
    | [p, q], .cons _ _ _ _ hp (.cons _ _ _ _ hq _) =>
    cases hq
    split at e
    · rename_i pt it heq
      simp only [] at heq
      subst heq
      split at e
      · rename_i hk
        subst hk
        have hrun := fun pa => Lib.run_unsafeString_none (P := P) w pt it ty pa
        split at e
        · injection e with e
          injection e with e1 e2
          subst e1; subst e2
          cases hp
          exact ⟨.string .empty, w, by simp only [builtin, Sem.run_bind]; rw [hrun]; simp, Did.same hr (.str _ _ rfl)⟩
        · injection e with e
          injection e with e1 e2
          subst e1; subst e2
          cases hp
          exact ⟨.string .empty, w, by simp only [builtin, Sem.run_bind]; rw [hrun]; simp, Did.same hr (.str _ _ rfl)⟩
        · cases e
      · split at e
        · split at e
          · rename_i cs et e' hb hpt
            split at e
            · rename_i i hi
              split at e
              · rename_i hc
                obtain ⟨l, hl, h2⟩ := Option.map_eq_some_iff.1 e
                injection h2 with e1 e2
                subst e1; subst e2
                obtain ⟨w', r1, r2⟩ := str_sim0 (it := it) (ty := ty) hb hpt hi hc hl hr hp
                exact ⟨_, w', by simp only [builtin, Sem.run_bind]; rw [r1]; simp, r2⟩
              · cases e
            · cases e
          · cases e
        · cases e
    · cases e
  · rename_i a l
    obtain ⟨u, h1, h2⟩ := Option.map_eq_some_iff.1 e
    injection h2 with e1 e2
    subst e1; subst e2
    match vs, ha with
    | p :: l', .cons _ _ _ _ hp hs =>
    obtain ⟨r, r1, r2⟩ := min_sim (P := P) false h1 hp hs
    refine ⟨r, w, ?_, Did.same hr r2⟩
    simp only [Bool.false_eq_true, if_false] at r1
    simp [builtin, Builtin.min_, r1]
  · rename_i a l
    obtain ⟨u, h1, h2⟩ := Option.map_eq_some_iff.1 e
    injection h2 with e1 e2
    subst e1; subst e2
    match vs, ha with
    | p :: l', .cons _ _ _ _ hp hs =>
    obtain ⟨r, r1, r2⟩ := min_sim (P := P) true h1 hp hs
    refine ⟨r, w, ?_, Did.same hr r2⟩
    simp only [if_true] at r1
    simp [builtin, Builtin.max_, r1]
  · cases e

theorem parts_rel {tm : Tr AV} {ρ : Operand → Value} {parts : Array (Nat × Operand)} {ps : List (Nat × AV)} (he : ∀ y ∈ (parts.toList.map (·.2)), ∀ v, evalO tm y = some v → VRel x w v (ρ y)) (h : evalParts tm parts.toList = some ps) :
    ps.map (·.1) = (parts.map fun (i, x) => (i, ρ x)).toList.map (·.1) ∧ VRels x w (ps.map (·.2)) ((parts.map fun (i, x) => (i, ρ x)).toList.map (·.2)) := by
  obtain ⟨h1, h2⟩ := evalParts_rel he h
  refine ⟨?_, ?_⟩
  · simpa [Function.comp_def] using h1
  · simpa [Function.comp_def] using h2
theorem opA_sim {h : Hp} {tm : Tr AV} {o : Oper} {nx : Nx} {ρ : Operand → Value} (e : opA P tm h o.op = some nx) (he : ER x w tm ρ o.op.operands.toList) (hr : HRel x h.blks.get w)
    (hf : ∀ n, h.next ≤ n → n < nx.hp.next → x.m n = none) (hen : ∀ f as h', nx = .enter f as h' → Enters P f) : ∃ r w', (execOp ρ o).run P w = .ok r w' ∧ NDid x h w r w' nx := by
  obtain ⟨dst, op, type, pos, after, g⟩ := o
  simp only [] at e he
  cases op <;> simp only [opA] at e <;> (try (cases e; done))
  case move y => exact ⟨_, w, rfl, by
    obtain ⟨v, h1, rfl⟩ := Option.map_eq_some_iff.1 e
    exact ⟨_, rfl, Did.same hr (he y (by simp [Op.operands]) v h1)⟩⟩
  case assign y => exact ⟨_, w, rfl, by
    obtain ⟨v, h1, rfl⟩ := Option.map_eq_some_iff.1 e
    exact ⟨_, rfl, Did.same hr (he y (by simp [Op.operands]) v h1)⟩⟩
  case pick c a b =>
    split at e
    · rename_i t hc
      obtain ⟨v, h1, rfl⟩ := Option.map_eq_some_iff.1 e
      have hcr := he c (by simp [Op.operands]) _ hc
      generalize hpc : ρ c = pc at hcr
      cases hcr
      cases t
      · exact ⟨.value (ρ b), w, by simp [execOp, hpc, asBool], _, rfl, Did.same hr (he b (by simp [Op.operands]) v h1)⟩
      · exact ⟨.value (ρ a), w, by simp [execOp, hpc, asBool], _, rfl, Did.same hr (he a (by simp [Op.operands]) v h1)⟩
    · cases e
  case alloc t =>
    split at e
    · rename_i z hz
      refine nx_val e.symm (alloc_sim hz hr (hf _ (Nat.le_refl _) ?_))
      injection e with e; subst e
      exact Nat.lt_succ_self _
    · cases e
  case box t y =>
    split at e
    · rename_i v hv
      split at e
      case isFalse => cases e
      rename_i hj
      refine nx_val e.symm (box_sim hj (he y (by simp [Op.operands]) v hv) hr (hf _ (Nat.le_refl _) ?_))
      injection e with e; subst e
      exact Nat.lt_succ_self _
    · cases e
  case build t parts =>
    split at e
    · rename_i z ps fs hz hps hu
      split at e
      · rename_i pl hpl
        obtain ⟨h1, h2⟩ := parts_rel (fun y hy => he y (by simpa [Op.operands] using hy)) hps
        refine nx_vl hr e (fun v hv => ?_)
        obtain ⟨out, h3, rfl⟩ := Option.map_eq_some_iff.1 hv
        exact build_struct_sim hz hu hpl h3 h1 h2
      · cases e
    · rename_i z ps k el hz hps hu
      split at e
      · rename_i s hs
        obtain ⟨h1, h2⟩ := parts_rel (fun y hy => he y (by simpa [Op.operands] using hy)) hps
        refine nx_vl hr e (fun v hv => ?_)
        obtain ⟨out, h3, rfl⟩ := Option.map_eq_some_iff.1 hv
        exact build_array_sim hz hu hs h3 h1 h2
      · cases e
    · cases e
  case buildSlice t len parts =>
    split at e
    · rename_i el ps hel hps
      split at e
      · rename_i s z hs hz
        split at e
        · rename_i hl
          split at e
          · rename_i cs hcs
            obtain ⟨h1, h2⟩ := parts_rel (fun y hy => he y (by simpa [Op.operands] using hy)) hps
            refine nx_val e.symm (buildSlice_sim hel hs hz hl hcs h1 h2 hr (hf _ (Nat.le_refl _) ?_))
            injection e with e; subst e
            exact Nat.lt_succ_self _
          · cases e
        · cases e
      · cases e
    · cases e
  case load t a =>
    split at e
    · rename_i av hav
      exact nx_vl hr e (fun v hv => load_sim hv hr (he a (by simp [Op.operands]) _ hav))
    · cases e
  case store t a y =>
    split at e
    · rename_i av yv hav hyv
      exact nx_skip e (fun h' hv => store_sim hv hr (he a (by simp [Op.operands]) _ hav) (he y (by simp [Op.operands]) _ hyv))
    · cases e
  case nilCheck y =>
    split at e
    · rename_i n off hy
      injection e with e; subst e
      have hcr := he y (by simp [Op.operands]) _ hy
      generalize hpc : ρ y = pc at hcr
      have hcr' := hcr
      cases hcr
      exact ⟨.value _, w, by simp [execOp, hpc], _, rfl, Did.same hr hcr'⟩
    · rename_i cells hy
      injection e with e; subst e
      have hcr := he y (by simp [Op.operands]) _ hy
      generalize hpc : ρ y = pc at hcr
      have hcr' := hcr
      cases hcr
      exact ⟨.value _, w, by simp [execOp, hpc], _, rfl, Did.same hr hcr'⟩
    · rename_i f a b hy
      injection e with e; subst e
      have hcr := he y (by simp [Op.operands]) _ hy
      generalize hpc : ρ y = pc at hcr
      have hcr' := hcr
      cases hcr
      exact ⟨.value _, w, by simp [execOp, hpc], _, rfl, Did.same hr hcr'⟩
    · cases e
  case binOp op t a b _ =>
    split at e
    · rename_i av bv hav hbv
      exact nx_vl hr e (fun v hv => bin_sim hv (he a (by simp [Op.operands]) _ hav) (he b (by simp [Op.operands]) _ hbv))
    · cases e
  case unOp op t a =>
    split at e
    · rename_i av hav
      exact nx_vl hr e (fun v hv => un_sim hv (he a (by simp [Op.operands]) _ hav))
    · cases e
  case convert s d a =>
    split at e
    · rename_i av hav
      obtain ⟨v, h1, rfl⟩ := Option.map_eq_some_iff.1 e
      split at h1
      · rename_i v' h2
        injection h1 with h1; subst h1
        exact nx_val rfl (conv_sim h2 hr (he a (by simp [Op.operands]) _ hav))
      · obtain ⟨r, r1, r2⟩ := convU_sim h1 hr (he a (by simp [Op.operands]) _ hav)
        exact nx_val rfl ⟨r, w, r1, Did.same hr r2⟩
    · cases e
  case makeFunc fn a b =>
    split at e
    · rename_i al bl hal hbl
      injection e with e; subst e
      have h1 := evalL_rel (fun y hy => he y (by simp [Op.operands] at hy ⊢; exact .inl hy)) hal
      have h2 := evalL_rel (fun y hy => he y (by simp [Op.operands] at hy ⊢; exact .inr hy)) hbl
      refine ⟨.value (.func fn (a.map ρ) (b.map ρ)), w, by simp [execOp, Instr.makeFunc], _, rfl, Did.same hr (.func _ _ _ _ _ (by simpa using h1) (by simpa using h2))⟩
    · cases e
  case makeMap t r =>
    cases r with
    | some r => cases e
    | none =>
      simp only [opA] at e
      refine nx_val e.symm (makeMap_sim hr (hf _ (Nat.le_refl _) ?_))
      injection e with e; subst e
      exact Nat.lt_succ_self _
  case makeSlice t l c =>
    split at e
    · rename_i el l c hel hl hc
      split at e
      · rename_i i z hi hz
        split at e
        · rename_i hcond
          have h1 := he _ (by simp [Op.operands]) _ hl
          have h2 := he _ (by simp [Op.operands]) _ hc
          generalize hp1 : ρ _ = p1 at h1
          generalize hp2 : ρ _ = p2 at h2
          cases h1; cases h2
          simp only [execOp, hp1, hp2]
          refine nx_val e.symm (makeSlice_sim hel hi hz hcond hr (hf _ (Nat.le_refl _) ?_))
          injection e with e; subst e
          exact Nat.lt_succ_self _
        · cases e
      · cases e
    · cases e
  case slice t y lo hi mx =>
    split at e
    · rename_i yv lov hiv mxv hy hlo hhi hmx
      exact nx_vl hr e (fun v hv => slice_sim hv (he y (by simp [Op.operands]) _ hy)
        (optO_rel hlo fun z hz => he z (by simp [Op.operands, hz])) (optO_rel hhi fun z hz => he z (by simp [Op.operands, hz])) (optO_rel hmx fun z hz => he z (by simp [Op.operands, hz])))
    · cases e
  case fieldAddr s y f =>
    split at e
    · rename_i av hav
      exact nx_vl hr e (fun v hv => fieldAddr_sim hv (he y (by simp [Op.operands]) _ hav))
    · cases e
  case field s y f =>
    split at e
    · rename_i av hav
      exact nx_vl hr e (fun v hv => field_sim hv (he y (by simp [Op.operands]) _ hav))
    · cases e
  case indexAddr t a b =>
    split at e
    · rename_i av bv hav hbv
      exact nx_vl hr e (fun v hv => indexAddr_sim hv (he a (by simp [Op.operands]) _ hav) (he b (by simp [Op.operands]) _ hbv))
    · cases e
  case index t a b =>
    split at e
    · rename_i av bv hav hbv
      exact nx_vl hr e (fun v hv => index_sim hv (he a (by simp [Op.operands]) _ hav) (he b (by simp [Op.operands]) _ hbv))
    · cases e
  case lookup t a b ok =>
    split at e
    · rename_i av bv hav hbv
      exact nx_vl hr e (fun v hv => lookup_sim hv hr (he a (by simp [Op.operands]) _ hav) (he b (by simp [Op.operands]) _ hbv))
    · cases e
  case mapUpdate t m k y =>
    split at e
    · rename_i mv kv yv hmv hkv hyv
      exact nx_skip e (fun h' hv => update_sim hv hr (he m (by simp [Op.operands]) _ hmv) (he k (by simp [Op.operands]) _ hkv) (he y (by simp [Op.operands]) _ hyv))
    · cases e
  case range t y =>
    split at e
    · rename_i yv hyv
      refine nx_map e (fun v h' hv => range_sim hv hr (he y (by simp [Op.operands]) _ hyv) (hf _ (Nat.le_refl _) ?_))
      rw [hv] at e
      injection e with e
      subst e
      unfold rangeA at hv
      split at hv
      · injection hv with hv; injection hv with _ hv; subst hv; exact Nat.lt_succ_self _
      · injection hv with hv; injection hv with _ hv; subst hv; exact Nat.lt_succ_self _
      · split at hv
        · injection hv with hv; injection hv with _ hv; subst hv; exact Nat.lt_succ_self _
        · cases hv
      · cases hv
    · cases e
  case next it s =>
    split at e
    · rename_i yv hyv
      exact nx_map e (fun v h' hv => next_sim hv hr (he it (by simp [Op.operands]) _ hyv))
    · cases e
  case entry it =>
    split at e
    · rename_i yv hyv
      exact nx_vl hr e (fun v hv => entry_sim hv hr (he it (by simp [Op.operands]) _ hyv))
    · cases e
  case makeInterface t y =>
    split at e
    · cases e
    · rename_i yv u hu hyv hni
      injection e with e; subst e
      refine ⟨.value (.iface t (ρ y)), w, ?_, _, rfl, Did.same hr (.iface _ _ _ (he y (by simp [Op.operands]) _ hyv))⟩
      simp only [execOp, Instr.makeInterface, Sem.run_bind, run_underlying hni, Result.andThen_ok]
      cases u <;> first | (exact absurd rfl (hu _)) | rfl
    · cases e
  case typeAssert y xt t ok =>
    split at e
    · cases e
    · rename_i t' v u hu hyv hni
      split at e
      · rename_i ht
        subst ht
        injection e with e; subst e
        have h1 := he y (by simp [Op.operands]) _ hyv
        generalize hpf : ρ y = pf at h1
        cases h1 with | iface _ _ v' g =>
        refine ⟨.value (if ok then .tuple #[v', .bool true] else v'), w, ?_, _, rfl, Did.same hr ?_⟩
        · simp only [execOp, hpf, Instr.typeAssert, Sem.run_bind, run_underlying hni, Result.andThen_ok]
          cases u <;> first | (exact absurd rfl (hu _)) | simp
        · cases ok
          · exact g
          · exact .tup _ _ (.cons _ _ _ _ g (.one (.bool _)))
      · cases e
    · cases e
  case extract t i =>
    split at e
    · rename_i vs hvs
      exact nx_vl hr e (fun v hv => extract_sim hv (he t (by simp [Op.operands]) _ hvs))
    · cases e
  case call c =>
    split at e
    · rename_i b hcal
      split at e
      · rename_i as has
        obtain ⟨⟨v, h'⟩, h1, rfl⟩ := Option.map_eq_some_iff.1 e
        have hargs := evalL_rel (fun y hy => he y (by simp only [Op.operands, Call.operands, hcal]; simpa using hy)) has
        obtain ⟨r, w', r1, r2⟩ := builtin_sim (ty := type) (consts := c.args.map fun | .const _ => true | _ => false) (vs := c.args.map ρ) h1 hr (by simpa using hargs) hf
        exact ⟨.value r, w', by simp [execOp, resolve, hcal, invoke]; exact r1, r, rfl, r2⟩
      · cases e
    · rename_i fo hcal
      split at e
      · rename_i f first caps as hfo has
        injection e with e; subst e
        have h1 := he fo (by simp [Op.operands, Call.operands, hcal]) _ hfo
        have h2 := evalL_rel (fun y hy => he y (by simp only [Op.operands, Call.operands, hcal]; simp at hy ⊢; exact .inr hy)) has
        generalize hpf : ρ fo = pf at h1
        cases h1 with | func _ _ _ first' caps' g1 g2 =>
        obtain ⟨fn, b1, b2, b3⟩ := hen _ _ _ rfl
        refine ⟨.enter f (first' ++ c.args.map ρ ++ caps'), w, ?_, _, rfl, rfl, rfl, ?_⟩
        · have b2' : fn.body ≠ none := by intro hn; rw [hn] at b2; cases b2
          have b3' : fn.name ≠ "runtime.NumGoroutine" := by simpa using b3
          simp [execOp, resolve, hcal, hpf, Deferred.ofValue, invoke, callFunc, b1, b2', b3']
        · have := (g1.app h2).app g2
          simpa using this
      · rename_i n as hfo has
        split at e
        · rename_i st pd tml nt ps asn bd hb
          split at e
          · rename_i hlen
            injection e with e; subst e
            have h1 := he fo (by simp [Op.operands, Call.operands, hcal]) _ hfo
            have h2 := evalL_rel (fun y hy => he y (by simp only [Op.operands, Call.operands, hcal]; simp at hy ⊢; exact .inr hy)) has
            generalize hpf : ρ fo = pf at h1
            cases h1 with | yld _ cc hm =>
            obtain ⟨c', k1, ⟨rc, k2, k3, k4, k5, k6⟩, _⟩ := hr.blk _ _ hb
            rw [hm] at k1; cases k1
            have hl := h2.length
            have hsz : (c.args.map ρ).size = rc.params.size := by
              rw [k5, ← hlen, ← hl]; simp
            refine ⟨_, w, ?_, cc, rc, c.args.map ρ, rfl, rfl, rfl, hm, k2, by simpa using h2, hsz⟩
            simp [execOp, resolve, hcal, hpf, Deferred.ofValue, invoke, Instr.yield, Instr.getLoop, run_getObj' k2]
            simpa using hsz
          · cases e
        · cases e
      · cases e
    · cases e
theorem opA_enter {h h' : Hp} {tm : Tr AV} {o : Oper} {f : FuncId} {as : List AV} {ρ : Operand → Value} (e : opA P tm h o.op = some (.enter f as h')) (he : ER x w tm ρ o.op.operands.toList) :
    h' = h ∧ ∃ as', (execOp ρ o).run P w = (callFunc f as').run P w ∧ VRels x w as as'.toList := by
  obtain ⟨dst, op, type, pos, after, g⟩ := o
  simp only [] at e he
  cases op <;> simp only [opA] at e <;> (try (cases e; done))
  case makeMap t r => cases r <;> simp only [opA] at e <;> cases e
  case call c =>
    split at e
    · split at e
      · obtain ⟨_, _, h2⟩ := Option.map_eq_some_iff.1 e; cases h2
      · cases e
    · rename_i fo hcal
      split at e
      · rename_i f' first caps as' hfo has
        injection e with e
        injection e with e1 e2 e3
        subst e1; subst e2; subst e3
        refine ⟨rfl, ?_⟩
        have h1 := he fo (by simp [Op.operands, Call.operands, hcal]) _ hfo
        have h2 := evalL_rel (fun y hy => he y (by simp only [Op.operands, Call.operands, hcal]; simp at hy ⊢; exact .inr hy)) has
        generalize hpf : ρ fo = pf at h1
        cases h1 with | func _ _ _ first' caps' g1 g2 =>
        refine ⟨first' ++ c.args.map ρ ++ caps', ?_, ?_⟩
        · simp [execOp, resolve, hcal, hpf, Deferred.ofValue, invoke]
        · have := (g1.app h2).app g2
          simpa using this
      · split at e
        · split at e <;> cases e
        · cases e
      · cases e
    · cases e
  all_goals (repeat' split at e)
  all_goals first
    | (cases e; done)
    | (obtain ⟨_, _, h2⟩ := Option.map_eq_some_iff.1 e; cases h2)
    | (unfold vl at e; obtain ⟨_, _, h2⟩ := Option.map_eq_some_iff.1 e; cases h2)
end Go.Abs
