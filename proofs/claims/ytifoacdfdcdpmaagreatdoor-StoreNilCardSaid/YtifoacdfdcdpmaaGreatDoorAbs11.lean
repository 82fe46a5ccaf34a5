/- What is proved: a part of the proof of the tied card of StoreNil (text Abs11 of it). Conditions: those that its theorems name. -/
import Derived.Test.YtifoacdfdcdpmaaGreatDoorAbs10
import Derived.Deep.Upon
set_option linter.unusedVariables false
set_option linter.unusedSimpArgs false
namespace Go.Abs
variable {P : Program} {x : Cx} {w : World}
theorem src_sim {h : Hp} {size k : Nat} {t' : TypeId} {v : AV} {cs : List AV} {q : Value} (hc : srcA h size v = some cs) (hl : lenA v = some k) (ht : srcT P t' v = true) (hq : VRel x w v q) (hr : HRel x h.blks.get w) (hsc : cs.all AV.sc = true) :
    ∃ news, Src P size t' q k news w ∧ VRels x w cs news ∧ cs.length = k * size := by
  have hslice : ∀ {A : Option Addr} {l c : Nat}, q = .slice A l c → ∃ e', P.underlying t' = some (.slice e') := by
    intro A l c hq'
    unfold srcT at ht
    split at ht
    · cases hq <;> cases hq'
    · cases ht
    · exact ⟨_, by assumption⟩
    · cases ht
  cases hq <;> simp only [srcA, slCells] at hc <;> simp only [lenA] at hl <;> (try (cases hc; done)) <;> (try (cases hl; done))
  case str s l hs =>
    split at hc
    · rename_i h1
      injection hc with hc; subst hc
      injection hl with hl; subst hl
      subst hs
      subst h1
      have hk : P.underlying t' = some .string := by
        unfold srcT at ht
        split at ht
        · assumption
        · cases ht
        · exfalso; rename_i h2 h3; first | exact h2 _ rfl | exact h3 _ rfl
        · cases ht
      have hlen : s.data.toList.length = s.size := by rw [Array.length_toList]; rfl
      rw [hlen]
      exact ⟨_, Src.ofString w hk s, bytes_rel x w _, by simp [hlen]⟩
    · cases hc
  case sl n off len cap ex es c cap' hm hcc he hll hkk =>
    injection hl with hl; subst hl
    obtain ⟨e', hk⟩ := hslice rfl
    obtain ⟨c', us, h1, h2, h3, h4, _⟩ := read_sim hc hr
    rw [hm] at h1
    cases h1
    exact ⟨us, Src.ofSlice w hk _ _ _ us (by rw [h2.length, h3]) (fun j u hj => by rw [add_lit']; exact h4 j u hj) (h2.sc hsc), h2, h3⟩
  case nilsl =>
    injection hl with hl; subst hl
    injection hc with hc; subst hc
    obtain ⟨e', hk⟩ := hslice rfl
    exact ⟨[], Src.ofNil w hk 0, .nil, by simp⟩
  case esl a cap =>
    injection hl with hl; subst hl
    injection hc with hc; subst hc
    obtain ⟨e', hk⟩ := hslice rfl
    exact ⟨[], Src.ofSlice w hk a 0 cap [] (by simp) (by simp) (by simp), .nil, by simp⟩
  case zsl a =>
    injection hl with hl; subst hl
    injection hc with hc; subst hc
    obtain ⟨e', hk⟩ := hslice rfl
    exact ⟨[], Src.ofSlice w hk a 0 0 [] (by simp) (by simp) (by simp), .nil, by simp⟩
  case lst len cells vs A cap hcc hA hv hlies =>
    injection hl with hl; subst hl
    obtain ⟨e', hk⟩ := hslice rfl
    have h2 := cut_rel hc hv
    have h3 := (cut_len hc).2.2
    by_cases h0 : 0 < len
    · obtain ⟨a, rfl, hl⟩ := hlies h0
      refine ⟨_, Src.ofSlice w hk a len cap _ (by rw [h2.length, h3]) (fun j u hj => hl.2 j u ?_) (h2.sc hsc), h2, h3⟩
      rw [List.getElem?_take] at hj
      split at hj
      · simpa using hj
      · cases hj
    · obtain rfl : len = 0 := by omega
      have hcs : cs = [] := List.eq_nil_of_length_eq_zero (by rw [h3, Nat.zero_mul])
      subst hcs
      cases A with
      | none => exact ⟨[], Src.ofNil w hk cap, .nil, by simp⟩
      | some a => exact ⟨[], Src.ofSlice w hk a 0 cap [] (by simp) (by simp) (by simp), .nil, by simp⟩
theorem growBy_le (n : Nat) : ∀ (r c : Nat), Builtin.growBy n r c ≤ max c (n + (n + 768) / 4)
  | 0, c => by simp [Builtin.growBy]; omega
  | r + 1, c => by
    unfold Builtin.growBy
    split
    · omega
    · have := growBy_le n r (c + (c + 768) / 4)
      omega
theorem nextcap_le {n c : Nat} (h : c < n) : Builtin.nextslicecap n c ≤ 2 * n + 192 := by
  unfold Builtin.nextslicecap
  split
  · omega
  · split
    · omega
    · have := growBy_le n 4 c
      omega
theorem lim_fit {b n c : Nat} (h : limA b n = true) (hc : c < n) : Builtin.nextslicecap n c * b ≤ 281474976710656 ∧ ((n : Nat) : Int) ≤ 9223372036854775807 := by
  simp only [limA, Bool.and_eq_true, decide_eq_true_eq] at h
  obtain ⟨⟨h1, h2⟩, h3⟩ := h
  refine ⟨?_, by omega⟩
  have := Nat.mul_le_mul_right b (nextcap_le hc)
  have e : (2 * n + 192) * b = 2 * (n * b) + 192 * b := by rw [Nat.add_mul, Nat.mul_assoc]
  omega
/-- a fresh row -/
theorem fresh_sim {h : Hp} {cells : List AV} {news : List Value} {need size cap : Nat} {e : TypeId} {rest : Array Value} (hr : HRel x h.blks.get w) (hf : x.m h.next = none) (hn : VRels x w cells news) (hcap : need ≤ cap) (hsz : cap * size ≤ news.length + rest.size) :
    Did x h w (freshA h e cells need size).1 (freshA h e cells need size).2 (.slice (some ⟨w.heap.size, 0, none⟩) need cap) (w.alloc (.cells (news.toArray ++ rest) e)) := by
  obtain ⟨y, e1, e2, e3, e4⟩ := new_sim (b := .cells cells e) (o := .cells (news.toArray ++ rest) e) _ hr hf (fun y u hm hu => ⟨_, _, hu, hn.mono hm, by simp, rfl⟩)
  refine ⟨y, e1, e2, .sl _ _ _ _ _ _ _ _ e3 hcap (by simp) (Nat.le_refl _) ?_⟩
  rw [e4]
  simpa using hsz
theorem append_sim {h h' : Hp} {t t' ty e : TypeId} {i : TypeInfo} {z : Value} {s v : AV} {cells : List AV} {k : Nat} {p q : Value} {news : List Value} (ea : appendA h e i.size i.bytes s cells k = some (v, h'))
    (ht : P.underlying t = some (.slice e)) (hi : P.info? e = some i) (hz : i.zero = some z) (hzs : z.cells.size = i.size) (hp : VRel x w s p) (hs : Src P i.size t' q k news w) (hn : VRels x w cells news) (hr : HRel x h.blks.get w) (hf : ∀ n, h.next ≤ n → n < h'.next → x.m n = none) :
    ∃ r w', (Builtin.append_ #[t, t'] ty #[p, q]).run P w = .ok r w' ∧ Did x h w v h' r w' := by
  have hnews0 : k = 0 → news = [] := fun h0 => List.eq_nil_of_length_eq_zero (by rw [hs.newsLen, h0, Nat.zero_mul])
  have grow : ∀ (base : Option Addr) (sLen sCap : Nat) (olds : List Value) (old : List AV) (g : Hp), (Builtin.firstCells i.size sLen (.slice base sLen sCap)).run P w.drew = .ok olds.toArray w.drew → VRels x w old olds → olds.length = sLen * i.size → limA i.bytes (sLen + k) = true → sCap < sLen + k →
      HRel x g.blks.get w.drew → x.m g.next = none → ∃ r w', (Builtin.append_ #[t, t'] ty #[.slice base sLen sCap, q]).run P w = .ok r w' ∧ Did x g w.drew (freshA g e (old ++ cells) (sLen + k) i.size).1 (freshA g e (old ++ cells) (sLen + k) i.size).2 r w' := by
    intro base sLen sCap olds old g hold ho hol hlim hlt hg hgn
    obtain ⟨l1, l2⟩ := lim_fit hlim hlt
    refine ⟨_, _, run_append_grow_src w t t' ty e i z ht hi hz base sLen sCap olds hold q k news hs hlt l2 l1, ?_⟩
    have hrow : (sLen + k) ≤ grownCap w (sLen + k) sCap e := grownCap_ge _ _ _ _
    refine fresh_sim hg hgn ((ho.app hn).mono mono_drew) hrow ?_
    rw [List.length_append, hol, hs.newsLen, size_zeroCells, hzs, ← Nat.add_mul, ← Nat.add_mul]
    exact Nat.le_of_eq (by congr 1; omega)
  have nothing : ∀ (base : Option Addr) (sLen sCap : Nat), k = 0 → sLen ≤ sCap → (Builtin.append_ #[t, t'] ty #[.slice base sLen sCap, q]).run P w = .ok (.slice base sLen sCap) w := by
    intro base sLen sCap h0 hle
    have := hnews0 h0
    subst this; subst h0
    exact run_append_nothing w t t' ty e i ht hi base sLen sCap hle q hs
  cases hp <;> simp only [appendA] at ea <;> (try (cases ea; done))
  case nilsl =>
    split at ea
    · rename_i h0
      injection ea with ea; cases ea
      exact ⟨_, _, nothing _ _ _ h0 (Nat.le_refl _), Did.same hr .nilsl⟩
    · split at ea
      · rename_i h0 hlim
        injection ea with ea; cases ea
        obtain ⟨r, w', k1, k2⟩ := grow none 0 0 [] [] h (run_firstCells_none w.drew i.size 0 0 0) .nil (by simp) (by simpa using hlim) (by omega) hr.drew (hf _ (Nat.le_refl _) (by simp [freshA, Hp.new]))
        simp only [Nat.zero_add, List.nil_append] at k2
        exact ⟨r, w', k1, Did.drew (by simp [freshA, Hp.new]) k2⟩
      · cases ea
  case zsl a =>
    split at ea
    · rename_i h0
      injection ea with ea; cases ea
      exact ⟨_, _, nothing _ _ _ h0 (Nat.le_refl _), Did.same hr (.zsl _)⟩
    · split at ea
      · rename_i h0 hlim
        injection ea with ea; cases ea
        obtain ⟨r, w', k1, k2⟩ := grow (some a) 0 0 [] [] h (run_firstCells_some w.drew i.size 0 a 0 0 [] (by simp) (by simp)) .nil (by simp) (by simpa using hlim) (by omega) hr.drew (hf _ (Nat.le_refl _) (by simp [freshA, Hp.new]))
        simp only [Nat.zero_add, List.nil_append] at k2
        exact ⟨r, w', k1, Did.drew (by simp [freshA, Hp.new]) k2⟩
      · cases ea
  case esl a cap =>
    split at ea
    · rename_i h0
      injection ea with ea; cases ea
      exact ⟨_, _, nothing _ _ _ h0 (Nat.zero_le _), Did.same hr (.esl _ _)⟩
    · cases ea
  case lst len old vs A cap hc hA hv hl =>
    split at ea
    · rename_i h0
      injection ea with ea; cases ea
      exact ⟨_, _, nothing _ _ _ h0 hc, Did.same hr (.lst _ _ _ _ _ hc hA hv hl)⟩
    · cases ea
  case sl n off len cap ex es c cap' hm hc he hl hk =>
    split at ea
    case isFalse => cases ea
    rename_i hes
    obtain ⟨rfl, hlim⟩ := hes
    have inplace : ∀ (arr : Array Value) (t0 : TypeId), w.heap[c]? = some (.cells arr t0 (0, 0)) → len + k ≤ cap' → off + len * i.size + news.length ≤ arr.size →
        (Builtin.append_ #[t, t'] ty #[.slice (some ⟨c, off, none⟩) len cap', q]).run P w = .ok (.slice (some ⟨c, off, none⟩) (len + k) cap') (w.setRow c (arr.toList.take (off + len * i.size) ++ news ++ arr.toList.drop (off + len * i.size + news.length)).toArray) := by
      intro arr t0 hb hroom hfit
      have hst := run_storeCells_at P c (off + len * i.size) t0 news 0 arr w hb (by simpa using hfit) hs.one
      simp only [Nat.add_zero] at hst
      rcases hs.kind with ⟨e', hk⟩ | hk <;> simp [Builtin.append_, run_underlying ht, run_underlying hk, sizeOf, typeInfo, hi, hs.len, hroom, hs.cells, add_lit', hst]
    split at ea
    · rename_i hroom
      split at ea
      · rename_i h2 hw
        injection ea with ea; cases ea
        obtain ⟨c', arr, t0, k1, k2, k3, k4, k5, k6⟩ := write_sim hw hr hn
        rw [hm] at k1
        cases k1
        obtain ⟨k7, k8⟩ := k6 _ rfl
        refine ⟨_, _, inplace arr t0 k2 (by omega) k3, x, k7, k8, .sl _ _ _ _ _ _ _ _ hm hc he hroom hk⟩
      · cases ea
    · rename_i hroom
      split at ea
      · rename_i old hrd
        obtain ⟨c', us, k1, k2, k3, k4, arr, t0, k5, k6, k7⟩ := read_sim hrd hr
        rw [hm] at k1
        cases k1
        have hold : (Builtin.firstCells i.size len (.slice (some ⟨c, off, none⟩) len cap')).run P w.drew = .ok us.toArray w.drew :=
          run_firstCells_some w.drew i.size len _ len cap' us (by rw [k2.length, k3]) (fun j u hj => by rw [add_lit']; exact k4 j u hj)
        split at ea
        · rename_i hex
          injection ea with ea; cases ea
          obtain ⟨r, w', q1, q2⟩ := grow _ _ _ us old h hold k2 (by rw [k2.length, k3]) hlim (by rw [he hex]; omega) hr.drew (hf _ (Nat.le_refl _) (by simp [freshA, Hp.new]))
          exact ⟨r, w', q1, Did.drew (by simp [freshA, Hp.new]) q2⟩
        · split at ea
          · rename_i hex h0
            obtain ⟨h0, hel⟩ := h0
            subst h0
            have ht0 : t0 = e := by
              unfold elemIs at hel
              split at hel
              · rename_i cs e0 hg
                obtain ⟨c2, e1, ⟨arr2, vs2, e2, _⟩, _⟩ := hr.blk _ _ hg
                rw [hm] at e1; cases e1
                rw [k5] at e2
                injection e2 with e2
                injection e2 with _ e2 _
                rw [e2]
                simpa using hel
              · cases hel
            rw [ht0] at k5
            injection ea with ea; cases ea
            have hnx : x.m h.next = none := hf _ (Nat.le_refl _) (by simp [freshA, Hp.new, Hp.kill])
            have hkill : ∀ n' b, (h.kill n).blks.get n' = some b → h.blks.get n' = some b := by
              intro n' b e
              simp only [Hp.kill, Tr.get_del] at e
              split at e
              · cases e
              · exact e
            by_cases hfit : len + k ≤ cap'
            · -- in place, under a new name
              have hsz : 0 + len * i.size + news.length ≤ arr.size := by
                rw [hs.newsLen, k6, Nat.zero_add, ← Nat.add_mul]
                have := Nat.mul_le_mul_right i.size hfit
                omega
              have hrun := inplace arr e k5 hfit hsz
              simp only [Nat.zero_add] at hrun hsz
              refine ⟨_, _, hrun, x.with h.next c (x.κ n), ?_⟩
              have hset := setRow_heap w c arr (arr.toList.take (len * i.size) ++ news ++ arr.toList.drop (len * i.size + news.length)).toArray e (0, 0) k5
              have hoth : ∀ k', k' ≠ c → (w.setRow c (arr.toList.take (len * i.size) ++ news ++ arr.toList.drop (len * i.size + news.length)).toArray).heap[k']? = w.heap[k']? := fun k' hk' => setRow_other w c k' _ hk'
              have hsize : (w.setRow c (arr.toList.take (len * i.size) ++ news ++ arr.toList.drop (len * i.size + news.length)).toArray).heap.size = w.heap.size := by simp [World.setRow]
              have hlive : ∃ b, h.blks.get n = some b := by
                unfold readAt at hrd
                split at hrd
                · exact ⟨_, by assumption⟩
                · cases hrd
              obtain ⟨b0, hb0⟩ := hlive
              have hnF : ¬ x.F c := by
                obtain ⟨c2, e1, _, e3⟩ := hr.blk n b0 hb0
                rw [hm] at e1; cases e1; exact e3
              have hne : ∀ n' c', x.m n' = some c' → n' ≠ h.next := fun n' c' e e' => by subst e'; rw [hnx] at e; cases e
              have hmono : Mono x w (x.with h.next c (x.κ n)) (w.setRow c (arr.toList.take (len * i.size) ++ news ++ arr.toList.drop (len * i.size + news.length)).toArray) :=
                ⟨fun n' c' e => by simp only [Cx.with]; rw [if_neg (hne _ _ e)]; exact e, fun n' c' e => by simp only [Cx.with]; rw [if_neg (hne _ _ e)], fun _ h => h, rfl, fun k' hk' => hoth k' (fun e => hnF (e ▸ hk'))⟩
              refine ⟨⟨hmono.m, hmono.κ, fun n' hn' => ?_, fun _ h => h, fun _ h => .inl h, rfl, rfl, rfl, rfl, by rw [hsize]; exact Nat.le_refl _, fun k' hk' hn' => hoth k' (fun e => hn' n b0 hb0 (e ▸ hm)), fun n' b' c' e hx => ?_⟩, ⟨fun n' b' e => ?_, fun n1 n2 b1 b2 c1 e1 e2 hx1 hx2 => ?_, fun c' hc' => by rw [hsize]; exact hr.fb c' hc', fun n' c' hx => ?_⟩, ?_⟩
              · simp only [freshA, Hp.new, Hp.kill, Cx.with] at hn' ⊢
                rw [if_neg (by omega)]
              · simp only [freshA, Hp.new, Tr.get_put] at e
                simp only [Cx.with] at hx
                by_cases hn' : n' = h.next
                · rw [if_pos hn'] at hx; injection hx with hx; subst hx; exact .inl ⟨n, b0, hb0, hm⟩
                · rw [if_neg hn'] at hx
                  rw [if_neg (by simpa [Hp.kill] using hn')] at e
                  exact .inl ⟨n', b', hkill _ _ e, hx⟩
              · simp only [freshA, Hp.new, Tr.get_put] at e
                by_cases hn' : n' = h.next
                · rw [if_pos (by simpa [Hp.kill] using hn')] at e
                  injection e with e; subst e
                  refine ⟨c, by simp [Cx.with, hn'], ⟨_, us ++ news, hset, (k2.mono hmono).app (hn.mono hmono), ?_, ?_⟩, hnF⟩
                  · have hpre := k7 rfl
                    have htake : arr.toList.take (len * i.size) = us := by
                      obtain ⟨r0, hr0⟩ := hpre
                      rw [← hr0, List.take_append_of_le_length (by rw [k2.length, k3]; exact Nat.le_refl _), List.take_of_length_le (by rw [k2.length, k3]; exact Nat.le_refl _)]
                    rw [htake]
                    exact ⟨_, rfl⟩
                  · simp [Cx.with, hn']
                    rw [← k6]
                    omega
                · rw [if_neg (by simpa [Hp.kill] using hn')] at e
                  have e' := hkill _ _ e
                  obtain ⟨c2, e1, e2, e3⟩ := hr.blk n' b' e'
                  have hn2 : n' ≠ n := fun e0 => by subst e0; simp [Hp.kill, Tr.get_del] at e
                  exact ⟨c2, hmono.m _ _ e1, by rw [hmono.κ _ _ e1]; exact e2.mono hmono (hoth c2 (fun ec => hn2 (hr.inj n' n b' b0 c e' hb0 (ec ▸ e1) hm))), e3⟩
              · simp only [freshA, Hp.new, Tr.get_put] at e1 e2
                simp only [Cx.with] at hx1 hx2
                have old : ∀ {j : Nat} {bj : Blk} {cj : Nat}, j ≠ h.next → (h.kill n).blks.get j = some bj → x.m j = some cj → j ≠ n := fun {j bj cj} _ ej _ e0 => by subst e0; simp [Hp.kill, Tr.get_del] at ej
                by_cases g1 : n1 = h.next <;> by_cases g2 : n2 = h.next
                · omega
                · rw [if_pos g1] at hx1; rw [if_neg g2] at hx2
                  rw [if_neg (by simpa [Hp.kill] using g2)] at e2
                  injection hx1 with hx1; subst hx1
                  exact absurd (hr.inj n2 n b2 b0 c (hkill _ _ e2) hb0 hx2 hm) (old g2 e2 hx2)
                · rw [if_neg g1] at hx1; rw [if_pos g2] at hx2
                  rw [if_neg (by simpa [Hp.kill] using g1)] at e1
                  injection hx2 with hx2; subst hx2
                  exact absurd (hr.inj n1 n b1 b0 c (hkill _ _ e1) hb0 hx1 hm) (old g1 e1 hx1)
                · rw [if_neg g1] at hx1; rw [if_neg g2] at hx2
                  rw [if_neg (by simpa [Hp.kill] using g1)] at e1
                  rw [if_neg (by simpa [Hp.kill] using g2)] at e2
                  exact hr.inj n1 n2 b1 b2 c1 (hkill _ _ e1) (hkill _ _ e2) hx1 hx2
              · rw [hsize]
                simp only [Cx.with] at hx
                by_cases hn' : n' = h.next
                · rw [if_pos hn'] at hx; injection hx with hx; subst hx; exact (Array.getElem?_eq_some_iff.1 k5).1
                · rw [if_neg hn'] at hx; exact hr.mb n' c' hx
              · refine .sl _ _ _ _ _ _ _ _ (by simp [freshA, Hp.new, Hp.kill, Cx.with]) hfit (by simp) (Nat.le_refl _) ?_
                simpa [freshA, Hp.new, Hp.kill, Cx.with] using hk
            · -- a new row
              have hrk : HRel x (h.kill n).blks.get w.drew := (hr.sub hkill).drew
              obtain ⟨r, w', q1, y, q2, q3, q4⟩ := grow _ _ _ us old (h.kill n) hold k2 (by rw [k2.length, k3]) hlim (by omega) hrk hnx
              refine ⟨r, w', q1, y, ?_, q3, q4⟩
              have e0 : Ext x h.blks.get h.next w x (h.kill n).blks.get h.next w.drew := ⟨fun _ _ h => h, fun _ _ _ => rfl, fun _ _ => rfl, fun _ h => h, fun _ h => .inl h, rfl, rfl, rfl, rfl, Nat.le_refl _, fun _ _ _ => rfl, fun n b c e hx => .inl ⟨n, b, hkill _ _ e, hx⟩⟩
              exact e0.trans q2 (Nat.le_refl _) (by simp [freshA, Hp.new, Hp.kill])
          · cases ea
      · cases ea
end Go.Abs
