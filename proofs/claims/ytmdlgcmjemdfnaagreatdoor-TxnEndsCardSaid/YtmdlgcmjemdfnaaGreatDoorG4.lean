/- What is proved: a part of the proof of the tied card of TxnEnds (text G4 of it). Conditions: those that its theorems name. -/
import Derived.Test.YtmdlgcmjemdfnaaGreatDoorG3
import Derived.Laws.IdiomStrings
import Derived.Deep.Upon
set_option linter.unusedVariables false
set_option linter.unusedSimpArgs false
set_option linter.unusedSectionVars false
namespace Go.Abs
variable [Bnd]
variable {P : Program} {x : Cx} {w : World}
theorem fieldT_form {t : TypeId} {f : Nat} {fl : Field} (h : fieldT P t f = some fl) : ∃ fs, P.underlying t = some (.struct fs) ∧ fs[f]? = some fl := by
  unfold fieldT at h
  split at h
  · exact ⟨_, by assumption, h⟩
  · cases h
theorem fieldAddr_sim {t : TypeId} {f : Nat} {a v : AV} {p : Value} (h : fieldAddrA P t a f = some v) (ha : VRel x w a p) : ∃ r, (Instr.fieldAt t p f).run P w = .ok r w ∧ VRel x w v r := by
  unfold fieldAddrA at h
  split at h
  · rename_i fl hfl
    obtain ⟨fs, h1, h2⟩ := fieldT_form hfl
    split at h
    · rename_i k hs
      split at h
      · injection h with h; subst h
        cases ha with | ptr n c off hm =>
        refine ⟨_, ?_, .ptr _ _ _ hm⟩
        simp [Instr.fieldAt, run_underlying h1, h2, Instr.sureAddr, fieldPlace, run_sizeOf' hs, add_lit']
      · injection h with h; subst h
        cases ha with | lptr cells vs a hv hl =>
        refine ⟨_, ?_, .lptr _ _ _ (hv.drop _) (lies_drop hl)⟩
        simp [Instr.fieldAt, run_underlying h1, h2, Instr.sureAddr, fieldPlace, run_sizeOf' hs]
      · cases h
    · cases h
  · cases h
theorem field_sim {t : TypeId} {f : Nat} {a v : AV} {p : Value} (h : fieldA P t a f = some v) (ha : VRel x w a p) : ∃ r, (Instr.field t p f).run P w = .ok r w ∧ VRel x w v r := by
  unfold fieldA at h
  split at h
  · rename_i fl cs hfl
    obtain ⟨fs, h1, h2⟩ := fieldT_form hfl
    split at h
    · rename_i s hs
      split at h
      · rename_i l hl
        cases ha with | agg _ arr hr =>
        obtain ⟨r, r1, r2⟩ := part_sim hs hl h hr
        exact ⟨r, by simp [Instr.field, run_underlying h1, h2, asAgg, r1], r2⟩
      · cases h
    · cases h
  · cases h
theorem indexAddr_sim {t : TypeId} {a i v : AV} {p q : Value} (h : indexAddrA P t a i = some v) (ha : VRel x w a p) (hi : VRel x w i q) : ∃ r, (Instr.indexAt t p q).run P w = .ok r w ∧ VRel x w v r := by
  unfold indexAddrA at h
  split at h
  · rename_i k i
    cases hi
    split at h
    · rename_i h0
      split at h
      · rename_i e n off len cap ex es hu
        split at h
        · rename_i hlt
          obtain ⟨s, hs, rfl⟩ := Option.map_eq_some_iff.1 h
          cases ha with | sl _ _ _ _ _ _ c cap' hm hc he hl hk =>
          refine ⟨_, ?_, .ptr _ _ _ hm⟩
          simp [Instr.indexAt, asIntOf, run_underlying hu, h0, hlt, run_sizeOf' hs, add_lit']
        · cases h
      · rename_i e len cells hu
        split at h
        · rename_i hlt
          obtain ⟨s, hs, rfl⟩ := Option.map_eq_some_iff.1 h
          cases ha with | lst _ _ vs A cap hc hA hv hl =>
          obtain ⟨a, rfl, hl2⟩ := hl (by omega)
          refine ⟨_, ?_, .lptr _ _ _ (hv.drop _) (lies_drop hl2)⟩
          simp [Instr.indexAt, asIntOf, run_underlying hu, h0, hlt, run_sizeOf' hs]
        · cases h
      · rename_i n e m off hu
        split at h
        · rename_i hlt
          obtain ⟨s, hs, rfl⟩ := Option.map_eq_some_iff.1 h
          cases ha with | ptr _ c _ hm =>
          refine ⟨_, ?_, .ptr _ _ _ hm⟩
          simp [Instr.indexAt, asIntOf, run_underlying hu, Instr.sureAddr, h0, hlt, run_sizeOf' hs, add_lit']
        · cases h
      · cases h
    · cases h
  · rename_i q0
    split at h
    · rename_i e q' sh b hu
      split at h
      · rename_i hc
        obtain ⟨rfl, hs⟩ := hc
        injection h with h; subst h
        have hsz : sizeT P e = some sh.length := hs
        cases hi with
        | idx _ A n cap hv hk =>
          have key : ∀ v, v = x.τ.v q0 → VRel x w (.inp q0 sh b) v → ∃ r, (Instr.indexAt t v (.int .i64 x.τ.ck)).run P w = .ok r w ∧ VRel x w (.eptr sh) r := by
            intro v hve hvr
            cases hvr with
            | inp _ _ _ d hd hr =>
              clear hve
              rw [hv] at hr ⊢
              cases hr with
              | nil => omega
              | mk d s a _ _ hn hc hF hall =>
                refine ⟨.pointer (some (a.add (x.τ.ck * sh.length))), ?_, .eptr _ _ d ?_ (by rw [add_block]; exact hF (by omega)) (hall _ hk)⟩
                · simp [Instr.indexAt, asIntOf, run_underlying hu, hk, run_sizeOf' hsz]
                · exact ⟨by rcases hd.1 with hd | ⟨_, hd⟩ <;> omega, hd.2⟩
          have hpv : p = x.τ.v q0 := by cases ha; rfl
          exact key p hpv ha
      · cases h
    · cases h
  · rename_i b0
    split at h
    · rename_i e n es b' z' hu
      split at h
      · rename_i hc
        obtain ⟨hlt, hs⟩ := hc
        injection h with h; subst h
        have hsz : sizeT P e = some es := hs
        cases hi with
        | ixn =>
          cases ha with
          | usl _ _ _ _ c off len cap hm hl hk hb hck =>
            have hN : x.τ.ck + b0 < len := by omega
            generalize x.τ.ck + b0 = N at hN
            have hlt2 : (N : Int) < (len : Int) := by omega
            refine ⟨_, ?_, .uptr _ _ c (off + N * es) hm ?_⟩
            · simp [Instr.indexAt, asIntOf, run_underlying hu, hlt2, hN, run_sizeOf' hsz, add_lit']
            · have := Nat.mul_le_mul_right es (show N + 1 ≤ cap by omega)
              rw [Nat.add_mul, Nat.one_mul] at this
              omega
      · cases h
    · cases h
  · cases h
theorem bytes_get {s : ByteArray} {i : Nat} {b : UInt8} (h : s.data.toList[i]? = some b) : s[i]? = some b := by
  have h' : s.data[i]? = some b := by simpa using h
  obtain ⟨h1, h2⟩ := Array.getElem?_eq_some_iff.1 h'
  have hs : i < s.size := h1
  rw [getElem?_pos s i hs]
  exact congrArg some h2
theorem index_sim {t : TypeId} {a i v : AV} {p q : Value} (h : indexA P t a i = some v) (ha : VRel x w a p) (hi : VRel x w i q) : ∃ r, (Instr.index t p q).run P w = .ok r w ∧ VRel x w v r := by
  unfold indexA at h
  split at h
  · rename_i k i
    cases hi
    split at h
    · rename_i h0
      split at h
      · rename_i s hu
        split at h
        · rename_i b hb
          injection h with h; subst h
          cases ha with | str s' _ hs =>
          subst hs
          refine ⟨_, ?_, .int _ _⟩
          simp [Instr.index, asIntOf, run_underlying hu, h0, bytes_get hb]
        · cases h
      · rename_i n e cs hu
        split at h
        · rename_i hlt
          split at h
          · rename_i s hs
            split at h
            · rename_i l hl
              cases ha with | agg _ arr hr =>
              obtain ⟨r, r1, r2⟩ := part_sim hs hl h hr
              exact ⟨r, by simp [Instr.index, asIntOf, run_underlying hu, h0, hlt, run_sizeOf' hs, r1], r2⟩
            · cases h
          · cases h
        · cases h
      · cases h
    · cases h
  · cases h
theorem extract_sim {vs : List AV} {p : Value} {i : Nat} {v : AV} (h : vs[i]? = some v) (ha : VRel x w (.tup vs) p) : ∃ r, (Instr.extract p i).run P w = .ok r w ∧ VRel x w v r := by
  cases ha with | tup _ arr hr =>
  obtain ⟨r, r1, r2⟩ := hr.get h
  have : arr[i]? = some r := by simpa using r1
  exact ⟨r, by simp [Instr.extract, this], r2⟩
theorem elemT_form {t e : TypeId} (h : elemT P t = some e) : P.underlying t = some (.slice e) := by
  unfold elemT at h
  split at h
  · injection h with h; subst h; assumption
  · cases h
theorem zeros_run {e : TypeId} {z : List AV} (hz : zeroT P e = some z) (len : Nat) (x : Cx) (w : World) :
    (len * z.length = 0 ∧ reps z len = []) ∨ (¬ len * z.length = 0 ∧ ∃ zv : Value, (zeroValue e).run P w = .ok zv w ∧ VRels x w (reps z len) ((Array.range (len * z.length)).map (zv.cells[· % zv.cells.size]!)).toList) := by
  obtain ⟨zv, k1, k2⟩ := run_zeroValue' hz w
  have hzl : zv.cells.size = z.length := by rw [← Array.length_toList, (k2 x w).length]
  by_cases h0 : len * z.length = 0
  · exact .inl ⟨h0, List.eq_nil_of_length_eq_zero (by rw [reps_len, h0])⟩
  · refine .inr ⟨h0, zv, k1, ?_⟩
    have := zeros_rel (k2 x w) len
    rwa [hzl] at this ⊢
theorem range0 (f : Nat → Value) : Array.map f (Array.range 0) = #[] := by apply Array.ext'; simp
theorem fillA_len {place : Nat → Option (Nat × Nat)} : ∀ {ps : List (Nat × AV)} {cells out : List AV}, fillA place cells ps = some out → out.length = cells.length
  | [], cells, out, h => by simp [fillA] at h; subst h; rfl
  | (i, v) :: ps, cells, out, h => by
    simp only [fillA] at h
    split at h
    · cases h
    · split at h
      · rename_i off size _ hc
        rw [fillA_len h]
        simp [splice]
        omega
      · cases h
theorem buildSlice_sim {h : Hp} {t e : TypeId} {len s : Nat} {z cs : List AV} {ps : List (Nat × AV)} {ps' : Array (Nat × Value)} (he : elemT P t = some e) (hs : sizeT P e = some s) (hz : zeroT P e = some z) (hl : z.length = s ∧ len * s ≤ 2 ^ 24)
    (hf : fillA (fun i => some (i * s, s)) (reps z len) ps = some cs) (h1 : ps.map (·.1) = ps'.toList.map (·.1)) (h2 : VRels x w (ps.map (·.2)) (ps'.toList.map (·.2))) (hr : HRel x h.blks.get w) (hfr : x.m h.next = none) :
    ∃ r w', (Instr.buildSlice t len ps').run P w = .ok r w' ∧ Did x h w (.sl (h.new (.cells cs e)).2 0 len len true s) (h.new (.cells cs e)).1 r w' := by
  obtain ⟨hl1, hl2⟩ := hl
  subst hl1
  have hbig : ¬ (16777216 < len * z.length) := by omega
  have fin : ∀ arr' : Array Value, VRels x w cs arr'.toList → Did x h w (.sl (h.new (.cells cs e)).2 0 len len true z.length) (h.new (.cells cs e)).1 (.slice (some ⟨w.heap.size, 0, none⟩) len len) (w.alloc (.cells arr' e)) := by
    intro arr' r2
    obtain ⟨y, e1, e2, e3, e4⟩ := new_sim (b := .cells cs e) (o := .cells arr' e) _ hr hfr (fun y u hm hu => ⟨_, _, hu, r2.mono hm, List.prefix_refl _, rfl⟩)
    have hcl := fillA_len hf
    rw [reps_len] at hcl
    exact ⟨y, e1, e2, .sl _ 0 _ _ _ _ _ _ e3 (Nat.le_refl _) (fun _ => rfl) (Nat.le_refl _) (by rw [e4, ← Array.length_toList, r2.length, hcl]; omega)⟩
  rcases zeros_run hz len x w with ⟨h0, hz0⟩ | ⟨h0, zv, k1, k2⟩
  · rw [hz0] at hf
    obtain ⟨arr', r1, r2⟩ := fill_sim (arr := #[]) hf h1 h2 .nil
    refine ⟨_, _, ?_, fin arr' r2⟩
    simp [Instr.buildSlice, run_underlying (elemT_form he), run_sizeOf' hs, h0, range0, r1, newRow]
  · obtain ⟨arr', r1, r2⟩ := fill_sim hf h1 h2 k2
    refine ⟨_, _, ?_, fin arr' r2⟩
    simp only [Instr.buildSlice, Sem.run_bind, run_underlying (elemT_form he), Result.andThen_ok, run_sizeOf' hs, Sem.run_ite, h0, if_false, k1, Sem.run_pure, r1]
    rw [if_neg (by omega)]
    simp [newRow]
theorem makeSlice_sim {h : Hp} {t e : TypeId} {i : TypeInfo} {z : List AV} {l c : Int} (he : elemT P t = some e) (hi : P.info? e = some i) (hz : zeroT P e = some z) (hl : 0 ≤ l ∧ l ≤ c ∧ i.bytes * c ≤ 2 ^ 45 ∧ c ≤ 2 ^ 45 ∧ z.length = i.size)
    (hr : HRel x h.blks.get w) (hfr : x.m h.next = none) :
    ∃ r w', (Instr.makeSlice t (.int .i64 l) (.int .i64 c)).run P w = .ok r w' ∧ Did x h w (.sl (h.new (.cells (reps z c.toNat) e)).2 0 l.toNat c.toNat true i.size) (h.new (.cells (reps z c.toNat) e)).1 r w' := by
  obtain ⟨h0, h1, h2, h3, h4⟩ := hl
  have fin : ∀ arr' : Array Value, VRels x w (reps z c.toNat) arr'.toList → Did x h w (.sl (h.new (.cells (reps z c.toNat) e)).2 0 l.toNat c.toNat true i.size) (h.new (.cells (reps z c.toNat) e)).1 (.slice (some ⟨w.heap.size, 0, none⟩) l.toNat c.toNat) (w.alloc (.cells arr' e)) := by
    intro arr' r2
    obtain ⟨y, e1, e2, e3, e4⟩ := new_sim (b := .cells (reps z c.toNat) e) (o := .cells arr' e) _ hr hfr (fun y u hm hu => ⟨_, _, hu, r2.mono hm, List.prefix_refl _, rfl⟩)
    exact ⟨y, e1, e2, .sl _ 0 _ _ _ _ _ _ e3 (Nat.le_refl _) (fun _ => rfl) (by omega) (by rw [e4, ← Array.length_toList, r2.length, reps_len, h4]; omega)⟩
  have hc : IntKind.i64.wrap c = c := by rw [IntKind.wrap_i64]; omega
  have hl : IntKind.i64.wrap l = l := by rw [IntKind.wrap_i64]; omega
  have b1 : ¬ (c < 0) := by omega
  have b2 : ¬ (281474976710656 < (i.bytes : Int) * c) := by omega
  have b3 : ¬ (l < 0) := by omega
  have b4 : ¬ (c < l) := by omega
  have hs : (sizeOf e).run P w = .ok z.length w := by rw [run_sizeOf' (s := i.size) (by simp [sizeT, hi]), h4]
  rcases zeros_run hz c.toNat x w with ⟨h0, hz0⟩ | ⟨h0, zv, k1, k2⟩
  · refine ⟨_, _, ?_, fin #[] (by rw [hz0]; exact .nil)⟩
    simp [Instr.makeSlice, run_underlying (elemT_form he), asInt, asIntOf, run_typeInfo' hi, hc, hl, hs, b1, b2, b3, b4, h0, range0, newRow]
  · refine ⟨_, _, ?_, fin _ k2⟩
    have h0' : ¬ (c.toNat = 0 ∨ z = []) := fun h => h0 (by rcases h with h | h <;> simp [h])
    simp [Instr.makeSlice, run_underlying (elemT_form he), asInt, asIntOf, run_typeInfo' hi, hc, hl, hs, b1, b2, b3, b4, h0, h0', k1, newRow]
end Go.Abs

namespace Go.Abs
variable [Bnd]
variable {P : Program} {x : Cx} {w : World}
theorem HRel.drew {hm : HM} (h : HRel x hm w) : HRel x hm w.drew :=
  ⟨fun n b e => by
    obtain ⟨c, e1, e2, e3⟩ := h.blk n b e
    have hm : Mono x w x w.drew := ⟨fun _ _ h => h, fun _ _ _ => rfl, fun _ h => h, rfl, fun _ _ => rfl⟩
    exact ⟨c, e1, BRel.mono (w' := w.drew) hm rfl e2, e3⟩, h.inj, h.fb, h.mb⟩
theorem mono_drew : Mono x w x w.drew := ⟨fun _ _ h => h, fun _ _ _ => rfl, fun _ h => h, rfl, fun _ _ => rfl⟩
theorem Did.drew {h h' : Hp} {v : AV} {r : Value} {w' : World} (hn : h.next ≤ h'.next) (d : Did x h w.drew v h' r w') : Did x h w v h' r w' := by
  obtain ⟨y, e, k, l⟩ := d
  exact ⟨y, Ext.trans (Ext.drew (x := x) (n := h.next)) e (Nat.le_refl _) hn, k, l⟩
/-- memory that stays: a new block of it -/
theorem stay_sim {h : Hp} {arr : Array Value} {e : TypeId} {fr : Nat × Nat} (hr : HRel x h.blks.get w) {cells : List AV} {len cap : Nat} (hc : len ≤ cap) (hv : ∀ y u, VRels y u cells (arr.toList.take cells.length)) :
    Did x h w (.lst len cells) h (.slice (some ⟨w.heap.size, 0, none⟩) len cap) (w.alloc (.cells arr e fr)) := by
  have hmono : Mono x w { x with F := fun c => x.F c ∨ c = w.heap.size } (w.alloc (.cells arr e fr)) := ⟨fun _ _ h => h, fun _ _ _ => rfl, fun _ h => .inl h, rfl, fun c hc => heap_alloc_old _ _ _ (hr.fb c hc)⟩
  refine ⟨_, ⟨hmono.m, hmono.κ, fun _ _ => rfl, hmono.F, fun c hc => hc.imp id (fun e => by omega), rfl, rfl, rfl, rfl, by show _ ≤ (w.heap.push _).size; simp, fun c hc _ => heap_alloc_old _ _ _ hc, fun n b c e hx => .inl ⟨n, b, e, hx⟩⟩, ⟨fun n b e => ?_, hr.inj, fun c hc => ?_, fun n c hx => ?_⟩, ?_⟩
  · obtain ⟨c, e1, e2, e3⟩ := hr.blk n b e
    refine ⟨c, e1, e2.mono hmono (heap_alloc_old _ _ _ e2.lt), fun hF => ?_⟩
    rcases hF with hF | hF
    · exact e3 hF
    · have := e2.lt; omega
  · show c < (w.heap.push _).size
    rw [Array.size_push]
    rcases hc with hc | hc
    · have := hr.fb c hc; omega
    · omega
  · show c < (w.heap.push _).size
    rw [Array.size_push]
    have := hr.mb n c hx; omega
  · refine .lst _ _ _ _ _ hc (by simp) (hv _ _) (fun _ => ⟨_, rfl, .inr rfl, fun i v hi => ?_⟩)
    rw [add_lit']
    have : arr.toList[i]? = some v := by
      rw [List.getElem?_take] at hi
      split at hi
      · exact hi
      · cases hi
    simp only [World.cell?, heap_alloc_new]
    simpa using this
theorem bytes_rel (x : Cx) (w : World) : ∀ l : List UInt8, VRels x w (l.map fun b => AV.int .u8 b.toNat) (l.map fun b => Value.int .u8 b.toNat)
  | [] => .nil
  | b :: l => .cons _ _ _ _ (.int _ _) (bytes_rel x w l)
theorem conv_sim {h : Hp} {s d : TypeId} {a v : AV} {p : Value} (e : convA P s d a = some v) (hr : HRel x h.blks.get w) (ha : VRel x w a p) : ∃ r w', (convert s d p).run P w = .ok r w' ∧ Did x h w v h r w' := by
  unfold convA at e
  split at e
  · rename_i t k k' n h1 h2
    injection e with e; subst e
    cases ha
    refine ⟨_, _, ?_, Did.same hr (.int _ _)⟩
    cases t <;> simp [convert, run_underlying h1, run_underlying h2, Conv.intToInt]
  · rename_i l h1 h2
    injection e with e; subst e
    cases ha with | str s' _ hs =>
    exact ⟨_, _, by simp [convert, run_underlying h1, run_underlying h2], Did.same hr (.str _ _ hs)⟩
  · rename_i t l h1 h2
    split at e
    · rename_i h3
      split at e
      · rename_i hle
        injection e with e; subst e
        cases ha with | str s' _ hs =>
        subst hs
        have hlen : s'.data.toList.length = s'.size := by rw [Array.length_toList]; rfl
        rw [hlen]
        refine ⟨_, _, run_bytes_of_string w s d _ s' h1 h2 h3, Did.drew (Nat.le_refl _) (stay_sim hr.drew (grownCap_ge w s'.size 0 _) (fun y u => ?_))⟩
        have e1 : (bytesRow s' (grownCap w s'.size 0 t)).toList.take (s'.data.toList.map fun b => AV.int .u8 b.toNat).length = s'.data.toList.map fun b => Value.int .u8 b.toNat := by
          rw [List.length_map]
          unfold bytesRow
          simp
        rw [e1]
        exact bytes_rel y u _
      · cases e
    · cases e
  · cases e
end Go.Abs

namespace Go.Abs
variable [Bnd]
variable {P : Program} {x : Cx} {w : World}
theorem src_sim {h : Hp} {size k : Nat} {t' : TypeId} {v : AV} {cs : List AV} {q : Value} (hc : srcA h size v = some cs) (hl : lenA v = some k) (ht : srcT P t' v = true) (hq : VRel x w v q) (hr : HRel x h.blks.get w) (hsc : cs.all AV.sc = true) :
    ∃ news, Src P size t' q k news w ∧ VRels x w cs news ∧ cs.length = k * size := by
  have hslice : ∀ {A : Option Addr} {l c : Nat}, q = .slice A l c → ∃ e', P.underlying t' = some (.slice e') := by
    intro A l c hq'
    unfold srcT at ht
    split at ht
    · cases hq <;> cases hq'
    · cases ht
    · exact ⟨_, by assumption⟩
    · cases ht
  cases hq <;> simp only [srcA, slCells] at hc <;> simp only [lenA] at hl <;> (try (cases hc; done)) <;> (try (cases hl; done))
  case str s l hs =>
    split at hc
    · rename_i h1
      injection hc with hc; subst hc
      injection hl with hl; subst hl
      subst hs
      subst h1
      have hk : P.underlying t' = some .string := by
        unfold srcT at ht
        split at ht
        · assumption
        · cases ht
        · exfalso; rename_i h2 h3; first | exact h2 _ rfl | exact h3 _ rfl
        · cases ht
      have hlen : s.data.toList.length = s.size := by rw [Array.length_toList]; rfl
      rw [hlen]
      exact ⟨_, Src.ofString w hk s, bytes_rel x w _, by simp [hlen]⟩
    · cases hc
  case sl n off len cap ex es c cap' hm hcc he hll hkk =>
    injection hl with hl; subst hl
    obtain ⟨e', hk⟩ := hslice rfl
    obtain ⟨c', us, h1, h2, h3, h4, _⟩ := read_sim hc hr
    rw [hm] at h1
    cases h1
    exact ⟨us, Src.ofSlice w hk _ _ _ us (by rw [h2.length, h3]) (fun j u hj => by rw [add_lit']; exact h4 j u hj) (h2.sc hsc), h2, h3⟩
  case nilsl =>
    injection hl with hl; subst hl
    injection hc with hc; subst hc
    obtain ⟨e', hk⟩ := hslice rfl
    exact ⟨[], Src.ofNil w hk 0, .nil, by simp⟩
  case esl a cap =>
    injection hl with hl; subst hl
    injection hc with hc; subst hc
    obtain ⟨e', hk⟩ := hslice rfl
    exact ⟨[], Src.ofSlice w hk a 0 cap [] (by simp) (by simp) (by simp), .nil, by simp⟩
  case zsl a =>
    injection hl with hl; subst hl
    injection hc with hc; subst hc
    obtain ⟨e', hk⟩ := hslice rfl
    exact ⟨[], Src.ofSlice w hk a 0 0 [] (by simp) (by simp) (by simp), .nil, by simp⟩
  case lst len cells vs A cap hcc hA hv hlies =>
    injection hl with hl; subst hl
    obtain ⟨e', hk⟩ := hslice rfl
    have h2 := cut_rel hc hv
    have h3 := (cut_len hc).2.2
    by_cases h0 : 0 < len
    · obtain ⟨a, rfl, hl⟩ := hlies h0
      refine ⟨_, Src.ofSlice w hk a len cap _ (by rw [h2.length, h3]) (fun j u hj => hl.2 j u ?_) (h2.sc hsc), h2, h3⟩
      rw [List.getElem?_take] at hj
      split at hj
      · simpa using hj
      · cases hj
    · obtain rfl : len = 0 := by omega
      have hcs : cs = [] := List.eq_nil_of_length_eq_zero (by rw [h3, Nat.zero_mul])
      subst hcs
      cases A with
      | none => exact ⟨[], Src.ofNil w hk cap, .nil, by simp⟩
      | some a => exact ⟨[], Src.ofSlice w hk a 0 cap [] (by simp) (by simp) (by simp), .nil, by simp⟩
theorem growBy_le (n : Nat) : ∀ (r c : Nat), Builtin.growBy n r c ≤ max c (n + (n + 768) / 4)
  | 0, c => by simp [Builtin.growBy]; omega
  | r + 1, c => by
    unfold Builtin.growBy
    split
    · omega
    · have := growBy_le n r (c + (c + 768) / 4)
      omega
theorem nextcap_le {n c : Nat} (h : c < n) : Builtin.nextslicecap n c ≤ 2 * n + 192 := by
  unfold Builtin.nextslicecap
  split
  · omega
  · split
    · omega
    · have := growBy_le n 4 c
      omega
theorem lim_fit {b n c : Nat} (h : limA b n = true) (hc : c < n) : Builtin.nextslicecap n c * b ≤ 281474976710656 ∧ ((n : Nat) : Int) ≤ 9223372036854775807 := by
  simp only [limA, Bool.and_eq_true, decide_eq_true_eq] at h
  obtain ⟨⟨h1, h2⟩, h3⟩ := h
  refine ⟨?_, by omega⟩
  have := Nat.mul_le_mul_right b (nextcap_le hc)
  have e : (2 * n + 192) * b = 2 * (n * b) + 192 * b := by rw [Nat.add_mul, Nat.mul_assoc]
  omega
theorem nextcap_le5 {n c : Nat} (h : c < n) : Builtin.nextslicecap n c ≤ n + (n + 768) / 4 + 512 := by
  unfold Builtin.nextslicecap
  split
  · omega
  · split
    · omega
    · have := growBy_le n 4 c
      omega
theorem limU_fit {b z m n c ck : Nat} (h : limU b z m = true) (hck : ck * z ≤ 2 ^ 47) (hn : n ≤ ck + m) (hc : c < n) : Builtin.nextslicecap n c * b ≤ 281474976710656 ∧ ((n : Nat) : Int) ≤ 9223372036854775807 := by
  simp only [limU, Bool.and_eq_true, decide_eq_true_eq] at h
  obtain ⟨⟨⟨h0, h1⟩, h2⟩, h3⟩ := h
  have hckle : ck ≤ ck * z := Nat.le_mul_of_pos_right _ h0
  refine ⟨?_, by omega⟩
  have k1 := nextcap_le5 hc
  have k2 : Builtin.nextslicecap n c * b ≤ (n + (n + 768) / 4 + 512) * b := Nat.mul_le_mul_right b k1
  have k3 : 4 * (n + (n + 768) / 4 + 512) ≤ 5 * n + 2816 := by omega
  have k4 : 4 * ((n + (n + 768) / 4 + 512) * b) ≤ (5 * n + 2816) * b := by rw [← Nat.mul_assoc]; exact Nat.mul_le_mul_right b k3
  have k5 : (5 * n + 2816) * b = n * (5 * b) + 2816 * b := by rw [Nat.add_mul, Nat.mul_comm 5 n, Nat.mul_assoc]
  have k6 : n * (5 * b) ≤ (ck + m) * (5 * b) := Nat.mul_le_mul_right _ hn
  have k7 : (ck + m) * (5 * b) = ck * (5 * b) + m * (5 * b) := Nat.add_mul _ _ _
  have k8 : ck * (5 * b) ≤ ck * (7 * z) := Nat.mul_le_mul_left _ h1
  have k9 : ck * (7 * z) = 7 * (ck * z) := by rw [Nat.mul_left_comm]
  have k10 : m * (5 * b) ≤ 2 ^ 20 * (5 * 2 ^ 20) := Nat.mul_le_mul h3 (Nat.mul_le_mul_left 5 h2)
  omega
/-- a fresh row -/
theorem fresh_sim {h : Hp} {cells : List AV} {news : List Value} {need size cap : Nat} {e : TypeId} {rest : Array Value} (hr : HRel x h.blks.get w) (hf : x.m h.next = none) (hn : VRels x w cells news) (hcap : need ≤ cap) (hsz : cap * size ≤ news.length + rest.size) :
    Did x h w (freshA h e cells need size).1 (freshA h e cells need size).2 (.slice (some ⟨w.heap.size, 0, none⟩) need cap) (w.alloc (.cells (news.toArray ++ rest) e)) := by
  obtain ⟨y, e1, e2, e3, e4⟩ := new_sim (b := .cells cells e) (o := .cells (news.toArray ++ rest) e) _ hr hf (fun y u hm hu => ⟨_, _, hu, hn.mono hm, by simp, rfl⟩)
  refine ⟨y, e1, e2, .sl _ _ _ _ _ _ _ _ e3 hcap (by simp) (Nat.le_refl _) ?_⟩
  rw [e4]
  simpa using hsz
/-- a block that turns and goes on under a new name -/
theorem renew_sim {h : Hp} {n c : Nat} {b0 b' : Blk} {u : World} (hr : HRel x h.blks.get w) (hb0 : h.blks.get n = some b0) (hm : x.m n = some c) (hnx : x.m h.next = none) (hoth : ∀ k, k ≠ c → u.heap[k]? = w.heap[k]?) (hsize : u.heap.size = w.heap.size)
    (hos : u.os = w.os) (htp : u.tape = w.tape) (hout : u.output = w.output) (hnew : ∀ y, Mono x w y u → BRel y u (x.κ n) c b') :
    Ext x h.blks.get h.next w (x.with h.next c (x.κ n)) ((h.kill n).new b').1.blks.get ((h.kill n).new b').1.next u ∧ HRel (x.with h.next c (x.κ n)) ((h.kill n).new b').1.blks.get u := by
  have hkill : ∀ n' b, (h.kill n).blks.get n' = some b → h.blks.get n' = some b := by
    intro n' b e
    simp only [Hp.kill, Tr.get_del] at e
    split at e
    · cases e
    · exact e
  have hnF : ¬ x.F c := by
    obtain ⟨c2, e1, _, e3⟩ := hr.blk n b0 hb0
    rw [hm] at e1; cases e1; exact e3
  have hclt : c < w.heap.size := hr.mb _ _ hm
  have hne : ∀ n' c', x.m n' = some c' → n' ≠ h.next := fun n' c' e e' => by subst e'; rw [hnx] at e; cases e
  have hmono : Mono x w (x.with h.next c (x.κ n)) u :=
    ⟨fun n' c' e => by simp only [Cx.with]; rw [if_neg (hne _ _ e)]; exact e, fun n' c' e => by simp only [Cx.with]; rw [if_neg (hne _ _ e)], fun _ h => h, rfl, fun k' hk' => hoth k' (fun e => hnF (e ▸ hk'))⟩
  refine ⟨⟨hmono.m, hmono.κ, fun n' hn' => ?_, fun _ h => h, fun _ h => .inl h, rfl, hos, htp, hout, by rw [hsize]; exact Nat.le_refl _, fun k' hk' hn' => hoth k' (fun e => hn' n b0 hb0 (e ▸ hm)), fun n' b' c' e hx => ?_⟩, ⟨fun n' b' e => ?_, fun n1 n2 b1 b2 c1 e1 e2 hx1 hx2 => ?_, fun c' hc' => by rw [hsize]; exact hr.fb c' hc', fun n' c' hx => ?_⟩⟩
  · simp only [Hp.new, Hp.kill, Cx.with] at hn' ⊢
    rw [if_neg (by omega)]
  · simp only [Hp.new, Tr.get_put] at e
    simp only [Cx.with] at hx
    by_cases hn' : n' = h.next
    · rw [if_pos hn'] at hx; injection hx with hx; subst hx; exact .inl ⟨n, b0, hb0, hm⟩
    · rw [if_neg hn'] at hx
      rw [if_neg (by simpa [Hp.kill] using hn')] at e
      exact .inl ⟨n', b', hkill _ _ e, hx⟩
  · simp only [Hp.new, Tr.get_put] at e
    by_cases hn' : n' = h.next
    · rw [if_pos (by simpa [Hp.kill] using hn')] at e
      injection e with e; subst e
      refine ⟨c, by simp [Cx.with, hn'], ?_, hnF⟩
      have := hnew _ hmono
      simpa [Cx.with, hn'] using this
    · rw [if_neg (by simpa [Hp.kill] using hn')] at e
      have e' := hkill _ _ e
      obtain ⟨c2, e1, e2, e3⟩ := hr.blk n' b' e'
      have hn2 : n' ≠ n := fun e0 => by subst e0; simp [Hp.kill, Tr.get_del] at e
      exact ⟨c2, hmono.m _ _ e1, by rw [hmono.κ _ _ e1]; exact e2.mono hmono (hoth c2 (fun ec => hn2 (hr.inj n' n b' b0 c e' hb0 (ec ▸ e1) hm))), e3⟩
  · simp only [Hp.new, Tr.get_put] at e1 e2
    simp only [Cx.with] at hx1 hx2
    have old : ∀ {j : Nat} {bj : Blk} {cj : Nat}, j ≠ h.next → (h.kill n).blks.get j = some bj → x.m j = some cj → j ≠ n := fun {j bj cj} _ ej _ e0 => by subst e0; simp [Hp.kill, Tr.get_del] at ej
    by_cases g1 : n1 = h.next <;> by_cases g2 : n2 = h.next
    · omega
    · rw [if_pos g1] at hx1; rw [if_neg g2] at hx2
      rw [if_neg (by simpa [Hp.kill] using g2)] at e2
      injection hx1 with hx1; subst hx1
      exact absurd (hr.inj n2 n b2 b0 c (hkill _ _ e2) hb0 hx2 hm) (old g2 e2 hx2)
    · rw [if_neg g1] at hx1; rw [if_pos g2] at hx2
      rw [if_neg (by simpa [Hp.kill] using g1)] at e1
      injection hx2 with hx2; subst hx2
      exact absurd (hr.inj n1 n b1 b0 c (hkill _ _ e1) hb0 hx1 hm) (old g1 e1 hx1)
    · rw [if_neg g1] at hx1; rw [if_neg g2] at hx2
      rw [if_neg (by simpa [Hp.kill] using g1)] at e1
      rw [if_neg (by simpa [Hp.kill] using g2)] at e2
      exact hr.inj n1 n2 b1 b2 c1 (hkill _ _ e1) (hkill _ _ e2) hx1 hx2
  · rw [hsize]
    simp only [Cx.with] at hx
    by_cases hn' : n' = h.next
    · rw [if_pos hn'] at hx; injection hx with hx; subst hx; exact hclt
    · rw [if_neg hn'] at hx; exact hr.mb n' c' hx
theorem limA_mono {bytes a b : Nat} (h : limA bytes b = true) (hab : a ≤ b) : limA bytes a = true := by
  simp only [limA, Bool.and_eq_true, decide_eq_true_eq] at h ⊢
  exact ⟨⟨Nat.le_trans (Nat.mul_le_mul_right _ hab) h.1.1, h.1.2⟩, Nat.le_trans hab h.2⟩
theorem append_sim {h h' : Hp} {t t' ty e : TypeId} {i : TypeInfo} {z : Value} {s v : AV} {cells : List AV} {k : Nat} {p q : Value} {news : List Value} (ea : appendA h e i.size i.bytes s cells k = some (v, h'))
    (ht : P.underlying t = some (.slice e)) (hi : P.info? e = some i) (hz : i.zero = some z) (hzs : z.cells.size = i.size) (hp : VRel x w s p) (hs : Src P i.size t' q k news w) (hn : VRels x w cells news) (hr : HRel x h.blks.get w) (hf : ∀ n, h.next ≤ n → n < h'.next → x.m n = none) :
    ∃ r w', (Builtin.append_ #[t, t'] ty #[p, q]).run P w = .ok r w' ∧ Did x h w v h' r w' := by
  have hnews0 : k = 0 → news = [] := fun h0 => List.eq_nil_of_length_eq_zero (by rw [hs.newsLen, h0, Nat.zero_mul])
  have grow : ∀ (base : Option Addr) (sLen sCap : Nat) (olds : List Value) (old : List AV) (g : Hp), (Builtin.firstCells i.size sLen (.slice base sLen sCap)).run P w.drew = .ok olds.toArray w.drew → VRels x w old olds → olds.length = sLen * i.size → limA i.bytes (sLen + k) = true → sCap < sLen + k →
      HRel x g.blks.get w.drew → x.m g.next = none → ∃ r w', (Builtin.append_ #[t, t'] ty #[.slice base sLen sCap, q]).run P w = .ok r w' ∧ Did x g w.drew (freshA g e (old ++ cells) (sLen + k) i.size).1 (freshA g e (old ++ cells) (sLen + k) i.size).2 r w' := by
    intro base sLen sCap olds old g hold ho hol hlim hlt hg hgn
    obtain ⟨l1, l2⟩ := lim_fit hlim hlt
    refine ⟨_, _, run_append_grow_src w t t' ty e i z ht hi hz base sLen sCap olds hold q k news hs hlt l2 l1, ?_⟩
    have hrow : (sLen + k) ≤ grownCap w (sLen + k) sCap e := grownCap_ge _ _ _ _
    refine fresh_sim hg hgn ((ho.app hn).mono mono_drew) hrow ?_
    rw [List.length_append, hol, hs.newsLen, size_zeroCells, hzs, ← Nat.add_mul, ← Nat.add_mul]
    exact Nat.le_of_eq (by congr 1; omega)
  have nothing : ∀ (base : Option Addr) (sLen sCap : Nat), k = 0 → sLen ≤ sCap → (Builtin.append_ #[t, t'] ty #[.slice base sLen sCap, q]).run P w = .ok (.slice base sLen sCap) w := by
    intro base sLen sCap h0 hle
    have := hnews0 h0
    subst this; subst h0
    exact run_append_nothing w t t' ty e i ht hi base sLen sCap hle q hs
  cases hp <;> simp only [appendA] at ea <;> (try (cases ea; done))
  case nilsl =>
    split at ea
    · rename_i h0
      injection ea with ea; cases ea
      exact ⟨_, _, nothing _ _ _ h0 (Nat.le_refl _), Did.same hr .nilsl⟩
    · split at ea
      · rename_i h0 hlim
        injection ea with ea; cases ea
        obtain ⟨r, w', k1, k2⟩ := grow none 0 0 [] [] h (run_firstCells_none w.drew i.size 0 0 0) .nil (by simp) (by simpa using hlim) (by omega) hr.drew (hf _ (Nat.le_refl _) (by simp [freshA, Hp.new]))
        simp only [Nat.zero_add, List.nil_append] at k2
        exact ⟨r, w', k1, Did.drew (by simp [freshA, Hp.new]) k2⟩
      · cases ea
  case zsl a =>
    split at ea
    · rename_i h0
      injection ea with ea; cases ea
      exact ⟨_, _, nothing _ _ _ h0 (Nat.le_refl _), Did.same hr (.zsl _)⟩
    · split at ea
      · rename_i h0 hlim
        injection ea with ea; cases ea
        obtain ⟨r, w', k1, k2⟩ := grow (some a) 0 0 [] [] h (run_firstCells_some w.drew i.size 0 a 0 0 [] (by simp) (by simp)) .nil (by simp) (by simpa using hlim) (by omega) hr.drew (hf _ (Nat.le_refl _) (by simp [freshA, Hp.new]))
        simp only [Nat.zero_add, List.nil_append] at k2
        exact ⟨r, w', k1, Did.drew (by simp [freshA, Hp.new]) k2⟩
      · cases ea
  case esl a cap =>
    split at ea
    · rename_i h0
      injection ea with ea; cases ea
      exact ⟨_, _, nothing _ _ _ h0 (Nat.zero_le _), Did.same hr (.esl _ _)⟩
    · cases ea
  case lst len old vs A cap hc hA hv hl =>
    split at ea
    · rename_i h0
      injection ea with ea; cases ea
      exact ⟨_, _, nothing _ _ _ h0 hc, Did.same hr (.lst _ _ _ _ _ hc hA hv hl)⟩
    · cases ea
  case sl n off len cap ex es c cap' hm hc he hl hk =>
    split at ea
    case isFalse => cases ea
    rename_i hes
    obtain ⟨rfl, hlim⟩ := hes
    have inplace : ∀ (arr : Array Value) (t0 : TypeId), w.heap[c]? = some (.cells arr t0 (0, 0)) → len + k ≤ cap' → off + len * i.size + news.length ≤ arr.size →
        (Builtin.append_ #[t, t'] ty #[.slice (some ⟨c, off, none⟩) len cap', q]).run P w = .ok (.slice (some ⟨c, off, none⟩) (len + k) cap') (w.setRow c (arr.toList.take (off + len * i.size) ++ news ++ arr.toList.drop (off + len * i.size + news.length)).toArray) := by
      intro arr t0 hb hroom hfit
      have hst := run_storeCells_at P c (off + len * i.size) t0 news 0 arr w hb (by simpa using hfit) hs.one
      simp only [Nat.add_zero] at hst
      rcases hs.kind with ⟨e', hk⟩ | hk <;> simp [Builtin.append_, run_underlying ht, run_underlying hk, sizeOf, typeInfo, hi, hs.len, hroom, hs.cells, add_lit', hst]
    split at ea
    · rename_i hroom
      split at ea
      · rename_i h2 hw
        injection ea with ea; cases ea
        obtain ⟨c', arr, t0, k1, k2, k3, k4, k5, k6⟩ := write_sim hw hr hn
        rw [hm] at k1
        cases k1
        obtain ⟨k7, k8⟩ := k6 _ rfl
        refine ⟨_, _, inplace arr t0 k2 (by omega) k3, x, k7, k8, .sl _ _ _ _ _ _ _ _ hm hc he hroom hk⟩
      · cases ea
    · rename_i hroom
      split at ea
      · rename_i old hrd
        obtain ⟨c', us, k1, k2, k3, k4, arr, t0, k5, k6, k7⟩ := read_sim hrd hr
        rw [hm] at k1
        cases k1
        have hold : (Builtin.firstCells i.size len (.slice (some ⟨c, off, none⟩) len cap')).run P w.drew = .ok us.toArray w.drew :=
          run_firstCells_some w.drew i.size len _ len cap' us (by rw [k2.length, k3]) (fun j u hj => by rw [add_lit']; exact k4 j u hj)
        split at ea
        · rename_i hex
          injection ea with ea; cases ea
          obtain ⟨r, w', q1, q2⟩ := grow _ _ _ us old h hold k2 (by rw [k2.length, k3]) hlim (by rw [he hex]; omega) hr.drew (hf _ (Nat.le_refl _) (by simp [freshA, Hp.new]))
          exact ⟨r, w', q1, Did.drew (by simp [freshA, Hp.new]) q2⟩
        · split at ea
          · rename_i hex h0
            obtain ⟨h0, hel⟩ := h0
            subst h0
            have ht0 : t0 = e := by
              unfold elemIs at hel
              split at hel
              · rename_i cs e0 hg
                obtain ⟨c2, e1, ⟨arr2, vs2, e2, _⟩, _⟩ := hr.blk _ _ hg
                rw [hm] at e1; cases e1
                rw [k5] at e2
                injection e2 with e2
                injection e2 with _ e2 _
                rw [e2]
                simpa using hel
              · cases hel
            rw [ht0] at k5
            injection ea with ea; cases ea
            have hnx : x.m h.next = none := hf _ (Nat.le_refl _) (by simp [freshA, Hp.new, Hp.kill])
            have hkill : ∀ n' b, (h.kill n).blks.get n' = some b → h.blks.get n' = some b := by
              intro n' b e
              simp only [Hp.kill, Tr.get_del] at e
              split at e
              · cases e
              · exact e
            by_cases hfit : len + k ≤ cap'
            · -- in place, under a new name
              have hsz : 0 + len * i.size + news.length ≤ arr.size := by
                rw [hs.newsLen, k6, Nat.zero_add, ← Nat.add_mul]
                have := Nat.mul_le_mul_right i.size hfit
                omega
              have hrun := inplace arr e k5 hfit hsz
              simp only [Nat.zero_add] at hrun hsz
              refine ⟨_, _, hrun, x.with h.next c (x.κ n), ?_⟩
              have hset := setRow_heap w c arr (arr.toList.take (len * i.size) ++ news ++ arr.toList.drop (len * i.size + news.length)).toArray e (0, 0) k5
              have hoth : ∀ k', k' ≠ c → (w.setRow c (arr.toList.take (len * i.size) ++ news ++ arr.toList.drop (len * i.size + news.length)).toArray).heap[k']? = w.heap[k']? := fun k' hk' => setRow_other w c k' _ hk'
              have hsize : (w.setRow c (arr.toList.take (len * i.size) ++ news ++ arr.toList.drop (len * i.size + news.length)).toArray).heap.size = w.heap.size := by simp [World.setRow]
              have hlive : ∃ b, h.blks.get n = some b := by
                unfold readAt at hrd
                split at hrd
                · exact ⟨_, by assumption⟩
                · cases hrd
              obtain ⟨b0, hb0⟩ := hlive
              have hnF : ¬ x.F c := by
                obtain ⟨c2, e1, _, e3⟩ := hr.blk n b0 hb0
                rw [hm] at e1; cases e1; exact e3
              have hne : ∀ n' c', x.m n' = some c' → n' ≠ h.next := fun n' c' e e' => by subst e'; rw [hnx] at e; cases e
              have hmono : Mono x w (x.with h.next c (x.κ n)) (w.setRow c (arr.toList.take (len * i.size) ++ news ++ arr.toList.drop (len * i.size + news.length)).toArray) :=
                ⟨fun n' c' e => by simp only [Cx.with]; rw [if_neg (hne _ _ e)]; exact e, fun n' c' e => by simp only [Cx.with]; rw [if_neg (hne _ _ e)], fun _ h => h, rfl, fun k' hk' => hoth k' (fun e => hnF (e ▸ hk'))⟩
              refine ⟨⟨hmono.m, hmono.κ, fun n' hn' => ?_, fun _ h => h, fun _ h => .inl h, rfl, rfl, rfl, rfl, by rw [hsize]; exact Nat.le_refl _, fun k' hk' hn' => hoth k' (fun e => hn' n b0 hb0 (e ▸ hm)), fun n' b' c' e hx => ?_⟩, ⟨fun n' b' e => ?_, fun n1 n2 b1 b2 c1 e1 e2 hx1 hx2 => ?_, fun c' hc' => by rw [hsize]; exact hr.fb c' hc', fun n' c' hx => ?_⟩, ?_⟩
              · simp only [freshA, Hp.new, Hp.kill, Cx.with] at hn' ⊢
                rw [if_neg (by omega)]
              · simp only [freshA, Hp.new, Tr.get_put] at e
                simp only [Cx.with] at hx
                by_cases hn' : n' = h.next
                · rw [if_pos hn'] at hx; injection hx with hx; subst hx; exact .inl ⟨n, b0, hb0, hm⟩
                · rw [if_neg hn'] at hx
                  rw [if_neg (by simpa [Hp.kill] using hn')] at e
                  exact .inl ⟨n', b', hkill _ _ e, hx⟩
              · simp only [freshA, Hp.new, Tr.get_put] at e
                by_cases hn' : n' = h.next
                · rw [if_pos (by simpa [Hp.kill] using hn')] at e
                  injection e with e; subst e
                  refine ⟨c, by simp [Cx.with, hn'], ⟨_, us ++ news, hset, (k2.mono hmono).app (hn.mono hmono), ?_, ?_⟩, hnF⟩
                  · have hpre := k7 rfl
                    have htake : arr.toList.take (len * i.size) = us := by
                      obtain ⟨r0, hr0⟩ := hpre
                      rw [← hr0, List.take_append_of_le_length (by rw [k2.length, k3]; exact Nat.le_refl _), List.take_of_length_le (by rw [k2.length, k3]; exact Nat.le_refl _)]
                    rw [htake]
                    exact ⟨_, rfl⟩
                  · simp [Cx.with, hn']
                    rw [← k6]
                    omega
                · rw [if_neg (by simpa [Hp.kill] using hn')] at e
                  have e' := hkill _ _ e
                  obtain ⟨c2, e1, e2, e3⟩ := hr.blk n' b' e'
                  have hn2 : n' ≠ n := fun e0 => by subst e0; simp [Hp.kill, Tr.get_del] at e
                  exact ⟨c2, hmono.m _ _ e1, by rw [hmono.κ _ _ e1]; exact e2.mono hmono (hoth c2 (fun ec => hn2 (hr.inj n' n b' b0 c e' hb0 (ec ▸ e1) hm))), e3⟩
              · simp only [freshA, Hp.new, Tr.get_put] at e1 e2
                simp only [Cx.with] at hx1 hx2
                have old : ∀ {j : Nat} {bj : Blk} {cj : Nat}, j ≠ h.next → (h.kill n).blks.get j = some bj → x.m j = some cj → j ≠ n := fun {j bj cj} _ ej _ e0 => by subst e0; simp [Hp.kill, Tr.get_del] at ej
                by_cases g1 : n1 = h.next <;> by_cases g2 : n2 = h.next
                · omega
                · rw [if_pos g1] at hx1; rw [if_neg g2] at hx2
                  rw [if_neg (by simpa [Hp.kill] using g2)] at e2
                  injection hx1 with hx1; subst hx1
                  exact absurd (hr.inj n2 n b2 b0 c (hkill _ _ e2) hb0 hx2 hm) (old g2 e2 hx2)
                · rw [if_neg g1] at hx1; rw [if_pos g2] at hx2
                  rw [if_neg (by simpa [Hp.kill] using g1)] at e1
                  injection hx2 with hx2; subst hx2
                  exact absurd (hr.inj n1 n b1 b0 c (hkill _ _ e1) hb0 hx1 hm) (old g1 e1 hx1)
                · rw [if_neg g1] at hx1; rw [if_neg g2] at hx2
                  rw [if_neg (by simpa [Hp.kill] using g1)] at e1
                  rw [if_neg (by simpa [Hp.kill] using g2)] at e2
                  exact hr.inj n1 n2 b1 b2 c1 (hkill _ _ e1) (hkill _ _ e2) hx1 hx2
              · rw [hsize]
                simp only [Cx.with] at hx
                by_cases hn' : n' = h.next
                · rw [if_pos hn'] at hx; injection hx with hx; subst hx; exact (Array.getElem?_eq_some_iff.1 k5).1
                · rw [if_neg hn'] at hx; exact hr.mb n' c' hx
              · refine .sl _ _ _ _ _ _ _ _ (by simp [freshA, Hp.new, Hp.kill, Cx.with]) hfit (by simp) (Nat.le_refl _) ?_
                simpa [freshA, Hp.new, Hp.kill, Cx.with] using hk
            · -- a new row
              have hrk : HRel x (h.kill n).blks.get w.drew := (hr.sub hkill).drew
              obtain ⟨r, w', q1, y, q2, q3, q4⟩ := grow _ _ _ us old (h.kill n) hold k2 (by rw [k2.length, k3]) hlim (by omega) hrk hnx
              refine ⟨r, w', q1, y, ?_, q3, q4⟩
              have e0 : Ext x h.blks.get h.next w x (h.kill n).blks.get h.next w.drew := ⟨fun _ _ h => h, fun _ _ _ => rfl, fun _ _ => rfl, fun _ h => h, fun _ h => .inl h, rfl, rfl, rfl, rfl, Nat.le_refl _, fun _ _ _ => rfl, fun n b c e hx => .inl ⟨n, b, hkill _ _ e, hx⟩⟩
              exact e0.trans q2 (Nat.le_refl _) (by simp [freshA, Hp.new, Hp.kill])
          · cases ea
      · cases ea
  case usl n es b zw c off len cap hm hl hk hb hck =>
    split at ea
    case isFalse => cases ea
    rename_i hcond
    obtain ⟨rfl, hlim0⟩ := hcond
    split at ea
    · rename_i e' hg
      split at ea
      · rename_i he'
        subst he'
        injection ea with ea; cases ea
        obtain ⟨c', q1, ⟨arr, q2, q3⟩, q4⟩ := hr.blk _ _ hg
        rw [hm] at q1; cases q1
        have hnx : x.m h.next = none := hf _ (Nat.le_refl _) (by simp [Hp.new, Hp.kill])
        have hlen := Nat.mul_le_mul_right i.size hl
        by_cases hfit : len + k ≤ cap
        · have hroom := Nat.mul_le_mul_right i.size hfit
          have hsz : off + len * i.size + news.length ≤ arr.size := by
            rw [hs.newsLen, q3]
            rw [Nat.add_mul] at hroom
            omega
          have hst := run_storeCells_at P c (off + len * i.size) e' news 0 arr w q2 (by simpa using hsz) hs.one
          simp only [Nat.add_zero] at hst
          have hrun : (Builtin.append_ #[t, t'] ty #[.slice (some ⟨c, off, none⟩) len cap, q]).run P w = .ok (.slice (some ⟨c, off, none⟩) (len + k) cap) (w.setRow c (arr.toList.take (off + len * i.size) ++ news ++ arr.toList.drop (off + len * i.size + news.length)).toArray) := by
            rcases hs.kind with ⟨e2, hk2⟩ | hk2 <;> simp [Builtin.append_, run_underlying ht, run_underlying hk2, sizeOf, typeInfo, hi, hs.len, hfit, hs.cells, add_lit', hst]
          have hset := setRow_heap w c arr (arr.toList.take (off + len * i.size) ++ news ++ arr.toList.drop (off + len * i.size + news.length)).toArray e' (0, 0) q2
          obtain ⟨r1, r2⟩ := renew_sim (b' := .ucells e') hr hg hm hnx (fun k' hk' => setRow_other w c k' _ hk') (by simp [World.setRow]) rfl rfl rfl (fun y hy => ⟨_, hset, by simp; omega⟩)
          exact ⟨_, _, hrun, x.with h.next c (x.κ n), r1, r2, .usl _ _ _ _ c off (len + k) cap (by simp [Cx.with]) hfit (by simpa [Cx.with] using hk) (by show len + k = x.τ.ck + (b + k); omega) hck⟩
        · have hold : (Builtin.firstCells i.size len (.slice (some ⟨c, off, none⟩) len cap)).run P w.drew = .ok ((arr.toList.drop off).take (len * i.size)).toArray w.drew :=
            run_firstCells_some w.drew i.size len _ len cap _ (by simp; omega) (fun j u hj => by
              rw [add_lit']
              have hj2 : arr.toList[off + j]? = some u := by
                rw [List.getElem?_take] at hj
                split at hj
                · rwa [List.getElem?_drop] at hj
                · cases hj
              show w.cell? _ = some u
              simp only [World.cell?, q2]
              simpa using hj2)
          obtain ⟨l1, l2⟩ := limU_fit (ck := x.τ.ck) (n := len + k) (c := cap) hlim0 hck (by omega) (Nat.lt_of_not_le hfit)
          have hrun := run_append_grow_src w t t' ty e' i z ht hi hz (some ⟨c, off, none⟩) len cap _ hold q k news hs (Nat.lt_of_not_le hfit) l2 l1
          have hkill : ∀ n' b, (h.kill n).blks.get n' = some b → h.blks.get n' = some b := by
            intro n' b e
            simp only [Hp.kill, Tr.get_del] at e
            split at e
            · cases e
            · exact e
          have hrow : (len + k) ≤ grownCap w (len + k) cap e' := grownCap_ge _ _ _ _
          obtain ⟨y, y1, y2, y3, y4⟩ := new_sim (h := h.kill n) (b := .ucells e') (o := .cells (((arr.toList.drop off).take (len * i.size) ++ news).toArray ++ Builtin.zeroCells z.cells (grownCap w (len + k) cap e' - (len + k))) e') _ (hr.sub hkill).drew hnx (fun y u hy hu => ⟨_, hu, rfl⟩)
          have e0 : Ext x h.blks.get h.next w x (h.kill n).blks.get h.next w.drew := ⟨fun _ _ h => h, fun _ _ _ => rfl, fun _ _ => rfl, fun _ h => h, fun _ h => .inl h, rfl, rfl, rfl, rfl, Nat.le_refl _, fun _ _ _ => rfl, fun n b c e hx => .inl ⟨n, b, hkill _ _ e, hx⟩⟩
          have e1 := e0.trans y1 (Nat.le_refl _) (Nat.le_succ _)
          refine ⟨_, _, hrun, y, e1, y2, .usl _ _ _ _ w.heap.size 0 (len + k) _ y3 hrow ?_ ?_ ?_⟩
          · have hka : y.κ h.next = _ := y4
            rw [hka]
            simp only [Array.size_append, List.size_toArray, List.length_append, List.length_take, List.length_drop, size_zeroCells, hzs, hs.newsLen, Array.length_toList]
            rw [Nat.min_eq_left (by omega), ← Nat.add_mul, ← Nat.add_mul, Nat.zero_add]
            exact Nat.le_of_eq (by congr 1; omega)
          · rw [y1.τ]; omega
          · rw [y1.τ]; exact hck
      · cases ea
    · cases ea
end Go.Abs

namespace Go.Abs
variable [Bnd]
variable {P : Program} {x : Cx} {w : World}
def World.setO (w : World) (c : Nat) (o : Obj) : World := { w with heap := w.heap.setIfInBounds c o }
theorem setO_other (w : World) (c k : Nat) (o : Obj) (h : k ≠ c) : (World.setO w c o).heap[k]? = w.heap[k]? := by
  simp [World.setO, Array.getElem?_setIfInBounds_ne (Ne.symm h)]
theorem setO_self (w : World) (c : Nat) (o : Obj) (h : c < w.heap.size) : (World.setO w c o).heap[c]? = some o := by
  simp [World.setO, Array.getElem?_setIfInBounds, h]
theorem setObj_sim {h : Hp} {n c : Nat} {b b' : Blk} {o : Obj} (hl : h.blks.get n = some b) (hr : HRel x h.blks.get w) (hm : x.m n = some c) (hnew : ∀ u, Mono x w x u → u.heap[c]? = some o → BRel x u (x.κ n) c b') :
    Ext x h.blks.get h.next w x (h.blks.put n b').get h.next (World.setO w c o) ∧ HRel x (h.blks.put n b').get (World.setO w c o) := by
  obtain ⟨c', h1, h2, h3⟩ := hr.blk _ _ hl
  rw [hm] at h1
  cases h1
  have hmono : Mono x w x (World.setO w c o) := ⟨fun _ _ h => h, fun _ _ _ => rfl, fun _ h => h, rfl, fun k hk => setO_other w c k o (fun e => h3 (e ▸ hk))⟩
  have hsz : (World.setO w c o).heap.size = w.heap.size := by simp [World.setO]
  refine ⟨⟨fun _ _ h => h, fun _ _ _ => rfl, fun _ _ => rfl, fun _ h => h, fun _ h => .inl h, rfl, rfl, rfl, rfl, by rw [hsz]; exact Nat.le_refl _, fun k hk hn => setO_other w c k o (fun e => hn n _ hl (e ▸ hm)), fun k b0 k' e hx => ?_⟩, ⟨fun k b0 e => ?_, fun k k' b1 b2 c' e e' hx hx' => ?_, fun k hk => by rw [hsz]; exact hr.fb k hk, fun k k' hk => by rw [hsz]; exact hr.mb k k' hk⟩⟩
  · simp only [Tr.get_put] at e
    by_cases hk : k = n
    · subst hk; exact .inl ⟨k, _, hl, hx⟩
    · rw [if_neg hk] at e; exact .inl ⟨k, b0, e, hx⟩
  · simp only [Tr.get_put] at e
    by_cases hk : k = n
    · subst hk
      rw [if_pos rfl] at e
      injection e with e
      subst e
      exact ⟨c, hm, hnew _ hmono (setO_self w c o h2.lt), h3⟩
    · rw [if_neg hk] at e
      obtain ⟨c', e1, e2, e3⟩ := hr.blk k b0 e
      exact ⟨c', e1, e2.mono hmono (setO_other w c c' o (fun ec => hk (hr.inj k n b0 _ c e hl (ec ▸ e1) hm))), e3⟩
  · simp only [Tr.get_put] at e e'
    have g : ∀ {j : Nat} {bj : Blk}, (if j = n then some b' else h.blks.get j) = some bj → ∃ b0, h.blks.get j = some b0 := by
      intro j bj ej
      by_cases hj : j = n
      · subst hj; exact ⟨_, hl⟩
      · rw [if_neg hj] at ej; exact ⟨_, ej⟩
    obtain ⟨b3, g1⟩ := g e
    obtain ⟨b4, g2⟩ := g e'
    exact hr.inj k k' b3 b4 c' g1 g2 hx hx'
theorem run_getObj' {c : Nat} {o : Obj} (h : w.heap[c]? = some o) (hn : ∀ a e f, o ≠ .cells a e f) : (getObj c).run P w = .ok o w := by
  cases o <;> first
    | (exact absurd rfl (hn _ _ _); done)
    | (simp only [getObj, Sem.run, h])
theorem run_setObj' {c : Nat} {o o' : Obj} (h : w.heap[c]? = some o) (hn : ∀ a e f, o ≠ .cells a e f) : (setObj c o').run P w = .ok () (World.setO w c o') := by
  cases o <;> first
    | (exact absurd rfl (hn _ _ _); done)
    | (simp only [setObj, Sem.run, h]; rfl)
/-! ### keys -/
theorem keyOK_form {kt : TypeId} {k : AV} {q : Value} (h : keyOK P kt k = true) (hq : VRel x w k q) :
    ∃ d, P.underlying kt = some d ∧ ((∃ k0 k1 n, d = .int k0 ∧ k = .int k1 n ∧ q = .int k1 n) ∨ (d = .string ∧ ∃ s : ByteArray, k = .str s.data.toList ∧ q = .string s) ∨ (d = .bool ∧ ∃ b, k = .bool b ∧ q = .bool b)) := by
  unfold keyOK at h
  split at h
  · cases hq; exact ⟨_, by assumption, .inl ⟨_, _, _, rfl, rfl, rfl⟩⟩
  · cases hq with | str s l hs => subst hs; exact ⟨_, by assumption, .inr (.inl ⟨rfl, s, rfl, rfl⟩)⟩
  · cases hq; exact ⟨_, by assumption, .inr (.inr ⟨rfl, _, rfl, rfl⟩)⟩
  · cases h
theorem checkKey_run {kt : TypeId} {k : AV} {q : Value} (e : Bool) (n : Nat) (h : keyOK P kt k = true) (hq : VRel x w k q) (u : World) : (Instr.checkKey e (n + 1) kt q).run P u = .ok () u := by
  obtain ⟨d, hd, h⟩ := keyOK_form h hq
  rcases h with ⟨k0, k1, n, rfl, rfl, rfl⟩ | ⟨rfl, s, rfl, rfl⟩ | ⟨rfl, b, rfl, rfl⟩ <;> simp [Instr.checkKey, run_underlying hd]
theorem sameNow_sim {d : TypeDesc} {k k2 : AV} {q q2 : Value} {r : Bool} (hk : (∃ k0 k1 n, d = .int k0 ∧ k = .int k1 n ∧ q = .int k1 n) ∨ (d = .string ∧ ∃ s : ByteArray, k = .str s.data.toList ∧ q = .string s) ∨ (d = .bool ∧ ∃ b, k = .bool b ∧ q = .bool b))
    (h2 : VRel x w k2 q2) (h : eqScalar k k2 = some r) : Instr.sameNow d q q2 = some r := by
  rcases hk with ⟨k0, k1, n, rfl, rfl, rfl⟩ | ⟨rfl, s, rfl, rfl⟩ | ⟨rfl, b, rfl, rfl⟩
  · cases h2 <;> simp [eqScalar] at h
    obtain ⟨rfl, rfl⟩ := h
    simp [Instr.sameNow]
  · cases h2 <;> simp [eqScalar] at h
    rename_i s' l' hs
    subst hs; subst h
    simp only [Instr.sameNow, beq_toListBytes, ByteArray.toList_eq]
  · cases h2 <;> simp [eqScalar] at h
    subst h
    simp [Instr.sameNow]
/-- a key looked for: where it is, what else stands where it stood -/
theorem findE_sim {d : TypeDesc} {k : AV} {q : Value} (hk : (∃ k0 k1 n, d = .int k0 ∧ k = .int k1 n ∧ q = .int k1 n) ∨ (d = .string ∧ ∃ s : ByteArray, k = .str s.data.toList ∧ q = .string s) ∨ (d = .bool ∧ ∃ b, k = .bool b ∧ q = .bool b)) :
    ∀ {es : List (AV × AV × Nat)} {es' : List MapEntry} {r : Option AV} (i : Nat), findE k es = some r → ERel x w es es' →
      (r = none ∧ Instr.findNow d q es' i = some none) ∨ (∃ v j e, r = some v ∧ Instr.findNow d q es' i = some (some (i + j, e.val)) ∧ es'[j]? = some e ∧ VRel x w v e.val ∧ VRel x w k e.key ∧
        ∀ v2 (v2' : Value), VRel x w v2 v2' → ∃ es2, setE k v2 es = some es2 ∧ ERel x w es2 (es'.modify j fun e => { e with key := q, val := v2' }))
  | [], [], r, i, h, _ => by simp [findE] at h; subst h; exact .inl ⟨rfl, rfl⟩
  | (k2, v, b) :: es, ⟨ek, ev, eb⟩ :: es', r, i, h, ⟨h1, h2, h3, h4⟩ => by
    simp only [findE] at h
    simp only at h1 h2 h3
    split at h
    · rename_i hs
      injection h with h; subst h
      have hsn := sameNow_sim hk h1 hs
      refine .inr ⟨v, 0, ⟨ek, ev, eb⟩, rfl, by simp [Instr.findNow, hsn], rfl, h2, ?_, fun v2 v2' hv2 => ⟨(k, v2, b) :: es, by simp [setE, hs], ?_⟩⟩
      · rcases hk with ⟨k0, k1, n, rfl, rfl, rfl⟩ | ⟨rfl, s, rfl, rfl⟩ | ⟨rfl, b, rfl, rfl⟩
        · cases h1 <;> simp [eqScalar] at hs
          obtain ⟨rfl, rfl⟩ := hs
          exact .int _ _
        · cases h1 <;> simp [eqScalar] at hs
          rename_i s' l' hs'
          subst hs'
          exact .str _ _ hs.symm
        · cases h1 <;> simp [eqScalar] at hs
          subst hs
          exact .bool _
      · refine ⟨?_, hv2, h3, h4⟩
        rcases hk with ⟨k0, k1, n, rfl, rfl, rfl⟩ | ⟨rfl, s, rfl, rfl⟩ | ⟨rfl, b, rfl, rfl⟩
        · exact .int _ _
        · exact .str _ _ rfl
        · exact .bool _
    · rename_i hs
      have hsn := sameNow_sim hk h1 hs
      rcases findE_sim hk (i + 1) h h4 with ⟨q1, q2⟩ | ⟨v', j, e', q1, q2, q3, q4, q5, q6⟩
      · exact .inl ⟨q1, by simp [Instr.findNow, hsn, q2]⟩
      · refine .inr ⟨v', j + 1, e', q1, by simp [Instr.findNow, hsn, q2]; omega, by simpa using q3, q4, q5, fun v2 v2' hv2 => ?_⟩
        obtain ⟨es2, r1, r2⟩ := q6 v2 v2' hv2
        exact ⟨(k2, v, b) :: es2, by simp [setE, hs, r1], h1, h2, h3, r2⟩
    · cases h
theorem ERel.length {x : Cx} {w : World} : ∀ {es : List (AV × AV × Nat)} {es' : List MapEntry}, ERel x w es es' → es'.length = es.length
  | [], [], _ => rfl
  | (_, _, _) :: _, _ :: _, ⟨_, _, _, h⟩ => by simp [ERel.length h]
theorem ERel.snoc {x : Cx} {w : World} {k v : AV} {b : Nat} {e : MapEntry} (h1 : VRel x w k e.key) (h2 : VRel x w v e.val) (h3 : e.born = b) : ∀ {es : List (AV × AV × Nat)} {es' : List MapEntry}, ERel x w es es' → ERel x w (es ++ [(k, v, b)]) (es' ++ [e])
  | [], [], _ => ⟨h1, h2, h3, trivial⟩
  | (_, _, _) :: _, _ :: _, ⟨a, b, c, h⟩ => ⟨a, b, c, ERel.snoc h1 h2 h3 h⟩
theorem findKey_run {kt : TypeId} {d : TypeDesc} {q : Value} {es : List MapEntry} {r : Option (Nat × Value)} (hd : P.underlying kt = some d) (h : Instr.findNow d q es 0 = some r) (u : World) : (Instr.findKey kt q es).run P u = .ok r u := by
  simp [Instr.findKey, run_underlying hd, h]
theorem zeroV_run {t : TypeId} {v : AV} (h : zeroV P t = some v) (x : Cx) (w : World) : ∃ z, (zeroValue t).run P w = .ok z w ∧ VRel x w v z := by
  unfold zeroV at h
  split at h
  · rename_i i hi
    split at h
    · rename_i z hz
      exact ⟨z, by simp [zeroValue, run_typeInfo' hi, hz], ofValue_rel h⟩
    · cases h
  · cases h
theorem lookup_end {kt el : TypeId} {k v : AV} {q : Value} {ok : Bool} {es : List (AV × AV × Nat)} {es' : Array MapEntry} (hkey : keyOK P kt k = true) (hk : VRel x w k q) (he : ERel x w es es'.toList)
    (e : lookA P el ok (findE k es) = some v) :
    (∃ i u, (Instr.findKey kt q es'.toList).run P w = .ok (some (i, u)) w ∧ VRel x w v (if ok then .tuple #[u, .bool true] else u)) ∨
    ((Instr.findKey kt q es'.toList).run P w = .ok none w ∧ ∃ z, (zeroValue el).run P w = .ok z w ∧ VRel x w v (if ok then .tuple #[z, .bool false] else z)) := by
  obtain ⟨d, hd, hform⟩ := keyOK_form hkey hk
  unfold lookA at e
  split at e
  · rename_i v0 hf
    injection e with e; subst e
    rcases findE_sim hform 0 hf he with ⟨h1, _⟩ | ⟨v', j, en, h1, h2, h3, h4, _⟩
    · cases h1
    · injection h1 with h1; subst h1
      refine .inl ⟨_, _, findKey_run hd h2 w, ?_⟩
      cases ok
      · exact h4
      · exact .tup _ _ (.cons _ _ _ _ h4 (.one (.bool _)))
  · rename_i hf
    split at e
    · rename_i v0 hv0
      injection e with e; subst e
      obtain ⟨zv, k1, k2⟩ := zeroV_run hv0 x w
      rcases findE_sim hform 0 hf he with ⟨_, h2⟩ | ⟨v', j, en, h1, _⟩
      · refine .inr ⟨findKey_run hd h2 w, zv, k1, ?_⟩
        cases ok
        · exact k2
        · exact .tup _ _ (.cons _ _ _ _ k2 (.one (.bool _)))
      · cases h1
    · cases e
  · cases e
theorem lookup_sim {h : Hp} {t : TypeId} {a k v : AV} {p q : Value} {ok : Bool} (e : lookupA P h t a k ok = some v) (hr : HRel x h.blks.get w) (ha : VRel x w a p) (hk : VRel x w k q) : ∃ r, (Instr.lookup t p q ok).run P w = .ok r w ∧ VRel x w v r := by
  unfold lookupA at e
  split at e
  · rename_i kt el hu
    split at e
    · rename_i hkey
      cases ha <;> simp only [] at e <;> (try (cases e; done))
      case map n c hm =>
        cases hb : h.blks.get n with
        | none => rw [hb] at e; cases e
        | some b =>
          rw [hb] at e
          cases b <;> simp only [] at e <;> (try (cases e; done))
          rename_i es clock
          obtain ⟨c', h1, ⟨es', h2, h3⟩, _⟩ := hr.blk _ _ hb
          rw [hm] at h1; cases h1
          rcases lookup_end (es := es) hkey hk h3 e with ⟨i, u, r1, r2⟩ | ⟨r1, z, r3, r2⟩
          · refine ⟨_, ?_, r2⟩
            simp [Instr.lookup, run_underlying hu, run_getObj' h2, checkKey_run _ 9999 hkey hk, r1]
          · refine ⟨_, ?_, r2⟩
            simp [Instr.lookup, run_underlying hu, run_getObj' h2, checkKey_run _ 9999 hkey hk, r1, r3]
      case nilmap =>
        rcases lookup_end (es := []) (es' := #[]) hkey hk trivial e with ⟨i, u, r1, r2⟩ | ⟨r1, z, r3, r2⟩
        · refine ⟨_, ?_, r2⟩
          simp at r1
          simp [Instr.lookup, run_underlying hu, checkKey_run _ 9999 hkey hk, r1]
        · refine ⟨_, ?_, r2⟩
          simp at r1
          simp [Instr.lookup, run_underlying hu, checkKey_run _ 9999 hkey hk, r1, r3]
    · cases e
  · cases e
theorem update_sim {h h' : Hp} {t : TypeId} {a k v : AV} {p q r : Value} (e : updateA P h t a k v = some h') (hr : HRel x h.blks.get w) (ha : VRel x w a p) (hk : VRel x w k q) (hv : VRel x w v r) :
    ∃ w', (Instr.mapUpdate t p q r).run P w = .ok () w' ∧ Did x h w (.tup []) h' undef w' := by
  unfold updateA at e
  split at e
  · rename_i kt el n hu
    split at e
    · rename_i hkey
      cases ha with | map _ c hm =>
      obtain ⟨d, hd, hform⟩ := keyOK_form hkey hk
      split at e
      · rename_i es clock hb
        obtain ⟨c', h1, ⟨es', h2, h3⟩, _⟩ := hr.blk _ _ hb
        rw [hm] at h1; cases h1
        split at e
        · rename_i v0 hf
          obtain ⟨es2, he2, rfl⟩ := Option.map_eq_some_iff.1 e
          rcases findE_sim hform 0 hf h3 with ⟨h1, _⟩ | ⟨v', j, en, _, q2, q3, q4, q5, q6⟩
          · cases h1
          · obtain ⟨es3, s1, s2⟩ := q6 v r hv
            rw [he2] at s1; injection s1 with s1; subst s1
            have hkeep : ∀ u : World, (Instr.keyThatStays en.key q).run P u = .ok q u := by
              intro u
              rcases hform with ⟨k0, k1, m, rfl, rfl, rfl⟩ | ⟨rfl, s, rfl, rfl⟩ | ⟨rfl, b, rfl, rfl⟩
              · generalize en.key = ek at q5
                cases q5; simp [Instr.keyThatStays, Instr.sameBits]
              · generalize en.key = ek at q5
                cases q5 with | str s' _ hs =>
                have : (s' == s) = true := by rw [beq_toListBytes, ByteArray.toList_eq, ByteArray.toList_eq, hs]; simp
                simp [Instr.keyThatStays, Instr.sameBits, this]
              · generalize en.key = ek at q5
                cases q5; simp [Instr.keyThatStays, Instr.sameBits]
            have hget : es'[j]? = some en := by simpa using q3
            have hnew : ∀ u, Mono x w x u → u.heap[c]? = some (.map (es'.modify j fun e => { e with key := q, val := r }) clock) → BRel x u (x.κ n) c (.map es2 clock) :=
              fun u hmo hu => ⟨_, hu, by simpa using s2.mono hmo⟩
            refine ⟨World.setO w c (.map (es'.modify j fun e => { e with key := q, val := r }) clock), ?_, x, ?_, ?_, undef_rel⟩
            · simp only [Instr.mapUpdate, Sem.run_bind, run_underlying hu, Result.andThen_ok, run_getObj' h2 (by simp), checkKey_run _ 9999 hkey hk, findKey_run hd q2]
              simp only [Nat.zero_add, hget, Option.map_some, Option.getD_some, Sem.run_bind, hkeep, Result.andThen_ok, run_setObj' h2 (by simp)]
            · exact (setObj_sim hb hr hm hnew).1
            · exact (setObj_sim hb hr hm hnew).2
        · rename_i hf
          injection e with e; subst e
          rcases findE_sim hform 0 hf h3 with ⟨_, q2⟩ | ⟨v', j, en, q1, _⟩
          · have hnew : ∀ u, Mono x w x u → u.heap[c]? = some (.map (es'.push { key := q, val := r, born := clock }) (clock + 1)) → BRel x u (x.κ n) c (.map (es ++ [(k, v, clock)]) (clock + 1)) :=
              fun u hmo hu => ⟨_, hu, by simpa using ERel.snoc (e := { key := q, val := r, born := clock }) (hk.mono hmo) (hv.mono hmo) rfl (h3.mono hmo)⟩
            refine ⟨World.setO w c (.map (es'.push { key := q, val := r, born := clock }) (clock + 1)), ?_, x, (setObj_sim hb hr hm hnew).1, (setObj_sim hb hr hm hnew).2, undef_rel⟩
            simp only [Instr.mapUpdate, Sem.run_bind, run_underlying hu, Result.andThen_ok, run_getObj' h2 (by simp), checkKey_run _ 9999 hkey hk, findKey_run hd q2, run_setObj' h2 (by simp)]
          · cases q1
        · cases e
      · cases e
    · cases e
  · cases e
theorem makeMap_sim {h : Hp} {t : TypeId} (hr : HRel x h.blks.get w) (hf : x.m h.next = none) : ∃ r w', (Instr.makeMap t none).run P w = .ok r w' ∧ Did x h w (.map (h.new (.map [] 0)).2) (h.new (.map [] 0)).1 r w' := by
  obtain ⟨y, k1, k2, k3, _⟩ := new_sim (b := .map [] 0) (o := .map #[] 0) 0 hr hf (fun y u hm hu => ⟨#[], hu, trivial⟩)
  refine ⟨_, _, ?_, y, k1, k2, .map _ _ k3⟩
  simp [Instr.makeMap]
end Go.Abs
