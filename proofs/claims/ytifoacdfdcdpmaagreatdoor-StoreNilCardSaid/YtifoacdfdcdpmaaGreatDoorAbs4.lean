/- What is proved: a part of the proof of the tied card of StoreNil (text Abs4 of it). Conditions: those that its theorems name. -/
import Derived.Test.YtifoacdfdcdpmaaGreatDoorAbs3
set_option linter.unusedVariables false
set_option linter.unusedSimpArgs false
namespace Go.Abs
variable {P : Program} {x : Cx} {w : World}
theorem run_typeInfo' {t : TypeId} {i : TypeInfo} (h : P.info? t = some i) (w : World) : (typeInfo t).run P w = .ok i w := by simp [typeInfo, h]
theorem run_sizeOf' {t : TypeId} {s : Nat} (h : sizeT P t = some s) (w : World) : (sizeOf t).run P w = .ok s w := by
  obtain ⟨i, h1, h2⟩ := Option.map_eq_some_iff.1 h
  simp [sizeOf, run_typeInfo' h1, h2]
theorem isAggT_true {t : TypeId} (h : isAggT P t = some true) (w : World) : (isAgg t).run P w = .ok true w := by
  unfold isAggT at h
  split at h
  · rename_i h1; simp [isAgg, run_underlying h1]
  · rename_i h1; simp [isAgg, run_underlying h1]
  · cases h
  · cases h
theorem isAggT_false {t : TypeId} (h : isAggT P t = some false) (w : World) : (isAgg t).run P w = .ok false w := by
  unfold isAggT at h
  split at h
  · cases h
  · cases h
  · rename_i d h1 h2 h3
    simp only [isAgg, Sem.run_bind, run_underlying h3, Result.andThen_ok]
    rfl
  · cases h
theorem run_zeroValue' {t : TypeId} {z : List AV} (h : zeroT P t = some z) (w : World) : ∃ v, (zeroValue t).run P w = .ok v w ∧ ∀ (x : Cx) (u : World), VRels x u z v.cells.toList := by
  unfold zeroT at h
  split at h
  · rename_i i hi
    split at h
    · rename_i v hv
      split at h
      · rename_i a ha
        injection h with h
        subst h
        exact ⟨v, by simp [zeroValue, run_typeInfo' hi, hv], fun x u => (ofValue_rel ha).cells⟩
      · cases h
    · cases h
  · cases h
/-- a value out of its cells -/
theorem asVal_rel {t : TypeId} {cs : List AV} {v : AV} {us : List Value} (h : asVal P t cs = some v) (hr : VRels x w cs us) :
    (isAggT P t = some true ∧ VRel x w v (.agg us.toArray)) ∨ (isAggT P t = some false ∧ ∃ u, us = [u] ∧ cs.length = 1 ∧ VRel x w v u) := by
  unfold asVal at h
  split at h
  · rename_i h1
    injection h with h
    subst h
    exact .inl ⟨h1, .agg _ _ (by simpa using hr)⟩
  · rename_i h1
    injection h with h
    subst h
    cases hr with
    | cons _ u _ _ h2 h3 => cases h3; exact .inr ⟨h1, u, rfl, rfl, h2⟩
  · cases h
theorem loadVar_sim {t : TypeId} {cs : List AV} {v : AV} {us : List Value} {a : Addr} {s : Nat} (hs : sizeT P t = some s) (hl : cs.length = s) (h : asVal P t cs = some v) (hr : VRels x w cs us) (hc : ∀ i u, us[i]? = some u → w.cell? (a.add i) = some u) :
    ∃ r, (loadVar t a).run P w = .ok r w ∧ VRel x w v r := by
  have hu := hr.length
  rcases asVal_rel h hr with ⟨h1, h2⟩ | ⟨h1, u, rfl, h3, h2⟩
  · refine ⟨_, ?_, h2⟩
    have := run_loadCells_list (P := P) w a us hc
    rw [hu, hl] at this
    simp [loadVar, isAggT_true h1, run_sizeOf' hs, this]
  · refine ⟨u, ?_, h2⟩
    have h0 := hc 0 u rfl
    have ha : a.add 0 = a := by simp [Addr.add]
    rw [ha] at h0
    simp [loadVar, isAggT_false h1, h0]
theorem load_sim {h : Hp} {t : TypeId} {a v : AV} {p : Value} (e : loadA P h t a = some v) (hr : HRel x h.blks.get w) (ha : VRel x w a p) :
    ∃ r, (Instr.loadAt t p).run P w = .ok r w ∧ VRel x w v r := by
  unfold loadA at e
  split at e
  · rename_i n off
    split at e
    · rename_i s hs
      split at e
      · rename_i cs hcs
        obtain ⟨c, us, h1, h2, h3, h4, _⟩ := read_sim hcs hr
        cases ha with
        | ptr _ c' _ hm =>
          rw [h1] at hm
          cases hm
          obtain ⟨r, r1, r2⟩ := loadVar_sim (a := ⟨c, off, none⟩) hs h3 e h2 (fun i u hi => by rw [add_lit']; exact h4 i u hi)
          exact ⟨r, by simp [Instr.loadAt, Instr.sureAddr, r1], r2⟩
      · cases e
    · cases e
  · rename_i cells
    split at e
    · rename_i s hs
      split at e
      · rename_i cs hcs
        cases ha with
        | lptr _ vs a hv hl =>
          have hc2 := cut_rel hcs hv
          obtain ⟨r, r1, r2⟩ := loadVar_sim (a := a) hs (cut_len hcs).2.2 e hc2 (fun i u hi => hl.2 i u (by
            rw [List.getElem?_take] at hi
            split at hi
            · simpa using hi
            · cases hi))
          exact ⟨r, by simp [Instr.loadAt, Instr.sureAddr, r1], r2⟩
      · cases e
    · cases e
  · cases e
/-- what an operation has come to -/
def Did (x : Cx) (h : Hp) (w : World) (v : AV) (h' : Hp) (r : Value) (w' : World) : Prop :=
  ∃ y, Ext x h.blks.get h.next w y h'.blks.get h'.next w' ∧ HRel y h'.blks.get w' ∧ VRel y w' v r
theorem Did.same {h : Hp} {v : AV} {r : Value} (hr : HRel x h.blks.get w) (hv : VRel x w v r) : Did x h w v h r w := ⟨x, Ext.refl, hr, hv⟩
theorem undef_rel : VRel x w (.tup []) undef := .tup _ _ .nil
theorem store_sim {h h' : Hp} {t : TypeId} {a v : AV} {p q : Value} (e : storeA P h t a v = some h') (hr : HRel x h.blks.get w) (ha : VRel x w a p) (hv : VRel x w v q) :
    ∃ w', (Instr.storeAt t p q).run P w = .ok () w' ∧ Did x h w (.tup []) h' undef w' := by
  unfold storeA at e
  split at e
  · rename_i n off
    split at e
    · rename_i s hs
      split at e
      · rename_i hl
        cases ha with
        | ptr _ c _ hm =>
          obtain ⟨c', arr, t', h1, h2, h3, h4, h5, h6⟩ := write_sim e hr hv.cells
          rw [hm] at h1
          cases h1
          have hst := run_storeCells_at P c off t' q.cells.toList 0 arr w h2 (by simpa using h3) h4
          obtain ⟨k1, k2⟩ := h6 _ rfl
          simp only [Nat.add_zero] at hst
          have hlen := hv.cells.length
          have hsz : q.cells.size = s := by rw [← Array.length_toList, hlen, hl]
          refine ⟨_, ?_, x, k1, k2, undef_rel⟩
          simp [Instr.storeAt, Instr.sureAddr, storeVar, run_sizeOf' hs, hsz, hst]
      · cases e
    · cases e
  · cases e
theorem alloc_sim {h : Hp} {t : TypeId} {z : List AV} (e : zeroT P t = some z) (hr : HRel x h.blks.get w) (hf : x.m h.next = none) :
    ∃ r w', (Instr.alloc t true (.tuple #[])).run P w = .ok r w' ∧ Did x h w (.ptr (h.new (.cells z t)).2 0) (h.new (.cells z t)).1 r w' := by
  obtain ⟨v, h1, h2⟩ := run_zeroValue' e w
  obtain ⟨y, k1, k2, k3, _⟩ := new_sim (b := .cells z t) (o := .cells v.cells t) _ hr hf (fun y u hm hu => ⟨_, _, hu, h2 y u, List.prefix_refl _, rfl⟩)
  refine ⟨_, _, ?_, y, k1, k2, .ptr _ _ 0 k3⟩
  simp [Instr.alloc, h1, newVar, newRow]
theorem box_sim {h : Hp} {t : TypeId} {v : AV} {q : Value} (hv : VRel x w v q) (hr : HRel x h.blks.get w) (hf : x.m h.next = none) :
    ∃ r w', (Instr.box t q).run P w = .ok r w' ∧ Did x h w (.ptr (h.new (.cells v.cells t)).2 0) (h.new (.cells v.cells t)).1 r w' := by
  obtain ⟨y, k1, k2, k3, _⟩ := new_sim (b := .cells v.cells t) (o := .cells q.cells t) _ hr hf (fun y u hm hu => ⟨_, _, hu, (hv.mono hm).cells, List.prefix_refl _, rfl⟩)
  refine ⟨_, _, ?_, y, k1, k2, .ptr _ _ 0 k3⟩
  simp [Instr.box, newVar, newRow]
end Go.Abs
