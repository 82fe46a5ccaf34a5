/- What is proved: a part of the proof of the tied card of StoreNil (text Abs10 of it). Conditions: those that its theorems name. -/
import Derived.Test.YtifoacdfdcdpmaaGreatDoorAbs9
import Derived.Laws.IdiomStrings
set_option linter.unusedVariables false
set_option linter.unusedSimpArgs false
namespace Go.Abs
variable {P : Program} {x : Cx} {w : World}
theorem HRel.drew {hm : HM} (h : HRel x hm w) : HRel x hm w.drew :=
  ⟨fun n b e => by
    obtain ⟨c, e1, e2, e3⟩ := h.blk n b e
    have hm : Mono x w x w.drew := ⟨fun _ _ h => h, fun _ _ _ => rfl, fun _ h => h, rfl, fun _ _ => rfl⟩
    exact ⟨c, e1, BRel.mono (w' := w.drew) hm rfl e2, e3⟩, h.inj, h.fb, h.mb⟩
theorem mono_drew : Mono x w x w.drew := ⟨fun _ _ h => h, fun _ _ _ => rfl, fun _ h => h, rfl, fun _ _ => rfl⟩
theorem Did.drew {h h' : Hp} {v : AV} {r : Value} {w' : World} (hn : h.next ≤ h'.next) (d : Did x h w.drew v h' r w') : Did x h w v h' r w' := by
  obtain ⟨y, e, k, l⟩ := d
  exact ⟨y, Ext.trans (Ext.drew (x := x) (n := h.next)) e (Nat.le_refl _) hn, k, l⟩
/-- memory that stays: a new block of it -/
theorem stay_sim {h : Hp} {arr : Array Value} {e : TypeId} {fr : Nat × Nat} (hr : HRel x h.blks.get w) {cells : List AV} {len cap : Nat} (hc : len ≤ cap) (hv : ∀ y u, VRels y u cells (arr.toList.take cells.length)) :
    Did x h w (.lst len cells) h (.slice (some ⟨w.heap.size, 0, none⟩) len cap) (w.alloc (.cells arr e fr)) := by
  have hmono : Mono x w { x with F := fun c => x.F c ∨ c = w.heap.size } (w.alloc (.cells arr e fr)) := ⟨fun _ _ h => h, fun _ _ _ => rfl, fun _ h => .inl h, rfl, fun c hc => heap_alloc_old _ _ _ (hr.fb c hc)⟩
  refine ⟨_, ⟨hmono.m, hmono.κ, fun _ _ => rfl, hmono.F, fun c hc => hc.imp id (fun e => by omega), rfl, rfl, rfl, rfl, by show _ ≤ (w.heap.push _).size; simp, fun c hc _ => heap_alloc_old _ _ _ hc, fun n b c e hx => .inl ⟨n, b, e, hx⟩⟩, ⟨fun n b e => ?_, hr.inj, fun c hc => ?_, fun n c hx => ?_⟩, ?_⟩
  · obtain ⟨c, e1, e2, e3⟩ := hr.blk n b e
    refine ⟨c, e1, e2.mono hmono (heap_alloc_old _ _ _ e2.lt), fun hF => ?_⟩
    rcases hF with hF | hF
    · exact e3 hF
    · have := e2.lt; omega
  · show c < (w.heap.push _).size
    rw [Array.size_push]
    rcases hc with hc | hc
    · have := hr.fb c hc; omega
    · omega
  · show c < (w.heap.push _).size
    rw [Array.size_push]
    have := hr.mb n c hx; omega
  · refine .lst _ _ _ _ _ hc (by simp) (hv _ _) (fun _ => ⟨_, rfl, .inr rfl, fun i v hi => ?_⟩)
    rw [add_lit']
    have : arr.toList[i]? = some v := by
      rw [List.getElem?_take] at hi
      split at hi
      · exact hi
      · cases hi
    simp only [World.cell?, heap_alloc_new]
    simpa using this
theorem bytes_rel (x : Cx) (w : World) : ∀ l : List UInt8, VRels x w (l.map fun b => AV.int .u8 b.toNat) (l.map fun b => Value.int .u8 b.toNat)
  | [] => .nil
  | b :: l => .cons _ _ _ _ (.int _ _) (bytes_rel x w l)
theorem conv_sim {h : Hp} {s d : TypeId} {a v : AV} {p : Value} (e : convA P s d a = some v) (hr : HRel x h.blks.get w) (ha : VRel x w a p) : ∃ r w', (convert s d p).run P w = .ok r w' ∧ Did x h w v h r w' := by
  unfold convA at e
  split at e
  · rename_i t k k' n h1 h2
    injection e with e; subst e
    cases ha
    refine ⟨_, _, ?_, Did.same hr (.int _ _)⟩
    cases t <;> simp [convert, run_underlying h1, run_underlying h2, Conv.intToInt]
  · rename_i l h1 h2
    injection e with e; subst e
    cases ha with | str s' _ hs =>
    exact ⟨_, _, by simp [convert, run_underlying h1, run_underlying h2], Did.same hr (.str _ _ hs)⟩
  · rename_i t l h1 h2
    split at e
    · rename_i h3
      split at e
      · rename_i hle
        injection e with e; subst e
        cases ha with | str s' _ hs =>
        subst hs
        have hlen : s'.data.toList.length = s'.size := by rw [Array.length_toList]; rfl
        rw [hlen]
        refine ⟨_, _, run_bytes_of_string w s d _ s' h1 h2 h3, Did.drew (Nat.le_refl _) (stay_sim hr.drew (grownCap_ge w s'.size 0 _) (fun y u => ?_))⟩
        have e1 : (bytesRow s' (grownCap w s'.size 0 t)).toList.take (s'.data.toList.map fun b => AV.int .u8 b.toNat).length = s'.data.toList.map fun b => Value.int .u8 b.toNat := by
          rw [List.length_map]
          unfold bytesRow
          simp
        rw [e1]
        exact bytes_rel y u _
      · cases e
    · cases e
  · cases e
end Go.Abs
