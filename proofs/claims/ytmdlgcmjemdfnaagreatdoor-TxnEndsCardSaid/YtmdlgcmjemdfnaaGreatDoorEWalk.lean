/- What is proved: a part of the proof of the tied card of TxnEnds (text EWalk of it). Conditions: those that its theorems name. -/
import Derived.Test.YtmdlgcmjemdfnaaGreatDoorEEnv
import Derived.Test.YtmdlgcmjemdfnaaGreatDoorELaw
import Derived.SizedLaws
set_option linter.unusedVariables false
set_option linter.unusedSimpArgs false
set_option linter.unusedSectionVars false
set_option maxRecDepth 100000
namespace Go.Abs
open Go.Proofs
noncomputable section
def opT : List Ck := [.any, .sl [.sl valS], .any, .any, .any, .any, .any, .any, .sl exS, .sl exS, .any, .any,
  .any, .sl valS, .sl intS, .sl frS, .sl exS,
  .any, .any, .any, .any, .any, .any, .any, .any, .any, .any, .any, .any, .any, .any, .any, .any]
def opS : List Ck := .num :: opT
theorem fit_ex : fitC Tryz.prog 20 27 27 exS = true := by kernel_rfl
theorem fit_op : fitC Tryz.prog 20 27 44 opS = true := by kernel_rfl
theorem len_ex : exS.length = Tryz.prog.cellsOf 27 := by kernel_rfl
theorem wt_ex : wt exS ≤ Tryz.prog.bytesOf 27 := of_decide_eq_true (by kernel_rfl)
/-- the weights of a reading bound it -/
theorem weights_all {H : Type} {P : Program} {e : TypeId} : ∀ {es : List (DataW H)} {y : DataW H}, y ∈ es → ∀ m ∈ y.weights P e, m ∈ DataW.weightsAll P e es
  | [], _, h, _, _ => by cases h
  | d :: r, y, h, m, hm => by
    unfold DataW.weightsAll
    rcases List.mem_cons.1 h with rfl | h
    · exact List.mem_append_left _ hm
    · exact List.mem_append_right _ (weights_all h m hm)
theorem weights_bounds {H : Type} (P : Program) : Bounds (H := H) P (fun t d => ∀ m ∈ d.weights P t, m ≤ reachBytes) where
  sl t e es sp hu h := by
    have hw : DataW.weights P t (.slice es sp) = (es.length + sp.length) * P.bytesOf e :: (DataW.weightsAll P e es ++ DataW.weightsAll P e sp) := by
      simp only [DataW.weights, hu]
    rw [hw] at h
    refine ⟨?_, fun y hy m hm => h m (List.mem_cons_of_mem _ (List.mem_append_left _ (weights_all hy m hm)))⟩
    have h1 := h _ List.mem_cons_self
    have h2 : es.length * P.bytesOf e ≤ (es.length + sp.length) * P.bytesOf e := Nat.mul_le_mul_right _ (Nat.le_add_right _ _)
    have h3 := reachBytes_lt
    omega
  st t fs ps hu h i f p hf hp m hm := by
    have hw : DataW.weights P t (.agg ps) = DataW.weightsEach P (fs.toList.map (·.type)) ps := by
      simp only [DataW.weights, hu]
    rw [hw] at h
    refine h m (DataW.weights_mem_each (j := i) ?_ hp m hm)
    rw [List.getElem?_map]
    have : fs.toList[i]? = some f := by simpa using hf
    rw [this]
    rfl
/-- THE WALK -/
theorem ends_walk (cs : Array Value) (n : Nat) (w : World) (wall : Value) (hw : wall.oneCell' = true) (hrd : RdL (fun c => c < w.heap.size) w n exS opS cs.toList) :
    Calls Tryz.prog 3 #[.agg cs, wall] w fun e w' => e = .returned (.bool true) ∧ RowKit.Below w.heap.size w w' := by
  obtain ⟨cs⟩ := cs
  match cs, hrd with
  | _, .num _ _ z _ l' hz hs =>
  letI : Bnd := ⟨n + 1⟩
  have ht := avs_rel (F := fun c => c < w.heap.size) (w := w) (d := n) (S := exS) (L := slsOf opT l') (Nat.le_refl _) hs [] rfl
  have go : ∀ k : AV, VRel (ownCx (fun c => c < w.heap.size) ⟨fun i => ((slsOf opT l')[i]?).getD undef, 0, n + 1⟩) w k (.int .i64 z) → ((runF Tryz.prog SgT 100000).call 3 [opAV k, .any] ⟨.lf, 0⟩).map (·.1) = some (.bool true) →
      Calls Tryz.prog 3 #[.agg ⟨.int .i64 z :: l'⟩, wall] w fun e w' => e = .returned (.bool true) ∧ RowKit.Below w.heap.size w w' := by
    intro k hk hrun
    refine Calls.mono (own_call envT hrun (.cons _ _ _ _ (.agg _ _ (.cons _ _ _ _ hk ht)) (.one (.any _ hw))) (fun c h => h)) (fun e w' hh => ?_)
    obtain ⟨r, rfl, hlow, y, hy⟩ := hh
    cases hy
    exact ⟨rfl, hlow.1, hlow.2.1, hlow.2.2.1, hlow.2.2.2.1, hlow.2.2.2.2⟩
  by_cases h0 : z ≤ 0
  · exact go _ (.una _ _ _ _ ⟨hz.1, h0⟩) law0
  by_cases h10 : 10 ≤ z
  · exact go _ (.una _ _ _ _ ⟨h10, hz.2⟩) law10
  have hz9 : z = 1 ∨ z = 2 ∨ z = 3 ∨ z = 4 ∨ z = 5 ∨ z = 6 ∨ z = 7 ∨ z = 8 ∨ z = 9 := by omega
  rcases hz9 with rfl | rfl | rfl | rfl | rfl | rfl | rfl | rfl | rfl
  · exact go _ (.int _ _) law1
  · exact go _ (.int _ _) law2
  · exact go _ (.int _ _) law3
  · exact go _ (.int _ _) law4
  · exact go _ (.int _ _) law5
  · exact go _ (.int _ _) law6
  · exact go _ (.int _ _) law7
  · exact go _ (.int _ _) law8
  · exact go _ (.int _ _) law9
end
end Go.Abs
