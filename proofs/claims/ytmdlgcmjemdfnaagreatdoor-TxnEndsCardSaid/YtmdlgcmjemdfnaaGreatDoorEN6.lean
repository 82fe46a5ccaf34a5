/- What is proved: a part of the proof of the tied card of TxnEnds (text EN6 of it). Conditions: those that its theorems name. -/
import Derived.Test.YtmdlgcmjemdfnaaGreatDoorEN5
import Derived.Test.YtmdlgcmjemdfnaaGreatDoorEFx
set_option linter.unusedVariables false
set_option linter.unusedSimpArgs false
set_option linter.unusedSectionVars false
namespace Go.Proofs.YtmdlgcmjemdfnaaGreatDoor
open Go.ChangeShapes Go.WideShapes Go.ChangeAt Go.WideMaps Go.WideElems Go.RowKit Go.Abs
theorem laidOut' : laidOutB Tryz.prog = true := Go.Abs.laidOut
theorem noInit : Tryz.prog.inits.idxOf? 3 = none := by kernel_rfl
theorem cells44 : Tryz.prog.cellsOf 44 = 34 := by kernel_rfl
theorem read44 : Tryz.prog.readableRec 44 = true := by kernel_rfl
theorem row44 : 44 < Tryz.prog.types.size := of_decide_eq_true (by kernel_rfl)
noncomputable def fields44 : Array Field := match Tryz.prog.underlying 44 with
  | some (.struct fs) => fs
  | _ => #[]
theorem under44 : Tryz.prog.underlying 44 = some (.struct fields44) := by kernel_rfl
set_option maxRecDepth 100000 in
theorem lifted (os : Os) (started : os.Started) (H : Type) (enc : TypeId × Value → H) :
    ReturnsInHanded {} Tryz.checked os 3 .any (fun w args => (Rows.txnEndsSpec.pre enc Tryz.prog Tryz.f3 [] false w args ∧ laidMetH Tryz.prog Rows.txnEndsRow.laid w) ∧ sizedMet enc Tryz.prog Tryz.f3 (OpenSpec.ofChange Rows.txnEndsSpec) false w args)
      (Rows.txnEndsSpec.post enc Tryz.prog Tryz.f3 false true false false) := by
  refine returnsInHanded_of_change_and (C := Tryz.checked) (X := fun w _ => laidMetH Tryz.prog Rows.txnEndsRow.laid w) (fun _ _ _ hh h => h.of_heap hh) own started noInit Tryz.func3
    (ChangeSpec.witness_shaped (enc := enc) (C := Tryz.checked) (os := os) (X := fun w _ => laidMetH Tryz.prog Rows.txnEndsRow.laid w) false (start os) wit 8 rfl (shaped os wit) (w1 os) (w2 H enc os) (w3 H enc os) (met os _)) ?_
  intro W base args ds gs before hval0 hW _ hwt hL _
  have hval : ∀ (j : Nat) t v, Tryz.f3.params[j]? = some t → args[j]? = some v → Value.okWide Tryz.prog W .any base t v := hval0
  have hW' := hW
  obtain ⟨p, q, hA0, hV, rfl, hfz, hnd⟩ := hW
  have hA : DataW.TrodAll enc Tryz.prog W 0 (fun _ => true) true Tryz.f3.params.toList args.toList ds p := hA0
  have hwt2 : (DataW.weightsEach Tryz.prog (Tryz.f3.params.toList ++ Rows.txnEndsSpec.plain.varTypes Tryz.prog) (ds ++ gs)).all (· ≤ reachBytes) = true := hwt
  rw [Tryz.params3] at hA hval hwt2
  obtain ⟨v0, vs0, d0, ds0, p0, q0, hargs, rfl, rfl, h0, r0⟩ := trodAll_cons hA
  obtain ⟨v1, vs1, d1, ds1, p1, q1, rfl, rfl, rfl, h1, r1⟩ := trodAll_cons r0
  obtain ⟨rfl, rfl, rfl⟩ := trodAll_nil r1
  obtain rfl : args = #[v0, v1] := by cases args; simp_all
  obtain ⟨rfl, rfl⟩ := trodVars_none hV
  obtain ⟨cs, rfl, hcs⟩ := okWide_struct under44 (hval 0 44 v0 rfl rfl)
  have k0 := h0
  have lt0 : ∀ x ∈ p0, x.block < W.heap.size := by obtain ⟨m, hm⟩ := k0; exact DataW.trod_lt m _ _ _ hm
  obtain ⟨n, rfl, rfl, rfl, wn⟩ := open_int Tryz.underlying3 (hval 1 3 v1 rfl rfl) h1
  have hsm : ∀ m ∈ d0.weights Tryz.prog 44, m ≤ reachBytes := fun m hm => by
    have := List.all_eq_true.1 hwt2 m (DataW.weights_mem_each (j := 0) (t := 44) (d := d0) rfl rfl m hm)
    exact of_decide_eq_true this
  obtain ⟨fuel, hf⟩ := h0
  have hrd := rd_of (weights_bounds Tryz.prog) fuel 20 20 27 44 exS opS _ _ len_ex wt_ex fit_ex fit_op hf hsm
  clear hA0 hval0
  refine (ends_walk cs fuel W (.int .i64 n) rfl hrd).mono fun e W' ⟨he, bel⟩ => ?_
  subst he
  exact ⟨_, rfl, _, _, _, [], _, [], hW', trodAll_mk1 (shut_bool Tryz.underlying4 _), (trodAll_cons_mk (Below.trod laidOut' read44 row44 k0 bel lt0) (trodAll_cons_mk (shut_int Tryz.underlying3 wn) trodAll_mk0)), rfl, bel.frame _, fun h => by cases h⟩
end Go.Proofs.YtmdlgcmjemdfnaaGreatDoor
