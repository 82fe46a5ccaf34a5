/- What is proved: the tied card of the statement TxnEnds: for every input the call returns true and leaves its arguments as they read. Conditions: those of the given statement alone. -/
import Derived.Test.YtmdlgcmjemdfnaaGreatDoorEN7
import Derived.Test.YtmdlgcmjemdfnaaGreatDoorEGoes
import Derived.Test.YtmdlgcmjemdfnaaGreatDoorTie
import Derived.Test.YtmdlgcmjemdfnaaGreatDoorCards
import Derived.SevenTiedAt
set_option linter.unusedVariables false
set_option linter.unusedSimpArgs false
set_option linter.unusedSectionVars false
namespace Go.Proofs.YtmdlgcmjemdfnaaGreatDoor
open Go
theorem stand : ([44, 3].all fun u => !Tryz.prog.wantsStandIn u) = true := by kernel_rfl
theorem c_wf : Rows.txnEndsRow.wfByText (OpenSpec.ofChange Rows.txnEndsSpec) = true := by kernel_rfl
theorem c_main : Tryz.pinned.checked.prog.mainIs = some (Rows.txnEndsCard.stood.harness.1, Rows.txnEndsCard.stood.harness.2.toList) := by kernel_rfl
theorem c_looks : true = Tryz.prog.looks [] := by kernel_rfl
theorem c_goes : false = Rows.txnEndsRow.goesBy Tryz.prog := by
  unfold OpenClaim.goesBy Program.goesAt Program.goesFrom
  rw [fn3, Option.any_some, goes_off, Bool.false_or]
  rfl
theorem c_fun : ∀ f fn, Tryz.pinned.checked.prog.funcNamed Rows.txnEndsRow.func = some f → Tryz.pinned.checked.prog.funcs[f]? = some fn → true = Tryz.pinned.checked.prog.looks [] ∧ ∀ (j : Nat) t, fn.params[j]? = some t → Tryz.pinned.checked.prog.wantsStandIn t = false := by
  intro f fn hf hfn
  obtain rfl : f = 3 := Option.some.inj (fn3.symm.trans hf) |>.symm
  obtain rfl : fn = Tryz.f3 := (Option.some.inj (Tryz.func3.symm.trans hfn)).symm
  refine ⟨c_looks, fun j t ht => ?_⟩
  rw [Tryz.params3] at ht
  have hm : t ∈ [44, 3] := by simpa using Array.mem_of_getElem? ht
  exact (show Tryz.prog.wantsStandIn t = false by simpa using List.all_eq_true.1 stand t hm)
/-- THE CARD -/
theorem txnEnds_card : Rows.TxnEndsCardSaid :=
  Claim7.holds_tied_plain_at .later [] Rows.txnEndsCard.laidKinds true Rows.txnEndsCard.stood.harness true
    txnEnds_holds (fun _ h => by cases h) c_wf (fun _ h => by cases h) txnEnds_row_tie rfl ⟨rfl, rfl⟩ c_main rfl c_fun c_goes
#print axioms txnEnds_card
end Go.Proofs.YtmdlgcmjemdfnaaGreatDoor
