/- What is proved: the tied card of the statement StoreNil: for every input the call returns true and leaves its arguments as they read. Conditions: those of the given statement alone. -/
import Derived.Test.YtifoacdfdcdpmaaGreatDoorNil7
import Derived.Test.YtifoacdfdcdpmaaGreatDoorGoes
import Derived.Test.YtifoacdfdcdpmaaGreatDoorTie
import Derived.Test.YtifoacdfdcdpmaaGreatDoorCards
import Derived.SevenTiedAt
namespace Go.Proofs.YtifoacdfdcdpmaaGreatDoor
open Go
theorem stand : ([29, 9, 3].all fun u => !Tryz.prog.wantsStandIn u) = true := by kernel_rfl
theorem c_wf : Rows.storeNilRow.wfByText (OpenSpec.ofChange Rows.storeNilSpec) = true := by kernel_rfl
theorem c_main : Tryz.pinned.checked.prog.mainIs = some (Rows.storeNilCard.stood.harness.1, Rows.storeNilCard.stood.harness.2.toList) := by kernel_rfl
theorem c_looks : false = Tryz.prog.looks [] := by kernel_rfl
theorem c_goes : false = Rows.storeNilRow.goesBy Tryz.prog := by
  unfold OpenClaim.goesBy Program.goesAt Program.goesFrom
  rw [fn3, Option.any_some, goes_off, Bool.false_or]
  rfl
theorem c_fun : ∀ f fn, Tryz.pinned.checked.prog.funcNamed Rows.storeNilRow.func = some f → Tryz.pinned.checked.prog.funcs[f]? = some fn → false = Tryz.pinned.checked.prog.looks [] ∧ ∀ (j : Nat) t, fn.params[j]? = some t → Tryz.pinned.checked.prog.wantsStandIn t = false := by
  intro f fn hf hfn
  obtain rfl : f = 3 := Option.some.inj (fn3.symm.trans hf) |>.symm
  obtain rfl : fn = Tryz.f3 := (Option.some.inj (Tryz.func3.symm.trans hfn)).symm
  refine ⟨c_looks, fun j t ht => ?_⟩
  rw [Tryz.params3] at ht
  have hm : t ∈ [29, 9, 3] := by simpa using Array.mem_of_getElem? ht
  exact (show Tryz.prog.wantsStandIn t = false by simpa using List.all_eq_true.1 stand t hm)
/-- THE CARD -/
theorem storeNil_card : Rows.StoreNilCardSaid :=
  Claim7.holds_tied_plain_at .later [] Rows.storeNilCard.laidKinds true Rows.storeNilCard.stood.harness false
    storeNil_holds (fun _ h => by cases h) c_wf (fun _ h => by cases h) storeNil_row_tie rfl ⟨rfl, rfl⟩ c_main rfl c_fun c_goes
#print axioms storeNil_card
end Go.Proofs.YtifoacdfdcdpmaaGreatDoor
