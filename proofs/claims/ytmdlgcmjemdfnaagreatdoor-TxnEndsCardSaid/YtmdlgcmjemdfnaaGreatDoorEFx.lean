/- What is proved: a part of the proof of the tied card of TxnEnds (text EFx of it). Conditions: those that its theorems name. -/
import Derived.Test.YtmdlgcmjemdfnaaGreatDoorRows
import Derived.KernelRfl
import Derived.JoinedOf
set_option linter.unusedVariables false
set_option linter.unusedSimpArgs false
set_option linter.unusedSectionVars false
namespace Go.Proofs.YtmdlgcmjemdfnaaGreatDoor
open Go
theorem x_wf : Rows.txnEndsRow.wf (OpenSpec.ofChange Rows.txnEndsSpec) = true := by kernel_rfl
theorem x_maps : mapsRowed Tryz.prog = true := by kernel_rfl
theorem x_params : Tryz.f3.params.all (Tryz.prog.readableRec ·) = true := by kernel_rfl
theorem x_namedTie : namedTie Tryz.prog Rows.txnEndsRow.named Rows.txnEndsSpec.vars = true := by kernel_rfl
theorem x_stops : ((Rows.txnEndsRow.stops == []) && (Tryz.prog.stops == []) && (Rows.txnEndsRow.knobs == []) && (Tryz.prog.stopKnobs == [])) = true := by kernel_rfl
theorem x_ios : ((Rows.txnEndsRow.maps == (Tryz.f3.params.toList ++ Rows.txnEndsSpec.plain.varTypes Tryz.prog).any (Tryz.prog.mapsRec ·)) && (Rows.txnEndsRow.ifaces == (Tryz.f3.params.toList ++ Rows.txnEndsSpec.plain.varTypes Tryz.prog).any (Tryz.prog.ifacesRec ·)) && (Rows.txnEndsRow.mapsOut == Tryz.prog.mapsAmong Tryz.f3.resultTypes.toList) &&
  (Rows.txnEndsRow.loops == (Tryz.f3.params.toList ++ Rows.txnEndsSpec.plain.varTypes Tryz.prog).any (Tryz.prog.loopsFrom ·)) && (Rows.txnEndsRow.wideKeys == (Tryz.f3.params.toList ++ Rows.txnEndsSpec.plain.varTypes Tryz.prog ++ Tryz.f3.resultTypes.toList).any (Tryz.prog.wideKeysFrom ·))) = true := by kernel_rfl
theorem x_outs : (Rows.txnEndsSpec.vars.all (Tryz.prog.varReadable ·) && Tryz.f3.resultTypes.all (fun t => Tryz.prog.readableRec t && decide (t < Tryz.prog.types.size)) && (Rows.txnEndsRow.ifacesOut == Tryz.f3.resultTypes.toList.any (Tryz.prog.ifacesRec ·)) && (Rows.txnEndsRow.loopsOut == Tryz.f3.resultTypes.toList.any (Tryz.prog.loopsFrom ·))) = true := by kernel_rfl
theorem x_plainKeys : (Rows.txnEndsRow.plainKeys == Tryz.prog.plainKeys) = true := by kernel_rfl
theorem x_heard : (Rows.txnEndsRow.shortTexts.isNone && Tryz.prog.stopsHeard) = true := by kernel_rfl
theorem x_mayEnter : Tryz.prog.mayEnter = true := by kernel_rfl
theorem x_lifted : (Rows.txnEndsRow.lifted == Tryz.prog.liftsFinal) = true := by kernel_rfl
theorem x_make : (Tryz.prog.make == some Rows.txnEndsRow.make) = true := by kernel_rfl
theorem x_kinds : ((Rows.txnEndsRow.kinds == (if Rows.txnEndsRow.domain.isEmpty then [] else Tryz.f3.params.toList.map fun t => match Tryz.prog.underlying t with | some (.int k) => some k | _ => none)) && (Rows.txnEndsRow.pinned == Rows.txnEndsRow.pinnedBy)) = true := by kernel_rfl
theorem x_veiled : ((Rows.txnEndsRow.veiled == (Tryz.f3.params.toList ++ Rows.txnEndsSpec.plain.varTypes Tryz.prog ++ Tryz.f3.resultTypes.toList).any (Tryz.prog.veiledRec ·)) && Rows.txnEndsRow.veiledFits Tryz.prog Tryz.f3.params.toList (Tryz.f3.params.toList ++ Rows.txnEndsSpec.plain.varTypes Tryz.prog ++ Tryz.f3.resultTypes.toList)) = true := by kernel_rfl
end Go.Proofs.YtmdlgcmjemdfnaaGreatDoor
