/- What is proved: a part of the proof of the tied card of StoreNil (text Fx of it). Conditions: those that its theorems name. -/
import Derived.Test.YtifoacdfdcdpmaaGreatDoorRows
import Derived.KernelRfl
import Derived.JoinedOf
namespace Go.Proofs.YtifoacdfdcdpmaaGreatDoor
open Go
theorem x_wf : Rows.storeNilRow.wf (OpenSpec.ofChange Rows.storeNilSpec) = true := by kernel_rfl
theorem x_maps : mapsRowed Tryz.prog = true := by kernel_rfl
theorem x_params : Tryz.f3.params.all (Tryz.prog.readableRec ·) = true := by kernel_rfl
theorem x_namedTie : namedTie Tryz.prog Rows.storeNilRow.named Rows.storeNilSpec.vars = true := by kernel_rfl
theorem x_stops : ((Rows.storeNilRow.stops == []) && (Tryz.prog.stops == []) && (Rows.storeNilRow.knobs == []) && (Tryz.prog.stopKnobs == [])) = true := by kernel_rfl
theorem x_named : (Rows.storeNilRow.named == Tryz.prog.varsNamed 3) = true := by kernel_rfl
theorem x_ios : ((Rows.storeNilRow.maps == (Tryz.f3.params.toList ++ Rows.storeNilSpec.plain.varTypes Tryz.prog).any (Tryz.prog.mapsRec ·)) && (Rows.storeNilRow.ifaces == (Tryz.f3.params.toList ++ Rows.storeNilSpec.plain.varTypes Tryz.prog).any (Tryz.prog.ifacesRec ·)) && (Rows.storeNilRow.mapsOut == Tryz.prog.mapsAmong Tryz.f3.resultTypes.toList) &&
  (Rows.storeNilRow.loops == (Tryz.f3.params.toList ++ Rows.storeNilSpec.plain.varTypes Tryz.prog).any (Tryz.prog.loopsFrom ·)) && (Rows.storeNilRow.wideKeys == (Tryz.f3.params.toList ++ Rows.storeNilSpec.plain.varTypes Tryz.prog ++ Tryz.f3.resultTypes.toList).any (Tryz.prog.wideKeysFrom ·))) = true := by kernel_rfl
theorem x_outs : (Rows.storeNilSpec.vars.all (Tryz.prog.varReadable ·) && Tryz.f3.resultTypes.all (fun t => Tryz.prog.readableRec t && decide (t < Tryz.prog.types.size)) && (Rows.storeNilRow.ifacesOut == Tryz.f3.resultTypes.toList.any (Tryz.prog.ifacesRec ·)) && (Rows.storeNilRow.loopsOut == Tryz.f3.resultTypes.toList.any (Tryz.prog.loopsFrom ·))) = true := by kernel_rfl
theorem x_plainKeys : (Rows.storeNilRow.plainKeys == Tryz.prog.plainKeys) = true := by kernel_rfl
theorem x_heard : (Rows.storeNilRow.shortTexts.isNone && Tryz.prog.stopsHeard) = true := by kernel_rfl
theorem x_mayEnter : Tryz.prog.mayEnter = true := by kernel_rfl
theorem x_lifted : (Rows.storeNilRow.lifted == Tryz.prog.liftsFinal) = true := by kernel_rfl
theorem x_make : (Tryz.prog.make == some Rows.storeNilRow.make) = true := by kernel_rfl
theorem x_kinds : ((Rows.storeNilRow.kinds == (if Rows.storeNilRow.domain.isEmpty then [] else Tryz.f3.params.toList.map fun t => match Tryz.prog.underlying t with | some (.int k) => some k | _ => none)) && (Rows.storeNilRow.pinned == Rows.storeNilRow.pinnedBy)) = true := by kernel_rfl
theorem x_veiled : ((Rows.storeNilRow.veiled == (Tryz.f3.params.toList ++ Rows.storeNilSpec.plain.varTypes Tryz.prog ++ Tryz.f3.resultTypes.toList).any (Tryz.prog.veiledRec ·)) && Rows.storeNilRow.veiledFits Tryz.prog Tryz.f3.params.toList (Tryz.f3.params.toList ++ Rows.storeNilSpec.plain.varTypes Tryz.prog ++ Tryz.f3.resultTypes.toList)) = true := by kernel_rfl
end Go.Proofs.YtifoacdfdcdpmaaGreatDoor
