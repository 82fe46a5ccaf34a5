/- What is proved: a part of the proof of the tied card of TxnEnds (text ELaw of it). Conditions: those that its theorems name. -/
import Derived.Test.YtmdlgcmjemdfnaaGreatDoorEAwake
set_option linter.unusedVariables false
set_option linter.unusedSimpArgs false
set_option linter.unusedSectionVars false
set_option maxRecDepth 1000000
namespace Go.Abs
open Go.Proofs
noncomputable section
theorem law1 : ((runF Tryz.prog SgT 100000).call 3 [opAV (.int .i64 1), .any] ⟨.lf, 0⟩).map (·.1) = some (.bool true) := by kernel_rfl
theorem law2 : ((runF Tryz.prog SgT 100000).call 3 [opAV (.int .i64 2), .any] ⟨.lf, 0⟩).map (·.1) = some (.bool true) := by kernel_rfl
theorem law3 : ((runF Tryz.prog SgT 100000).call 3 [opAV (.int .i64 3), .any] ⟨.lf, 0⟩).map (·.1) = some (.bool true) := by kernel_rfl
theorem law4 : ((runF Tryz.prog SgT 100000).call 3 [opAV (.int .i64 4), .any] ⟨.lf, 0⟩).map (·.1) = some (.bool true) := by kernel_rfl
theorem law5 : ((runF Tryz.prog SgT 100000).call 3 [opAV (.int .i64 5), .any] ⟨.lf, 0⟩).map (·.1) = some (.bool true) := by kernel_rfl
theorem law6 : ((runF Tryz.prog SgT 100000).call 3 [opAV (.int .i64 6), .any] ⟨.lf, 0⟩).map (·.1) = some (.bool true) := by kernel_rfl
theorem law7 : ((runF Tryz.prog SgT 100000).call 3 [opAV (.int .i64 7), .any] ⟨.lf, 0⟩).map (·.1) = some (.bool true) := by kernel_rfl
theorem law8 : ((runF Tryz.prog SgT 100000).call 3 [opAV (.int .i64 8), .any] ⟨.lf, 0⟩).map (·.1) = some (.bool true) := by kernel_rfl
theorem law9 : ((runF Tryz.prog SgT 100000).call 3 [opAV (.int .i64 9), .any] ⟨.lf, 0⟩).map (·.1) = some (.bool true) := by kernel_rfl
theorem law0 : ((runF Tryz.prog SgT 100000).call 3 [opAV (.una .i64 (-9223372036854775808) 0), .any] ⟨.lf, 0⟩).map (·.1) = some (.bool true) := by kernel_rfl
theorem law10 : ((runF Tryz.prog SgT 100000).call 3 [opAV (.una .i64 10 9223372036854775807), .any] ⟨.lf, 0⟩).map (·.1) = some (.bool true) := by kernel_rfl
end
end Go.Abs
