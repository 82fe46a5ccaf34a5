/- What is proved: a part of the proof of the tied card of TxnEnds (text ERunB of it). Conditions: those that its theorems name. -/
import Derived.Test.YtmdlgcmjemdfnaaGreatDoorEMemo
import Derived.KernelRfl
set_option linter.unusedVariables false
set_option linter.unusedSimpArgs false
set_option linter.unusedSectionVars false
set_option maxRecDepth 1000000
namespace Go.Abs
open Go.Proofs
noncomputable section
theorem run8 : runM Tryz.prog SgB 100000 8 ent8 = true := by kernel_rfl
theorem run38 : runM Tryz.prog SgB 100000 38 ent38 = true := by kernel_rfl
end
end Go.Abs
