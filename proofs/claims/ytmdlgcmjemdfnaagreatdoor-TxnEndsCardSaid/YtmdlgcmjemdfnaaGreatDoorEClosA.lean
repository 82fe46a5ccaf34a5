/- What is proved: a part of the proof of the tied card of TxnEnds (text EClosA of it). Conditions: those that its theorems name. -/
import Derived.Test.YtmdlgcmjemdfnaaGreatDoorRows
import Derived.KernelRfl
set_option linter.unusedVariables false
set_option linter.unusedSimpArgs false
set_option linter.unusedSectionVars false
set_option maxRecDepth 1000000
namespace Go.Proofs.YtmdlgcmjemdfnaaGreatDoor
open Go
theorem fuel3 : 1 + (Tryz.prog.funcs.toList.map fun g => (Tryz.prog.leadsTo g).length + 1).sum = 1733 := by kernel_rfl
end Go.Proofs.YtmdlgcmjemdfnaaGreatDoor
