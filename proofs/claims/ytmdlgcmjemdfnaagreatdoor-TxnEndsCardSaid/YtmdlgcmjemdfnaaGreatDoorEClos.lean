/- What is proved: a part of the proof of the tied card of TxnEnds (text EClos of it). Conditions: those that its theorems name. -/
import Derived.Test.YtmdlgcmjemdfnaaGreatDoorEClosA
import Derived.Test.YtmdlgcmjemdfnaaGreatDoorEClosB
set_option linter.unusedVariables false
set_option linter.unusedSimpArgs false
set_option linter.unusedSectionVars false
namespace Go.Proofs.YtmdlgcmjemdfnaaGreatDoor
open Go
theorem closure3 : Tryz.prog.closure 3 = closL := by
  unfold Program.closure
  rw [fuel3]
  exact clos3
end Go.Proofs.YtmdlgcmjemdfnaaGreatDoor
