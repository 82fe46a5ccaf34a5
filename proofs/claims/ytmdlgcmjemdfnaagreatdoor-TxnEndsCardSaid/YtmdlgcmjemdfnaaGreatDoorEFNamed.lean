/- What is proved: a part of the proof of the tied card of TxnEnds (text EFNamed of it). Conditions: those that its theorems name. -/
import Derived.Test.YtmdlgcmjemdfnaaGreatDoorEClos
import Derived.KernelRfl
set_option linter.unusedVariables false
set_option linter.unusedSimpArgs false
set_option linter.unusedSectionVars false
set_option maxRecDepth 1000000
namespace Go.Proofs.YtmdlgcmjemdfnaaGreatDoor
open Go
theorem x_named : (Rows.txnEndsRow.named == Tryz.prog.varsNamed 3) = true := by
  unfold Program.varsNamed
  rw [closure3]
  kernel_rfl
theorem f_inPlace : (Rows.txnEndsRow.inPlace == Tryz.prog.inPlace 3) = true := by
  unfold Program.inPlace
  rw [closure3]
  kernel_rfl
theorem f_unfollowed : (Rows.txnEndsRow.unfollowed == Tryz.prog.unfollowed 3) = true := by
  unfold Program.unfollowed
  rw [closure3]
  kernel_rfl
end Go.Proofs.YtmdlgcmjemdfnaaGreatDoor
